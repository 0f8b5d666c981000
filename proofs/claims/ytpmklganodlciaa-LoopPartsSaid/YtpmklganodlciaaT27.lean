/- LoopCancel, walked. -/
import Derived.Test.YtpmklganodlciaaT26
import Derived.Test.YtpmklganodlciaaP4
namespace Go.Proofs.Ytpmklganodlciaa
open Go.RowKit

theorem Loc.far {w wx w' : World} {os : List Obj} {b : Nat} (h : Loc w wx os) (hg : wx.grownBy w' (some b)) (hb : w.heap.size + os.length ≤ b) : Loc w w' os where
  k i o hi := (hg.block _ (lt_of_heap (h.k i o hi)) (fun e => by injection e with e; have : i < os.length := (List.getElem?_eq_some_iff.1 hi).1; omega)).trans (h.k i o hi)
  bl := below_grown h.bl hg (by omega) (Nat.le_refl _)
  sz := Nat.le_trans h.sz hg.size
/-- What holds at the last call. -/
structure CX (w w7 wy : World) (os : List Obj) (P2 : Nat) (o : Obj) : Prop where
  l : Loc w wy os
  b : Below w7.heap.size w7 wy
  p : wy.heap[P2]? = some o
  h : w7.heap.size = P2
  z : w.heap.size + os.length ≤ P2
theorem CX.set {w w7 wy : World} {os : List Obj} {P2 : Nat} {c : Array Value} {t : TypeId} (h : CX w w7 wy os P2 (.cells c t (0, 0))) (i : Nat) (v : Value) (hi : i < c.size) : CX w w7 (wy.setCell ⟨P2, i, none⟩ v) os P2 (.cells (c.set i v) t (0, 0)) := by
  have hg : wy.grownBy (wy.setCell ⟨P2, i, none⟩ v) (some P2) := Lib.grownBy_setB (gr_refl wy _) _ _
  exact ⟨h.l.far hg h.z, below_grown h.b hg (by rw [h.h]; exact Nat.le_refl _) (Nat.le_refl _), set_heap h.p i v hi, h.h, h.z⟩
set_option maxRecDepth 100000 in
set_option maxHeartbeats 8000000 in
theorem cancel_any (now next : Int) (ts ss : List Job) (ms : List Tim) (ta sa ma : Option Addr) (tc sc mc : Nat) (n : Int) (w : World) (h : LpAt w ⟨now, next, ts, ss, ms⟩ (.slice ta ts.length tc) (.slice sa ss.length sc) (.slice ma ms.length mc)) :
    Calls Try.prog 8 #[.agg #[.int .i64 now, .int .i64 next, .slice ta ts.length tc, .slice sa ss.length sc, .slice ma ms.length mc], .int .i64 n] w fun e w' => e = .returned (.bool true) ∧ Below w.heap.size w w' := by
  have HO := Lib.hid h
  clear h
  go_enter Try.func8, Try.ntmps8
  go_wp2_with fail
  refine calls_gen (Φ := fun w4 => Hid (Loc w w4 [.cells #[.int .i64 now, .int .i64 next, .slice ta ts.length tc, .slice sa ss.length sc, .slice ma ms.length mc] 26])) (Lib.hid (Loc.start1 _)) ?_
  intro w4 X
  obtain ⟨r, hr⟩ : ∃ r, (⟨now, next, ts, ss, ms⟩ : Lp).ask ⟨3, 0, n, ⟨#[120]⟩, 0, 0, ⟨#[]⟩⟩ = r := ⟨_, rfl⟩
  have hask := ask_any now next ts ss ms ta sa ma tc sc mc ⟨3, 0, n, ⟨#[120]⟩, 0, 0, ⟨#[]⟩⟩ w4 (HO.out.below X.out.bl)
  rw [hr] at hask
  have HCP := Lib.hid (cancel_plain ⟨now, next, ts, ss, ms⟩ n ⟨#[120]⟩ ⟨#[]⟩ ⟨#[]⟩ ⟨#[]⟩)
  have HAR := Lib.hid (fun he => (ask_right (⟨now, next, ts, ss, ms⟩ : Lp) ⟨3, 0, n, ⟨#[120]⟩, 0, 0, ⟨#[]⟩⟩ he).1.n2)
  have HAR1 := Lib.hid (fun he => (ask_right (⟨now, next, ts, ss, ms⟩ : Lp) ⟨3, 0, n, ⟨#[120]⟩, 0, 0, ⟨#[]⟩⟩ he).1.n1)
  rw [hr] at HCP HAR HAR1
  clear hr
  obtain ⟨⟨n1, x1, ts1, ss1, ms1⟩, id, er⟩ := r
  refine hask.mono ?_
  clear hask
  rintro e w5 ⟨vt1, vs1, vm1, rfl, ho, hb⟩
  obtain ⟨ta1, sa1, ma1, tc1, sc1, mc1, rfl, rfl, rfl⟩ := ho.shape
  have Y := Lib.hid (⟨X.out.call hb, own_at ho⟩ : Loc w w5 [.cells #[.int .i64 now, .int .i64 next, .slice ta ts.length tc, .slice sa ss.length sc, .slice ma ms.length mc] 26] ∧ LpAt w5 ⟨n1, x1, ts1, ss1, ms1⟩ (.slice ta1 ts1.length tc1) (.slice sa1 ss1.length sc1) (.slice ma1 ms1.length mc1))
  clear X ho hb
  simp only [Lp.v]
  go_upto_region 2 with fail
  obtain ⟨P, hP⟩ : ∃ P, w5.heap.size = P := ⟨_, rfl⟩
  rw [hP]
  refine code_gen (Φ := fun wy => Hid (R1 w wy [.cells #[.int .i64 now, .int .i64 next, .slice ta ts.length tc, .slice sa ss.length sc, .slice ma ms.length mc] 26] P ⟨n1, x1, ts1, ss1, ms1⟩ (.slice ta1 ts1.length tc1) (.slice sa1 ss1.length sc1) (.slice ma1 ms1.length mc1))) (Lib.hid ⟨Y.out.1.call ((Below.refl _ _).alloc (Nat.le_refl _) _), alloc_at hP _, Y.out.2.below ((Below.refl _ _).alloc (Nat.le_refl _) _)⟩) ?_
  intro w6 Z
  clear hP Y
  go_wp2_with fail
  refine (lives_any w6).mono ?_
  rintro e w9 ⟨rfl, hb9⟩
  have S := Lib.hid (Z.out.call hb9)
  clear hb9 Z
  by_cases he : er = 0
  · subst he
    have HC2 := Lib.hid (HCP.out rfl)
    have hx1 := HAR.out rfl
    have hx0 := HAR1.out rfl
    clear HCP HAR HAR1
    obtain ⟨c0, c1, c2, c3, c4⟩ := cells5 S.out.p1
    go_wp2_with fail
    have hask := ask_any n1 x1 ts1 ss1 ms1 ta1 sa1 ma1 tc1 sc1 mc1 ⟨5, 0, id, ⟨#[]⟩, 0, 0, ⟨#[]⟩⟩ w9 S.out.l1
    rw [HC2.out] at hask
    refine hask.mono ?_
    clear hask
    rintro e w7 ⟨vt2, vs2, vm2, rfl, ho, hb⟩
    simp only at ho
    obtain ⟨ta2, sa2, ma2, tc2, sc2, mc2, rfl, rfl, rfl⟩ := ho.shape
    have T := Lib.hid (⟨S.out.loc.call hb, own_at (q := ⟨now, next, ts, ss, ms⟩) ho⟩ : Loc w w7 [.cells #[.int .i64 now, .int .i64 next, .slice ta ts.length tc, .slice sa ss.length sc, .slice ma ms.length mc] 26] ∧ LpAt w7 ⟨now, next, ts, ss, ms⟩ (.slice ta2 ts.length tc2) (.slice sa2 ss.length sc2) (.slice ma2 ms.length mc2))
    clear S ho hb c0 c1 c2 c3 c4
    simp only [Lp.v]
    obtain ⟨P2, hP⟩ : ∃ P2, w7.heap.size = P2 := ⟨_, rfl⟩
    have HP := Lib.hid hP
    go_upto_region 5 with fail
    refine code_gen (Φ := fun wy => Hid (CX w w7 wy [.cells #[.int .i64 now, .int .i64 next, .slice ta ts.length tc, .slice sa ss.length sc, .slice ma ms.length mc] 26] P2 (.cells #[.int .i64 now, .int .i64 (next + 1), .slice ta2 ts.length tc2, .slice sa2 ss.length sc2, .slice ma2 ms.length mc2] 26 (0, 0)))) (Lib.hid ⟨T.out.1.call ((Below.refl _ _).alloc (Nat.le_refl _) _), (Below.refl _ _).alloc (Nat.le_refl _) _, alloc_at HP.out _, HP.out, by rw [← HP.out]; exact T.out.1.sz⟩) ?_
    intro w8 D
    clear hP HP
    have HL2 := Lib.hid T.out.2
    clear T
    obtain ⟨c0, c1, c2, c3, c4⟩ := cells5 D.out.p
    obtain ⟨f0, f1, f2, f3, f4⟩ := frz5 D.out.p
    go_upto_region 6 with fail
    refine code_gen (Φ := fun wy => Hid (CX w w7 wy [.cells #[.int .i64 now, .int .i64 next, .slice ta ts.length tc, .slice sa ss.length sc, .slice ma ms.length mc] 26] P2 (.cells #[.int .i64 now, .int .i64 next, .slice ta2 ts.length tc2, .slice sa2 ss.length sc2, .slice ma2 ms.length mc2] 26 (0, 0)))) (Lib.hid (D.out.set 1 (.int .i64 next) (by simp))) ?_
    intro w9 E
    clear D c0 c1 c2 c3 c4 f0 f1 f2 f3 f4
    obtain ⟨c0, c1, c2, c3, c4⟩ := cells5 E.out.p
    obtain ⟨d0, d1, d2, d3, d4⟩ := cells5 E.out.l.k0
    go_wp2_with fail
    refine (same_any now next ts ss ms ta2 sa2 ma2 ta sa ma tc2 sc2 mc2 tc sc mc w9 (HL2.out.below E.out.b) (HO.out.below E.out.l.bl)).mono ?_
    rintro e w10 ⟨rfl, hb⟩
    have HB := Lib.hid (E.out.l.call hb)
    clear hb E c0 c1 c2 c3 c4 d0 d1 d2 d3 d4
    go_wp2_with fail
    go_ret
    exact ⟨rfl, HB.out.bl⟩
  · have he1 : (er == 0) = false := by simpa using he
    have he2 : (er != 0) = true := by simpa using he
    go_wp2_with fail
    refine (lives_any w9).mono ?_
    rintro e w7 ⟨rfl, hb7⟩
    have T := Lib.hid (S.out.call hb7)
    clear hb7 S
    go_wp2_with fail
    go_ret
    exact ⟨rfl, T.out.loc.bl⟩
end Go.Proofs.Ytpmklganodlciaa
