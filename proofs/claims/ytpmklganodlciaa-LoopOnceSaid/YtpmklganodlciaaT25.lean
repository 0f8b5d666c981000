/- LoopRight, walked. -/
import Derived.Test.YtpmklganodlciaaT24
namespace Go.Proofs.Ytpmklganodlciaa
open Go.RowKit

theorem own_at {w : World} {B : Nat} {q : Lp} {vt vs vm : Value} (h : LpOwn w B q.tasks q.smalls q.tims vt vs vm) : LpAt w q vt vs vm := ⟨Own.sl Job.len h.t, Own.sl Job.len h.s, Own.sl Tim.len h.m⟩
/-- Blocks of the call's own, and a loop somewhere, in a block. -/
structure R1 (w wx : World) (os : List Obj) (P : Nat) (q : Lp) (vt vs vm : Value) : Prop where
  loc : Loc w wx os
  p1 : wx.heap[P]? = some (.cells #[.int .i64 q.now, .int .i64 q.next, vt, vs, vm] 26 (0, 0))
  l1 : LpAt wx q vt vs vm
theorem R1.call {w wx w' : World} {os : List Obj} {P : Nat} {q : Lp} {vt vs vm : Value} (h : R1 w wx os P q vt vs vm) (hb : Below wx.heap.size wx w') : R1 w w' os P q vt vs vm :=
  ⟨h.loc.call hb, (hb.block _ (lt_of_heap h.p1)).trans h.p1, h.l1.below hb⟩
/-- .. and a second one. -/
structure RK (w wx : World) (os : List Obj) (P : Nat) (q : Lp) (vt vs vm : Value) (P2 : Nat) (q2 : Lp) (vt2 vs2 vm2 : Value) : Prop where
  loc : Loc w wx os
  p1 : wx.heap[P]? = some (.cells #[.int .i64 q.now, .int .i64 q.next, vt, vs, vm] 26 (0, 0))
  l1 : LpAt wx q vt vs vm
  p2 : wx.heap[P2]? = some (.cells #[.int .i64 q2.now, .int .i64 q2.next, vt2, vs2, vm2] 26 (0, 0))
  l2 : LpAt wx q2 vt2 vs2 vm2
theorem RK.call {w wx w' : World} {os : List Obj} {P : Nat} {q : Lp} {vt vs vm : Value} {P2 : Nat} {q2 : Lp} {vt2 vs2 vm2 : Value} (h : RK w wx os P q vt vs vm P2 q2 vt2 vs2 vm2) (hb : Below wx.heap.size wx w') : RK w w' os P q vt vs vm P2 q2 vt2 vs2 vm2 :=
  ⟨h.loc.call hb, (hb.block _ (lt_of_heap h.p1)).trans h.p1, h.l1.below hb, (hb.block _ (lt_of_heap h.p2)).trans h.p2, h.l2.below hb⟩
theorem RK.drew {w wx : World} {os : List Obj} {P : Nat} {q : Lp} {vt vs vm : Value} {P2 : Nat} {q2 : Lp} {vt2 vs2 vm2 : Value} (h : RK w wx os P q vt vs vm P2 q2 vt2 vs2 vm2) : RK w wx.drew os P q vt vs vm P2 q2 vt2 vs2 vm2 := h.call ⟨rfl, rfl, rfl, Nat.le_refl _, fun _ _ => rfl⟩
theorem RK.mk2 {w wx : World} {os : List Obj} {P : Nat} {q : Lp} {vt vs vm : Value} {P2 : Nat} {q2 : Lp} {vt2 vs2 vm2 : Value} (h : R1 w wx os P q vt vs vm) (hl : LpAt wx q2 vt2 vs2 vm2) (hP : wx.heap.size = P2) (o : Obj) :
    RK w ((wx.alloc (.cells #[.int .i64 q2.now, .int .i64 q2.next, vt2, vs2, vm2] 26)).alloc o) os P q vt vs vm P2 q2 vt2 vs2 vm2 := by
  have hb := ((Below.refl wx.heap.size wx).alloc (Nat.le_refl _) (.cells #[.int .i64 q2.now, .int .i64 q2.next, vt2, vs2, vm2] 26)).alloc (by simp) o
  have h1 := h.call hb
  exact ⟨h1.loc, h1.p1, h1.l1, alloc_keep (alloc_at hP _) _, hl.below hb⟩
theorem Next_right (q : Lp) (u : Int) (he : (q.Next u).2.2.2 = 0) : (q.Next u).1.check = 0 ∧ q.now ≤ (q.Next u).1.now ∧ (q.Next u).1.now ≤ u := by
  unfold Lp.Next at he ⊢
  split at he
  · rename_i h1
    rw [if_pos h1]
    split at he
    · rename_i h2
      rw [if_pos h2]
      have h3 := within_iff.1 h2
      obtain ⟨a, b, c⟩ := nxt_right q u ((right_iff q).1 h1) h3.1 h3.2
      exact ⟨(right_iff _).2 a, b, c⟩
    · cases he
  · rename_i h1; exact absurd he h1
set_option maxRecDepth 100000 in
set_option maxHeartbeats 8000000 in
theorem right_any (now next : Int) (ts ss : List Job) (ms : List Tim) (ta sa ma : Option Addr) (tc sc mc : Nat) (a : Qst) (until_ : Int) (w : World) (h : LpAt w ⟨now, next, ts, ss, ms⟩ (.slice ta ts.length tc) (.slice sa ss.length sc) (.slice ma ms.length mc)) :
    Calls Try.prog 4 #[.agg #[.int .i64 now, .int .i64 next, .slice ta ts.length tc, .slice sa ss.length sc, .slice ma ms.length mc], a.v, .int .i64 until_] w fun e w' => e = .returned (.bool true) ∧ Below w.heap.size w w' := by
  obtain ⟨q0, q1, q2, q3, q4, q5, q6⟩ := a
  have HO := Lib.hid h
  clear h
  unfold Qst.v
  simp only
  go_enter Try.func4, Try.ntmps4
  go_wp2_with fail
  refine calls_gen (Φ := fun w4 => Hid (Loc w w4 [.cells #[.int .i64 now, .int .i64 next, .slice ta ts.length tc, .slice sa ss.length sc, .slice ma ms.length mc] 26, .cells #[.int .i64 q0, .int .i64 q1, .int .i64 q2, .string q3, .int .i64 q4, .int .i64 q5, .string q6] 35])) (Lib.hid (Loc.start2 _ _)) ?_
  intro w4 X
  obtain ⟨r, hr⟩ : ∃ r, (⟨now, next, ts, ss, ms⟩ : Lp).ask ⟨q0, q1, q2, q3, q4, q5, q6⟩ = r := ⟨_, rfl⟩
  have hask := ask_any now next ts ss ms ta sa ma tc sc mc ⟨q0, q1, q2, q3, q4, q5, q6⟩ w4 (HO.out.below X.out.bl)
  rw [hr] at hask
  have HA1 := Lib.hid (fun he => (right_iff _).2 (ask_right (⟨now, next, ts, ss, ms⟩ : Lp) ⟨q0, q1, q2, q3, q4, q5, q6⟩ he).2.2.2)
  rw [hr] at HA1
  clear hr
  obtain ⟨⟨n1, x1, ts1, ss1, ms1⟩, id, er⟩ := r
  refine hask.mono ?_
  clear hask
  rintro e w5 ⟨vt1, vs1, vm1, rfl, ho, hb⟩
  obtain ⟨ta1, sa1, ma1, tc1, sc1, mc1, rfl, rfl, rfl⟩ := ho.shape
  have Y := Lib.hid (⟨X.out.call hb, own_at ho⟩ : Loc w w5 [.cells #[.int .i64 now, .int .i64 next, .slice ta ts.length tc, .slice sa ss.length sc, .slice ma ms.length mc] 26, .cells #[.int .i64 q0, .int .i64 q1, .int .i64 q2, .string q3, .int .i64 q4, .int .i64 q5, .string q6] 35] ∧ LpAt w5 ⟨n1, x1, ts1, ss1, ms1⟩ (.slice ta1 ts1.length tc1) (.slice sa1 ss1.length sc1) (.slice ma1 ms1.length mc1))
  clear X ho hb
  simp only [Lp.v] at HA1 ⊢
  go_upto_region 2 with fail
  obtain ⟨P, hP⟩ : ∃ P, w5.heap.size = P := ⟨_, rfl⟩
  rw [hP]
  refine code_gen (Φ := fun wy => Hid (R1 w wy [.cells #[.int .i64 now, .int .i64 next, .slice ta ts.length tc, .slice sa ss.length sc, .slice ma ms.length mc] 26, .cells #[.int .i64 q0, .int .i64 q1, .int .i64 q2, .string q3, .int .i64 q4, .int .i64 q5, .string q6] 35] P ⟨n1, x1, ts1, ss1, ms1⟩ (.slice ta1 ts1.length tc1) (.slice sa1 ss1.length sc1) (.slice ma1 ms1.length mc1))) (Lib.hid ⟨Y.out.1.call ((Below.refl _ _).alloc (Nat.le_refl _) _), alloc_at hP _, Y.out.2.below ((Below.refl _ _).alloc (Nat.le_refl _) _)⟩) ?_
  intro w6 Z
  clear hP Y
  obtain ⟨c0, c1, c2, c3, c4⟩ := cells5 Z.out.loc.k0
  go_wp2_with fail
  obtain ⟨r, hr⟩ : ∃ r, (⟨now, next, ts, ss, ms⟩ : Lp).Next until_ = r := ⟨_, rfl⟩
  have hnx := nextP_any now next ts ss ms ta sa ma tc sc mc until_ w6 (HO.out.below Z.out.loc.bl)
  rw [hr] at hnx
  have HN1 := Lib.hid (Next_right (⟨now, next, ts, ss, ms⟩ : Lp) until_)
  rw [hr] at HN1
  clear hr
  obtain ⟨⟨n2, x2, ts2, ss2, ms2⟩, ⟨id2, src, small, call, ak, an, as1⟩, is, fr⟩ := r
  refine hnx.mono ?_
  clear hnx
  rintro e w7 ⟨vt2, vs2, vm2, rfl, ho, hb⟩
  obtain ⟨ta2, sa2, ma2, tc2, sc2, mc2, rfl, rfl, rfl⟩ := ho.shape
  have Y := Lib.hid (⟨Z.out.call hb, own_at ho⟩ : R1 w w7 [.cells #[.int .i64 now, .int .i64 next, .slice ta ts.length tc, .slice sa ss.length sc, .slice ma ms.length mc] 26, .cells #[.int .i64 q0, .int .i64 q1, .int .i64 q2, .string q3, .int .i64 q4, .int .i64 q5, .string q6] 35] P ⟨n1, x1, ts1, ss1, ms1⟩ (.slice ta1 ts1.length tc1) (.slice sa1 ss1.length sc1) (.slice ma1 ms1.length mc1) ∧ LpAt w7 ⟨n2, x2, ts2, ss2, ms2⟩ (.slice ta2 ts2.length tc2) (.slice sa2 ss2.length sc2) (.slice ma2 ms2.length mc2))
  clear Z ho hb c0 c1 c2 c3 c4
  simp only [Lp.v, Job.v] at HN1 ⊢
  go_upto_region 3 with fail
  obtain ⟨P2, hP⟩ : ∃ P2, w7.heap.size = P2 := ⟨_, rfl⟩
  rw [hP]
  refine code_gen (Φ := fun wy => Hid (RK w wy [.cells #[.int .i64 now, .int .i64 next, .slice ta ts.length tc, .slice sa ss.length sc, .slice ma ms.length mc] 26, .cells #[.int .i64 q0, .int .i64 q1, .int .i64 q2, .string q3, .int .i64 q4, .int .i64 q5, .string q6] 35] P ⟨n1, x1, ts1, ss1, ms1⟩ (.slice ta1 ts1.length tc1) (.slice sa1 ss1.length sc1) (.slice ma1 ms1.length mc1) P2 ⟨n2, x2, ts2, ss2, ms2⟩ (.slice ta2 ts2.length tc2) (.slice sa2 ss2.length sc2) (.slice ma2 ms2.length mc2))) (Lib.hid (RK.mk2 Y.out.1 Y.out.2 hP _)) ?_
  intro w8 S
  clear hP Y
  go_wp2_with fail
  refine (lives_any w8).mono ?_
  rintro e w9 ⟨rfl, hb9⟩
  have S9 := Lib.hid (S.out.call hb9)
  clear hb9 S
  have S := S9
  clear S9
  obtain ⟨c0, c1, c2, c3, c4⟩ := cells5 S.out.p1
  obtain ⟨d0, d1, d2, d3, d4⟩ := cells5 S.out.p2
  obtain ⟨f0, f1, f2, f3, f4⟩ := cells5 S.out.loc.k0
  by_cases he : er = 0
  · subst he
    have HA2 := Lib.hid (HA1.out rfl)
    clear HA1
    go_wp2_with fail
    refine calls_gen (Φ := fun wy => Hid (RK w wy [.cells #[.int .i64 now, .int .i64 next, .slice ta ts.length tc, .slice sa ss.length sc, .slice ma ms.length mc] 26, .cells #[.int .i64 q0, .int .i64 q1, .int .i64 q2, .string q3, .int .i64 q4, .int .i64 q5, .string q6] 35] P ⟨n1, x1, ts1, ss1, ms1⟩ (.slice ta1 ts1.length tc1) (.slice sa1 ss1.length sc1) (.slice ma1 ms1.length mc1) P2 ⟨n2, x2, ts2, ss2, ms2⟩ (.slice ta2 ts2.length tc2) (.slice sa2 ss2.length sc2) (.slice ma2 ms2.length mc2))) (by first | exact S | exact Lib.hid S.out.drew) ?_
    clear S c0 c1 c2 c3 c4 d0 d1 d2 d3 d4 f0 f1 f2 f3 f4
    intro wz S
    refine (check_any n1 x1 ts1 ss1 ms1 ta1 sa1 ma1 tc1 sc1 mc1 wz S.out.l1).mono ?_
    rintro e wx ⟨rfl, hbx⟩
    rw [HA2.out]
    have S9 := Lib.hid (S.out.call hbx)
    clear hbx S
    have S := S9
    clear S9
    obtain ⟨c0, c1, c2, c3, c4⟩ := cells5 S.out.p1
    obtain ⟨d0, d1, d2, d3, d4⟩ := cells5 S.out.p2
    obtain ⟨f0, f1, f2, f3, f4⟩ := cells5 S.out.loc.k0
    by_cases hf : fr = 0
    · subst hf
      have HN2 := Lib.hid (HN1.out rfl)
      clear HN1
      go_wp2_with fail
      refine calls_gen (Φ := fun wy => Hid (RK w wy [.cells #[.int .i64 now, .int .i64 next, .slice ta ts.length tc, .slice sa ss.length sc, .slice ma ms.length mc] 26, .cells #[.int .i64 q0, .int .i64 q1, .int .i64 q2, .string q3, .int .i64 q4, .int .i64 q5, .string q6] 35] P ⟨n1, x1, ts1, ss1, ms1⟩ (.slice ta1 ts1.length tc1) (.slice sa1 ss1.length sc1) (.slice ma1 ms1.length mc1) P2 ⟨n2, x2, ts2, ss2, ms2⟩ (.slice ta2 ts2.length tc2) (.slice sa2 ss2.length sc2) (.slice ma2 ms2.length mc2))) (by first | exact S | exact Lib.hid S.out.drew) ?_
      clear S c0 c1 c2 c3 c4 d0 d1 d2 d3 d4 f0 f1 f2 f3 f4
      intro wz S
      refine (check_any n2 x2 ts2 ss2 ms2 ta2 sa2 ma2 tc2 sc2 mc2 wz S.out.l2).mono ?_
      rintro e wx ⟨rfl, hbx⟩
      rw [HN2.out.1]
      have S9 := Lib.hid (S.out.call hbx)
      clear hbx S
      have S := S9
      clear S9
      obtain ⟨d0, d1, d2, d3, d4⟩ := cells5 S.out.p2
      obtain ⟨f0, f1, f2, f3, f4⟩ := cells5 S.out.loc.k0
      have hle1 := HN2.out.2.1
      have hle2 := HN2.out.2.2
      go_wp2_with fail
      go_ret
      exact ⟨rfl, S.out.loc.bl⟩
    · have hf1 : (fr == 0) = false := by simpa using hf
      have hf2 : (fr != 0) = true := by simpa using hf
      clear HN1
      go_wp2_with fail
      go_ret
      exact ⟨rfl, S.out.loc.bl⟩
  · have he1 : (er == 0) = false := by simpa using he
    have he2 : (er != 0) = true := by simpa using he
    clear HA1
    by_cases hf : fr = 0
    · subst hf
      have HN2 := Lib.hid (HN1.out rfl)
      clear HN1
      go_wp2_with fail
      refine calls_gen (Φ := fun wy => Hid (RK w wy [.cells #[.int .i64 now, .int .i64 next, .slice ta ts.length tc, .slice sa ss.length sc, .slice ma ms.length mc] 26, .cells #[.int .i64 q0, .int .i64 q1, .int .i64 q2, .string q3, .int .i64 q4, .int .i64 q5, .string q6] 35] P ⟨n1, x1, ts1, ss1, ms1⟩ (.slice ta1 ts1.length tc1) (.slice sa1 ss1.length sc1) (.slice ma1 ms1.length mc1) P2 ⟨n2, x2, ts2, ss2, ms2⟩ (.slice ta2 ts2.length tc2) (.slice sa2 ss2.length sc2) (.slice ma2 ms2.length mc2))) (by first | exact S | exact Lib.hid S.out.drew) ?_
      clear S c0 c1 c2 c3 c4 d0 d1 d2 d3 d4 f0 f1 f2 f3 f4
      intro wz S
      refine (check_any n2 x2 ts2 ss2 ms2 ta2 sa2 ma2 tc2 sc2 mc2 wz S.out.l2).mono ?_
      rintro e wx ⟨rfl, hbx⟩
      rw [HN2.out.1]
      have S9 := Lib.hid (S.out.call hbx)
      clear hbx S
      have S := S9
      clear S9
      obtain ⟨d0, d1, d2, d3, d4⟩ := cells5 S.out.p2
      obtain ⟨f0, f1, f2, f3, f4⟩ := cells5 S.out.loc.k0
      have hle1 := HN2.out.2.1
      have hle2 := HN2.out.2.2
      go_wp2_with fail
      go_ret
      exact ⟨rfl, S.out.loc.bl⟩
    · have hf1 : (fr == 0) = false := by simpa using hf
      have hf2 : (fr != 0) = true := by simpa using hf
      clear HN1
      go_wp2_with fail
      go_ret
      exact ⟨rfl, S.out.loc.bl⟩
end Go.Proofs.Ytpmklganodlciaa
