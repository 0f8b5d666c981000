/- loop.Ask. -/
import Derived.Test.YtpmklganodlciaaP1
import Derived.Test.YtpmklganodlciaaTC
namespace Go.Proofs.Ytpmklganodlciaa
open Go.RowKit

def Qst.v (a : Qst) : Value := .agg #[.int .i64 a.do_, .int .i64 a.src, .int .i64 a.n, .string a.call, .int .i64 a.ak, .int .i64 a.an, .string a.as_]
/-- What Ask answers: memory of its own, all else as it was. -/
def AskNew (w : World) (r : Lp × Int × Int) (e : Ending) (w' : World) : Prop :=
  ∃ vt vs vm, e = .returned (.tuple #[r.1.v vt vs vm, .int .i64 r.2.1, .int .i64 r.2.2]) ∧ LpOwn w' w.heap.size r.1.tasks r.1.smalls r.1.tims vt vs vm ∧ Below w.heap.size w w'
theorem LpOwn.low {w : World} {B C : Nat} {ts ss : List Job} {ms : List Tim} {vt vs vm : Value} (h : LpOwn w B ts ss ms vt vs vm) (hC : C ≤ B) : LpOwn w C ts ss ms vt vs vm := ⟨own_below h.t (Below.refl _ _) hC, own_below h.s (Below.refl _ _) hC, own_below h.m (Below.refl _ _) hC, h.d1, h.d2, h.d3⟩
/-- What holds behind Ask's assignment. -/
def AskR (w : World) (q0 q1 q2 : Int) (q3 : ByteArray) (q4 q5 : Int) (q6 : ByteArray) (r : Lp × Int × Int) (v8 v9 : Value) (wx : World) : Prop :=
  ∃ vt vs vm, v8 = .int .i64 r.2.1 ∧ v9 = .int .i64 r.2.2 ∧ Fx (w.heap.size + 3) [] w wx r.1.tasks r.1.smalls r.1.tims vt vs vm [.cells #[.int .i64 r.1.now, .int .i64 r.1.next, vt, vs, vm] 26, .cells #[.int .i64 q0, .int .i64 q1, .int .i64 q2, .string q3, .int .i64 q4, .int .i64 q5, .string q6] 35, .cells #[.int .i64 0, .int .i64 0, .slice none 0 0, .slice none 0 0, .slice none 0 0] 26]
set_option maxRecDepth 100000 in
set_option maxHeartbeats 4000000 in
theorem ask_any (now next : Int) (ts ss : List Job) (ms : List Tim) (ta sa ma : Option Addr) (tc sc mc : Nat) (a : Qst) (w : World) (h : LpAt w ⟨now, next, ts, ss, ms⟩ (.slice ta ts.length tc) (.slice sa ss.length sc) (.slice ma ms.length mc)) :
    Calls Try.prog 13 #[.agg #[.int .i64 now, .int .i64 next, .slice ta ts.length tc, .slice sa ss.length sc, .slice ma ms.length mc], a.v] w (AskNew w ((⟨now, next, ts, ss, ms⟩ : Lp).ask a)) := by
  obtain ⟨q0, q1, q2, q3, q4, q5, q6⟩ := a
  have HO := Lib.hid h
  clear h
  unfold Qst.v
  simp only
  go_enter Try.func13, Try.ntmps13
  go_wp2_with fail
  refine calls_gen (Φ := fun w4 => Hid (Loc w w4 [.cells #[.int .i64 now, .int .i64 next, .slice ta ts.length tc, .slice sa ss.length sc, .slice ma ms.length mc] 26, .cells #[.int .i64 q0, .int .i64 q1, .int .i64 q2, .string q3, .int .i64 q4, .int .i64 q5, .string q6] 35, .cells #[.int .i64 0, .int .i64 0, .slice none 0 0, .slice none 0 0, .slice none 0 0] 26])) (Lib.hid (Loc.start3 _ _ _)) ?_
  intro w4 X
  refine (check_any now next ts ss ms ta sa ma tc sc mc w4 (HO.out.below X.out.bl)).mono ?_
  rintro e w5 ⟨rfl, hb5⟩
  have X5 := Lib.hid (X.out.call hb5)
  clear hb5 X
  obtain ⟨c, hc⟩ : ∃ c, Lp.check ⟨now, next, ts, ss, ms⟩ = c := ⟨_, rfl⟩
  rw [hc]
  have HC := Lib.hid hc
  clear hc
  obtain ⟨d0, d1, d2, d3, d4⟩ := cells5 X5.out.k2
  obtain ⟨f0, f1, f2, f3, f4⟩ := frz5 X5.out.k2
  by_cases hc0 : c = 0
  · subst hc0
    have R := Lib.hid ((right_iff _).1 HC.out)
    obtain ⟨t0, t1, t2, t3, t4, t5, t6⟩ := cells7 X5.out.k1
    go_wp2_with fail
    obtain ⟨b, hb⟩ : ∃ b, within q0 1 5 = b := ⟨_, rfl⟩
    refine (within_b hb w5).mono ?_
    rintro e w6 ⟨rfl, rfl⟩
    have HBB := Lib.hid hb
    clear hb
    cases b
    · go_wp2_with fail
      refine body_put5 X5.out.k2 ?_
      intro W6 hh hg
      clear d0 d1 d2 d3 d4 f0 f1 f2 f3 f4
      obtain ⟨e0, e1, e2, e3, e4⟩ := cells5 hh
      refine bodyPost_ret (v := _) (by simp [results, Try.results13, go_sem, e0, e1, e2, e3, e4]; rfl) rfl ?_
      exact ⟨.slice none 0 0, .slice none 0 0, .slice none 0 0, by simp [Lp.ask, HC.out, HBB.out]; rfl, by simp only [Lp.ask, HC.out, HBB.out]; exact own_nil _ _, X5.out.done (by omega) hg⟩
    · go_upto_region 6 with fail
      have HR := Lib.hid (show ∃ r, (⟨now, next, ts, ss, ms⟩ : Lp).do_ ⟨q0, q1, q2, q3, q4, q5, q6⟩ = r from ⟨_, rfl⟩)
      obtain ⟨⟨⟨n1, x1, ts1, ss1, ms1⟩, id, er⟩, hr⟩ := HR.out
      clear HR
      have HR := Lib.hid hr
      clear hr d0 d1 d2 d3 d4 f0 f1 f2 f3 f4
      obtain ⟨c0, c1, c2, c3, c4⟩ := cells5 X5.out.k0
      go_cut [8, 9] (fun v8 v9 wx => AskR w q0 q1 q2 q3 q4 q5 q6 (⟨n1, x1, ts1, ss1, ms1⟩, id, er) v8 v9 wx)
      case first =>
        go_region_with ((first
          | (go_at_call 27; refine calls_gen (Φ := fun wy => Hid (Loc w wy [.cells #[.int .i64 now, .int .i64 next, .slice ta ts.length tc, .slice sa ss.length sc, .slice ma ms.length mc] 26, .cells #[.int .i64 q0, .int .i64 q1, .int .i64 q2, .string q3, .int .i64 q4, .int .i64 q5, .string q6] 35, .cells #[.int .i64 0, .int .i64 0, .slice none 0 0, .slice none 0 0, .slice none 0 0] 26])) (by first | exact X5 | exact Lib.hid X5.out.drew) ?_; intro w6 Y; refine (copied_any now next ts ss ms ta sa ma tc sc mc w6 (HO.out.below Y.out.bl) R.out.h1 R.out.h2 R.out.h3).mono ?_; rintro e w7 ⟨vt, vs, vm, rfl, ho, hb7⟩; obtain ⟨ta1, sa1, ma1, tc1, sc1, mc1, rfl, rfl, rfl⟩ := ho.shape; have Z1 := Lib.hid ((Y.out.call hb7).own (ho.low (C := w.heap.size + 3) Y.out.sz) (Nat.le_refl _)); clear t0 t1 t2 t3 t4 t5 t6 c0 c1 c2 c3 c4; obtain ⟨t0, t1, t2, t3, t4, t5, t6⟩ := cells7 Z1.out.k1; clear ho hb7 Y)
          | (go_at_call 28; refine calls_gen (Φ := fun wy => Hid (Fx (w.heap.size + 3) [] w wy ts ss ms (.slice ta1 ts.length tc1) (.slice sa1 ss.length sc1) (.slice ma1 ms.length mc1) [.cells #[.int .i64 now, .int .i64 next, .slice ta ts.length tc, .slice sa ss.length sc, .slice ma ms.length mc] 26, .cells #[.int .i64 q0, .int .i64 q1, .int .i64 q2, .string q3, .int .i64 q4, .int .i64 q5, .string q6] 35, .cells #[.int .i64 0, .int .i64 0, .slice none 0 0, .slice none 0 0, .slice none 0 0] 26])) (by first | exact Z1 | exact Lib.hid Z1.out.drew) ?_; intro w8 Y8; have hdo := do_any (w.heap.size + 3) now next ts ss ms _ _ _ ⟨q0, q1, q2, q3, q4, q5, q6⟩ w8 Y8.out.own Y8.out.sz R.out.bnd; rw [HR.out] at hdo; refine hdo.mono ?_; clear hdo; rintro e w9 ⟨vt, vs, vm, rfl, ho, hbl, hat⟩; obtain ⟨ta2, sa2, ma2, tc2, sc2, mc2, rfl, rfl, rfl⟩ := ho.shape; simp only [Lp.v]; have V := Lib.hid (Y8.out.ask ho hbl hat); clear t0 t1 t2 t3 t4 t5 t6 ho hbl hat Y8 Z1; obtain ⟨c0, c1, c2, c3, c4⟩ := cells5 V.out.k0; obtain ⟨g0, g1, g2, g3, g4⟩ := frz5 V.out.k0)))
        all_goals
          go_wp2_with fail
          go_meet
          exact ⟨_, _, _, rfl, rfl, ((((V.out.set 0 rfl 0 (.int .i64 n1) (by simp)).set 0 rfl 1 (.int .i64 x1) (by simp)).set 0 rfl 2 (.slice ta2 ts1.length tc2) (by simp)).set 0 rfl 3 (.slice sa2 ss1.length sc2) (by simp)).set 0 rfl 4 (.slice ma2 ms1.length mc2) (by simp)⟩
      case rest =>
        obtain ⟨vt, vs, vm, rfl, rfl, F'⟩ := hcut
        simp only at F' ⊢
        obtain ⟨ta2, sa2, ma2, tc2, sc2, mc2, rfl, rfl, rfl⟩ := F'.own.shape
        have F := Lib.hid F'
        clear F' t0 t1 t2 t3 t4 t5 t6 c0 c1 c2 c3 c4
        obtain ⟨c0, c1, c2, c3, c4⟩ := cells5 F.out.k0
        obtain ⟨d0, d1, d2, d3, d4⟩ := cells5 F.out.k2
        obtain ⟨f0, f1, f2, f3, f4⟩ := frz5 F.out.k2
        have HA : Hid ((⟨now, next, ts, ss, ms⟩ : Lp).ask ⟨q0, q1, q2, q3, q4, q5, q6⟩ = if er = 0 then (⟨n1, x1, ts1, ss1, ms1⟩, id, er) else (Lp.zero, 0, er)) := Lib.hid (by simp only [Lp.ask, HC.out, HBB.out, HR.out]; rfl)
        by_cases he : er = 0
        · subst he
          go_wp2_with fail
          refine body_put5 F.out.k2 ?_
          intro W6 hh hg
          clear c0 c1 c2 c3 c4 d0 d1 d2 d3 d4 f0 f1 f2 f3 f4
          obtain ⟨e0, e1, e2, e3, e4⟩ := cells5 hh
          refine bodyPost_ret (v := _) (by simp [results, Try.results13, go_sem, e0, e1, e2, e3, e4]; rfl) rfl ?_
          rw [HA.out, if_pos trivial]
          obtain ⟨r1, r2, _⟩ := F.out.done (b := w.heap.size + 1 + 1) (by omega) (by simp) hg
          exact ⟨_, _, _, rfl, r1.low (by omega), bl_nil r2⟩
        · have he1 : (er == 0) = false := by simpa using he
          have he2 : (er != 0) = true := by simpa using he
          go_wp2_with fail
          refine body_put5 F.out.k2 ?_
          intro W6 hh hg
          clear c0 c1 c2 c3 c4 d0 d1 d2 d3 d4 f0 f1 f2 f3 f4
          obtain ⟨e0, e1, e2, e3, e4⟩ := cells5 hh
          refine bodyPost_ret (v := _) (by simp [results, Try.results13, go_sem, e0, e1, e2, e3, e4]; rfl) rfl ?_
          rw [HA.out, if_neg (by first | exact he | exact not_false)]
          exact ⟨_, _, _, rfl, own_nil _ _, F.out.loc.done (b := w.heap.size + 1 + 1) (by omega) hg⟩
  · have hc1 : (c == 0) = false := by simpa using hc0
    have hc2 : (c != 0) = true := by simpa using hc0
    go_wp2_with fail
    refine body_put5 X5.out.k2 ?_
    intro W6 hh hg
    clear d0 d1 d2 d3 d4 f0 f1 f2 f3 f4
    obtain ⟨e0, e1, e2, e3, e4⟩ := cells5 hh
    refine bodyPost_ret (v := _) (by simp [results, Try.results13, go_sem, e0, e1, e2, e3, e4]; rfl) rfl ?_
    exact ⟨.slice none 0 0, .slice none 0 0, .slice none 0 0, by simp [Lp.ask, HC.out, hc0]; rfl, by simp only [Lp.ask, HC.out, hc0]; exact own_nil _ _, X5.out.done (by omega) hg⟩
end Go.Proofs.Ytpmklganodlciaa
