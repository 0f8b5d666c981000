/- loop.Next. -/
import Derived.Test.YtpmklganodlciaaT21
namespace Go.Proofs.Ytpmklganodlciaa
open Go.RowKit

def Lp.Next (q : Lp) (until_ : Int) : Lp × Job × Bool × Int :=
  if q.check = 0 then (if within until_ q.now 1000000000 then ((q.nxt until_).1, (q.nxt until_).2.1, (q.nxt until_).2.2, 0) else (Lp.zero, Job.zero, false, 1)) else (Lp.zero, Job.zero, false, q.check)
/-- What Next answers: memory of its own, all else as it was. -/
def NextNew (w : World) (r : Lp × Job × Bool × Int) (e : Ending) (w' : World) : Prop :=
  ∃ vt vs vm, e = .returned (.tuple #[r.1.v vt vs vm, r.2.1.v, .bool r.2.2.1, .int .i64 r.2.2.2]) ∧ LpOwn w' w.heap.size r.1.tasks r.1.smalls r.1.tims vt vs vm ∧ Below w.heap.size w w'
set_option maxRecDepth 100000 in
set_option maxHeartbeats 4000000 in
theorem nextP_any (now next : Int) (ts ss : List Job) (ms : List Tim) (ta sa ma : Option Addr) (tc sc mc : Nat) (until_ : Int) (w : World) (h : LpAt w ⟨now, next, ts, ss, ms⟩ (.slice ta ts.length tc) (.slice sa ss.length sc) (.slice ma ms.length mc)) :
    Calls Try.prog 14 #[.agg #[.int .i64 now, .int .i64 next, .slice ta ts.length tc, .slice sa ss.length sc, .slice ma ms.length mc], .int .i64 until_] w (NextNew w ((⟨now, next, ts, ss, ms⟩ : Lp).Next until_)) := by
  have HO := Lib.hid h
  clear h
  go_enter Try.func14, Try.ntmps14
  go_wp2_with fail
  refine calls_gen (Φ := fun w4 => Hid (Loc w w4 [.cells #[.int .i64 now, .int .i64 next, .slice ta ts.length tc, .slice sa ss.length sc, .slice ma ms.length mc] 26, .cells #[.int .i64 0, .int .i64 0, .slice none 0 0, .slice none 0 0, .slice none 0 0] 26, .cells #[.int .i64 0, .int .i64 0, .bool false, .string ⟨#[]⟩, .int .i64 0, .int .i64 0, .string ⟨#[]⟩] 39])) (Lib.hid (Loc.start3 _ _ _)) ?_
  intro w4 X4
  refine (check_any now next ts ss ms ta sa ma tc sc mc w4 (HO.out.below X4.out.bl)).mono ?_
  rintro e w5 ⟨rfl, hb5⟩
  have X := Lib.hid (X4.out.call hb5)
  clear hb5 X4
  obtain ⟨c, hc⟩ : ∃ c, Lp.check ⟨now, next, ts, ss, ms⟩ = c := ⟨_, rfl⟩
  rw [hc]
  have HC := Lib.hid hc
  clear hc
  obtain ⟨d0, d1, d2, d3, d4⟩ := cells5 X.out.k1
  obtain ⟨f0, f1, f2, f3, f4⟩ := frz5 X.out.k1
  obtain ⟨k0, k1, k2, k3, k4, k5, k6⟩ := cells7 X.out.k2
  obtain ⟨z0, z1, z2, z3, z4, z5, z6⟩ := frz7 X.out.k2
  by_cases hc0 : c = 0
  · subst hc0
    have R := Lib.hid ((right_iff _).1 HC.out)
    obtain ⟨c0, c1, c2, c3, c4⟩ := cells5 X.out.k0
    go_wp2_with fail
    obtain ⟨b, hb⟩ : ∃ b, within until_ now 1000000000 = b := ⟨_, rfl⟩
    refine (within_b hb w5).mono ?_
    rintro e w6 ⟨rfl, rfl⟩
    have HBB := Lib.hid hb
    clear hb
    cases b
    · clear c0 c1 c2 c3 c4
      go_wp2_with fail
      refine body_gen (Φ := fun W6 => Hid (Loc w W6 [.cells #[.int .i64 now, .int .i64 next, .slice ta ts.length tc, .slice sa ss.length sc, .slice ma ms.length mc] 26, .cells #[.int .i64 0, .int .i64 0, .slice none 0 0, .slice none 0 0, .slice none 0 0] 26, .cells #[.int .i64 0, .int .i64 0, .bool false, .string ⟨#[]⟩, .int .i64 0, .int .i64 0, .string ⟨#[]⟩] 39])) (Lib.hid ((X.out.put5 1 rfl (.int .i64 0) (.int .i64 0) (.slice none 0 0) (.slice none 0 0) (.slice none 0 0)).put7 2 rfl (.int .i64 0) (.int .i64 0) (.bool false) (.string ⟨#[]⟩) (.int .i64 0) (.int .i64 0) (.string ⟨#[]⟩))) ?_
      intro W6 F
      clear d0 d1 d2 d3 d4 f0 f1 f2 f3 f4 k0 k1 k2 k3 k4 k5 k6 z0 z1 z2 z3 z4 z5 z6 X
      obtain ⟨e0, e1, e2, e3, e4⟩ := cells5 F.out.k1
      obtain ⟨g0, g1, g2, g3, g4, g5, g6⟩ := cells7 F.out.k2
      refine bodyPost_ret (v := _) (by simp [results, Try.results14, go_sem, e0, e1, e2, e3, e4, g0, g1, g2, g3, g4, g5, g6]; rfl) rfl ?_
      exact ⟨.slice none 0 0, .slice none 0 0, .slice none 0 0, by simp [Lp.Next, HC.out, HBB.out]; exact ⟨rfl, rfl⟩, by simp only [Lp.Next, HC.out, HBB.out]; exact own_nil _ _, F.out.bl⟩
    · go_wp2_with fail
      refine (copied_any now next ts ss ms ta sa ma tc sc mc w5 (HO.out.below X.out.bl) R.out.h1 R.out.h2 R.out.h3).mono ?_
      rintro e w7 ⟨vt, vs, vm, rfl, ho, hb7⟩
      obtain ⟨ta1, sa1, ma1, tc1, sc1, mc1, rfl, rfl, rfl⟩ := ho.shape
      have Z1 := Lib.hid ((X.out.call hb7).own (ho.low (C := w.heap.size + 3) X.out.sz) (Nat.le_refl _))
      clear ho hb7 X c0 c1 c2 c3 c4 d0 d1 d2 d3 d4 f0 f1 f2 f3 f4 k0 k1 k2 k3 k4 k5 k6 z0 z1 z2 z3 z4 z5 z6
      obtain ⟨r, hr⟩ : ∃ r, (⟨now, next, ts, ss, ms⟩ : Lp).nxt until_ = r := ⟨_, rfl⟩
      have hnx := next_any (w.heap.size + 3) now next ts ss ms (.slice ta1 ts.length tc1) (.slice sa1 ss.length sc1) (.slice ma1 ms.length mc1) until_ w7 Z1.out.own Z1.out.sz R.out
      rw [hr] at hnx
      have HN : Hid ((⟨now, next, ts, ss, ms⟩ : Lp).Next until_ = (r.1, r.2.1, r.2.2, 0)) := Lib.hid (by simp only [Lp.Next, HC.out, HBB.out, hr]; rfl)
      clear hr
      obtain ⟨⟨n1, x1, ts1, ss1, ms1⟩, ⟨id, src, small, call, ak, an, as1⟩, is⟩ := r
      go_wp2_with fail
      refine hnx.mono ?_
      clear hnx
      rintro e w5 ⟨vt, vs, vm, rfl, ho, hbl, hat⟩
      obtain ⟨ta2, sa2, ma2, tc2, sc2, mc2, rfl, rfl, rfl⟩ := ho.shape
      have Y := Lib.hid (Z1.out.ask ho hbl hat)
      clear ho hbl hat Z1
      simp only [Lp.v, Job.v]
      obtain ⟨c0, c1, c2, c3, c4⟩ := cells5 Y.out.k0
      obtain ⟨f0, f1, f2, f3, f4⟩ := frz5 Y.out.k0
      have hlt : w.heap.size < w5.heap.size := by have := Y.out.sz; simp only [List.length_cons] at this; omega
      go_upto_region 7 with fail
      obtain ⟨N, hN⟩ : ∃ N, w5.heap.size = N := ⟨_, rfl⟩
      rw [hN]
      have HNN := Lib.hid (show w.heap.size + 3 ≤ N by rw [← hN]; exact Y.out.sz)
      have Y2 := Lib.hid (Y.out.put5 0 rfl (.int .i64 n1) (.int .i64 x1) (.slice ta2 ts1.length tc2) (.slice sa2 ss1.length sc2) (.slice ma2 ms1.length mc2))
      refine code_gen (Φ := fun wy => Hid (Fx (w.heap.size + 3) [] w wy ts1 ss1 ms1 (.slice ta2 ts1.length tc2) (.slice sa2 ss1.length sc2) (.slice ma2 ms1.length mc2) [.cells #[.int .i64 n1, .int .i64 x1, .slice ta2 ts1.length tc2, .slice sa2 ss1.length sc2, .slice ma2 ms1.length mc2] 26, .cells #[.int .i64 0, .int .i64 0, .slice none 0 0, .slice none 0 0, .slice none 0 0] 26, .cells #[.int .i64 0, .int .i64 0, .bool false, .string ⟨#[]⟩, .int .i64 0, .int .i64 0, .string ⟨#[]⟩] 39]) ∧ Hid (Ex wy N (.cells #[.int .i64 id, .int .i64 src, .bool small, .string call, .int .i64 ak, .int .i64 an, .string as1] 39) (.slice ta2 ts1.length tc2) (.slice sa2 ss1.length sc2) (.slice ma2 ms1.length mc2))) ⟨Lib.hid (Y2.out.call ((Below.refl _ _).alloc (Nat.le_refl _) _)), Lib.hid (by have h := Ex.new Y2.out.own (.cells #[.int .i64 id, .int .i64 src, .bool small, .string call, .int .i64 ak, .int .i64 an, .string as1] 39); rw [size_set, size_set, size_set, size_set, size_set, hN] at h; exact h)⟩ ?_
      rintro w7 ⟨X, XE⟩
      clear hN Y Y2 hlt c0 c1 c2 c3 c4 f0 f1 f2 f3 f4
      have n1' : ¬ N = w.heap.size + 1 := by have := HNN.out; omega
      have n2' : ¬ N = w.heap.size + 1 + 1 := by have := HNN.out; omega
      have n3' : ¬ w.heap.size + 1 = N := by have := HNN.out; omega
      have n4' : ¬ w.heap.size + 1 + 1 = N := by have := HNN.out; omega
      obtain ⟨c0, c1, c2, c3, c4⟩ := cells5 X.out.k0
      obtain ⟨d0, d1, d2, d3, d4⟩ := cells5 X.out.k1
      obtain ⟨f0, f1, f2, f3, f4⟩ := frz5 X.out.k1
      obtain ⟨j0, j1, j2, j3, j4, j5, j6⟩ := cells7 XE.out.h
      obtain ⟨k0, k1, k2, k3, k4, k5, k6⟩ := cells7 X.out.k2
      obtain ⟨z0, z1, z2, z3, z4, z5, z6⟩ := frz7 X.out.k2
      go_region
      all_goals
        clear n1' n2' n3' n4'
        go_wp2_with fail
        refine body_gen (Φ := fun W6 => Hid (Fx (w.heap.size + 3) [] w W6 ts1 ss1 ms1 (.slice ta2 ts1.length tc2) (.slice sa2 ss1.length sc2) (.slice ma2 ms1.length mc2) [.cells #[.int .i64 n1, .int .i64 x1, .slice ta2 ts1.length tc2, .slice sa2 ss1.length sc2, .slice ma2 ms1.length mc2] 26, .cells #[.int .i64 n1, .int .i64 x1, .slice ta2 ts1.length tc2, .slice sa2 ss1.length sc2, .slice ma2 ms1.length mc2] 26, .cells #[.int .i64 id, .int .i64 src, .bool small, .string call, .int .i64 ak, .int .i64 an, .string as1] 39])) (Lib.hid (((X.out.put5 1 rfl (.int .i64 n1) (.int .i64 x1) (.slice ta2 ts1.length tc2) (.slice sa2 ss1.length sc2) (.slice ma2 ms1.length mc2)).put7 2 rfl (.int .i64 id) (.int .i64 src) (.bool small) (.string call) (.int .i64 ak) (.int .i64 an) (.string as1)).drew)) ?_
        intro W6 F
        clear c0 c1 c2 c3 c4 d0 d1 d2 d3 d4 f0 f1 f2 f3 f4 j0 j1 j2 j3 j4 j5 j6 k0 k1 k2 k3 k4 k5 k6 z0 z1 z2 z3 z4 z5 z6 X XE
        obtain ⟨e0, e1, e2, e3, e4⟩ := cells5 F.out.k1
        obtain ⟨g0, g1, g2, g3, g4, g5, g6⟩ := cells7 F.out.k2
        refine bodyPost_ret (v := _) (by simp [results, Try.results14, go_sem, e0, e1, e2, e3, e4, g0, g1, g2, g3, g4, g5, g6]; rfl) rfl ?_
        rw [HN.out]
        exact ⟨_, _, _, rfl, F.out.own.low (by omega), bl_nil F.out.bl⟩
  · have hc1 : (c == 0) = false := by simpa using hc0
    have hc2 : (c != 0) = true := by simpa using hc0
    go_wp2_with fail
    refine body_gen (Φ := fun W6 => Hid (Loc w W6 [.cells #[.int .i64 now, .int .i64 next, .slice ta ts.length tc, .slice sa ss.length sc, .slice ma ms.length mc] 26, .cells #[.int .i64 0, .int .i64 0, .slice none 0 0, .slice none 0 0, .slice none 0 0] 26, .cells #[.int .i64 0, .int .i64 0, .bool false, .string ⟨#[]⟩, .int .i64 0, .int .i64 0, .string ⟨#[]⟩] 39])) (Lib.hid ((X.out.put5 1 rfl (.int .i64 0) (.int .i64 0) (.slice none 0 0) (.slice none 0 0) (.slice none 0 0)).put7 2 rfl (.int .i64 0) (.int .i64 0) (.bool false) (.string ⟨#[]⟩) (.int .i64 0) (.int .i64 0) (.string ⟨#[]⟩))) ?_
    intro W6 F
    clear d0 d1 d2 d3 d4 f0 f1 f2 f3 f4 k0 k1 k2 k3 k4 k5 k6 z0 z1 z2 z3 z4 z5 z6 X
    obtain ⟨e0, e1, e2, e3, e4⟩ := cells5 F.out.k1
    obtain ⟨g0, g1, g2, g3, g4, g5, g6⟩ := cells7 F.out.k2
    refine bodyPost_ret (v := _) (by simp [results, Try.results14, go_sem, e0, e1, e2, e3, e4, g0, g1, g2, g3, g4, g5, g6]; rfl) rfl ?_
    exact ⟨.slice none 0 0, .slice none 0 0, .slice none 0 0, by simp [Lp.Next, HC.out, hc0]; exact ⟨rfl, rfl⟩, by simp only [Lp.Next, HC.out, hc0]; exact own_nil _ _, F.out.bl⟩
end Go.Proofs.Ytpmklganodlciaa
