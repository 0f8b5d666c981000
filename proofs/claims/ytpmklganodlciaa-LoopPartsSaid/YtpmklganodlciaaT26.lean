/- slices.Equal of two slices that read alike; SameLoop of two loops that read alike. -/
import Derived.Test.YtpmklganodlciaaT25
namespace Go.Proofs.Ytpmklganodlciaa
open Go.RowKit

theorem neqJob_same (id src : Int) (small : Bool) (call : ByteArray) (ak an : Int) (as1 : ByteArray) (w : World) : (binOp .neq 39 (.agg #[.int .i64 id, .int .i64 src, .bool small, .string call, .int .i64 ak, .int .i64 an, .string as1]) (.agg #[.int .i64 id, .int .i64 src, .bool small, .string call, .int .i64 ak, .int .i64 an, .string as1])).run Try.prog w = .ok (.bool false) w := by go_simp
set_option maxRecDepth 100000 in
set_option maxHeartbeats 4000000 in
theorem eqJ_any (a a2 : Option Addr) (c c2 : Nat) (l : List Job) (w : World) (h1 : Sl w Job.c 7 (.slice a l.length c) l) (h2 : Sl w Job.c 7 (.slice a2 l.length c2) l) :
    Calls Try.prog 22 #[.slice a l.length c, .slice a2 l.length c2] w fun e w' => e = .returned (.bool true) ∧ Below w.heap.size w w' := by
  have H1 := Lib.hid h1
  have H2 := Lib.hid h2
  have hct : l.length ≤ 9223372036854775807 := by obtain ⟨_, _, e, h1, h2, _⟩ := h1; injection e with _ _ e; simp only [maxLen] at h2; omega
  clear h1 h2
  go_enter Try.func22, Try.ntmps22
  go_wp2_with fail
  go_loopg [13] l.length (fun n vk wr => ∃ k : Nat, n = l.length - k ∧ k ≤ l.length ∧ vk = .int .i64 (k : Int) ∧ Below w.heap.size w wr)
  case atStart => exact ⟨0, rfl, Nat.zero_le _, rfl, Below.refl _ _⟩
  case round =>
    obtain ⟨k, hg, hk, rfl, hb⟩ := hrel
    have G := Lib.hid hg
    have HB := Lib.hid hb
    clear hg hb
    by_cases hlt : k < l.length
    · have h1' : (k : Int) < (l.length : Int) := by omega
      obtain ⟨b, o, rfl, hq⟩ := H1.out.job k hlt
      obtain ⟨b2, o2, rfl, hq2⟩ := H2.out.job k hlt
      have hq' := hq.below HB.out
      have hq2' := hq2.below HB.out
      clear hq hq2
      generalize l[k] = J at *
      obtain ⟨id, src, small, call, ak, an, as1⟩ := J
      obtain ⟨c0, c1, c2, c3, c4, c5, c6⟩ := hq'
      obtain ⟨d0, d1, d2, d3, d4, d5, d6⟩ := hq2'
      simp only at c0 d0 c1 d1 c2 d2 c3 d3 c4 d4 c5 d5 c6 d6
      have hn := neqJob_same id src small call ak an as1
      go_upto_region 6 with fail
      go_quiet (fail)
      all_goals
        clear c0 d0 c1 d1 c2 d2 c3 d3 c4 d4 c5 d5 c6 d6 hn
        go_wp2_with fail
        go_roundg (l.length - (k + 1))
        case measure => rw [G.out]; omega
        case rel => exact ⟨k + 1, rfl, by omega, by simp, below_drewN HB.out _⟩
    · have hke : k = l.length := by omega
      subst hke
      go_wp2_with fail
      go_ret
      exact ⟨rfl, HB.out⟩
theorem neqTim_same (id ta te tt : Int) (call : ByteArray) (w : World) : (binOp .neq 49 (.agg #[.int .i64 id, .int .i64 ta, .int .i64 te, .int .i64 tt, .string call]) (.agg #[.int .i64 id, .int .i64 ta, .int .i64 te, .int .i64 tt, .string call])).run Try.prog w = .ok (.bool false) w := by go_simp
set_option maxRecDepth 100000 in
set_option maxHeartbeats 4000000 in
theorem eqT_any (a a2 : Option Addr) (c c2 : Nat) (l : List Tim) (w : World) (h1 : Sl w Tim.c 5 (.slice a l.length c) l) (h2 : Sl w Tim.c 5 (.slice a2 l.length c2) l) :
    Calls Try.prog 34 #[.slice a l.length c, .slice a2 l.length c2] w fun e w' => e = .returned (.bool true) ∧ Below w.heap.size w w' := by
  have H1 := Lib.hid h1
  have H2 := Lib.hid h2
  have hct : l.length ≤ 9223372036854775807 := by obtain ⟨_, _, e, h1, h2, _⟩ := h1; injection e with _ _ e; simp only [maxLen] at h2; omega
  clear h1 h2
  go_enter Try.func34, Try.ntmps34
  go_wp2_with fail
  go_loopg [13] l.length (fun n vk wr => ∃ k : Nat, n = l.length - k ∧ k ≤ l.length ∧ vk = .int .i64 (k : Int) ∧ Below w.heap.size w wr)
  case atStart => exact ⟨0, rfl, Nat.zero_le _, rfl, Below.refl _ _⟩
  case round =>
    obtain ⟨k, hg, hk, rfl, hb⟩ := hrel
    have G := Lib.hid hg
    have HB := Lib.hid hb
    clear hg hb
    by_cases hlt : k < l.length
    · have h1' : (k : Int) < (l.length : Int) := by omega
      obtain ⟨b, o, rfl, hq⟩ := H1.out.tim k hlt
      obtain ⟨b2, o2, rfl, hq2⟩ := H2.out.tim k hlt
      have hq' := hq.below HB.out
      have hq2' := hq2.below HB.out
      clear hq hq2
      generalize l[k] = J at *
      obtain ⟨id, ta, te, tt, call⟩ := J
      obtain ⟨c0, c1, c2, c3, c4⟩ := hq'
      obtain ⟨d0, d1, d2, d3, d4⟩ := hq2'
      simp only at c0 d0 c1 d1 c2 d2 c3 d3 c4 d4
      have hn := neqTim_same id ta te tt call
      go_upto_region 6 with fail
      go_quiet (fail)
      all_goals
        clear c0 d0 c1 d1 c2 d2 c3 d3 c4 d4 hn
        go_wp2_with fail
        go_roundg (l.length - (k + 1))
        case measure => rw [G.out]; omega
        case rel => exact ⟨k + 1, rfl, by omega, by simp, below_drewN HB.out _⟩
    · have hke : k = l.length := by omega
      subst hke
      go_wp2_with fail
      go_ret
      exact ⟨rfl, HB.out⟩
set_option maxRecDepth 100000 in
set_option maxHeartbeats 4000000 in
theorem same_any (now next : Int) (ts ss : List Job) (ms : List Tim) (ta sa ma ta2 sa2 ma2 : Option Addr) (tc sc mc tc2 sc2 mc2 : Nat) (w : World) (h : LpAt w ⟨now, next, ts, ss, ms⟩ (.slice ta ts.length tc) (.slice sa ss.length sc) (.slice ma ms.length mc)) (h2 : LpAt w ⟨now, next, ts, ss, ms⟩ (.slice ta2 ts.length tc2) (.slice sa2 ss.length sc2) (.slice ma2 ms.length mc2)) :
    Calls Try.prog 23 #[.agg #[.int .i64 now, .int .i64 next, .slice ta ts.length tc, .slice sa ss.length sc, .slice ma ms.length mc], .agg #[.int .i64 now, .int .i64 next, .slice ta2 ts.length tc2, .slice sa2 ss.length sc2, .slice ma2 ms.length mc2]] w fun e w' => e = .returned (.bool true) ∧ Below w.heap.size w w' := by
  have H1 := Lib.hid h
  have H2 := Lib.hid h2
  clear h h2
  go_enter Try.func23, Try.ntmps23
  go_upto_region 1 with fail
  refine code_gen (Φ := fun w4 => Hid (Loc w w4 [.cells #[.int .i64 now, .int .i64 next, .slice ta ts.length tc, .slice sa ss.length sc, .slice ma ms.length mc] 26, .cells #[.int .i64 now, .int .i64 next, .slice ta2 ts.length tc2, .slice sa2 ss.length sc2, .slice ma2 ms.length mc2] 26])) (Lib.hid (Loc.start2 _ _)) ?_
  intro w4 X
  obtain ⟨c0, c1, c2, c3, c4⟩ := cells5 X.out.k0
  obtain ⟨d0, d1, d2, d3, d4⟩ := cells5 X.out.k1
  go_wp2_with fail
  refine calls_gen (Φ := fun wy => Hid (Loc w wy [.cells #[.int .i64 now, .int .i64 next, .slice ta ts.length tc, .slice sa ss.length sc, .slice ma ms.length mc] 26, .cells #[.int .i64 now, .int .i64 next, .slice ta2 ts.length tc2, .slice sa2 ss.length sc2, .slice ma2 ms.length mc2] 26])) (by first | exact X | exact Lib.hid X.out.drew) ?_
  clear X c0 c1 c2 c3 c4 d0 d1 d2 d3 d4
  intro w5 X
  refine (eqJ_any _ _ _ _ ts w5 (H1.out.below X.out.bl).t (H2.out.below X.out.bl).t).mono ?_
  rintro e w6 ⟨rfl, hb⟩
  have X6 := Lib.hid (X.out.call hb)
  clear hb X
  have X := X6
  clear X6
  obtain ⟨c0, c1, c2, c3, c4⟩ := cells5 X.out.k0
  obtain ⟨d0, d1, d2, d3, d4⟩ := cells5 X.out.k1
  go_wp2_with fail
  refine calls_gen (Φ := fun wy => Hid (Loc w wy [.cells #[.int .i64 now, .int .i64 next, .slice ta ts.length tc, .slice sa ss.length sc, .slice ma ms.length mc] 26, .cells #[.int .i64 now, .int .i64 next, .slice ta2 ts.length tc2, .slice sa2 ss.length sc2, .slice ma2 ms.length mc2] 26])) (by first | exact X | exact Lib.hid X.out.drew) ?_
  clear X c0 c1 c2 c3 c4 d0 d1 d2 d3 d4
  intro w5 X
  refine (eqJ_any _ _ _ _ ss w5 (H1.out.below X.out.bl).s (H2.out.below X.out.bl).s).mono ?_
  rintro e w6 ⟨rfl, hb⟩
  have X6 := Lib.hid (X.out.call hb)
  clear hb X
  have X := X6
  clear X6
  obtain ⟨c0, c1, c2, c3, c4⟩ := cells5 X.out.k0
  obtain ⟨d0, d1, d2, d3, d4⟩ := cells5 X.out.k1
  go_wp2_with fail
  refine calls_gen (Φ := fun wy => Hid (Loc w wy [.cells #[.int .i64 now, .int .i64 next, .slice ta ts.length tc, .slice sa ss.length sc, .slice ma ms.length mc] 26, .cells #[.int .i64 now, .int .i64 next, .slice ta2 ts.length tc2, .slice sa2 ss.length sc2, .slice ma2 ms.length mc2] 26])) (by first | exact X | exact Lib.hid X.out.drew) ?_
  clear X c0 c1 c2 c3 c4 d0 d1 d2 d3 d4
  intro w5 X
  refine (eqT_any _ _ _ _ ms w5 (H1.out.below X.out.bl).m (H2.out.below X.out.bl).m).mono ?_
  rintro e w6 ⟨rfl, hb⟩
  have X6 := Lib.hid (X.out.call hb)
  clear hb X
  have X := X6
  clear X6
  obtain ⟨c0, c1, c2, c3, c4⟩ := cells5 X.out.k0
  obtain ⟨d0, d1, d2, d3, d4⟩ := cells5 X.out.k1
  go_wp2_with fail
  go_ret
  exact ⟨rfl, X.out.bl⟩
end Go.Proofs.Ytpmklganodlciaa
