/- LoopSmall, walked. -/
import Derived.Test.YtpmklganodlciaaT28
namespace Go.Proofs.Ytpmklganodlciaa
open Go.RowKit

theorem Below.drewR {B : Nat} {w w' : World} (h : Below B w w') : Below B w w'.drew := ⟨h.os, h.tape, h.output, h.size, h.block⟩
/-- What holds at the head of LoopSmall's loop. -/
def SR (w : World) (os : List Obj) (P : Nat) (u : Int) (q0 : Lp) (n : Nat) (vt6 vk : Value) (wr : World) : Prop :=
  ∃ (k tk : Nat) (q : Lp) (vt vs vm : Value), n = (q0.smalls.length + q0.tasks.length + 1) - k ∧ k ≤ q0.smalls.length + q0.tasks.length + 1 ∧ vk = .int .i64 (k : Int) ∧ vt6 = .int .i64 (tk : Int) ∧ TX w wr os P q vt vs vm ∧ SmallX q0 q k tk ∧ q.now ≤ u
set_option maxRecDepth 100000 in
set_option maxHeartbeats 8000000 in
theorem small_any (now next : Int) (ts ss : List Job) (ms : List Tim) (ta sa ma : Option Addr) (tc sc mc : Nat) (until_ : Int) (w : World) (h : LpAt w ⟨now, next, ts, ss, ms⟩ (.slice ta ts.length tc) (.slice sa ss.length sc) (.slice ma ms.length mc)) :
    Calls Try.prog 5 #[.agg #[.int .i64 now, .int .i64 next, .slice ta ts.length tc, .slice sa ss.length sc, .slice ma ms.length mc], .int .i64 until_] w fun e w' => e = .returned (.bool true) ∧ Below w.heap.size w w' := by
  have HO := Lib.hid h
  clear h
  go_enter Try.func5, Try.ntmps5
  go_wp2_with fail
  refine calls_gen (Φ := fun w4 => Hid (Loc w w4 [.cells #[.int .i64 now, .int .i64 next, .slice ta ts.length tc, .slice sa ss.length sc, .slice ma ms.length mc] 26])) (Lib.hid (Loc.start1 _)) ?_
  intro w4 X4
  refine (lives_any w4).mono ?_
  rintro e w5 ⟨rfl, hb⟩
  have X5 := Lib.hid (X4.out.call hb)
  clear hb X4
  obtain ⟨c0, c1, c2, c3, c4⟩ := cells5 X5.out.k0
  go_wp2_with fail
  refine (check_any now next ts ss ms ta sa ma tc sc mc w5 (HO.out.below X5.out.bl)).mono ?_
  rintro e w6 ⟨rfl, hb⟩
  have X := Lib.hid (X5.out.call hb)
  clear hb X5 c0 c1 c2 c3 c4
  obtain ⟨c, hc⟩ : ∃ c, Lp.check ⟨now, next, ts, ss, ms⟩ = c := ⟨_, rfl⟩
  rw [hc]
  have HC := Lib.hid hc
  clear hc
  obtain ⟨c0, c1, c2, c3, c4⟩ := cells5 X.out.k0
  by_cases hc0 : c = 0
  · subst hc0
    have R := Lib.hid ((right_iff _).1 HC.out)
    clear HC
    by_cases hu1 : until_ < now
    · go_wp2_with fail
      refine (lives_any _).mono ?_
      rintro e w7 ⟨rfl, hb7⟩
      have T := Lib.hid (X.out.call hb7)
      clear hb7 X
      go_wp2_with fail
      go_ret
      exact ⟨rfl, T.out.bl⟩
    · by_cases hu2 : 1000000000 < until_
      · go_wp2_with fail
        refine (lives_any _).mono ?_
        rintro e w7 ⟨rfl, hb7⟩
        have T := Lib.hid (X.out.call hb7)
        clear hb7 X
        go_wp2_with fail
        go_ret
        exact ⟨rfl, T.out.bl⟩
      · have hu1' : now ≤ until_ := by omega
        have hu2' : until_ ≤ 1000000000 := by omega
        clear hu1 hu2
        obtain ⟨P, hP⟩ : ∃ P, w6.heap.size = P := ⟨_, rfl⟩
        have HP := Lib.hid hP
        have ht100 := R.out.h1
        have hs100 := R.out.h2
        simp only at ht100 hs100
        go_upto_region 5 with fail
        clear hP
        refine code_gen (Φ := fun wy => Hid (TX w wy [.cells #[.int .i64 now, .int .i64 next, .slice ta ts.length tc, .slice sa ss.length sc, .slice ma ms.length mc] 26] P ⟨now, next, ts, ss, ms⟩ (.slice ta ts.length tc) (.slice sa ss.length sc) (.slice ma ms.length mc))) (Lib.hid (TX.start X.out HO.out HP.out)) ?_
        intro w7 Y
        clear X HP c0 c1 c2 c3 c4
        obtain ⟨c0, c1, c2, c3, c4⟩ := cells5 Y.out.loc.k0
        go_wp2_with fail
        go_loopg [6, 42] (ss.length + ts.length + 1) (fun n v6 vk wr => SR w [.cells #[.int .i64 now, .int .i64 next, .slice ta ts.length tc, .slice sa ss.length sc, .slice ma ms.length mc] 26] P until_ ⟨now, next, ts, ss, ms⟩ n v6 vk wr)
        case atStart => exact ⟨0, 0, _, _, _, _, rfl, by omega, rfl, rfl, Y.out, ⟨R.out, by simp, by simp⟩, hu1'⟩
        case round =>
          clear Y hu1' c0 c1 c2 c3 c4
          obtain ⟨k, tk, ⟨n1, x1, ts1, ss1, ms1⟩, vt, vs, vm, hg, hk, rfl, rfl, hx, hr, hnu⟩ := hrel
          obtain ⟨ta1, sa1, ma1, tc1, sc1, mc1, rfl, rfl, rfl⟩ := lpat_shape hx.at_
          simp only at hnu hk hg
          have G := Lib.hid hg
          have X := Lib.hid hx
          have SX := Lib.hid hr
          clear hg hx hr
          by_cases hlt : k < (ss.length + ts.length + 1)
          · have h1' : (k : Int) < (ss.length : Int) + (ts.length : Int) + 1 := by omega
            have hm100 := SX.out.r.h3
            simp only at hm100
            obtain ⟨c0, c1, c2, c3, c4⟩ := cells5 X.out.p
            go_wp2_with fail
            obtain ⟨r, hr⟩ : ∃ r, (⟨n1, x1, ts1, ss1, ms1⟩ : Lp).nxt until_ = r := ⟨_, rfl⟩
            have hnx := nextP_any n1 x1 ts1 ss1 ms1 ta1 sa1 ma1 tc1 sc1 mc1 until_ wr X.out.at_
            rw [Next_eq ⟨n1, x1, ts1, ss1, ms1⟩ until_ SX.out.r hnu hu2', hr] at hnx
            have HST := Lib.hid (small_step ⟨now, next, ts, ss, ms⟩ ⟨n1, x1, ts1, ss1, ms1⟩ until_ k tk SX.out hnu hu2')
            have HNR := Lib.hid (nxt_right ⟨n1, x1, ts1, ss1, ms1⟩ until_ SX.out.r hnu hu2')
            rw [hr] at HST HNR
            clear hr
            obtain ⟨⟨n2, x2, ts2, ss2, ms2⟩, ⟨id, src, small, call, ak, an, as1⟩, is⟩ := r
            refine hnx.mono ?_
            clear hnx
            rintro e w8 ⟨vt2, vs2, vm2, rfl, ho, hb⟩
            obtain ⟨ta2, sa2, ma2, tc2, sc2, mc2, rfl, rfl, rfl⟩ := ho.shape
            have HO2 := Lib.hid ho
            have HB := Lib.hid hb
            clear ho hb
            simp only [Lp.v, Job.v]
            go_upto_region 9 with fail
            obtain ⟨P7, hP7⟩ : ∃ P7, w8.heap.size = P7 := ⟨_, rfl⟩
            rw [hP7]
            refine code_gen (Φ := fun wy => Hid (UX w wy [.cells #[.int .i64 now, .int .i64 next, .slice ta ts.length tc, .slice sa ss.length sc, .slice ma ms.length mc] 26] P P7 (P7 + 1) ⟨n1, x1, ts1, ss1, ms1⟩ (.slice ta1 ts1.length tc1) (.slice sa1 ss1.length sc1) (.slice ma1 ms1.length mc1) ⟨n2, x2, ts2, ss2, ms2⟩ (.slice ta2 ts2.length tc2) (.slice sa2 ss2.length sc2) (.slice ma2 ms2.length mc2) (.cells #[.int .i64 id, .int .i64 src, .bool small, .string call, .int .i64 ak, .int .i64 an, .string as1] 39))) (Lib.hid (UX.mk2 X.out HB.out HO2.out hP7 _)) ?_
            intro w9 Z
            clear hP7 HO2 HB X c0 c1 c2 c3 c4
            by_cases hks : k < ss.length
            · have hki : (k : Int) < (ss.length : Int) := by omega
              obtain ⟨e1, e2, e3⟩ := HST.out.1 hks
              simp only at e1 e2 e3
              subst e1
              have HS3 := Lib.hid e3
              obtain ⟨b, o, hb0, hq⟩ := HO.out.s.job k hks
              subst hb0
              have hq2 := hq.below Z.out.t.loc.bl
              have heq : ss[k] = ⟨id, src, small, call, ak, an, as1⟩ := by
                have := List.getElem?_eq_getElem hks
                rw [this] at e2
                injection e2
              simp only at hq2
              rw [heq] at hq2
              obtain ⟨q0, q1, q2, q3, q4, q5, q6⟩ := hq2
              simp only at q0 q1 q2 q3 q4 q5 q6
              clear hq heq e2 e3 HST
              have hn := neqJob_same id src small call ak an as1
              obtain ⟨j0, j1, j2, j3, j4, j5, j6⟩ := cells7 Z.out.h8
              obtain ⟨d0, d1, d2, d3, d4⟩ := cells5 Z.out.h7
              obtain ⟨f0, f1, f2, f3, f4⟩ := cells5 Z.out.t.loc.k0
              obtain ⟨p0, p1, p2, p3, p4⟩ := cells5 Z.out.t.p
              obtain ⟨z0, z1, z2, z3, z4⟩ := frz5 Z.out.t.p
              go_quiet (fail)
              all_goals
                clear q0 q1 q2 q3 q4 q5 q6 hn
                go_wp2_with fail
                refine calls_gen (Φ := fun wy => Hid (UX w wy [.cells #[.int .i64 now, .int .i64 next, .slice ta ts.length tc, .slice (some ⟨b, o, none⟩) ss.length sc, .slice ma ms.length mc] 26] P P7 (P7 + 1) ⟨n1, x1, ts1, ss1, ms1⟩ (.slice ta1 ts1.length tc1) (.slice sa1 ss1.length sc1) (.slice ma1 ms1.length mc1) ⟨n2, x2, ts2, ss2, ms2⟩ (.slice ta2 ts2.length tc2) (.slice sa2 ss2.length sc2) (.slice ma2 ms2.length mc2) (.cells #[.int .i64 id, .int .i64 src, .bool small, .string call, .int .i64 ak, .int .i64 an, .string as1] 39))) (by first | exact Z | exact Lib.hid (Z.out.call (below_drewN (Below.refl _ _) _)) | exact Lib.hid (Z.out.call (Below.refl _ _).drew)) ?_
                clear j0 j1 j2 j3 j4 j5 j6 d0 d1 d2 d3 d4 f0 f1 f2 f3 f4 p0 p1 p2 p3 p4 z0 z1 z2 z3 z4 Z
                intro wa Z
                obtain ⟨j0, j1, j2, j3, j4, j5, j6⟩ := cells7 Z.out.h8
                refine (anyT_any 17 (fun t => t.id == id) (P7 + 1) 0 (.int .i64 id) (fun j w h => isJob17 _ _ j w h) call17 ma1 mc1 ms1 wa Z.out.t.at_.m (by omega) j0).mono ?_
                rintro e w10 ⟨rfl, hb⟩
                have ZN := Lib.hid (Z.out.call hb)
                clear hb Z j0 j1 j2 j3 j4 j5 j6
                have Z := ZN
                clear ZN
                obtain ⟨j0, j1, j2, j3, j4, j5, j6⟩ := cells7 Z.out.h8
                obtain ⟨d0, d1, d2, d3, d4⟩ := cells5 Z.out.h7
                obtain ⟨f0, f1, f2, f3, f4⟩ := cells5 Z.out.t.loc.k0
                obtain ⟨p0, p1, p2, p3, p4⟩ := cells5 Z.out.t.p
                obtain ⟨z0, z1, z2, z3, z4⟩ := frz5 Z.out.t.p
                go_wp2_with fail
                go_roundg ((ss.length + ts.length + 1) - (k + 1))
                case measure => rw [G.out]; omega
                case rel => exact ⟨k + 1, tk, _, _, _, _, rfl, (by show k + 1 ≤ ss.length + ts.length + 1; omega), by simp, by simp, Z.out.next rfl, HS3.out, HNR.out.2.2⟩
            · have hki : (ss.length : Int) ≤ (k : Int) := by omega
              have hkd : decide ((k : Int) < (ss.length : Int)) = false := decide_eq_false (by omega)
              obtain ⟨e1, e2, e3⟩ := HST.out.2 (by simp only; omega)
              simp only at e1 e2 e3
              have HE1 := Lib.hid e1
              have HE2 := Lib.hid e2
              have HE3 := Lib.hid e3
              clear e1 e2 e3 HST
              obtain ⟨j0, j1, j2, j3, j4, j5, j6⟩ := cells7 Z.out.h8
              obtain ⟨d0, d1, d2, d3, d4⟩ := cells5 Z.out.h7
              obtain ⟨f0, f1, f2, f3, f4⟩ := cells5 Z.out.t.loc.k0
              obtain ⟨p0, p1, p2, p3, p4⟩ := cells5 Z.out.t.p
              obtain ⟨z0, z1, z2, z3, z4⟩ := frz5 Z.out.t.p
              go_quiet (fail)
              all_goals
                go_wp2_with fail
                refine calls_gen (Φ := fun wy => Hid (UX w wy [.cells #[.int .i64 now, .int .i64 next, .slice ta ts.length tc, .slice sa ss.length sc, .slice ma ms.length mc] 26] P P7 (P7 + 1) ⟨n1, x1, ts1, ss1, ms1⟩ (.slice ta1 ts1.length tc1) (.slice sa1 ss1.length sc1) (.slice ma1 ms1.length mc1) ⟨n2, x2, ts2, ss2, ms2⟩ (.slice ta2 ts2.length tc2) (.slice sa2 ss2.length sc2) (.slice ma2 ms2.length mc2) (.cells #[.int .i64 id, .int .i64 src, .bool small, .string call, .int .i64 ak, .int .i64 an, .string as1] 39))) (by first | exact Z | exact Lib.hid (Z.out.call (below_drewN (Below.refl _ _) _)) | exact Lib.hid (Z.out.call (Below.refl _ _).drew)) ?_
                clear j0 j1 j2 j3 j4 j5 j6 d0 d1 d2 d3 d4 f0 f1 f2 f3 f4 p0 p1 p2 p3 p4 z0 z1 z2 z3 z4 Z
                intro wa Z
                obtain ⟨j0, j1, j2, j3, j4, j5, j6⟩ := cells7 Z.out.h8
                refine (anyT_any 17 (fun t => t.id == id) (P7 + 1) 0 (.int .i64 id) (fun j w h => isJob17 _ _ j w h) call17 ma1 mc1 ms1 wa Z.out.t.at_.m (by omega) j0).mono ?_
                rintro e w10 ⟨rfl, hb⟩
                have ZN := Lib.hid (Z.out.call hb)
                clear hb Z j0 j1 j2 j3 j4 j5 j6
                have Z := ZN
                clear ZN
                obtain ⟨A, hA⟩ : ∃ A, ms1.any (fun t => t.id == id) = A := ⟨_, rfl⟩
                rw [hA] at HE2 HE3 ⊢
                clear hA
                obtain ⟨j0, j1, j2, j3, j4, j5, j6⟩ := cells7 Z.out.h8
                obtain ⟨d0, d1, d2, d3, d4⟩ := cells5 Z.out.h7
                obtain ⟨f0, f1, f2, f3, f4⟩ := cells5 Z.out.t.loc.k0
                obtain ⟨p0, p1, p2, p3, p4⟩ := cells5 Z.out.t.p
                obtain ⟨z0, z1, z2, z3, z4⟩ := frz5 Z.out.t.p
                cases is with
                | false =>
                  have HS3 := Lib.hid (HE3.out (fun h => absurd h.1 (by simp)))
                  go_wp2_with fail
                  go_roundg ((ss.length + ts.length + 1) - (k + 1))
                  case measure => rw [G.out]; omega
                  case rel => exact ⟨k + 1, tk, _, _, _, _, rfl, (by show k + 1 ≤ ss.length + ts.length + 1; omega), by simp, by simp, Z.out.next rfl, HS3.out, HNR.out.2.2⟩
                | true =>
                  have hsm := HE1.out rfl
                  subst hsm
                  cases A with
                  | true =>
                    have HS3 := Lib.hid (HE3.out (fun h => absurd h.2 (by simp)))
                    go_wp2_with fail
                    go_roundg ((ss.length + ts.length + 1) - (k + 1))
                    case measure => rw [G.out]; omega
                    case rel => exact ⟨k + 1, tk, _, _, _, _, rfl, (by show k + 1 ≤ ss.length + ts.length + 1; omega), by simp, by simp, Z.out.next rfl, HS3.out, HNR.out.2.2⟩
                  | false =>
                    obtain ⟨e2, e3⟩ := HE2.out ⟨rfl, rfl⟩
                    have HS3 := Lib.hid e3
                    have htk : tk < ts.length := by
                      rcases Nat.lt_or_ge tk ts.length with h' | h'
                      · exact h'
                      · rw [List.getElem?_eq_none h'] at e2; cases e2
                    have htki : (tk : Int) < (ts.length : Int) := by omega
                    have htkd : decide ((ts.length : Int) ≤ (tk : Int)) = false := decide_eq_false (by omega)
                    obtain ⟨b, o, hb0, hq⟩ := HO.out.t.job tk htk
                    subst hb0
                    have hq2 := hq.below Z.out.t.loc.bl
                    have heq : ts[tk] = ⟨id, src, false, call, ak, an, as1⟩ := by
                      have := List.getElem?_eq_getElem htk
                      rw [this] at e2
                      injection e2
                    simp only at hq2
                    rw [heq] at hq2
                    obtain ⟨q0, q1, q2, q3, q4, q5, q6⟩ := hq2
                    simp only at q0 q1 q2 q3 q4 q5 q6
                    clear hq heq e2 e3
                    have hn := neqJob_same id src false call ak an as1
                    go_upto_region 13 with fail
                    go_quiet (fail)
                    all_goals
                      clear q0 q1 q2 q3 q4 q5 q6 hn
                      go_wp2_with fail
                      go_roundg ((ss.length + ts.length + 1) - (k + 1))
                      case measure => rw [G.out]; omega
                      case rel => exact ⟨k + 1, tk + 1, _, _, _, _, rfl, (by show k + 1 ≤ ss.length + ts.length + 1; omega), by simp, by simp, (Z.out.call (below_drewN (Below.refl _ _) _)).next rfl, HS3.out, HNR.out.2.2⟩
          · have hke : k = (ss.length + ts.length + 1) := by omega
            subst hke
            go_wp2_with fail
            go_ret
            exact ⟨rfl, X.out.loc.bl⟩
  · have hc1 : (c == 0) = false := by simpa using hc0
    have hc2 : (c != 0) = true := by simpa using hc0
    go_wp2_with fail
    refine (lives_any _).mono ?_
    rintro e w7 ⟨rfl, hb7⟩
    have T := Lib.hid (X.out.call hb7)
    clear hb7 X
    go_wp2_with fail
    go_ret
    exact ⟨rfl, T.out.bl⟩
end Go.Proofs.Ytpmklganodlciaa
