/- HeapMoved, walked. -/
import Derived.Test.YtcnplnnpiobikaaP3
import Derived.Test.YtcnplnnpiobikaaH19
namespace Go.Proofs.Ytcnplnnpiobikaa
open Go.RowKit

theorem call12 (args : Array Value) (w : World) : Sem.run Try.prog (callFunc 12 args) w = .ok (.enter 12 args) w := by go_simp
set_option maxRecDepth 100000 in
set_option maxHeartbeats 16000000 in
theorem law_moved (a : Option Addr) (c : Nat) (h : List Cl) (ra : Option Addr) (rc : Nat) (roots : List JV) (w : World) (hh : HeapAt w (.slice a h.length c) h) (hr : SlR w JvAt 3 (.slice ra roots.length rc) roots) (hz : roots.length * 32 ≤ 140737488351232) :
    Calls Try.prog 4 #[.slice a h.length c, .slice ra roots.length rc] w fun e w' => e = .returned (.bool true) ∧ Below w.heap.size w w' := by
  have HH := Lib.hid hh
  have HRS := Lib.hid hr
  have HZ := Lib.hid hz
  have HMV := Lib.hid (move_any a c h ra rc roots w hh hr hz)
  obtain ⟨q1, q2, q3⟩ := SlR.cap hh
  obtain ⟨r1, r2, r3⟩ := SlR.cap hr
  clear hh hr hz
  rw [moveV_err] at HMV
  have HEM := Lib.hid (fun (h0 : askErr h roots ≠ 0) => (show (moveV h roots).cells = [] by unfold moveV; rw [if_neg h0]))
  have F1 := Lib.hid (fun (h0 : askErr h roots = 0) => moved_ask h0)
  have F2 := Lib.hid (fun (h0 : askErr h roots = 0) => moved_walk h0)
  have F3 := Lib.hid (fun (h0 : askErr h roots = 0) => moved_again h0)
  have F4 := Lib.hid (fun (h0 : askErr h roots = 0) => moved_len h0)
  have F5 := Lib.hid (fun (h0 : askErr h roots = 0) => moved_alike h0)
  have p10 := call10
  have p9 := call9
  have p8 := call8
  have p11 := call11
  have p12 := call12
  have p13 := call13
  have p14 := call14
  generalize moveV h roots = R at *
  obtain ⟨RE, M, Q⟩ := R
  simp only at HMV HEM F1 F2 F3 F4 F5
  generalize askErr h roots = E at *
  go_enter Try.func4, Try.ntmps4
  go_wp2_with fail
  refine HMV.out.mono ?_
  rintro e w1 ⟨cv, rv, rfl, hm1, hq1, hb1⟩
  obtain ⟨ca, cc, rfl, _⟩ := id hm1
  obtain ⟨qa, qc, rfl, _⟩ := id hq1
  have X1 := Lib.hid hb1
  have M1 := Lib.hid hm1
  have Q1 := Lib.hid hq1
  obtain ⟨s1, s2, s3⟩ := SlR.cap hm1
  obtain ⟨t1, t2, t3⟩ := SlR.cap hq1
  clear hb1 hm1 hq1 HMV
  go_wp2_with fail
  refine (lives_any w1).mono ?_
  rintro e w2 ⟨rfl, hb⟩
  have X2 := Lib.hid (X1.out.trans (Below.le hb X1.out.size))
  have M2 := Lib.hid (M1.out.below hb)
  have Q2 := Lib.hid (Q1.out.mono (fun _ _ _ h => h.below hb))
  clear hb X1 M1 Q1
  by_cases hE0 : E = 0
  · subst hE0
    have G1 := Lib.hid (F1.out rfl)
    have G2 := Lib.hid (F2.out rfl)
    have G3 := Lib.hid (F3.out rfl)
    have G4 := Lib.hid (F4.out rfl)
    have G5 := Lib.hid (F5.out rfl)
    clear F1 F2 F3 F4 F5 HEM
    go_wp2_with fail
    have HRE := reach_any ca cc M qa qc Q w2 M2.out Q2.out
    unfold reachV at HRE
    rw [if_pos G1.out] at HRE
    have HL := sort_len (walkF M Q)
    rw [G2.out] at HL
    simp only at HRE
    generalize sortI (walkF M Q) = L at *
    rw [HL] at HRE
    refine HRE.mono ?_
    clear HRE
    rintro e w3 ⟨lv, rfl, ol3, hb⟩
    obtain ⟨la, lc, rfl⟩ := own_shape ol3
    have X3 := Lib.hid (X2.out.trans (Below.le hb X2.out.size))
    have M3 := Lib.hid (M2.out.below hb)
    have Q3 := Lib.hid (Q2.out.mono (fun _ _ _ h => h.below hb))
    clear hb X2 M2 Q2 ol3 HL
    go_wp2_with fail
    have HMV := move_any ca cc M qa qc Q w3 M3.out Q3.out (by rw [G4.out]; exact HZ.out)
    rw [moveV_err, G1.out, G3.out] at HMV
    simp only at HMV
    refine HMV.mono ?_
    clear HMV
    rintro e w4 ⟨cv, rv, rfl, hm4, hq4, hb⟩
    obtain ⟨cb, cd, rfl, _⟩ := id hm4
    obtain ⟨qb, qd, rfl, _⟩ := id hq4
    have X4 := Lib.hid (X3.out.trans (Below.le hb X3.out.size))
    have M4 := Lib.hid (M3.out.below hb)
    have Q4 := Lib.hid (Q3.out.mono (fun _ _ _ h => h.below hb))
    have N4 := Lib.hid hm4
    have S4 := Lib.hid hq4
    clear hb X3 M3 Q3 hm4 hq4
    go_wp2_with fail
    have HOK := ok_any (some ⟨w4.heap.size, 0, none⟩) 2 [0, 0] (w4.alloc (.cells #[.int .i64 0, .int .i64 0] 25)) (ints_block (alloc_at rfl _) rfl (by simp [maxLen]))
    refine HOK.mono ?_
    clear HOK
    rintro e w5 ⟨rfl, hb⟩
    have B5 := (((Below.refl w4.heap.size w4).alloc (Nat.le_refl _) (.cells #[.int .i64 0, .int .i64 0] 25)).trans (Below.le hb (al_le (Nat.le_refl _) _)))
    have X5 := Lib.hid (X4.out.trans (Below.le B5 X4.out.size))
    have M5 := Lib.hid (M4.out.below B5)
    have Q5 := Lib.hid (Q4.out.mono (fun _ _ _ h => h.below B5))
    have N5 := Lib.hid (N4.out.below B5)
    have S5 := Lib.hid (S4.out.mono (fun _ _ _ h => h.below B5))
    clear hb B5 X4 M4 Q4 N4 S4
    go_wp2_with fail
    have HSC := sameCells_any cb ca cd cc M M w5 N5.out M5.out
    rw [decide_eq_true rfl] at HSC
    refine HSC.mono ?_
    clear HSC
    rintro e w6 ⟨rfl, hb⟩
    have X6 := Lib.hid (X5.out.trans (Below.le hb X5.out.size))
    have M6 := Lib.hid (M5.out.below hb)
    have Q6 := Lib.hid (Q5.out.mono (fun _ _ _ h => h.below hb))
    have S6 := Lib.hid (S5.out.mono (fun _ _ _ h => h.below hb))
    clear hb X5 M5 Q5 N5 S5
    go_wp2_with fail
    have HEV := eqV_any qa qb qc qd Q Q w6 Q6.out S6.out
    rw [decide_eq_true rfl] at HEV
    refine HEV.mono ?_
    clear HEV
    rintro e w7 ⟨rfl, hb⟩
    have X7 := Lib.hid (X6.out.trans (Below.le hb X6.out.size))
    have M7 := Lib.hid (M6.out.below hb)
    have Q7 := Lib.hid (Q6.out.mono (fun _ _ _ h => h.below hb))
    clear hb X6 M6 Q6 S6
    have hql := G4.out
    rw [hql]
    clear hql
    go_wp2_with fail
    go_loopg [81] roots.length (fun n vk wr => ∃ k : Nat, n = roots.length - k ∧ k ≤ roots.length ∧ vk = .int .i64 (k : Int) ∧ Below w7.heap.size w7 wr)
    case atStart => exact ⟨0, rfl, Nat.zero_le _, rfl, Below.refl _ _⟩
    case round =>
      obtain ⟨k, hg, hk, rfl, hb⟩ := hrel
      have G := Lib.hid hg
      have Y := Lib.hid hb
      have X8 := Lib.hid (X7.out.trans (Below.le hb X7.out.size))
      clear hg hb
      by_cases hlt : k < roots.length
      · have hki : (k : Int) < (roots.length : Int) := by omega
        have hlt2 : k < Q.length := by have := G4.out; omega
        obtain ⟨b, o, rfl, hi⟩ := HRS.out.item k hlt
        obtain ⟨b2, o2, rfl, hi2⟩ := Q7.out.item k hlt2
        have HAL := Lib.hid (G5.out k hlt hlt2)
        have hi' := hi.below X8.out
        have hi2' := hi2.below Y.out
        clear hi hi2
        generalize roots[k] = J at *
        generalize Q[k] = K at *
        clear hlt2
        have HAK := Lib.hid (fun (w9 : World) (hb : Below wr.heap.size wr w9) => alike_any a c h J ca cc M K w9 ((HH.out.below X8.out).below hb) ((M7.out.below Y.out).below hb))
        rw [HAL.out] at HAK
        obtain ⟨jk, jn, js⟩ := J
        obtain ⟨kk, kn, ks⟩ := K
        obtain ⟨c0, c1, c2⟩ := hi'
        obtain ⟨d0, d1, d2⟩ := hi2'
        simp only at c0 c1 c2 d0 d1 d2
        have HAK2 : Hid (∀ w9, Below wr.heap.size wr w9 → Calls Try.prog 14 #[.slice a h.length c, .agg #[.int .i64 jk, .int .i64 jn, .string js], .slice ca M.length cc, .agg #[.int .i64 kk, .int .i64 kn, .string ks]] w9 fun e w' => e = .returned (.tuple #[.bool true, .int .i64 0]) ∧ Below w9.heap.size w9 w') := Lib.hid HAK.out
        have CB := Lib.hid (Below.refl wr.heap.size wr)
        clear HAK HAL
        go_upto_region 11 with fail
        go_region_law (first
          | (go_simp; go_at_call 14; refine (HAK2.out _ (by first | exact CB.out | exact below_drew CB.out)).mono ?_; rintro e w25 ⟨rfl, hb⟩; have CB := Lib.hid (Below.trans (show Below wr.heap.size wr _ from by first | exact CB.out | exact below_drew CB.out) (Below.le hb (show wr.heap.size ≤ _ from CB.out.size))); clear hb))
        all_goals
          clear c0 c1 c2 d0 d1 d2 HAK2
          go_wp2_with fail
          go_roundg (roots.length - (k + 1))
          case measure => rw [G.out]; omega
          case rel => exact ⟨k + 1, rfl, by omega, by simp, Y.out.trans (Below.le (by first | exact CB.out | exact below_drew CB.out | exact below_drewN CB.out _) Y.out.size)⟩
      · have hke : k = roots.length := by omega
        have hnl : ¬ ((k : Int) < (roots.length : Int)) := by omega
        clear hke hlt
        go_wp2_with fail
        go_ret
        exact ⟨rfl, X8.out⟩
  · have hEb : (E == 0) = false := by simpa using hE0
    have hM := HEM.out hE0
    subst hM
    clear hE0 F1 F2 F3 F4 F5
    go_wp2_with fail
    refine (lives_any w2).mono ?_
    rintro e w3 ⟨rfl, hb⟩
    have X3 := Lib.hid (X2.out.trans (Below.le hb X2.out.size))
    clear hb
    go_wp2_with fail
    go_ret
    exact ⟨rfl, X3.out⟩
end Go.Proofs.Ytcnplnnpiobikaa
