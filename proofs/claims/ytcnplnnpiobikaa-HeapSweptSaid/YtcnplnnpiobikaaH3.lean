/- The contract of heap.cell. -/
import Derived.Test.YtcnplnnpiobikaaH2
namespace Go.Proofs.Ytcnplnnpiobikaa
open Go.RowKit

set_option maxRecDepth 100000 in
set_option maxHeartbeats 8000000 in
theorem cell_any (a : Option Addr) (c : Nat) (h : List Cl) (kd : Int) (nms : List ByteArray) (vls : List JV) (na va : Option Addr) (nc vc : Nat) (w : World) (hh : HeapAt w (.slice a h.length c) h) (hn : SlR w StrAt 1 (.slice na nms.length nc) nms) (hv : SlR w JvAt 3 (.slice va vls.length vc) vls) (hl : vls.length ≤ 1000) :
    Calls Try.prog 31 #[.slice a h.length c, .agg #[.int .i64 kd, .slice na nms.length nc, .slice va vls.length vc]] w fun e w' => e = .returned (.bool (cellOk h ⟨kd, nms, vls⟩)) ∧ Below w.heap.size w w' := by
  have HRI := Lib.hid (fun (w6 : World) (hb : Below w.heap.size w w6) => rising_any na nc nms w6 (hn.mono (fun _ _ _ h => kc hb h)))
  obtain ⟨A, hA⟩ : ∃ A, w.heap.size = A := ⟨_, rfl⟩
  have HAN := Lib.hid (fun (w6 : World) (hb : Below w.heap.size w w6) (hp : w6.heap[A]? = some (.cells #[.slice a h.length c] 22 (0, 0))) => anyV_any 42 (fun v => !fits h v) (fun _ => True) (.pointer (some ⟨A, 0, none⟩)) (fun w => HpAt w A a c h) (fun _ _ h hb => h.below hb) (fun j w _ h => misfit_any A a c _ j w h) call42 va vc vls w6 (hv.mono (fun _ _ _ h => h.below hb)) (by omega) (fun _ _ => trivial) ⟨hp, hh.below hb⟩)
  obtain ⟨n1, n2, n3⟩ := SlR.cap hn
  obtain ⟨v1, v2, v3⟩ := SlR.cap hv
  clear hh hn hv
  obtain ⟨R, hR⟩ : ∃ R, cellOk h ⟨kd, nms, vls⟩ = R := ⟨_, rfl⟩
  rw [hR]
  unfold cellOk tailOk at hR
  simp only at hR
  have HR := Lib.hid hR
  clear hR
  have q32 := call32
  have q40 := call40
  have q41 := call41
  have q42 := call42
  go_enter Try.func31, Try.ntmps31
  go_upto_region 1 with fail
  refine code_gen (Φ := fun wy => Hid (Loc w wy [(.cells #[.slice a h.length c] 22 (0, 0)), (.cells #[.int .i64 kd, .slice na nms.length nc, .slice va vls.length vc] 46 (0, 0))])) (Lib.hid (Loc.start2 _ _)) ?_
  intro w3 X
  have HA := Lib.hid hA
  clear hA
  have p0 : w3.cell? ⟨A, 0, none⟩ = some (.slice a h.length c) := (Lib.cell_of_heap (HA.out ▸ X.out.k0) 0).trans rfl
  obtain ⟨c0, c1, c2⟩ := cells3 (HA.out ▸ X.out.k1)
  by_cases h0 : kd = 0
  · subst h0
    by_cases hv0 : 0 < vls.length
    · have hv1 : (0 : Int) < (vls.length : Int) := by omega
      have hr : R = false := by rw [← HR.out, if_pos rfl, if_pos hv0]
      subst hr
      clear HRI HAN
      go_wp2_with fail
      go_ret
      exact ⟨rfl, X.out.bl⟩
    · have hv1 : ¬ ((0 : Int) < (vls.length : Int)) := by omega
      have HR3 := Lib.hid HR.out
      rw [if_pos rfl, if_neg hv0] at HR3
      clear HR
      by_cases hnn : nms.length = 0
      · have hne : ((nms.length : Int) == 0) = true := by rw [hnn]; simp
        have HR4 := Lib.hid (show (risingB nms && !(vls.any fun v => !fits h v)) = R by rw [← HR3.out]; simp [hnn])
        have HNN := Lib.hid hnn
        clear HR3 hnn
        go_wp2_with fail
        refine (HRI.out _ X.out.bl).mono ?_
        rintro e w4 ⟨rfl, hb4⟩
        have Y := Lib.hid (X.out.call hb4)
        clear hb4 X c0 c1 c2 p0 HRI
        generalize risingB nms = B1 at *
        have p0 : w4.cell? ⟨A, 0, none⟩ = some (.slice a h.length c) := (Lib.cell_of_heap (HA.out ▸ Y.out.k0) 0).trans rfl
        obtain ⟨c0, c1, c2⟩ := cells3 (HA.out ▸ Y.out.k1)
        cases B1 with
        | false =>
          have hr : R = false := by rw [← HR4.out]; rfl
          subst hr
          go_wp2_with fail
          go_ret
          exact ⟨by first | rfl | exact ret_bool (by simp), Y.out.bl⟩
        | true =>
          have HR5 := Lib.hid (show (!(vls.any fun v => !fits h v)) = R by rw [← HR4.out]; simp)
          clear HR4
          go_wp2_with fail
          refine (HAN.out w4 Y.out.bl (HA.out ▸ Y.out.k0)).mono ?_
          rintro e w5 ⟨rfl, hb5⟩
          have Z := Lib.hid (Y.out.call hb5)
          clear hb5 Y c0 c1 c2 p0 HAN
          generalize vls.any (fun v => !fits h v) = B2 at *
          cases B2 with
          | true =>
            have hr : R = false := by rw [← HR5.out]; rfl
            subst hr
            go_wp2_with fail
            go_ret
            exact ⟨by first | rfl | exact ret_bool (by simp), Z.out.bl⟩
          | false =>
            have hr : R = true := by rw [← HR5.out]; rfl
            subst hr
            go_wp2_with fail
            go_ret
            exact ⟨by first | rfl | exact ret_bool (by simp), Z.out.bl⟩
      · have hne : ((nms.length : Int) == 0) = false := by rw [beq_eq_false_iff_ne]; omega
        have hr : R = false := by rw [← HR3.out]; simp [hnn]
        subst hr
        clear HRI HAN
        go_wp2_with fail
        go_ret
        exact ⟨by first | rfl | exact ret_bool (by simp), X.out.bl⟩
  have k0 : (kd == 0) = false := by simpa using h0
  by_cases h1 : kd = 1
  · subst h1
    have HR3 := Lib.hid HR.out
    rw [if_neg (by decide), if_pos (.inl rfl)] at HR3
    clear HR
    by_cases hnn : nms.length = 0
    · have hne : ((nms.length : Int) == 0) = true := by rw [hnn]; simp
      have HR4 := Lib.hid (show (risingB nms && !(vls.any fun v => !fits h v)) = R by rw [← HR3.out]; simp [hnn])
      have HNN := Lib.hid hnn
      clear HR3 hnn
      go_wp2_with fail
      refine (HRI.out _ X.out.bl).mono ?_
      rintro e w4 ⟨rfl, hb4⟩
      have Y := Lib.hid (X.out.call hb4)
      clear hb4 X c0 c1 c2 p0 HRI
      generalize risingB nms = B1 at *
      have p0 : w4.cell? ⟨A, 0, none⟩ = some (.slice a h.length c) := (Lib.cell_of_heap (HA.out ▸ Y.out.k0) 0).trans rfl
      obtain ⟨c0, c1, c2⟩ := cells3 (HA.out ▸ Y.out.k1)
      cases B1 with
      | false =>
        have hr : R = false := by rw [← HR4.out]; rfl
        subst hr
        go_wp2_with fail
        go_ret
        exact ⟨by first | rfl | exact ret_bool (by simp), Y.out.bl⟩
      | true =>
        have HR5 := Lib.hid (show (!(vls.any fun v => !fits h v)) = R by rw [← HR4.out]; simp)
        clear HR4
        go_wp2_with fail
        refine (HAN.out w4 Y.out.bl (HA.out ▸ Y.out.k0)).mono ?_
        rintro e w5 ⟨rfl, hb5⟩
        have Z := Lib.hid (Y.out.call hb5)
        clear hb5 Y c0 c1 c2 p0 HAN
        generalize vls.any (fun v => !fits h v) = B2 at *
        cases B2 with
        | true =>
          have hr : R = false := by rw [← HR5.out]; rfl
          subst hr
          go_wp2_with fail
          go_ret
          exact ⟨by first | rfl | exact ret_bool (by simp), Z.out.bl⟩
        | false =>
          have hr : R = true := by rw [← HR5.out]; rfl
          subst hr
          go_wp2_with fail
          go_ret
          exact ⟨by first | rfl | exact ret_bool (by simp), Z.out.bl⟩
    · have hne : ((nms.length : Int) == 0) = false := by rw [beq_eq_false_iff_ne]; omega
      have hr : R = false := by rw [← HR3.out]; simp [hnn]
      subst hr
      clear HRI HAN
      go_wp2_with fail
      go_ret
      exact ⟨by first | rfl | exact ret_bool (by simp), X.out.bl⟩
  have k1 : (kd == 1) = false := by simpa using h1
  by_cases h3 : kd = 3
  · subst h3
    have HR3 := Lib.hid HR.out
    rw [if_neg (by decide), if_pos (.inr rfl)] at HR3
    clear HR
    by_cases hnn : nms.length = 0
    · have hne : ((nms.length : Int) == 0) = true := by rw [hnn]; simp
      have HR4 := Lib.hid (show (risingB nms && !(vls.any fun v => !fits h v)) = R by rw [← HR3.out]; simp [hnn])
      have HNN := Lib.hid hnn
      clear HR3 hnn
      go_wp2_with fail
      refine (HRI.out _ X.out.bl).mono ?_
      rintro e w4 ⟨rfl, hb4⟩
      have Y := Lib.hid (X.out.call hb4)
      clear hb4 X c0 c1 c2 p0 HRI
      generalize risingB nms = B1 at *
      have p0 : w4.cell? ⟨A, 0, none⟩ = some (.slice a h.length c) := (Lib.cell_of_heap (HA.out ▸ Y.out.k0) 0).trans rfl
      obtain ⟨c0, c1, c2⟩ := cells3 (HA.out ▸ Y.out.k1)
      cases B1 with
      | false =>
        have hr : R = false := by rw [← HR4.out]; rfl
        subst hr
        go_wp2_with fail
        go_ret
        exact ⟨by first | rfl | exact ret_bool (by simp), Y.out.bl⟩
      | true =>
        have HR5 := Lib.hid (show (!(vls.any fun v => !fits h v)) = R by rw [← HR4.out]; simp)
        clear HR4
        go_wp2_with fail
        refine (HAN.out w4 Y.out.bl (HA.out ▸ Y.out.k0)).mono ?_
        rintro e w5 ⟨rfl, hb5⟩
        have Z := Lib.hid (Y.out.call hb5)
        clear hb5 Y c0 c1 c2 p0 HAN
        generalize vls.any (fun v => !fits h v) = B2 at *
        cases B2 with
        | true =>
          have hr : R = false := by rw [← HR5.out]; rfl
          subst hr
          go_wp2_with fail
          go_ret
          exact ⟨by first | rfl | exact ret_bool (by simp), Z.out.bl⟩
        | false =>
          have hr : R = true := by rw [← HR5.out]; rfl
          subst hr
          go_wp2_with fail
          go_ret
          exact ⟨by first | rfl | exact ret_bool (by simp), Z.out.bl⟩
    · have hne : ((nms.length : Int) == 0) = false := by rw [beq_eq_false_iff_ne]; omega
      have hr : R = false := by rw [← HR3.out]; simp [hnn]
      subst hr
      clear HRI HAN
      go_wp2_with fail
      go_ret
      exact ⟨by first | rfl | exact ret_bool (by simp), X.out.bl⟩
  have k3 : (kd == 3) = false := by simpa using h3
  by_cases h2 : kd = 2
  · subst h2
    have HR3 := Lib.hid HR.out
    rw [if_neg (by decide), if_neg (by decide), if_pos rfl] at HR3
    clear HR
    by_cases hnn : nms.length = vls.length
    · have hne : ((nms.length : Int) == (vls.length : Int)) = true := by rw [hnn]; simp
      have HR4 := Lib.hid (show (risingB nms && !(vls.any fun v => !fits h v)) = R by rw [← HR3.out]; simp [hnn])
      have HNN := Lib.hid hnn
      clear HR3 hnn
      go_wp2_with fail
      refine (HRI.out _ X.out.bl).mono ?_
      rintro e w4 ⟨rfl, hb4⟩
      have Y := Lib.hid (X.out.call hb4)
      clear hb4 X c0 c1 c2 p0 HRI
      generalize risingB nms = B1 at *
      have p0 : w4.cell? ⟨A, 0, none⟩ = some (.slice a h.length c) := (Lib.cell_of_heap (HA.out ▸ Y.out.k0) 0).trans rfl
      obtain ⟨c0, c1, c2⟩ := cells3 (HA.out ▸ Y.out.k1)
      cases B1 with
      | false =>
        have hr : R = false := by rw [← HR4.out]; rfl
        subst hr
        go_wp2_with fail
        go_ret
        exact ⟨by first | rfl | exact ret_bool (by simp), Y.out.bl⟩
      | true =>
        have HR5 := Lib.hid (show (!(vls.any fun v => !fits h v)) = R by rw [← HR4.out]; simp)
        clear HR4
        go_wp2_with fail
        refine (HAN.out w4 Y.out.bl (HA.out ▸ Y.out.k0)).mono ?_
        rintro e w5 ⟨rfl, hb5⟩
        have Z := Lib.hid (Y.out.call hb5)
        clear hb5 Y c0 c1 c2 p0 HAN
        generalize vls.any (fun v => !fits h v) = B2 at *
        cases B2 with
        | true =>
          have hr : R = false := by rw [← HR5.out]; rfl
          subst hr
          go_wp2_with fail
          go_ret
          exact ⟨by first | rfl | exact ret_bool (by simp), Z.out.bl⟩
        | false =>
          have hr : R = true := by rw [← HR5.out]; rfl
          subst hr
          go_wp2_with fail
          go_ret
          exact ⟨by first | rfl | exact ret_bool (by simp), Z.out.bl⟩
    · have hne : ((nms.length : Int) == (vls.length : Int)) = false := by rw [beq_eq_false_iff_ne]; omega
      have hr : R = false := by rw [← HR3.out]; simp [hnn]
      subst hr
      clear HRI HAN
      go_wp2_with fail
      go_ret
      exact ⟨by first | rfl | exact ret_bool (by simp), X.out.bl⟩
  have k2 : (kd == 2) = false := by simpa using h2
  have hr : R = false := by rw [← HR.out, if_neg h0, if_neg (fun h => h.elim h1 h3), if_neg h2]
  subst hr
  clear HRI HAN
  go_wp2_with fail
  go_ret
  exact ⟨rfl, X.out.bl⟩
end Go.Proofs.Ytcnplnnpiobikaa
