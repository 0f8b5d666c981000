/- The law EventPath. -/
import Derived.Test.YtnnckjgafglgeaaDoorE23
import Derived.Test.YtnnckjgafglgeaaDoorL3
namespace Go.Proofs.YtnnckjgafglgeaaDoor
open Go.RowKit

theorem par_cell {w : World} {nodes : List Nd} {aa0 : Option Addr} {c : Nat} (h : DocAt w (.slice aa0 nodes.length c) nodes) {y : Int} (hy : Valid nodes y) : ∃ m b o, y = ((m : Nat) : Int) ∧ m < nodes.length ∧ aa0 = some ⟨b, o, none⟩ ∧ w.cell? ⟨b, o + m * 6 + 4, none⟩ = some (.int .i64 (par nodes y)) := by
  obtain ⟨m, rfl⟩ : ∃ m : Nat, y = (m : Int) := ⟨y.toNat, by have := hy.1; omega⟩
  have hm : m < nodes.length := by have := hy.2; omega
  obtain ⟨b, o, e, hn⟩ := h.item m hm
  obtain ⟨_, _, _, _, _, _, _, _, h4, _⟩ := hn.ex
  refine ⟨m, b, o, rfl, hm, e, ?_⟩
  rw [h4]
  unfold par
  rw [Int.toNat_natCast, List.getElem?_eq_getElem hm]
  rfl
set_option maxRecDepth 100000 in
set_option maxHeartbeats 16000000 in
theorem law_path (nodes : List Nd) (aa0 : Option Addr) (c : Nat) (q : Bool) (n k : Int) (w : World) (h : DocAt w (.slice aa0 nodes.length c) nodes) :
    Calls Tryd.prog 3 #[.agg #[.slice aa0 nodes.length c, .bool q], .int .i64 n, .int .i64 k] w fun e w' => e = .returned (.bool true) ∧ Below w.heap.size w w' := by
  have HS := Lib.hid h
  have HPA := Lib.hid (fun (n : Int) (w6 : World) (hb : Below w.heap.size w w6) => path_any nodes aa0 c q n w6 (DocAt.below h hb))
  have HLI := Lib.hid lives_any
  obtain ⟨hc1, hc2, hc3⟩ := SlR.cap h
  clear h
  have HOK := Lib.hid (@path_ok nodes n)
  have HNO := Lib.hid (@path_no nodes n)
  have HPN := Lib.hid (HPA.out n)
  generalize pathV nodes n = R at *
  obtain ⟨E, p⟩ := R
  simp only at HPN HOK HNO
  go_enter Tryd.func3, Tryd.ntmps3
  obtain ⟨A, hA⟩ : ∃ A, w.heap.size = A := ⟨_, rfl⟩
  go_upto_region 1 with fail
  refine code_gen (Φ := fun wy => Hid (Below w.heap.size w wy) ∧ Hid (wy.heap[A]? = some (.cells #[.slice aa0 nodes.length c, .bool q] 24 (0, 0)))) ⟨Lib.hid ((Below.refl _ _).alloc (Nat.le_refl _) _), Lib.hid (alloc_at hA _)⟩ ?_
  rintro w3 ⟨X, XA⟩
  clear hA
  obtain ⟨c0, c1⟩ := cells2 XA.out
  go_wp2_with fail
  refine (HPN.out _ X.out).mono ?_
  rintro e w4 ⟨v, rfl, hown, hb4⟩
  obtain ⟨pa, pc, rfl⟩ := own_shape hown
  have Y := Lib.hid (X.out.trans (Below.le hb4 X.out.size))
  have YA := Lib.hid ((hb4.block A (lt_of_heap XA.out)).trans XA.out)
  have PS := Lib.hid (own_int hown)
  clear hb4 X XA c0 c1 HPN hown
  go_wp2_with fail
  refine (HLI.out _).mono ?_
  rintro e w5 ⟨rfl, hb5⟩
  have Z := Lib.hid (Y.out.trans (Below.le hb5 Y.out.size))
  have ZA := Lib.hid ((hb5.block A (lt_of_heap YA.out)).trans YA.out)
  have PZ := Lib.hid (PS.out.mono (fun _ _ _ h => kc hb5 h))
  clear hb5 Y YA PS
  by_cases hE0 : E = 0
  · subst hE0
    have OK := Lib.hid (HOK.out rfl)
    clear HOK HNO
    have hlen := OK.out.len
    have hleni : ((p.length : Int) == 0) = false := by rw [beq_eq_false_iff_ne]; omega
    obtain ⟨hp1, hp2, hp3⟩ := SlR.cap PZ.out
    obtain ⟨m, hm⟩ : ∃ m, p.length = m + 1 := ⟨p.length - 1, by omega⟩
    have hs1 : (p.length : Int) - 1 = (m : Int) := by omega
    have hs2 : m < p.length := by omega
    have hs3 : (m : Int) < (p.length : Int) := by omega
    have hs4 : (0 : Int) < (p.length : Int) := by omega
    obtain ⟨b, o, rfl, hi0⟩ := PZ.out.item 0 hlen
    have d0 : w5.cell? ⟨b, o, none⟩ = some (.int .i64 0) := by
      have h0 := OK.out.head
      rw [List.getElem?_eq_getElem hlen] at h0
      injection h0 with h0
      rw [h0] at hi0
      exact hi0
    have d1 : w5.cell? ⟨b, o + m, none⟩ = some (.int .i64 n) := by
      obtain ⟨b', o', e, hi1⟩ := PZ.out.item m hs2
      injection e with e
      injection e with e e2 _
      subst e
      subst e2
      have h0 := OK.out.last
      rw [show p.length - 1 = m by omega, List.getElem?_eq_getElem hs2] at h0
      injection h0 with h0
      rw [h0, Nat.mul_one] at hi1
      exact hi1
    have HM := Lib.hid hm
    clear hm hi0
    go_upto_region 7 with fail
    clear d0 d1
    go_loopg [52, 9, 10] p.length (fun g v52 _ _ wr => ∃ j : Nat, g = p.length - j ∧ j ≤ p.length ∧ v52 = .int .i64 (j : Int) ∧ Below w.heap.size w wr ∧ Below w5.heap.size w5 wr)
    case atStart => exact ⟨0, rfl, Nat.zero_le _, rfl, Z.out, Below.refl _ _⟩
    case round =>
      obtain ⟨j, hg, hj, rfl, hb, hb5⟩ := hrel
      have G := Lib.hid hg
      have HB := Lib.hid hb
      have HB5 := Lib.hid hb5
      clear hg hb hb5
      have RA := Lib.hid ((HB5.out.block A (lt_of_heap ZA.out)).trans ZA.out)
      obtain ⟨c0, c1⟩ := cells2 RA.out
      have HIT := Lib.hid (fun (x : Nat) (hx : x < p.length) => (show wr.cell? ⟨b, o + x, none⟩ = some (.int .i64 p[x]) from by
        obtain ⟨b', o', e, hi1⟩ := PZ.out.item x hx
        injection e with e
        injection e with e e2 _
        subst e
        subst e2
        rw [Nat.mul_one] at hi1
        exact kc HB5.out hi1))
      by_cases hlt : j < p.length
      · have hji : (j : Int) < (p.length : Int) := by omega
        have hy : p[j]? = some p[j] := List.getElem?_eq_getElem hlt
        have dj := HIT.out j hlt
        have hwa := Lib.hid (OK.out.at_ j p[j] hy)
        clear hy
        generalize p[j] = y at *
        obtain ⟨x, b2, o2, rfl, hxl, rfl, dp⟩ := par_cell (DocAt.below HS.out HB.out) hwa.out.val
        have hx0 : ¬ ((x : Int) < 0) := by omega
        have hx1 : ¬ ((nodes.length : Int) ≤ (x : Int)) := by omega
        have hx2 : (x : Int) < (nodes.length : Int) := by omega
        by_cases hj0 : j = 0
        · subst hj0
          rw [Nat.add_zero] at dj
          go_upto_region 9 with fail
          go_cut [83] (fun v83 wx => v83 = .bool false ∧ Below w.heap.size w wx ∧ Below w5.heap.size w5 wx)
          case first =>
            go_quiet (fail)
            all_goals
              go_wp2_with fail
              go_meet
              exact ⟨rfl, below_drewN HB.out _, below_drewN HB5.out _⟩
          case rest =>
            obtain ⟨rfl, hb, hb5⟩ := hcut
            have HB6 := Lib.hid hb
            have HB7 := Lib.hid hb5
            clear hb hb5 c0 c1 dj dp
            go_wp2_with fail
            go_roundg (p.length - (0 + 1))
            case measure => have := G.out; omega
            case rel => exact ⟨0 + 1, rfl, by omega, by simp, HB6.out, HB7.out⟩
        · obtain ⟨i, rfl⟩ : ∃ i, j = i + 1 := ⟨j - 1, by omega⟩
          have hil : i < p.length := by omega
          have hil2 : (i : Int) < (p.length : Int) := by omega
          have di := HIT.out i hil
          have hpi : p[i] = par nodes (x : Int) := by
            have h1 := hwa.out.up i rfl
            rw [← OK.out.eq, List.getElem?_eq_getElem hil] at h1
            injection h1
          rw [hpi] at di
          generalize par nodes (x : Int) = Y at *
          have hi0 : (0 : Int) < (i : Int) + 1 := by omega
          clear hpi
          go_upto_region 9 with fail
          go_cut [83] (fun v83 wx => v83 = .bool false ∧ Below w.heap.size w wx ∧ Below w5.heap.size w5 wx)
          case first =>
            go_quiet (fail)
            all_goals
              go_wp2_with fail
              go_meet
              exact ⟨rfl, below_drewN HB.out _, below_drewN HB5.out _⟩
          case rest =>
            obtain ⟨rfl, hb, hb5⟩ := hcut
            have HB6 := Lib.hid hb
            have HB7 := Lib.hid hb5
            clear hb hb5 c0 c1 dj dp di
            go_wp2_with fail
            go_roundg (p.length - (i + 1 + 1))
            case measure => have := G.out; omega
            case rel => exact ⟨i + 1 + 1, rfl, by omega, by simp, HB6.out, HB7.out⟩
      · have hnl : ¬ ((j : Int) < (p.length : Int)) := by omega
        by_cases hk0 : k < 0
        · go_wp2_with fail
          go_ret
          exact ⟨rfl, HB.out⟩
        obtain ⟨x, rfl⟩ : ∃ x : Nat, k = (x : Int) := ⟨k.toNat, by omega⟩
        by_cases hk1 : (p.length : Int) ≤ (x : Int)
        · go_wp2_with fail
          go_ret
          exact ⟨rfl, HB.out⟩
        have hxl : x < p.length := by omega
        have hxi : (x : Int) < (p.length : Int) := by omega
        have dx := HIT.out x hxl
        have HSUB := Lib.hid (OK.out.sub x hxl)
        have HPX := Lib.hid (HPA.out p[x])
        rw [HSUB.out] at HPX
        generalize p[x] = y at *
        have htl : (p.take (x + 1)).length = x + 1 := by rw [List.length_take]; omega
        have HTK := Lib.hid (PZ.out.take (x + 1) (by omega))
        rw [htl] at HTK
        simp only at HPX
        rw [htl] at HPX
        clear htl
        go_upto_region 14 with fail
        go_region_law ((go_simp; go_at_call 8; refine calls_gen (Φ := fun wy => Hid (Below w.heap.size w wy) ∧ Hid (Below wr.heap.size wr wy)) (by first | exact ⟨HB, Lib.hid (Below.refl _ _)⟩ | exact ⟨Lib.hid (below_drew HB.out), Lib.hid (below_drew (Below.refl _ _))⟩) ?_; rintro w6 ⟨V, V2⟩; refine (HPX.out _ V.out).mono ?_; rintro e w7 ⟨v, rfl, hown, hb7⟩; obtain ⟨qa, qc, rfl⟩ := own_shape hown; have V7 := Lib.hid (V.out.trans (Below.le hb7 V.out.size)); have V8 := Lib.hid (V2.out.trans (Below.le hb7 V2.out.size)); have QS : Hid (SlR w7 IntAt 1 (.slice qa (x + 1) qc) (p.take (x + 1))) := (by have h1 := own_int (l := p.take (x + 1)) (by rw [List.length_take, Nat.min_eq_left (by omega)]; exact hown); exact Lib.hid h1); clear hown hb7))
        all_goals
          have HEQ : Hid (∀ w8, Below w7.heap.size w7 w8 → Calls Tryd.prog 10 #[.slice qa (x + 1) qc, .slice (some ⟨b, o, none⟩) (x + 1) pc] w8 fun e w' => e = .returned (.bool true) ∧ Below w8.heap.size w8 w') := Lib.hid (fun w8 hb => by
            have h1 := eqI_any qa (some ⟨b, o, none⟩) qc pc (p.take (x + 1)) w8 (by rw [List.length_take, Nat.min_eq_left (by omega)]; exact QS.out.mono (fun _ _ _ h => kc hb h)) (by rw [List.length_take, Nat.min_eq_left (by omega)]; exact HTK.out.mono (fun _ _ _ h => kc hb (kc V8.out (kc HB5.out h))))
            rw [List.length_take, Nat.min_eq_left (by omega)] at h1
            exact h1)
          have k1 : (0 : Int) ≤ (x : Int) + 1 := by omega
          have k2 : (x : Int) + 1 ≤ (p.length : Int) := by omega
          have k3 : (x : Int) + 1 ≤ (pc : Int) := by omega
          have k4 : x + 1 ≤ p.length := by omega
          have k5 : x + 1 ≤ pc := by omega
          go_wp2_with fail
          refine (HEQ.out _ (Below.refl _ _)).mono ?_
          rintro e w8 ⟨rfl, hb8⟩
          have V9 := Lib.hid (V7.out.trans (Below.le hb8 V7.out.size))
          clear hb8 HEQ
          go_wp2_with fail
          go_ret
          exact ⟨rfl, V9.out⟩
  · have hp : p = [] := HNO.out hE0
    subst hp
    go_wp2_with fail
    refine (HLI.out _).mono ?_
    rintro e w6 ⟨rfl, hb6⟩
    have V := Lib.hid (Z.out.trans (Below.le hb6 Z.out.size))
    clear hb6
    go_wp2_with fail
    go_ret
    exact ⟨rfl, V.out⟩
end Go.Proofs.YtnnckjgafglgeaaDoor
