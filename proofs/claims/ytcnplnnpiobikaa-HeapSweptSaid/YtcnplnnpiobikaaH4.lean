/- The contracts of heap.Check, heap.asked. -/
import Derived.Test.YtcnplnnpiobikaaH3
namespace Go.Proofs.Ytcnplnnpiobikaa
open Go.RowKit

def tooMany (c : Cl) : Bool := decide (200 < c.vals.length)
def checkErr (h : List Cl) : Int := if 300 < h.length then 2 else if h.any tooMany then 2 else if h.any (fun c => !cellOk h c) then 3 else 0
def askErr (h : List Cl) (roots : List JV) : Int := if checkErr h = 0 then (if roots.any (fun v => !fits h v) then 1 else 0) else checkErr h
theorem any_drop {α : Type} (p : α → Bool) (l : List α) (k : Nat) (h : k < l.length) : (l.drop k).any p = (p l[k] || (l.drop (k + 1)).any p) := by
  rw [List.drop_eq_getElem_cons h]
  rfl
theorem any_end {α : Type} (p : α → Bool) (l : List α) : (l.drop l.length).any p = false := by rw [List.drop_length]; rfl
theorem call31 (args : Array Value) (w : World) : Sem.run Try.prog (callFunc 31 args) w = .ok (.enter 31 args) w := by go_simp
set_option maxRecDepth 100000 in
set_option maxHeartbeats 8000000 in
theorem check_any (a : Option Addr) (c : Nat) (h : List Cl) (w : World) (hh : HeapAt w (.slice a h.length c) h) :
    Calls Try.prog 18 #[.slice a h.length c] w fun e w' => e = .returned (.int .i64 (checkErr h)) ∧ Below w.heap.size w w' := by
  have HS := Lib.hid hh
  have HCE := Lib.hid (fun (x : Cl) (na va : Option Addr) (nc vc : Nat) (w6 : World) (hb : Below w.heap.size w w6) hn hv hl => cell_any a c h x.kind x.names x.vals na va nc vc w6 (hh.below hb) hn hv hl)
  obtain ⟨q1, q2, q3⟩ := SlR.cap hh
  clear hh
  obtain ⟨R, hR⟩ : ∃ R, checkErr h = R := ⟨_, rfl⟩
  rw [hR]
  unfold checkErr at hR
  have HR := Lib.hid hR
  clear hR
  have q31 := call31
  go_enter Try.func18, Try.ntmps18
  by_cases h3 : 300 < h.length
  · have h3i : (300 : Int) < (h.length : Int) := by omega
    have hr : R = 2 := by rw [← HR.out, if_pos h3]
    subst hr
    go_wp2_with fail
    go_ret
    exact ⟨rfl, Below.refl _ _⟩
  have h3i : ¬ ((300 : Int) < (h.length : Int)) := by omega
  have HR2 := Lib.hid (show (if (h.drop 0).any tooMany then 2 else if h.any (fun c => !cellOk h c) then 3 else 0) = R by rw [← HR.out, if_neg h3]; rfl)
  clear HR
  go_upto_region 4 with fail
  go_loopg [12, 4] h.length (fun g v12 _ wr => ∃ k : Nat, g = h.length - k ∧ k ≤ h.length ∧ v12 = .int .i64 (k : Int) ∧ (if (h.drop k).any tooMany then 2 else if h.any (fun c => !cellOk h c) then 3 else 0) = R ∧ (∀ x ∈ h.take k, x.vals.length ≤ 200) ∧ Below w.heap.size w wr)
  case atStart => exact ⟨0, rfl, Nat.zero_le _, rfl, HR2.out, by simp, Below.refl _ _⟩
  case round =>
    clear HR2
    obtain ⟨k, hg, hk, rfl, hr, hsm, hb⟩ := hrel
    have G := Lib.hid hg
    have HR := Lib.hid hr
    have HSM := Lib.hid hsm
    have HB := Lib.hid hb
    clear hg hr hsm hb
    by_cases hlt : k < h.length
    · have hki : (k : Int) < (h.length : Int) := by omega
      have HAD := Lib.hid (any_drop tooMany h k hlt)
      have HST := Lib.hid (show ∀ x ∈ h.take (k + 1), x ∈ h.take k ∨ x = h[k] from by
        intro x hx
        rw [List.take_add_one, List.getElem?_eq_getElem hlt] at hx
        rcases List.mem_append.1 hx with hx | hx
        · exact .inl hx
        · exact .inr (by simpa using hx))
      obtain ⟨b, o, rfl, hc⟩ := HS.out.item k hlt
      have hc2 := hc.below HB.out
      clear hc
      generalize h[k] = C at *
      obtain ⟨kd, nms, vls⟩ := C
      obtain ⟨na, nc, va, vc, c0, c1, c2, c3, c4⟩ := hc2.ex
      simp only at c0 c1 c2
      have HTM := Lib.hid (show tooMany ⟨kd, nms, vls⟩ = decide (200 < vls.length) from rfl)
      rw [HTM.out] at HAD
      clear hc2 c3 c4
      by_cases hv : 200 < vls.length
      · have hvi : (200 : Int) < (vls.length : Int) := by omega
        have hr : R = 2 := by rw [← HR.out, HAD.out]; simp [hv]
        subst hr
        go_wp2_with fail
        go_ret
        exact ⟨rfl, HB.out.alloc HB.out.size _⟩
      · have hvi : ¬ ((200 : Int) < (vls.length : Int)) := by omega
        have HR3 := Lib.hid (show (if (h.drop (k + 1)).any tooMany then 2 else if h.any (fun c => !cellOk h c) then 3 else 0) = R by rw [← HR.out, HAD.out]; simp [hv])
        have HS3 := Lib.hid (show ∀ x ∈ h.take (k + 1), x.vals.length ≤ 200 from fun x hx => by
          rcases HST.out x hx with h' | h'
          · exact HSM.out x h'
          · rw [h']; exact Nat.le_of_not_lt hv)
        clear HR HAD HST
        go_wp2_with fail
        go_roundg (h.length - (k + 1))
        case measure => have := G.out; omega
        case rel => exact ⟨k + 1, rfl, by omega, by simp, HR3.out, HS3.out, HB.out.alloc HB.out.size _⟩
    · have hke : k = h.length := by omega
      have HSA := Lib.hid (show ∀ x ∈ h, x.vals.length ≤ 200 from fun x hx => HSM.out x (by rw [hke, List.take_length]; exact hx))
      have HR3 := Lib.hid (show (if (h.drop 0).any (fun c => !cellOk h c) then 3 else 0) = R by rw [← HR.out, hke, any_end]; rfl)
      have hnl : ¬ ((k : Int) < (h.length : Int)) := by omega
      have HB0 := HB
      clear HR HSM hke hlt hk G
      go_upto_region 10 with fail
      go_loopg [23, 6] h.length (fun g v23 _ wz => ∃ k : Nat, g = h.length - k ∧ k ≤ h.length ∧ v23 = .int .i64 (k : Int) ∧ (if (h.drop k).any (fun c => !cellOk h c) then 3 else 0) = R ∧ Below w.heap.size w wz)
      case atStart => exact ⟨0, rfl, Nat.zero_le _, rfl, HR3.out, HB.out⟩
      case round =>
        clear HR3 HB HB0 hnl
        obtain ⟨k, hg, hk, rfl, hr, hb⟩ := hrel
        have G := Lib.hid hg
        have HR := Lib.hid hr
        have HB := Lib.hid hb
        clear hg hr hb
        by_cases hlt : k < h.length
        · have hki : (k : Int) < (h.length : Int) := by omega
          have HAD := Lib.hid (any_drop (fun c => !cellOk h c) h k hlt)
          have HVL := Lib.hid (HSA.out h[k] (List.getElem_mem hlt))
          have HCK := Lib.hid (HCE.out h[k])
          obtain ⟨b, o, rfl, hc⟩ := HS.out.item k hlt
          have hc2 := hc.below HB.out
          clear hc
          generalize h[k] = C at *
          generalize cellOk h C = F at *
          obtain ⟨kd, nms, vls⟩ := C
          obtain ⟨na, nc, va, vc, c0, c1, c2, c3, c4⟩ := hc2.ex
          simp only at c0 c1 c2 c3 c4 HVL HCK
          obtain ⟨B, hB⟩ : ∃ B, wr.heap.size = B := ⟨_, rfl⟩
          go_upto_region 12 with fail
          refine code_gen (Φ := fun wy => Hid (Below wr.heap.size wr wy) ∧ Hid (wy.heap[B]? = some (.cells #[.int .i64 kd, .slice na nms.length nc, .slice va vls.length vc] 46 (0, 0)))) ⟨Lib.hid ((Below.refl _ _).alloc (Nat.le_refl _) _), Lib.hid (alloc_at hB _)⟩ ?_
          rintro w6 ⟨Y, YB⟩
          have BW := Lib.hid (HB.out.trans (Below.le Y.out HB.out.size))
          have HC2 := Lib.hid (HCK.out na va nc vc w6 BW.out (c3.mono (fun _ _ _ h => kc Y.out h)) (c4.mono (fun _ _ _ h => h.below Y.out)) (by have := HVL.out; omega))
          clear hB c0 c1 c2 c3 c4 hc2 HCK Y
          obtain ⟨d0, d1, d2⟩ := cells3 YB.out
          go_wp2_with fail
          refine HC2.out.mono ?_
          rintro e w7 ⟨rfl, hb7⟩
          have V := Lib.hid (BW.out.trans (Below.le hb7 BW.out.size))
          clear hb7 HC2 BW d0 d1 d2 YB HB
          cases F with
          | false =>
            have hr : R = 3 := by rw [← HR.out, HAD.out]; rfl
            subst hr
            go_wp2_with fail
            go_ret
            exact ⟨rfl, V.out⟩
          | true =>
            have HR4 := Lib.hid (show (if (h.drop (k + 1)).any (fun c => !cellOk h c) then 3 else 0) = R by rw [← HR.out, HAD.out]; rfl)
            clear HR HAD
            go_wp2_with fail
            go_roundg (h.length - (k + 1))
            case measure => have := G.out; omega
            case rel => exact ⟨k + 1, rfl, by omega, by simp, HR4.out, V.out⟩
        · have hke : k = h.length := by omega
          have hr : R = 0 := by rw [← HR.out, hke, any_end]; rfl
          subst hr
          clear HR
          have hnl : ¬ ((k : Int) < (h.length : Int)) := by omega
          go_wp2_with fail
          go_ret
          exact ⟨rfl, HB.out⟩
set_option maxRecDepth 100000 in
set_option maxHeartbeats 8000000 in
theorem asked_any (a : Option Addr) (c : Nat) (h : List Cl) (ra : Option Addr) (rc : Nat) (roots : List JV) (w : World) (hh : HeapAt w (.slice a h.length c) h) (hr : SlR w JvAt 3 (.slice ra roots.length rc) roots) :
    Calls Try.prog 19 #[.slice a h.length c, .slice ra roots.length rc] w fun e w' => e = .returned (.int .i64 (askErr h roots)) ∧ Below w.heap.size w w' := by
  have HRS := Lib.hid hr
  have HCH := Lib.hid (check_any a c h w hh)
  have HFI := Lib.hid (fun (v : JV) (w6 : World) (hb : Below w.heap.size w w6) => fits_any h a c v w6 (hh.below hb))
  obtain ⟨q1, q2, q3⟩ := SlR.cap hr
  clear hh hr
  obtain ⟨R, hR⟩ : ∃ R, askErr h roots = R := ⟨_, rfl⟩
  rw [hR]
  unfold askErr at hR
  have HR := Lib.hid hR
  clear hR
  generalize checkErr h = E at *
  have q32 := call32
  go_enter Try.func19, Try.ntmps19
  go_wp2_with fail
  refine HCH.out.mono ?_
  rintro e w3 ⟨rfl, hb3⟩
  have X := Lib.hid hb3
  clear hb3 HCH
  by_cases hE0 : E = 0
  · subst hE0
    have HR2 := Lib.hid (show (if (roots.drop 0).any (fun v => !fits h v) then 1 else 0) = R by rw [← HR.out, if_pos rfl]; rfl)
    clear HR
    go_upto_region 5 with fail
    go_loopg [15, 7] roots.length (fun g v15 _ wr => ∃ k : Nat, g = roots.length - k ∧ k ≤ roots.length ∧ v15 = .int .i64 (k : Int) ∧ (if (roots.drop k).any (fun v => !fits h v) then 1 else 0) = R ∧ Below w.heap.size w wr)
    case atStart => exact ⟨0, rfl, Nat.zero_le _, rfl, HR2.out, X.out⟩
    case round =>
      clear HR2 X
      obtain ⟨k, hg, hk, rfl, hr, hb⟩ := hrel
      have G := Lib.hid hg
      have HR := Lib.hid hr
      have HB := Lib.hid hb
      clear hg hr hb
      by_cases hlt : k < roots.length
      · have hki : (k : Int) < (roots.length : Int) := by omega
        have HAD := Lib.hid (any_drop (fun v => !fits h v) roots k hlt)
        have HF1 := Lib.hid (HFI.out roots[k])
        obtain ⟨b, o, rfl, hc⟩ := HRS.out.item k hlt
        have hc2 := hc.below HB.out
        clear hc
        generalize roots[k] = V at *
        generalize fits h V = F at *
        obtain ⟨kk, nn, ss⟩ := V
        obtain ⟨c0, c1, c2⟩ := hc2
        simp only at c0 c1 c2
        have HF2 : Hid (∀ w6, Below w.heap.size w w6 → Calls Try.prog 32 #[.slice a h.length c, .agg #[.int .i64 kk, .int .i64 nn, .string ss]] w6 fun e w' => e = .returned (.bool F) ∧ Below w6.heap.size w6 w') := Lib.hid HF1.out
        clear HF1
        obtain ⟨B, hB⟩ : ∃ B, wr.heap.size = B := ⟨_, rfl⟩
        go_upto_region 7 with fail
        refine code_gen (Φ := fun wy => Hid (Below w.heap.size w wy) ∧ Hid (wy.heap[B]? = some (.cells #[.int .i64 kk, .int .i64 nn, .string ss] 31 (0, 0)))) ⟨Lib.hid (HB.out.alloc HB.out.size _), Lib.hid (alloc_at hB _)⟩ ?_
        rintro w6 ⟨Y, YB⟩
        clear hB c0 c1 c2 HB
        obtain ⟨d0, d1, d2⟩ := cells3 YB.out
        go_wp2_with fail
        refine (HF2.out _ Y.out).mono ?_
        rintro e w7 ⟨rfl, hb7⟩
        have V := Lib.hid (Y.out.trans (Below.le hb7 Y.out.size))
        clear hb7 Y YB d0 d1 d2 HF2
        cases F with
        | false =>
          have hr : R = 1 := by rw [← HR.out, HAD.out]; rfl
          subst hr
          go_wp2_with fail
          go_ret
          exact ⟨rfl, V.out⟩
        | true =>
          have HR4 := Lib.hid (show (if (roots.drop (k + 1)).any (fun v => !fits h v) then 1 else 0) = R by rw [← HR.out, HAD.out]; rfl)
          clear HR HAD
          go_wp2_with fail
          go_roundg (roots.length - (k + 1))
          case measure => have := G.out; omega
          case rel => exact ⟨k + 1, rfl, by omega, by simp, HR4.out, V.out⟩
      · have hke : k = roots.length := by omega
        have hr : R = 0 := by rw [← HR.out, hke, any_end]; rfl
        subst hr
        clear HR
        have hnl : ¬ ((k : Int) < (roots.length : Int)) := by omega
        go_wp2_with fail
        go_ret
        exact ⟨rfl, HB.out⟩
  · have hr : R = E := by rw [← HR.out, if_neg hE0]
    subst hr
    go_wp2_with fail
    go_ret
    exact ⟨rfl, X.out⟩
end Go.Proofs.Ytcnplnnpiobikaa
