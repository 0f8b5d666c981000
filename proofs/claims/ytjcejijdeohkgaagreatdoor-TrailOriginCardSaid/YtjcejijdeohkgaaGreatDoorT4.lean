/- slices.IndexFunc and ContainsFunc over entries. -/
import Derived.Test.YtjcejijdeohkgaaGreatDoorT3
namespace Go.Proofs.YtjcejijdeohkgaaGreatDoor
open Go.RowKit

set_option maxRecDepth 100000 in
set_option maxHeartbeats 4000000 in
theorem idxE_any (f : Nat) (p : En → Bool) (H : ∀ (j : En) (w : World), TB w → Calls Tryz.prog f #[j.v] w fun e w' => e = .returned (.bool (p j)) ∧ Below w.heap.size w w')
    (HF : ∀ (args : Array Value) (w : World), Sem.run Tryz.prog (callFunc f args) w = .ok (.enter f args) w)
    (a : Option Addr) (c : Nat) (l : List En) (w : World) (h : SlR w EnB 3 (.slice a l.length c) l) (hT : TB w) :
    Calls Tryz.prog 112 #[.slice a l.length c, .func (.func f) #[] #[]] w fun e w' => e = .returned (.int .i64 (idxP p l)) ∧ Below w.heap.size w w' := by
  have HH := Lib.hid H
  have HS := Lib.hid h
  have HTB := Lib.hid hT
  obtain ⟨q1, q2, q3⟩ := SlR.cap h
  clear H h hT
  go_enter Tryz.func112, Tryz.ntmps112
  go_wp2_with fail
  go_loopg [8] l.length (fun n vk wr => ∃ k : Nat, n = l.length - k ∧ k ≤ l.length ∧ vk = .int .i64 (k : Int) ∧ (∀ x ∈ l.take k, p x = false) ∧ Below w.heap.size w wr)
  case atStart => exact ⟨0, rfl, Nat.zero_le _, rfl, by simp, Below.refl _ _⟩
  case round =>
    obtain ⟨k, hg, hk, rfl, hno, hb⟩ := hrel
    have G := Lib.hid hg
    have HN := Lib.hid hno
    have HB := Lib.hid hb
    clear hg hno hb
    by_cases hlt : k < l.length
    · have h1 : (k : Int) < (l.length : Int) := by omega
      obtain ⟨b, o, rfl, hja⟩ := HS.out.item k hlt
      have hdr := idxP_drop p l k hk HN.out
      have hsn : ∀ x ∈ l.take (k + 1), x ∈ l.take k ∨ x = l[k] := by
        intro x hx
        rw [List.take_add_one, List.getElem?_eq_getElem hlt] at hx
        rcases List.mem_append.1 hx with hx | hx
        · exact .inl hx
        · exact .inr (by simpa using hx)
      rw [List.drop_eq_getElem_cons hlt] at hdr
      generalize l[k] = J at *
      have HD := Lib.hid hdr
      have HSN := Lib.hid hsn
      clear hdr hsn
      obtain ⟨c0, c1, c2⟩ := hja.below HB.out
      have HCA := Lib.hid (fun w9 hT9 => HH.out J w9 hT9)
      simp only [En.v] at HCA
      obtain ⟨B, hB⟩ : ∃ B, p J = B := ⟨_, rfl⟩
      rw [hB] at HCA
      have HPB := Lib.hid hB
      clear hB
      go_wp2_with fail
      refine (HCA.out _ (HTB.out.below HB.out)).mono ?_
      rintro e w2 ⟨rfl, hb2⟩
      have B2 : Hid (Below w.heap.size w w2) := Lib.hid (HB.out.trans (Below.le hb2 HB.out.size))
      clear hb2 c0 c1 c2 hja
      cases B with
      | true =>
        go_wp2_with fail
        go_ret
        refine ⟨?_, B2.out⟩
        rw [HD.out]
        unfold idxP
        rw [HPB.out]
        simp
      | false =>
        go_wp2_with fail
        go_roundg (l.length - (k + 1))
        case measure => rw [G.out]; omega
        case rel =>
          refine ⟨k + 1, rfl, by omega, by simp, ?_, B2.out⟩
          intro x hx
          rcases HSN.out x hx with h | h
          · exact HN.out x h
          · rw [h]; exact HPB.out
    · have hke : k = l.length := by omega
      have hdr := idxP_drop p l k hk HN.out
      rw [hke, List.drop_length] at hdr
      have HD := Lib.hid hdr
      clear hdr
      go_wp2_with fail
      go_ret
      exact ⟨by rw [HD.out]; rfl, HB.out⟩
theorem call112 (args : Array Value) (w : World) : Sem.run Tryz.prog (callFunc 112 args) w = .ok (.enter 112 args) w := by go_simp
set_option maxRecDepth 100000 in
set_option maxHeartbeats 2000000 in
theorem anyE_any (f : Nat) (p : En → Bool) (H : ∀ (j : En) (w : World), TB w → Calls Tryz.prog f #[j.v] w fun e w' => e = .returned (.bool (p j)) ∧ Below w.heap.size w w')
    (HF : ∀ (args : Array Value) (w : World), Sem.run Tryz.prog (callFunc f args) w = .ok (.enter f args) w)
    (a : Option Addr) (c : Nat) (l : List En) (w : World) (h : SlR w EnB 3 (.slice a l.length c) l) (hT : TB w) :
    Calls Tryz.prog 80 #[.slice a l.length c, .func (.func f) #[] #[]] w fun e w' => e = .returned (.bool (l.any p)) ∧ Below w.heap.size w w' := by
  have p112 := call112
  have HX := Lib.hid (idxE_any f p H HF a c l w h hT)
  have HA := Lib.hid (idxP_any p l)
  clear H HF h hT
  go_enter Tryz.func80, Tryz.ntmps80
  go_wp2_with fail
  refine HX.out.mono ?_
  rintro e w2 ⟨rfl, hb2⟩
  go_wp2_with fail
  go_ret
  exact ⟨by rw [← HA.out]; rfl, hb2⟩
end Go.Proofs.YtjcejijdeohkgaaGreatDoor
