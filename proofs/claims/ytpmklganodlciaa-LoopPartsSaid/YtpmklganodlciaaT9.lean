/- slices.IndexFunc and ContainsFunc over timers, with a closure that has caught one variable. -/
import Derived.Test.YtpmklganodlciaaT4
namespace Go.Proofs.Ytpmklganodlciaa
open Go.RowKit

set_option maxRecDepth 100000 in
set_option maxHeartbeats 4000000 in
theorem idxT_any (f : Nat) (p : Tim → Bool) (b0 o0 : Nat) (x0 : Value) (H : ∀ (j : Tim) (w : World), w.cell? ⟨b0, o0, none⟩ = some x0 → Calls Try.prog f #[j.v, .pointer (some ⟨b0, 0, none⟩)] w fun e w' => e = .returned (.bool (p j)) ∧ Below w.heap.size w w')
    (HF : ∀ (args : Array Value) (w : World), Sem.run Try.prog (callFunc f args) w = .ok (.enter f args) w)
    (a : Option Addr) (c : Nat) (l : List Tim) (w : World) (h : Sl w Tim.c 5 (.slice a l.length c) l) (hl : l.length ≤ 100000) (hx0 : w.cell? ⟨b0, o0, none⟩ = some x0) :
    Calls Try.prog 18 #[.slice a l.length c, .func (.func f) #[] #[.pointer (some ⟨b0, 0, none⟩)]] w fun e w' => e = .returned (.int .i64 (idxP p l)) ∧ Below w.heap.size w w' := by
  have HH := Lib.hid H
  have HS := Lib.hid h
  have HX0 := Lib.hid hx0
  clear H h hx0
  go_enter Try.func18, Try.ntmps18
  go_wp2_with fail
  go_loopg [8] l.length (fun n vk wr => ∃ k : Nat, n = l.length - k ∧ k ≤ l.length ∧ vk = .int .i64 (k : Int) ∧ (∀ x ∈ l.take k, p x = false) ∧ Below w.heap.size w wr)
  case atStart => exact ⟨0, rfl, Nat.zero_le _, rfl, by simp, Below.refl _ _⟩
  case round =>
    obtain ⟨k, hg, hk, rfl, hno, hb⟩ := hrel
    have G := Lib.hid hg
    have HN := Lib.hid hno
    have HB := Lib.hid hb
    clear hg hno hb
    by_cases hlt : k < l.length
    · have h1 : (k : Int) < (l.length : Int) := by omega
      have h1' : (l.length : Int) ≤ 100000 := by omega
      obtain ⟨b, o, rfl, hja⟩ := HS.out.tim k hlt
      have hdr := idxP_drop p l k hk HN.out
      have hsn : ∀ x ∈ l.take (k + 1), x ∈ l.take k ∨ x = l[k] := by
        intro x hx
        rw [List.take_add_one, List.getElem?_eq_getElem hlt] at hx
        rcases List.mem_append.1 hx with hx | hx
        · exact .inl hx
        · exact .inr (by simpa using hx)
      rw [List.drop_eq_getElem_cons hlt] at hdr
      generalize l[k] = J at *
      have HD := Lib.hid hdr
      have HSN := Lib.hid hsn
      clear hdr hsn
      have hca := fun w h => HH.out J w h
      obtain ⟨id, ta, te, tt, call⟩ := J
      obtain ⟨c0, c1, c2, c3, c4⟩ := hja.below HB.out
      simp only at c0 c1 c2 c3 c4
      have HCA : Hid (∀ w, w.cell? ⟨b0, o0, none⟩ = some x0 → Calls Try.prog f #[.agg #[.int .i64 id, .int .i64 ta, .int .i64 te, .int .i64 tt, .string call], .pointer (some ⟨b0, 0, none⟩)] w fun e w' => e = .returned (.bool (p ⟨id, ta, te, tt, call⟩)) ∧ Below w.heap.size w w') := Lib.hid hca
      clear hca
      obtain ⟨B, hB⟩ : ∃ B, p ⟨id, ta, te, tt, call⟩ = B := ⟨_, rfl⟩
      rw [hB] at HCA
      have HPB := Lib.hid hB
      clear hB
      go_wp2_with fail
      refine (HCA.out _ (kc HB.out HX0.out)).mono ?_
      rintro e w2 ⟨rfl, hb2⟩
      have B2 : Hid (Below w.heap.size w w2) := Lib.hid (HB.out.trans (Below.le hb2 HB.out.size))
      clear hb2 c0 c1 c2 c3 c4 hja
      cases B with
      | true =>
        go_wp2_with fail
        go_ret
        refine ⟨?_, B2.out⟩
        rw [HD.out]
        unfold idxP
        rw [HPB.out]
        simp
      | false =>
        go_wp2_with fail
        go_roundg (l.length - (k + 1))
        case measure => rw [G.out]; omega
        case rel =>
          refine ⟨k + 1, rfl, by omega, by simp, ?_, B2.out⟩
          intro x hx
          rcases HSN.out x hx with h | h
          · exact HN.out x h
          · rw [h]; exact HPB.out
    · have hke : k = l.length := by omega
      have hdr := idxP_drop p l k hk HN.out
      rw [hke, List.drop_length] at hdr
      have HD := Lib.hid hdr
      clear hdr
      go_wp2_with fail
      go_ret
      exact ⟨by rw [HD.out]; rfl, HB.out⟩
set_option maxRecDepth 100000 in
set_option maxHeartbeats 2000000 in
theorem anyT_any (f : Nat) (p : Tim → Bool) (b0 o0 : Nat) (x0 : Value) (H : ∀ (j : Tim) (w : World), w.cell? ⟨b0, o0, none⟩ = some x0 → Calls Try.prog f #[j.v, .pointer (some ⟨b0, 0, none⟩)] w fun e w' => e = .returned (.bool (p j)) ∧ Below w.heap.size w w')
    (HF : ∀ (args : Array Value) (w : World), Sem.run Try.prog (callFunc f args) w = .ok (.enter f args) w)
    (a : Option Addr) (c : Nat) (l : List Tim) (w : World) (h : Sl w Tim.c 5 (.slice a l.length c) l) (hl : l.length ≤ 100000) (hx0 : w.cell? ⟨b0, o0, none⟩ = some x0) :
    Calls Try.prog 16 #[.slice a l.length c, .func (.func f) #[] #[.pointer (some ⟨b0, 0, none⟩)]] w fun e w' => e = .returned (.bool (l.any p)) ∧ Below w.heap.size w w' := by
  have HX := Lib.hid (idxT_any f p b0 o0 x0 H HF a c l w h hl hx0)
  have HA := Lib.hid (idxP_any p l)
  clear H HF h hx0
  go_enter Try.func16, Try.ntmps16
  go_wp2_with fail
  refine HX.out.mono ?_
  rintro e w2 ⟨rfl, hb2⟩
  go_wp2_with fail
  go_ret
  exact ⟨by rw [← HA.out]; rfl, hb2⟩
theorem call41 (args : Array Value) (w : World) : Sem.run Try.prog (callFunc 41 args) w = .ok (.enter 41 args) w := by go_simp
set_option maxRecDepth 100000 in
set_option maxHeartbeats 2000000 in
/-- What is taken away: the timer of this number. -/
theorem isId_any (b : Nat) (n : Int) (t : Tim) (w : World) (h : w.cell? ⟨b, 7, none⟩ = some (.int .i64 n)) : Calls Try.prog 41 #[t.v, .pointer (some ⟨b, 0, none⟩)] w fun e w' => e = .returned (.bool (t.id == n)) ∧ Below w.heap.size w w' := by
  obtain ⟨id, ta, te, tt, call⟩ := t
  have hlt : b < w.heap.size := by
    rcases Nat.lt_or_ge b w.heap.size with h' | h'
    · exact h'
    · simp [World.cell?, Array.getElem?_eq_none h'] at h
  show Calls Try.prog 41 #[.agg #[.int .i64 id, .int .i64 ta, .int .i64 te, .int .i64 tt, .string call], .pointer (some ⟨b, 0, none⟩)] w _
  go_enter Try.func41, Try.ntmps41
  go_wp2_with fail
  go_ret
  exact ⟨rfl, (Below.refl _ _).alloc (Nat.le_refl _) _⟩
end Go.Proofs.Ytpmklganodlciaa
