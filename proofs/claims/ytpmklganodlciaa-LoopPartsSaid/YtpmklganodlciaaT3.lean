/- slices.IndexFunc and ContainsFunc over jobs; Check's two tests of a job. -/
import Derived.Test.YtpmklganodlciaaT2
namespace Go.Proofs.Ytpmklganodlciaa
open Go.RowKit

def Job.v (j : Job) : Value := .agg #[.int .i64 j.id, .int .i64 j.src, .bool j.small, .string j.call, .int .i64 j.ak, .int .i64 j.an, .string j.as_]
def within (n l h : Int) : Bool := decide (l ≤ n) && decide (n ≤ h)
def badTask (j : Job) : Bool := j.small || !within j.src 1 4
def badSmall (j : Job) : Bool := !j.small || j.src != 0
/-- The first place that meets it; -1: none. -/
def idxP {α : Type} (p : α → Bool) : List α → Int
  | [] => -1
  | x :: l => if p x then 0 else if idxP p l = -1 then -1 else idxP p l + 1
theorem idxP_ge {α : Type} (p : α → Bool) : ∀ l, -1 ≤ idxP p l
  | [] => by simp [idxP]
  | x :: l => by
    have := idxP_ge p l
    unfold idxP
    split
    · omega
    · split <;> omega
theorem idxP_any {α : Type} (p : α → Bool) : ∀ l, decide (0 ≤ idxP p l) = l.any p
  | [] => by simp [idxP]
  | x :: l => by
    have ih := idxP_any p l
    have hg := idxP_ge p l
    unfold idxP
    rw [List.any_cons, ← ih]
    cases hp : p x with
    | true => simp
    | false =>
      simp only [Bool.false_or]
      split
      · simp at *
      · split
        · rename_i h; simp [h]
        · rw [decide_eq_decide]; omega
/-- Where the places ahead do not meet it. -/
theorem idxP_drop {α : Type} (p : α → Bool) : ∀ (l : List α) (k : Nat), k ≤ l.length → (∀ x ∈ l.take k, p x = false) → idxP p l = if idxP p (l.drop k) = -1 then -1 else idxP p (l.drop k) + k
  | l, 0, _, _ => by
    simp only [List.drop_zero]
    split
    · assumption
    · simp
  | [], k + 1, hk, _ => by simp at hk
  | x :: l, k + 1, hk, h => by
    have hx : p x = false := h x (by simp)
    have ih := idxP_drop p l k (by simpa using hk) (fun y hy => h y (by simp [hy]))
    have hg := idxP_ge p (l.drop k)
    rw [List.drop_succ_cons]
    have e : idxP p (x :: l) = if idxP p l = -1 then -1 else idxP p l + 1 := by
      conv => lhs; unfold idxP
      rw [hx]; rfl
    rw [e, ih]
    by_cases h1 : idxP p (l.drop k) = -1
    · rw [if_pos h1, if_pos rfl, if_pos h1]
    · rw [if_neg h1, if_neg (by omega), if_neg h1]; push_cast; omega

set_option maxRecDepth 100000 in
set_option maxHeartbeats 2000000 in
theorem badTask_any (j : Job) (w : World) : Calls Try.prog 31 #[j.v] w fun e w' => e = .returned (.bool (badTask j)) ∧ Below w.heap.size w w' := by
  obtain ⟨id, src, small, call, ak, an, as1⟩ := j
  show Calls Try.prog 31 #[.agg #[.int .i64 id, .int .i64 src, .bool small, .string call, .int .i64 ak, .int .i64 an, .string as1]] w _
  have hw := fun w => within_any src 1 4 w
  obtain ⟨B, hB⟩ : ∃ B, (decide (1 ≤ src) && decide (src ≤ 4)) = B := ⟨_, rfl⟩
  have HR : Hid (badTask ⟨id, src, small, call, ak, an, as1⟩ = (small || !B)) := Lib.hid (by rw [← hB]; rfl)
  rw [hB] at hw
  have HW := Lib.hid hw
  clear hw hB
  cases small with
  | true =>
    go_enter Try.func31, Try.ntmps31
    go_wp2_with fail
    go_ret
    exact ⟨by rw [HR.out]; rfl, (Below.refl _ _).alloc (Nat.le_refl _) _⟩
  | false =>
    go_enter Try.func31, Try.ntmps31
    go_wp2_with fail
    refine (HW.out _).mono ?_
    rintro e w' ⟨rfl, rfl⟩
    go_wp2_with fail
    go_ret
    exact ⟨by rw [HR.out]; rfl, (Below.refl _ _).alloc (Nat.le_refl _) _⟩
set_option maxRecDepth 100000 in
set_option maxHeartbeats 2000000 in
theorem badSmall_any (j : Job) (w : World) : Calls Try.prog 32 #[j.v] w fun e w' => e = .returned (.bool (badSmall j)) ∧ Below w.heap.size w w' := by
  obtain ⟨id, src, small, call, ak, an, as1⟩ := j
  show Calls Try.prog 32 #[.agg #[.int .i64 id, .int .i64 src, .bool small, .string call, .int .i64 ak, .int .i64 an, .string as1]] w _
  cases small with
  | true =>
    go_enter Try.func32, Try.ntmps32
    go_wp2_with fail
    go_ret
    exact ⟨rfl, (Below.refl _ _).alloc (Nat.le_refl _) _⟩
  | false =>
    go_enter Try.func32, Try.ntmps32
    go_wp2_with fail
    go_ret
    exact ⟨rfl, (Below.refl _ _).alloc (Nat.le_refl _) _⟩

set_option maxRecDepth 100000 in
set_option maxHeartbeats 4000000 in
theorem idxJ_any (f : Nat) (p : Job → Bool) (H : ∀ (j : Job) (w : World), Calls Try.prog f #[j.v] w fun e w' => e = .returned (.bool (p j)) ∧ Below w.heap.size w w')
    (HF : ∀ (args : Array Value) (w : World), Sem.run Try.prog (callFunc f args) w = .ok (.enter f args) w)
    (a : Option Addr) (c : Nat) (l : List Job) (w : World) (h : Sl w Job.c 7 (.slice a l.length c) l) (hl : l.length ≤ 100000) :
    Calls Try.prog 43 #[.slice a l.length c, .func (.func f) #[] #[]] w fun e w' => e = .returned (.int .i64 (idxP p l)) ∧ Below w.heap.size w w' := by
  have HH := Lib.hid H
  have HS := Lib.hid h
  clear H h
  go_enter Try.func43, Try.ntmps43
  go_wp2_with fail
  go_loopg [8] l.length (fun n vk wr => ∃ k : Nat, n = l.length - k ∧ k ≤ l.length ∧ vk = .int .i64 (k : Int) ∧ (∀ x ∈ l.take k, p x = false) ∧ Below w.heap.size w wr)
  case atStart => exact ⟨0, rfl, Nat.zero_le _, rfl, by simp, Below.refl _ _⟩
  case round =>
    obtain ⟨k, hg, hk, rfl, hno, hb⟩ := hrel
    have G := Lib.hid hg
    have HN := Lib.hid hno
    have HB := Lib.hid hb
    clear hg hno hb
    by_cases hlt : k < l.length
    · have h1 : (k : Int) < (l.length : Int) := by omega
      have h1' : (l.length : Int) ≤ 100000 := by omega
      obtain ⟨b, o, rfl, hja⟩ := HS.out.job k hlt
      have hdr := idxP_drop p l k hk HN.out
      have hsn : ∀ x ∈ l.take (k + 1), x ∈ l.take k ∨ x = l[k] := by
        intro x hx
        rw [List.take_add_one, List.getElem?_eq_getElem hlt] at hx
        rcases List.mem_append.1 hx with hx | hx
        · exact .inl hx
        · exact .inr (by simpa using hx)
      rw [List.drop_eq_getElem_cons hlt] at hdr
      generalize l[k] = J at *
      have HD := Lib.hid hdr
      have HSN := Lib.hid hsn
      clear hdr hsn
      have hca := fun w => HH.out J w
      obtain ⟨id, src, small, call, ak, an, as1⟩ := J
      obtain ⟨c0, c1, c2, c3, c4, c5, c6⟩ := hja.below HB.out
      simp only at c0 c1 c2 c3 c4 c5 c6
      have HCA : Hid (∀ w, Calls Try.prog f #[.agg #[.int .i64 id, .int .i64 src, .bool small, .string call, .int .i64 ak, .int .i64 an, .string as1]] w fun e w' => e = .returned (.bool (p ⟨id, src, small, call, ak, an, as1⟩)) ∧ Below w.heap.size w w') := Lib.hid hca
      clear hca
      obtain ⟨B, hB⟩ : ∃ B, p ⟨id, src, small, call, ak, an, as1⟩ = B := ⟨_, rfl⟩
      rw [hB] at HCA
      have HPB := Lib.hid hB
      clear hB
      go_wp2_with fail
      refine (HCA.out _).mono ?_
      rintro e w2 ⟨rfl, hb2⟩
      have B2 : Hid (Below w.heap.size w w2) := Lib.hid (HB.out.trans (Below.le hb2 HB.out.size))
      clear hb2 c0 c1 c2 c3 c4 c5 c6 hja
      cases B with
      | true =>
        go_wp2_with fail
        go_ret
        refine ⟨?_, B2.out⟩
        rw [HD.out]
        unfold idxP
        rw [HPB.out]
        simp
      | false =>
        go_wp2_with fail
        go_roundg (l.length - (k + 1))
        case measure => rw [G.out]; omega
        case rel =>
          refine ⟨k + 1, rfl, by omega, by simp, ?_, B2.out⟩
          intro x hx
          rcases HSN.out x hx with h | h
          · exact HN.out x h
          · rw [h]; exact HPB.out
    · have hke : k = l.length := by omega
      have hdr := idxP_drop p l k hk HN.out
      rw [hke, List.drop_length] at hdr
      have HD := Lib.hid hdr
      clear hdr
      go_wp2_with fail
      go_ret
      exact ⟨by rw [HD.out]; rfl, HB.out⟩
set_option maxRecDepth 100000 in
set_option maxHeartbeats 2000000 in
theorem anyJ_any (f : Nat) (p : Job → Bool) (H : ∀ (j : Job) (w : World), Calls Try.prog f #[j.v] w fun e w' => e = .returned (.bool (p j)) ∧ Below w.heap.size w w')
    (HF : ∀ (args : Array Value) (w : World), Sem.run Try.prog (callFunc f args) w = .ok (.enter f args) w)
    (a : Option Addr) (c : Nat) (l : List Job) (w : World) (h : Sl w Job.c 7 (.slice a l.length c) l) (hl : l.length ≤ 100000) :
    Calls Try.prog 30 #[.slice a l.length c, .func (.func f) #[] #[]] w fun e w' => e = .returned (.bool (l.any p)) ∧ Below w.heap.size w w' := by
  have HX := Lib.hid (idxJ_any f p H HF a c l w h hl)
  have HA := Lib.hid (idxP_any p l)
  clear H HF h
  go_enter Try.func30, Try.ntmps30
  go_wp2_with fail
  refine HX.out.mono ?_
  rintro e w2 ⟨rfl, hb2⟩
  go_wp2_with fail
  go_ret
  exact ⟨by rw [← HA.out]; rfl, hb2⟩
end Go.Proofs.Ytpmklganodlciaa
