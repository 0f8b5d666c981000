/- Plain: the way from the root to a node. -/
import Derived.Test.YtnnckjgafglgeaaDoorE9
namespace Go.Proofs.YtnnckjgafglgeaaDoor

theorem chainF_same (nodes : List Nd) : ∀ (f g : Nat) (n : Int), chainEnds nodes f n → chainEnds nodes g n → chainF nodes f n = chainF nodes g n
  | 0, g, n, h, _ => by rw [chainF_neg nodes g n h]; rfl
  | f + 1, g, n, h, hg => by
    by_cases hn : n < 0
    · rw [chainF_neg nodes _ n hn, chainF_neg nodes _ n hn]
    · cases g with
      | zero => exact absurd hg hn
      | succ g => rw [chainF_go nodes f n (by omega), chainF_go nodes g n (by omega), chainF_same nodes f g _ (h.resolve_left hn) (hg.resolve_left hn)]
theorem ends_neg (nodes : List Nd) (f : Nat) (n : Int) (h : n < 0) : chainEnds nodes f n := by
  cases f with
  | zero => exact h
  | succ f => exact .inl h
def Valid (nodes : List Nd) (n : Int) : Prop := 0 ≤ n ∧ n < (nodes.length : Int)
theorem Valid.ends {nodes : List Nd} (h : DocOk nodes) {n : Int} (hn : Valid nodes n) : chainEnds nodes 42 n := by
  obtain ⟨m, rfl⟩ : ∃ m : Nat, n = (m : Int) := ⟨n.toNat, by have := hn.1; omega⟩
  exact chain_ends h m (by have := hn.2; omega)
theorem Valid.par {nodes : List Nd} (h : DocOk nodes) {n : Int} (hn : Valid nodes n) : par nodes n < 0 ∨ Valid nodes (par nodes n) := by
  obtain ⟨m, rfl⟩ : ∃ m : Nat, n = (m : Int) := ⟨n.toNat, by have := hn.1; omega⟩
  rcases h.valid m (by have := hn.2; omega) with h1 | h1
  · left; omega
  · exact .inr h1
def way (nodes : List Nd) (n : Int) : List Int := (chain nodes n).reverse
theorem way_neg (nodes : List Nd) (n : Int) (h : n < 0) : way nodes n = [] := by
  unfold way chain
  rw [chainF_neg nodes _ n h]
  rfl
theorem way_step {nodes : List Nd} (h : DocOk nodes) {n : Int} (hn : Valid nodes n) : way nodes n = way nodes (par nodes n) ++ [n] := by
  unfold way chain
  rw [chainF_go nodes 41 n hn.1, List.reverse_cons]
  have he := hn.ends h
  have h41 : chainEnds nodes 41 (par nodes n) := by
    rcases he with h1 | h1
    · exact absurd h1 (by have := hn.1; omega)
    · exact h1
  have h42 : chainEnds nodes 42 (par nodes n) := by
    rcases hn.par h with h1 | h1
    · exact ends_neg nodes 42 _ h1
    · exact h1.ends h
  rw [chainF_same nodes 41 42 _ h41 h42]
/-- What stands at a place of a way. -/
structure WayAt (nodes : List Nd) (n : Int) (i : Nat) (y : Int) : Prop where
  val : Valid nodes y
  up : ∀ j, i = j + 1 → (way nodes n)[j]? = some (par nodes y)
  root : i = 0 → par nodes y < 0
  own : way nodes y = (way nodes n).take (i + 1)
theorem way_at {nodes : List Nd} (h : DocOk nodes) : ∀ (m : Nat) (n : Int), (way nodes n).length ≤ m → Valid nodes n → ∀ (i : Nat) (y : Int), (way nodes n)[i]? = some y → WayAt nodes n i y
  | 0, n, hm, hn, i, y, hy => by
    rw [way_step h hn] at hm
    simp at hm
  | m + 1, n, hm, hn, i, y, hy => by
    have hs := way_step h hn
    rw [hs] at hm
    simp only [List.length_append, List.length_cons, List.length_nil] at hm
    by_cases hi : i < (way nodes (par nodes n)).length
    · have hv : Valid nodes (par nodes n) := by
        rcases hn.par h with h1 | h1
        · rw [way_neg nodes _ h1] at hi
          simp at hi
        · exact h1
      rw [hs, List.getElem?_append_left hi] at hy
      have ih := way_at h m (par nodes n) (by omega) hv i y hy
      refine ⟨ih.val, fun j hj => ?_, ih.root, ?_⟩
      · rw [hs, List.getElem?_append_left (by omega)]
        exact ih.up j hj
      · rw [hs, List.take_append_of_le_length (by omega)]
        exact ih.own
    · rw [hs, List.getElem?_append_right (by omega)] at hy
      have hi2 : i - (way nodes (par nodes n)).length = 0 := by
        have := (List.getElem?_eq_some_iff.1 hy).1
        simp only [List.length_cons, List.length_nil] at this
        omega
      rw [hi2] at hy
      simp only [List.getElem?_cons_zero, Option.some.injEq] at hy
      subst hy
      have hil : i = (way nodes (par nodes n)).length := by omega
      refine ⟨hn, fun j hj => ?_, fun h0 => ?_, ?_⟩
      · have hv : Valid nodes (par nodes n) := by
          rcases hn.par h with h1 | h1
          · rw [way_neg nodes _ h1] at hil
            simp at hil
            omega
          · exact h1
        have hs2 := way_step h hv
        rw [hs, List.getElem?_append_left (by omega), hs2]
        have hl : j = (way nodes (par nodes (par nodes n))).length := by
          rw [hs2] at hil
          simp only [List.length_append, List.length_cons, List.length_nil] at hil
          omega
        rw [hl, List.getElem?_append_right (Nat.le_refl _), Nat.sub_self]
        rfl
      · rcases hn.par h with h1 | h1
        · exact h1
        · rw [way_step h h1] at hil
          simp only [List.length_append, List.length_cons, List.length_nil] at hil
          omega
      · rw [List.take_of_length_le]
        rw [hs]
        simp only [List.length_append, List.length_cons, List.length_nil]
        omega
theorem way_get {nodes : List Nd} (h : DocOk nodes) {n : Int} (hn : Valid nodes n) {i : Nat} {y : Int} (hy : (way nodes n)[i]? = some y) : WayAt nodes n i y := way_at h _ n (Nat.le_refl _) hn i y hy
theorem way_inj {nodes : List Nd} (h : DocOk nodes) {n : Int} (hn : Valid nodes n) {i j : Nat} {y : Int} (hi : (way nodes n)[i]? = some y) (hj : (way nodes n)[j]? = some y) : i = j := by
  have h1 := (way_get h hn hi).own
  have h2 := (way_get h hn hj).own
  rw [h1] at h2
  have h3 := congrArg List.length h2
  rw [List.length_take, List.length_take] at h3
  have := (List.getElem?_eq_some_iff.1 hi).1
  have := (List.getElem?_eq_some_iff.1 hj).1
  omega
/-- What holds where 'Path' has no error. -/
structure PathOk (nodes : List Nd) (n : Int) (p : List Int) : Prop where
  doc : DocOk nodes
  derr : docErr nodes = 0
  val : Valid nodes n
  eq : p = way nodes n
  head : p[0]? = some 0
  last : p[p.length - 1]? = some n
  len : 0 < p.length
theorem path_ok {nodes : List Nd} {n : Int} (h : (pathV nodes n).1 = 0) : PathOk nodes n (pathV nodes n).2 := by
  unfold pathV at h ⊢
  by_cases h0 : docErr nodes = 0
  · rw [if_pos h0] at h ⊢
    by_cases h1 : n < 0 ∨ (nodes.length : Int) ≤ n
    · rw [if_pos h1] at h; cases h
    rw [if_neg h1] at h ⊢
    by_cases h2 : (chain nodes n).reverse.head? = some 0
    · rw [if_pos h2]
      have hv : Valid nodes n := ⟨by omega, by omega⟩
      have hd := doc_ok nodes h0
      refine ⟨hd, h0, hv, rfl, ?_, ?_, ?_⟩
      · rw [← List.head?_eq_getElem?]; exact h2
      · show (way nodes n)[(way nodes n).length - 1]? = some n
        rw [way_step hd hv]
        simp
      · show 0 < (way nodes n).length
        rw [way_step hd hv]
        simp
    · rw [if_neg h2] at h; cases h
  · rw [if_neg h0] at h
    exact absurd h h0
theorem path_no {nodes : List Nd} {n : Int} (h : (pathV nodes n).1 ≠ 0) : (pathV nodes n).2 = [] := by
  unfold pathV at h ⊢
  by_cases h0 : docErr nodes = 0
  · rw [if_pos h0] at h ⊢
    by_cases h1 : n < 0 ∨ (nodes.length : Int) ≤ n
    · rw [if_pos h1]
    rw [if_neg h1] at h ⊢
    by_cases h2 : (chain nodes n).reverse.head? = some 0
    · rw [if_pos h2] at h
      exact absurd rfl h
    · rw [if_neg h2]
  · rw [if_neg h0]
theorem PathOk.at_ {nodes : List Nd} {n : Int} {p : List Int} (h : PathOk nodes n p) (i : Nat) (y : Int) (hy : p[i]? = some y) : WayAt nodes n i y := by
  rw [h.eq] at hy
  exact way_get h.doc h.val hy
/-- The way of a node on the way. -/
theorem PathOk.sub {nodes : List Nd} {n : Int} {p : List Int} (h : PathOk nodes n p) (k : Nat) (hk : k < p.length) : pathV nodes p[k] = (0, p.take (k + 1)) := by
  have hy : p[k]? = some p[k] := List.getElem?_eq_getElem hk
  generalize p[k] = y at *
  rw [h.eq] at hy
  have hw := way_get h.doc h.val hy
  have hv := hw.val
  unfold pathV
  rw [if_pos h.derr, if_neg (by have := hv.1; have := hv.2; omega)]
  show (if (way nodes y).head? = some 0 then (0, way nodes y) else (5, [])) = (0, p.take (k + 1))
  rw [hw.own, ← h.eq]
  rw [if_pos]
  rw [List.head?_eq_getElem?, List.getElem?_take, if_pos (by omega)]
  exact h.head
end Go.Proofs.YtnnckjgafglgeaaDoor
