/- Plain: the way to the root. -/
import Derived.Test.YtnnckjgafglgeaaDoorE1
namespace Go.Proofs.YtnnckjgafglgeaaDoor

/-- A node, its parent, and so on: as long as there is one. -/
def chainF (nodes : List Nd) : Nat → Int → List Int
  | 0, _ => []
  | f + 1, n => if 0 ≤ n then n :: chainF nodes f (par nodes n) else []
def chain (nodes : List Nd) (n : Int) : List Int := chainF nodes 42 n
def chainEnds (nodes : List Nd) : Nat → Int → Prop
  | 0, n => n < 0
  | f + 1, n => n < 0 ∨ chainEnds nodes f (par nodes n)
theorem ends_of (nodes : List Nd) : ∀ (m f : Nat) (n : Int), par nodes (climb nodes m n) < 0 → m + 2 ≤ f → chainEnds nodes f n
  | 0, f, n, h, hf => by
    obtain ⟨g, rfl⟩ : ∃ g, f = g + 2 := ⟨f - 2, by omega⟩
    exact .inr (.inl h)
  | m + 1, f, n, h, hf => by
    obtain ⟨g, rfl⟩ : ∃ g, f = g + 1 := ⟨f - 1, by omega⟩
    exact .inr (ends_of nodes m g (par nodes n) h (by omega))
theorem chain_ends {nodes : List Nd} (h : DocOk nodes) (n : Nat) (hn : n < nodes.length) : chainEnds nodes 42 (n : Int) := by
  obtain ⟨m, h1, h2, _⟩ := h.ends n hn
  exact ends_of nodes m 42 _ h2 (by omega)
theorem par_lt {nodes : List Nd} (h : DocOk nodes) (n : Nat) (hn : n < nodes.length) : par nodes (n : Int) < (nodes.length : Int) := by
  have := h.valid n hn
  have := h.n1
  omega
theorem chainF_neg (nodes : List Nd) (f : Nat) (n : Int) (h : n < 0) : chainF nodes f n = [] := by
  cases f with
  | zero => rfl
  | succ f => unfold chainF; rw [if_neg (by omega)]
theorem chainF_go (nodes : List Nd) (f : Nat) (n : Int) (h : 0 ≤ n) : chainF nodes (f + 1) n = n :: chainF nodes f (par nodes n) := by
  conv => lhs; unfold chainF
  rw [if_pos h]
theorem chain_ne (nodes : List Nd) (n : Int) (h : 0 ≤ n) : chain nodes n ≠ [] := by
  unfold chain
  rw [chainF_go nodes 41 n h]
  simp
theorem chainF_len (nodes : List Nd) : ∀ (f : Nat) (n : Int), (chainF nodes f n).length ≤ f
  | 0, _ => Nat.le_refl _
  | f + 1, n => by
    unfold chainF
    split
    · simp only [List.length_cons]; have := chainF_len nodes f (par nodes n); omega
    · simp
/-- What 'Path' answers: its error, and the way. -/
def pathV (nodes : List Nd) (n : Int) : Int × List Int :=
  if docErr nodes = 0 then (if n < 0 ∨ (nodes.length : Int) ≤ n then (1, []) else if (chain nodes n).reverse.head? = some 0 then (0, (chain nodes n).reverse) else (5, [])) else (docErr nodes, [])
end Go.Proofs.YtnnckjgafglgeaaDoor
