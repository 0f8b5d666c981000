/- Plain: HeapGarbage. -/
import Derived.Test.YtcnplnnpiobikaaP4
namespace Go.Proofs.Ytcnplnnpiobikaa

/-- A cell that nobody reaches. -/
def extra (root : JV) (j : Nat) : Cl := ⟨1, [], [root, ⟨4, (j : Int), ⟨#[]⟩⟩]⟩
def moreC (root : JV) (s : List Cl) : Nat → List Cl
  | 0 => s
  | n + 1 => moreC root s n ++ [extra root (s.length + n)]
theorem more_len (root : JV) (s : List Cl) : ∀ n, (moreC root s n).length = s.length + n
  | 0 => rfl
  | n + 1 => by
    unfold moreC
    rw [List.length_append, more_len root s n]
    rfl
theorem more_get (root : JV) (s : List Cl) : ∀ n j, (moreC root s n)[j]? = if j < s.length then s[j]? else if j < s.length + n then some (extra root j) else none
  | 0, j => by
    unfold moreC
    by_cases h : j < s.length
    · rw [if_pos h]
    · rw [if_neg h, if_neg (by omega), List.getElem?_eq_none (by omega)]
  | n + 1, j => by
    unfold moreC
    by_cases h : j < s.length + n
    · rw [List.getElem?_append_left (by rw [more_len]; exact h), more_get root s n j]
      by_cases h2 : j < s.length
      · rw [if_pos h2, if_pos h2]
      · rw [if_neg h2, if_neg h2, if_pos h, if_pos (by omega)]
    · rw [List.getElem?_append_right (by rw [more_len]; omega), more_len]
      by_cases e : j = s.length + n
      · subst e
        rw [if_neg (by omega), if_pos (by omega)]
        simp
      · rw [if_neg (by omega), if_neg (by omega), List.getElem?_eq_none (by simp; omega)]
theorem more_mem {root : JV} {s : List Cl} {n : Nat} {c : Cl} (h : c ∈ moreC root s n) : c ∈ s ∨ ∃ j, s.length ≤ j ∧ j < s.length + n ∧ c = extra root j := by
  obtain ⟨j, hj, e⟩ := List.mem_iff_getElem.1 h
  have e2 : (moreC root s n)[j]? = some c := by rw [List.getElem?_eq_getElem hj, e]
  rw [more_get] at e2
  split at e2
  · exact .inl (List.mem_of_getElem? e2)
  · rename_i h1
    split at e2
    · rename_i h2
      exact .inr ⟨j, by omega, h2, (Option.some.inj e2).symm⟩
    · cases e2
section
variable {h : List Cl} {root : JV}
theorem more_has (ha : askErr h [root] = 0) (n : Nat) : Has h (moreC root (sweptL h (walkF h [root])) n) (walkF h [root]) := by
  have H := swept_has ha
  obtain ⟨hk, hr⟩ := ask_ok ha
  have w := walk_went hk.fit [root] (fun x hx => fits_fit (hr x hx))
  refine ⟨by rw [more_len, sweptL_len]; omega, fun m hm => ?_⟩
  rw [← H.at_ m hm]
  have hv := w.st.va m hm
  have e : cellAt (moreC root (sweptL h (walkF h [root])) n) m = ((moreC root (sweptL h (walkF h [root])) n)[m.toNat]?).getD ⟨0, [], []⟩ := rfl
  rw [e, more_get, if_pos (by rw [sweptL_len]; omega)]
  rfl
theorem more_check (ha : askErr h [root] = 0) (n : Nat) (hl : h.length + n ≤ 300) : checkErr (moreC root (sweptL h (walkF h [root])) n) = 0 := by
  have H := more_has ha n
  have hl2 : (moreC root (sweptL h (walkF h [root])) n).length = h.length + n := by rw [more_len, sweptL_len]
  refine check_zero (by rw [hl2]; exact hl) (fun c hc => ?_) (fun c hc => ?_)
  · rcases more_mem hc with hc | ⟨j, _, _, rfl⟩
    · exact swept_small ha c hc
    · simp [extra]
  · rcases more_mem hc with hc | ⟨j, h1, h2, rfl⟩
    · rcases swept_mem hc with rfl | ⟨m, hm, rfl⟩
      · rfl
      · exact has_cell ha H hm
    · have hr := has_roots ha H root (by simp)
      have hf : fits (moreC root (sweptL h (walkF h [root])) n) ⟨4, (j : Int), ⟨#[]⟩⟩ = true := by
        unfold fits
        have e1 : refV ⟨4, (j : Int), ⟨#[]⟩⟩ = (j : Int) := rfl
        have e2 : kindAt (moreC root (sweptL h (walkF h [root])) n) (j : Int) = 1 := by
          unfold kindAt
          rw [Int.toNat_natCast, more_get, if_neg (by omega), if_pos h2]
          rfl
        have e3 : chk 4 (j : Int) ⟨#[]⟩ = true := by
          unfold chk
          simp
        rw [e1, e2, e3, hl2]
        simp
        exact .inr (by rw [sweptL_len] at h2; omega)
      unfold cellOk extra tailOk
      simp [hr, hf, risingB]
theorem more_alike (ha : askErr h [root] = 0) (n : Nat) : alikeV h root (moreC root (sweptL h (walkF h [root])) n) root = if 300 < h.length + n then (false, 2) else (true, 0) := by
  have c0 : checkErr h = 0 := by
    unfold askErr at ha
    split at ha
    · rename_i h0; exact h0
    · exact ha
  have hl2 : (moreC root (sweptL h (walkF h [root])) n).length = h.length + n := by rw [more_len, sweptL_len]
  unfold alikeV
  rw [if_neg (by rw [c0]; simp)]
  by_cases h1 : 300 < h.length + n
  · have : checkErr (moreC root (sweptL h (walkF h [root])) n) = 2 := by
      unfold checkErr
      rw [if_pos (by rw [hl2]; exact h1)]
    rw [if_pos h1, this]
    rfl
  · have c1 := more_check ha n (by omega)
    have H := more_has ha n
    have a1 := ask_zero c1 (has_roots ha H)
    rw [if_neg h1, if_neg (by rw [c1]; simp), if_neg (by rw [ha]; simp), if_neg (by rw [a1]; simp), has_move ha H c1]
    simp
end
end Go.Proofs.Ytcnplnnpiobikaa
