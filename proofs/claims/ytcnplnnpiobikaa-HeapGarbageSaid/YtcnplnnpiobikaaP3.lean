/- Plain: HeapMoved. -/
import Derived.Test.YtcnplnnpiobikaaP2
namespace Go.Proofs.Ytcnplnnpiobikaa

theorem pos_at : ∀ (L : List Int) (n : Int), n ∈ L → ∃ (i : Nat) (hi : i < L.length), pos L n = (i : Int) ∧ L[i] = n
  | [], n, h => by cases h
  | x :: L, n, h => by
    by_cases e : x = n
    · refine ⟨0, by simp, ?_, by simpa using e⟩
      unfold pos idxP
      simp [e]
    · have hL : n ∈ L := by
        rcases List.mem_cons.1 h with h | h
        · exact absurd h.symm e
        · exact h
      obtain ⟨i, hi, e1, e2⟩ := pos_at L n hL
      refine ⟨i + 1, by simp; omega, ?_, by simpa using e2⟩
      unfold pos at e1 ⊢
      unfold idxP
      rw [e1, if_neg (by simpa using e), if_neg (by omega)]
      rfl
theorem cellAt_get {h : List Cl} {i : Nat} (hi : i < h.length) : cellAt h (i : Int) = h[i] := by
  unfold cellAt
  rw [Int.toNat_natCast, List.getElem?_eq_getElem hi]
  rfl
section
variable {h : List Cl} {roots : List JV}
theorem moved_cells (ha : askErr h roots = 0) : (moveV h roots).cells = (walkF h roots).map (movedC h (toOf h.length (walkF h roots))) := by
  unfold moveV
  rw [if_pos ha]
theorem moved_cell (ha : askErr h roots = 0) {n : Int} (hn : n ∈ walkF h roots) : movedC h (toOf h.length (walkF h roots)) n = ⟨(cellAt h n).kind, (cellAt h n).names, (cellAt h n).vals.map (mvI (pos (walkF h roots)))⟩ := by
  obtain ⟨hk, hr⟩ := ask_ok ha
  have w := walk_went hk.fit roots (fun x hx => fits_fit (hr x hx))
  unfold movedC
  congr 1
  refine List.map_congr_left fun v hv => ?_
  refine moved_mvI ?_
  rcases w.clo n hn (by simp) v (by rw [kids_cell]; exact hv) with h' | h'
  · omega
  · exact (w.st.va _ h').2
theorem moved_roots (ha : askErr h roots = 0) : (moveV h roots).roots = roots.map (mvI (pos (walkF h roots))) := by
  obtain ⟨hk, hr⟩ := ask_ok ha
  have w := walk_went hk.fit roots (fun x hx => fits_fit (hr x hx))
  unfold moveV
  rw [if_pos ha]
  refine List.map_congr_left fun v hv => moved_mvI ?_
  rcases w.has v hv with h' | h'
  · omega
  · exact (w.st.va _ h').2
theorem moved_iso (ha : askErr h roots = 0) : Iso h (moveV h roots).cells (walkF h roots) (pos (walkF h roots)) := by
  obtain ⟨hk, hr⟩ := ask_ok ha
  have w := walk_went hk.fit roots (fun x hx => fits_fit (hr x hx))
  have hl : (moveV h roots).cells.length = (walkF h roots).length := by rw [moved_cells ha, List.length_map]
  refine ⟨w.st.nd, fun n hn x hx => w.clo n hn (by simp) x hx, w.st.va, fun n hn => ?_, fun n hn k hk' e => ?_, fun n hn => ?_⟩
  · obtain ⟨i, hi, e1, _⟩ := pos_at _ n hn
    rw [e1, hl]
    omega
  · obtain ⟨i, hi, e1, e2⟩ := pos_at _ n hn
    obtain ⟨j, hj, e3, e4⟩ := pos_at _ k hk'
    have : i = j := by omega
    subst this
    rw [← e2, ← e4]
  · obtain ⟨i, hi, e1, e2⟩ := pos_at _ n hn
    rw [e1, cellAt_get (by rw [hl]; exact hi)]
    have : (moveV h roots).cells[i]'(by rw [hl]; exact hi) = movedC h (toOf h.length (walkF h roots)) n := by
      have e3 := moved_cells ha
      have e4 : (moveV h roots).cells[i]? = some (movedC h (toOf h.length (walkF h roots)) n) := by
        rw [e3, List.getElem?_map, List.getElem?_eq_getElem hi, e2]; rfl
      rw [List.getElem?_eq_getElem (by rw [hl]; exact hi)] at e4
      exact Option.some.inj e4
    rw [this, moved_cell ha hn]
theorem moved_ask (ha : askErr h roots = 0) : askErr (moveV h roots).cells (moveV h roots).roots = 0 := by
  obtain ⟨hk, hr⟩ := ask_ok ha
  have w := walk_went hk.fit roots (fun x hx => fits_fit (hr x hx))
  have I := moved_iso ha
  have hkd := walk_kind ha
  refine ask_zero (check_zero ?_ (fun c hc => ?_) (fun c hc => ?_)) (fun v hv => ?_)
  · rw [moved_cells ha, List.length_map]
    exact Nat.le_trans w.st.len hk.len
  · rw [moved_cells ha] at hc
    obtain ⟨n, hn, rfl⟩ := List.mem_map.1 hc
    rw [moved_cell ha hn]
    simp only [List.length_map]
    exact hk.small _ (cellAt_mem (w.st.va n hn).1 (w.st.va n hn).2)
  · rw [moved_cells ha] at hc
    obtain ⟨n, hn, rfl⟩ := List.mem_map.1 hc
    rw [moved_cell ha hn]
    have hco := hk.cells _ (cellAt_mem (w.st.va n hn).1 (w.st.va n hn).2)
    refine cell_ok_iso hco rfl rfl (by simp) (fun v hv => ?_)
    obtain ⟨v0, hv0, rfl⟩ := List.mem_map.1 hv
    exact iso_fits I hkd (w.clo n hn (by simp) v0 (by rw [kids_cell]; exact hv0)) (cell_fits hco v0 hv0)
  · rw [moved_roots ha] at hv
    obtain ⟨v0, hv0, rfl⟩ := List.mem_map.1 hv
    exact iso_fits I hkd (w.has v0 hv0) (hr v0 hv0)
theorem moved_walk (ha : askErr h roots = 0) : (walkF (moveV h roots).cells (moveV h roots).roots).length = (moveV h roots).cells.length := by
  obtain ⟨hk, hr⟩ := ask_ok ha
  have w := walk_went hk.fit roots (fun x hx => fits_fit (hr x hx))
  rw [moved_roots ha, (iso_walk (moved_iso ha) roots (fun x hx => w.has x hx)).1, List.length_map, moved_cells ha, List.length_map]
theorem moved_again (ha : askErr h roots = 0) : moveV (moveV h roots).cells (moveV h roots).roots = moveV h roots := by
  obtain ⟨hk, hr⟩ := ask_ok ha
  have w := walk_went hk.fit roots (fun x hx => fits_fit (hr x hx))
  have := moved_ask ha
  have e := moved_roots ha
  rw [e] at this ⊢
  exact iso_move (moved_iso ha) roots (fun x hx => w.has x hx) ha this
theorem moved_len (ha : askErr h roots = 0) : (moveV h roots).roots.length = roots.length := by rw [moved_roots ha, List.length_map]
theorem moved_alike (ha : askErr h roots = 0) (k : Nat) (hk : k < roots.length) (hk2 : k < (moveV h roots).roots.length) : alikeV h roots[k] (moveV h roots).cells (moveV h roots).roots[k] = (true, 0) := by
  obtain ⟨hok, hr⟩ := ask_ok ha
  have w := walk_went hok.fit roots (fun x hx => fits_fit (hr x hx))
  have hx : roots[k] ∈ roots := List.getElem_mem hk
  have e : (moveV h roots).roots[k] = mvI (pos (walkF h roots)) roots[k] := by
    have e1 := moved_roots ha
    have e2 : (moveV h roots).roots[k]? = some (mvI (pos (walkF h roots)) roots[k]) := by rw [e1, List.getElem?_map, List.getElem?_eq_getElem hk]; rfl
    rw [List.getElem?_eq_getElem hk2] at e2
    exact Option.some.inj e2
  have a1 := ask_one ha hx
  have a2 := ask_one (moved_ask ha) (List.getElem_mem hk2)
  have c0 : ∀ {g : List Cl} {l : List JV}, askErr g l = 0 → checkErr g = 0 := by
    intro g l hg
    unfold askErr at hg
    split at hg
    · rename_i h0; exact h0
    · exact hg
  have m := iso_move (moved_iso ha) [roots[k]] (fun x hx' => by rw [List.mem_singleton] at hx'; subst hx'; exact w.has _ hx) a1 (by rw [List.map_cons, List.map_nil, ← e]; exact a2)
  rw [List.map_cons, List.map_nil, ← e] at m
  unfold alikeV
  rw [if_neg (by rw [c0 ha]; simp), if_neg (by rw [c0 a2]; simp), if_neg (by rw [a1]; simp), if_neg (by rw [a2]; simp), m]
  simp
end
end Go.Proofs.Ytcnplnnpiobikaa
