/- Plain: HeapSwept. -/
import Derived.Test.YtcnplnnpiobikaaP3
import Derived.Test.YtcnplnnpiobikaaH21
namespace Go.Proofs.Ytcnplnnpiobikaa

theorem mvI_id (v : JV) : mvI (fun n => n) v = v := by
  unfold mvI
  split
  · rename_i h
    obtain ⟨_, e⟩ := ref_four h
    obtain ⟨k, n, s⟩ := v
    simp only at e ⊢
    rw [e]
  · rfl
theorem map_id' (l : List JV) : l.map (mvI fun n => n) = l := by
  induction l with
  | nil => rfl
  | cons x l ih => rw [List.map_cons, mvI_id, ih]
theorem swept_at (h : List Cl) (S : List Int) {n : Int} (hn : n ∈ S) (h0 : 0 ≤ n) (h1 : n < (h.length : Int)) : cellAt (sweptL h S) n = cellAt h n := by
  have e : cellAt (sweptL h S) n = ((sweptL h S)[n.toNat]?).getD ⟨0, [], []⟩ := rfl
  have e2 : ((n.toNat : Nat) : Int) = n := by omega
  rw [e, sweptL_get, if_pos (by omega), e2, if_pos (by simpa using hn)]
  rfl
/-- A heap that has all these cells as they were. -/
structure Has (h s : List Cl) (L : List Int) : Prop where
  len : h.length ≤ s.length
  at_ : ∀ n ∈ L, cellAt s n = cellAt h n
section
variable {h s : List Cl} {roots : List JV}
theorem has_iso (ha : askErr h roots = 0) (H : Has h s (walkF h roots)) : Iso h s (walkF h roots) (fun n => n) := by
  obtain ⟨hk, hr⟩ := ask_ok ha
  have w := walk_went hk.fit roots (fun x hx => fits_fit (hr x hx))
  refine ⟨w.st.nd, fun n hn x hx => w.clo n hn (by simp) x hx, w.st.va, fun n hn => ?_, fun n _ k _ e => e, fun n hn => ?_⟩
  · have := w.st.va n hn
    have := H.len
    omega
  · rw [H.at_ n hn, map_id']
theorem has_fits (ha : askErr h roots = 0) (H : Has h s (walkF h roots)) {v : JV} (hv : refV v < 0 ∨ refV v ∈ walkF h roots) (hf : fits h v = true) : fits s v = true := by
  have := iso_fits (has_iso ha H) (walk_kind ha) hv hf
  rwa [mvI_id] at this
theorem has_cell (ha : askErr h roots = 0) (H : Has h s (walkF h roots)) {n : Int} (hn : n ∈ walkF h roots) : cellOk s (cellAt h n) = true := by
  obtain ⟨hk, hr⟩ := ask_ok ha
  have w := walk_went hk.fit roots (fun x hx => fits_fit (hr x hx))
  have hc := hk.cells _ (cellAt_mem (w.st.va n hn).1 (w.st.va n hn).2)
  exact cell_ok_iso hc rfl rfl rfl (fun v hv => has_fits ha H (w.clo n hn (by simp) v (by rw [kids_cell]; exact hv)) (cell_fits hc v hv))
theorem has_roots (ha : askErr h roots = 0) (H : Has h s (walkF h roots)) (v : JV) (hv : v ∈ roots) : fits s v = true := by
  obtain ⟨hk, hr⟩ := ask_ok ha
  have w := walk_went hk.fit roots (fun x hx => fits_fit (hr x hx))
  exact has_fits ha H (w.has v hv) (hr v hv)
theorem has_walk (ha : askErr h roots = 0) (H : Has h s (walkF h roots)) : walkF s roots = walkF h roots := by
  obtain ⟨hk, hr⟩ := ask_ok ha
  have w := walk_went hk.fit roots (fun x hx => fits_fit (hr x hx))
  have := (iso_walk (has_iso ha H) roots (fun x hx => w.has x hx)).1
  rw [map_id'] at this
  rw [this]
  simp
theorem has_move (ha : askErr h roots = 0) (H : Has h s (walkF h roots)) (hc : checkErr s = 0) : moveV s roots = moveV h roots := by
  obtain ⟨hk, hr⟩ := ask_ok ha
  have w := walk_went hk.fit roots (fun x hx => fits_fit (hr x hx))
  have := iso_move (has_iso ha H) roots (fun x hx => w.has x hx) ha (by rw [map_id']; exact ask_zero hc (has_roots ha H))
  rwa [map_id'] at this
theorem swept_has (ha : askErr h roots = 0) : Has h (sweptL h (walkF h roots)) (walkF h roots) := by
  obtain ⟨hk, hr⟩ := ask_ok ha
  have w := walk_went hk.fit roots (fun x hx => fits_fit (hr x hx))
  exact ⟨by rw [sweptL_len]; exact Nat.le_refl _, fun n hn => swept_at _ _ hn (w.st.va n hn).1 (w.st.va n hn).2⟩
theorem zero_ok (s : List Cl) : cellOk s ⟨0, [], []⟩ = true := rfl
theorem swept_mem {L : List Int} {c : Cl} (hc : c ∈ sweptL h L) : c = ⟨0, [], []⟩ ∨ ∃ n ∈ L, c = cellAt h n := by
  unfold sweptL at hc
  obtain ⟨i, _, rfl⟩ := List.mem_map.1 hc
  by_cases hi : L.contains (i : Int) = true
  · rw [if_pos hi]
    exact .inr ⟨i, by simpa using hi, rfl⟩
  · rw [if_neg hi]
    exact .inl rfl
theorem swept_small (ha : askErr h roots = 0) : ∀ c ∈ sweptL h (walkF h roots), c.vals.length ≤ 200 := by
  obtain ⟨hk, hr⟩ := ask_ok ha
  have w := walk_went hk.fit roots (fun x hx => fits_fit (hr x hx))
  intro c hc
  rcases swept_mem hc with rfl | ⟨n, hn, rfl⟩
  · simp
  · exact hk.small _ (cellAt_mem (w.st.va n hn).1 (w.st.va n hn).2)
theorem swept_check (ha : askErr h roots = 0) : checkErr (sweptL h (walkF h roots)) = 0 := by
  refine check_zero (by rw [sweptL_len]; exact (ask_ok ha).1.len) (swept_small ha) (fun c hc => ?_)
  rcases swept_mem hc with rfl | ⟨n, hn, rfl⟩
  · rfl
  · exact has_cell ha (swept_has ha) hn
theorem swept_ask (ha : askErr h roots = 0) : askErr (sweptL h (walkF h roots)) roots = 0 := ask_zero (swept_check ha) (has_roots ha (swept_has ha))
theorem swept_again (ha : askErr h roots = 0) : sweepV (sweptL h (walkF h roots)) roots = ⟨sweptL h (walkF h roots), 0⟩ := by
  unfold sweepV
  rw [if_pos (swept_ask ha), has_walk ha (swept_has ha)]
  congr 1
  apply List.ext_getElem?
  intro i
  rw [sweptL_get, sweptL_get, sweptL_len]
  by_cases hi : i < h.length
  · rw [if_pos hi, if_pos hi]
    by_cases hc : (walkF h roots).contains (i : Int) = true
    · rw [if_pos hc, if_pos hc, swept_at h _ (by simpa using hc) (by omega) (by omega)]
    · rw [if_neg hc, if_neg hc]
  · rw [if_neg hi, if_neg hi]
theorem swept_cell (L : List Int) (k : Nat) (hk : k < h.length) (hk2 : k < (sweptL h L).length) : (L.contains (k : Int) = true → (sweptL h L)[k] = h[k]) ∧ (L.contains (k : Int) = false → ((sweptL h L)[k]).kind = 0) := by
  have e : (sweptL h L)[k] = if L.contains (k : Int) then cellAt h k else ⟨0, [], []⟩ := by
    have := sweptL_get h L k
    rw [List.getElem?_eq_getElem hk2, if_pos hk] at this
    exact Option.some.inj this
  rw [e]
  constructor
  · intro hc
    rw [if_pos hc, cellAt_get hk]
  · intro hc
    rw [hc]
    rfl
end
theorem sort_sorted (l : List Int) : (sortI l).Pairwise (fun x y => x ≤ y) := by
  unfold sortI
  have := List.pairwise_mergeSort (le := fun x y : Int => decide (x ≤ y)) (fun a b c h1 h2 => by simp at *; omega) (fun a b => by simp; omega) l
  exact this.imp (fun h => by simpa using h)
theorem sort_contains (l : List Int) (x : Int) : (sortI l).contains x = l.contains x := by
  rw [Bool.eq_iff_iff]
  simp [sort_mem]
end Go.Proofs.Ytcnplnnpiobikaa
