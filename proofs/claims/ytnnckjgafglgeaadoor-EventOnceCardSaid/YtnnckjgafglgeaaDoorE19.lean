/- What Send answers; frames for its walk. -/
import Derived.Test.YtnnckjgafglgeaaDoorE15
import Derived.Test.YtnnckjgafglgeaaDoorE18
namespace Go.Proofs.YtnnckjgafglgeaaDoor
open Go.RowKit Go.Maps

theorem asked_facts (nodes : List Nd) (ls : List Lis) (ev : Ev) (h : (askedV nodes ls ev).1 = 0) : docErr nodes = 0 ∧ ls.length ≤ 60 ∧ ls.any (badNode nodes.length) = false ∧ twiceIn [] (ls.map Lis.id) = false ∧ ¬ (ev.typ.toList = [] ∨ 40 < ev.typ.size) ∧ askedV nodes ls ev = pathV nodes ev.target := by
  unfold askedV at h ⊢
  by_cases h0 : docErr nodes = 0
  · rw [if_pos h0] at h ⊢
    by_cases h1 : 60 < ls.length
    · rw [if_pos h1] at h; cases h
    rw [if_neg h1] at h ⊢
    by_cases h2 : ls.any (badNode nodes.length) = true
    · rw [if_pos h2] at h; cases h
    rw [if_neg h2] at h ⊢
    by_cases h3 : twiceIn [] (ls.map Lis.id) = true
    · rw [if_pos h3] at h; cases h
    rw [if_neg h3] at h ⊢
    by_cases h4 : ev.typ.toList = [] ∨ 40 < ev.typ.size
    · rw [if_pos h4] at h; cases h
    rw [if_neg h4]
    exact ⟨h0, by omega, by simpa using h2, by simpa using h3, h4, rfl⟩
  · rw [if_neg h0] at h
    exact absurd h h0
theorem pathV_len (nodes : List Nd) (n : Int) : (pathV nodes n).2.length ≤ 42 := by
  unfold pathV
  split
  · split
    · simp
    · split
      · simp only [List.length_reverse]
        exact chainF_len nodes 42 n
      · simp
  · simp
theorem downL_len (last : Int) : ∀ (l : List Int) (k : Nat), (downL last k l).length = l.length
  | [], _ => rfl
  | x :: l, k => by simp [downL, downL_len last l (k + 1)]
theorem upL_len (path : List Int) (bub : Bool) (last : Int) : ∀ k, (upL path bub last k).length ≤ k
  | 0 => Nat.le_refl _
  | k + 1 => by
    unfold upL
    split
    · simp only [List.length_cons]; have := upL_len path bub last k; omega
    · simp
theorem stepsV_len (path : List Int) (bub : Bool) : (stepsV path bub).length ≤ path.length + path.length := by
  unfold stepsV
  rw [List.length_append, downL_len]
  have := upL_len path bub ((path.length : Int) - 1) path.length
  omega
theorem doS_grow (ev : Ev) (a : St) : ∀ (ls : List Lis) (s : Sd), (ls.foldl (doStep ev a) s).gone.length ≤ s.gone.length + ls.length ∧ (ls.foldl (doStep ev a) s).heard.length ≤ s.heard.length + ls.length
  | [], s => ⟨Nat.le_refl _, Nat.le_refl _⟩
  | x :: ls, s => by
    rw [List.foldl_cons]
    have h1 := doS_grow ev a ls (doStep ev a s x)
    have h2 := doStep_grow ev a s x
    simp only [List.length_cons]
    omega
theorem sdStep_grow (ev : Ev) (ls : List Lis) (s : Sd) (a : St) : (sdStep ev ls s a).gone.length ≤ s.gone.length + ls.length ∧ (sdStep ev ls s a).heard.length ≤ s.heard.length + ls.length := by
  unfold sdStep
  split
  · exact doS_grow ev a ls s
  · omega
/-- What 'Send' answers: its error; what is heard; is it prevented; who is left. -/
structure SendR where
  err : Int
  heard : List Hd
  no : Bool
  left : List Lis
def sendV (nodes : List Nd) (ls : List Lis) (ev : Ev) : SendR :=
  if (askedV nodes ls ev).1 = 0 then ⟨0, (sendS ev ls (stepsV (askedV nodes ls ev).2 ev.bub)).heard, (sendS ev ls (stepsV (askedV nodes ls ev).2 ev.bub)).no, ls.filter (fun x => !(sendS ev ls (stepsV (askedV nodes ls ev).2 ev.bub)).gone.contains x.id)⟩
  else ⟨(askedV nodes ls ev).1, [], false, []⟩
/-- The block of a row that is read alone. -/
theorem own_keep {w : World} {B e s n : Nat} {v : Value} {xs : List Value} (h : w.ownsRow B e s v n xs) : ∃ K : List (Nat × Obj), (∀ p ∈ K, w.heap[p.1]? = some p.2 ∧ B ≤ p.1) ∧ ∀ w' : World, (∀ p ∈ K, w'.heap[p.1]? = some p.2) → w'.ownsRow B e s v n xs := by
  rcases h.2 with h2 | ⟨g, cap, cur, e1, e2, e3, e4, e5, e6, e7⟩
  · exact ⟨[], fun p hp => (by cases hp), fun w' _ => ⟨h.1, .inl h2⟩⟩
  · exact ⟨[(g, .cells cur e (0, 0))], fun p hp => by rw [List.mem_singleton] at hp; subst hp; exact ⟨e3, e2⟩, fun w' hw => ⟨h.1, .inr ⟨g, cap, cur, e1, e2, hw _ (List.mem_singleton.2 rfl), e4, e5, e6, e7⟩⟩⟩
structure StAt (w : World) (b x : Nat) (s : St) : Prop where
  c0 : w.cell? ⟨b, x, none⟩ = some (.int .i64 s.node)
  c1 : w.cell? ⟨b, x + 1, none⟩ = some (.int .i64 s.phase)
  c2 : w.cell? ⟨b, x + 2, none⟩ = some (.bool s.down)
theorem own_st {w : World} {B : Nat} {v : Value} {l : List St} (h : w.ownsRow B 66 3 v l.length (l.flatMap St.c)) : SlR w StAt 3 v l := by
  obtain ⟨a, c, h1, h2, h3, h4⟩ := Own.sl St.len h
  refine ⟨a, c, h1, h2, h3, fun h0 => ?_⟩
  obtain ⟨b, o, h5, _, h6⟩ := h4 h0
  exact ⟨b, o, h5, fun k hk => ⟨h6 k hk 0 (by decide), h6 k hk 1 (by decide), h6 k hk 2 (by decide)⟩⟩
def nL (n : Int) : List Value := [nV n]
theorem flat_nL (l : List Int) : l.flatMap nL = l.map nV := by
  induction l with
  | nil => rfl
  | cons x l ih => rw [List.flatMap_cons, ih]; rfl
theorem own_int {w : World} {B : Nat} {v : Value} {l : List Int} (h : w.ownsRow B 3 1 v l.length (l.map nV)) : SlR w IntAt 1 v l := by
  rw [← flat_nL] at h
  obtain ⟨a, c, h1, h2, h3, h4⟩ := Own.sl (enc := nL) (fun _ => rfl) h
  refine ⟨a, c, h1, h2, h3, fun h0 => ?_⟩
  obtain ⟨b, o, h5, _, h6⟩ := h4 h0
  exact ⟨b, o, h5, fun k hk => h6 k hk 0 (by decide)⟩
/-- The frame at the start. -/
theorem SD.start (w : World) (lv : Value) (e : Ev) : SD w (((w.alloc (.map #[] 0)).alloc (sdObj lv e (.slice none 0 0) w.heap.size false false false)).alloc (.cells #[.pointer (some ⟨w.heap.size + 1, 0, none⟩)] 60)) (w.heap.size + 1) w.heap.size (w.heap.size + 2) lv e [(w.heap.size + 2, .cells #[.pointer (some ⟨w.heap.size + 1, 0, none⟩)] 60 (0, 0))] (.slice none 0 0) (.slice none 0 0) [] [] (.map []) false false false where
  bl := (((Below.refl _ _).alloc (Nat.le_refl _) _).alloc (by simp) _).alloc (by simp; omega) _
  blk := alloc_keep (alloc_at (by simp) _) _
  map := (((World.ownsMap_made w _ _ _).alloc _).alloc _)
  at_ _ _ := rfl
  own := World.ownsRow_nil _ _ _ _
  keep p hp := by
    rw [List.mem_singleton] at hp
    subst hp
    exact ⟨alloc_at (by simp) _, by simp, by simp, by simp [Value.ownBlock]⟩
  hS := by omega
  hM := Nat.le_refl _
  hSM := by omega
  hSP := by omega
  hMP := by omega
  sz := by simp
theorem SD.rowKeep {w0 wr : World} {S M P : Nat} {lv hc hv : Value} {e : Ev} {K K2 : List (Nat × Obj)} {hl : List Hd} {gone : List Int} {D : DataW Unit} {b1 b2 b3 : Bool} (h : SD w0 wr S M P lv e K hc hv hl gone D b1 b2 b3) (hh : hv.ownBlock = none) (h2 : ∀ p ∈ K2, wr.heap[p.1]? = some p.2 ∧ P ≤ p.1) : SD w0 wr S M P lv e (K2 ++ K) hc hv hl gone D b1 b2 b3 :=
  { h with
    keep := by
      intro p hp
      rcases List.mem_append.1 hp with hp | hp
      · obtain ⟨a1, a2⟩ := h2 p hp
        exact ⟨a1, by have := h.hSP; omega, by have := h.hMP; omega, by rw [hh]; simp⟩
      · exact h.keep p hp }
theorem SDX.gone {w0 wr : World} {S M P T : Nat} {lv : Value} {e : Ev} {K : List (Nat × Obj)} {s : Sd} (h : SDX w0 wr S M P lv e K s) (hT : (T, Obj.cells #[.pointer (some ⟨S, 0, none⟩)] 60 (0, 0)) ∈ K) : ∃ D, GoneAt wr T S M s.gone.length s.gone D := by
  obtain ⟨hv, D, h⟩ := h
  exact ⟨D, (h.keep _ hT).1, ⟨_, _, _, _, _, _, h.blk⟩, h.map, h.at_⟩
end Go.Proofs.YtnnckjgafglgeaaDoor
