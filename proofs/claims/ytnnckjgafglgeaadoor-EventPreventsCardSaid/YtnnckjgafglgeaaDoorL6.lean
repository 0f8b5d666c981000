/- Plain: the order in which it is heard. -/
import Derived.Test.YtnnckjgafglgeaaDoorL4
namespace Go.Proofs.YtnnckjgafglgeaaDoor

theorem idxP_at {α : Type} (p : α → Bool) : ∀ (l : List α) (m : Nat) (h : m < l.length), p l[m] = true → (∀ j (hj : j < m), p (l[j]'(Nat.lt_trans hj h)) = false) → idxP p l = (m : Int)
  | [], m, h, _, _ => by simp at h
  | x :: l, 0, _, hp, _ => by
    have hp : p x = true := hp
    unfold idxP
    rw [if_pos hp]
    rfl
  | x :: l, m + 1, h, hp, hn => by
    have hx : p x = false := hn 0 (Nat.succ_pos _)
    have ih := idxP_at p l m (by simpa using h) hp (fun j hj => hn (j + 1) (by omega))
    unfold idxP
    rw [hx, ih, if_neg (by decide), if_neg (by omega)]
    push_cast
    rfl
def lastOf (p : List Int) : Int := (p.length : Int) - 1
/-- Where a step stands on the whole way: down, and up. -/
def plc (p : List Int) (s : St × Nat) : Int := if s.1.down then (s.2 : Int) else (p.length : Int) + (p.length : Int) - 1 - (s.2 : Int)
def downI (last : Int) : Nat → List Int → List (St × Nat)
  | _, [] => []
  | k, n :: l => (⟨n, phaseOf last (k : Int) 1, true⟩, k) :: downI last (k + 1) l
def upI (path : List Int) (bub : Bool) (last : Int) : Nat → List (St × Nat)
  | 0 => []
  | k + 1 => if bub = true ∨ (k : Int) = last then (⟨path[k]?.getD 0, phaseOf last (k : Int) 3, false⟩, k) :: upI path bub last k else []
theorem downI_fst (last : Int) : ∀ (l : List Int) (k : Nat), (downI last k l).map Prod.fst = downL last k l
  | [], _ => rfl
  | x :: l, k => by rw [downI, downL, List.map_cons, downI_fst last l (k + 1)]
theorem upI_fst (p : List Int) (bub : Bool) (last : Int) : ∀ k, (upI p bub last k).map Prod.fst = upL p bub last k
  | 0 => rfl
  | k + 1 => by
    unfold upI upL
    split
    · rw [List.map_cons, upI_fst p bub last k]
    · rfl
def stepsI (p : List Int) (bub : Bool) : List (St × Nat) := downI (lastOf p) 0 p ++ upI p bub (lastOf p) p.length
theorem stepsI_fst (p : List Int) (bub : Bool) : (stepsI p bub).map Prod.fst = stepsV p bub := by
  unfold stepsI stepsV lastOf
  rw [List.map_append, downI_fst, upI_fst]
structure StepAt (p : List Int) (bub : Bool) (s : St × Nat) : Prop where
  lt : s.2 < p.length
  node : p[s.2]? = some s.1.node
  phase : s.1.phase = 2 ↔ (s.2 : Int) = lastOf p
  up : s.1.down = false → bub = true ∨ (s.2 : Int) = lastOf p
theorem phase_iff (last k : Int) (o : Int) (ho : o ≠ 2) : phaseOf last k o = 2 ↔ k = last := by
  unfold phaseOf
  split
  · simp_all
  · simp_all
theorem down_at (p : List Int) (bub : Bool) : ∀ (l : List Int) (k : Nat), p.drop k = l → ∀ s ∈ downI (lastOf p) k l, StepAt p bub s ∧ s.1.down = true ∧ k ≤ s.2
  | [], k, h, s, hs => by cases hs
  | x :: l, k, h, s, hs => by
    have hk : k < p.length := by
      rcases Nat.lt_or_ge k p.length with h' | h'
      · exact h'
      · rw [List.drop_eq_nil_of_le h'] at h; cases h
    rw [List.drop_eq_getElem_cons hk] at h
    injection h with h1 h2
    rw [downI] at hs
    rcases List.mem_cons.1 hs with rfl | hs
    · exact ⟨⟨hk, by rw [List.getElem?_eq_getElem hk, h1], phase_iff _ _ 1 (by decide), fun h => by cases h⟩, rfl, Nat.le_refl _⟩
    · obtain ⟨a, b, c⟩ := down_at p bub l (k + 1) h2 s hs
      exact ⟨a, b, by omega⟩
theorem up_at (p : List Int) (bub : Bool) : ∀ (k : Nat), k ≤ p.length → ∀ s ∈ upI p bub (lastOf p) k, StepAt p bub s ∧ s.1.down = false ∧ s.2 < k
  | 0, _, s, hs => by cases hs
  | k + 1, hk, s, hs => by
    unfold upI at hs
    split at hs
    · rename_i hc
      rcases List.mem_cons.1 hs with rfl | hs
      · have hk' : k < p.length := hk
        exact ⟨⟨hk', by simp [hk'], phase_iff _ _ 3 (by decide), fun _ => hc⟩, rfl, Nat.lt_succ_self _⟩
      · obtain ⟨a, b, c⟩ := up_at p bub k (by omega) s hs
        exact ⟨a, b, by omega⟩
    · cases hs
theorem down_sorted (p : List Int) (bub : Bool) : ∀ (l : List Int) (k : Nat), p.drop k = l → (downI (lastOf p) k l).Pairwise (fun a b => plc p a < plc p b)
  | [], _, _ => List.Pairwise.nil
  | x :: l, k, h => by
    have hk : k < p.length := by
      rcases Nat.lt_or_ge k p.length with h' | h'
      · exact h'
      · rw [List.drop_eq_nil_of_le h'] at h; cases h
    rw [List.drop_eq_getElem_cons hk] at h
    injection h with h1 h2
    rw [downI]
    refine List.pairwise_cons.2 ⟨fun s hs => ?_, down_sorted p bub l (k + 1) h2⟩
    obtain ⟨_, a, b⟩ := down_at p bub l (k + 1) h2 s hs
    unfold plc
    rw [a]
    simp only [if_true]
    omega
theorem up_sorted (p : List Int) (bub : Bool) : ∀ (k : Nat), k ≤ p.length → (upI p bub (lastOf p) k).Pairwise (fun a b => plc p a < plc p b)
  | 0, _ => List.Pairwise.nil
  | k + 1, hk => by
    unfold upI
    split
    · refine List.pairwise_cons.2 ⟨fun s hs => ?_, up_sorted p bub k (by omega)⟩
      obtain ⟨_, a, b⟩ := up_at p bub k (by omega) s hs
      unfold plc
      rw [a]
      simp only [Bool.false_eq_true, if_false]
      omega
    · exact List.Pairwise.nil
theorem steps_at (p : List Int) (bub : Bool) : ∀ s ∈ stepsI p bub, StepAt p bub s := by
  intro s hs
  rcases List.mem_append.1 hs with hs | hs
  · exact (down_at p bub p 0 rfl s hs).1
  · exact (up_at p bub p.length (Nat.le_refl _) s hs).1
theorem steps_sorted (p : List Int) (bub : Bool) : (stepsI p bub).Pairwise (fun a b => plc p a < plc p b) := by
  refine List.pairwise_append.2 ⟨down_sorted p bub p 0 rfl, up_sorted p bub p.length (Nat.le_refl _), fun a ha b hb => ?_⟩
  obtain ⟨s1, a1, _⟩ := down_at p bub p 0 rfl a ha
  obtain ⟨s2, b1, b2⟩ := up_at p bub p.length (Nat.le_refl _) b hb
  have := s1.lt
  unfold plc
  rw [a1, b1]
  simp only [if_true, Bool.false_eq_true, if_false]
  omega
/-- Where what was heard stands on the whole way. -/
def pl (ls : List Lis) (p : List Int) (w : Hd) : Int :=
  if ls.any (fun x => x.id == w.lis && x.cap) then idxP (fun x => w.node == x) p else (p.length : Int) + (p.length : Int) - 1 - idxP (fun x => w.node == x) p
/-- What the law asks of one that heard. -/
structure OrdAt (ls : List Lis) (p : List Int) (ev : Ev) (w : Hd) : Prop where
  ex : ∃ m i, ∃ hm : m < ls.length, i < p.length ∧ idxP (fun x => x.id == w.lis) ls = (m : Int) ∧ idxP (fun x => w.node == x) p = (i : Int) ∧ ls[m].node = w.node ∧ ls[m].typ = ev.typ ∧
    pl ls p w = (if ls[m].cap then (i : Int) else (p.length : Int) + (p.length : Int) - 1 - (i : Int)) ∧ (w.phase = 2 ↔ (i : Int) = (p.length : Int) - 1) ∧ (ls[m].cap = false → (i : Int) < (p.length : Int) - 1 → ev.bub = true) ∧ ls[m].id = w.lis
theorem cap_of (ls : List Lis) (hn : (ls.map Lis.id).Nodup) (x : Lis) (hx : x ∈ ls) : (ls.any fun y => y.id == x.id && y.cap) = x.cap := by
  rw [Bool.eq_iff_iff, List.any_eq_true]
  constructor
  · rintro ⟨y, hy, h⟩
    rw [Bool.and_eq_true] at h
    have := id_inj ls hn y hy x hx (by simpa using h.1)
    subst this
    exact h.2
  · intro h
    exact ⟨x, hx, by simp [h]⟩
theorem heard_mem (ev : Ev) (ls : List Lis) (a : St) (w : Hd) (h : w ∈ heardAt ev ls a) : ∃ x ∈ ls, w = mkHd a x ∧ x.node = a.node ∧ x.typ = ev.typ ∧ x.cap = a.down := by
  unfold heardAt at h
  obtain ⟨x, hx, rfl⟩ := List.mem_map.1 h
  obtain ⟨h1, h2⟩ := List.mem_filter.1 hx
  unfold hearsAt at h2
  simp only [Bool.and_eq_true, decide_eq_true_eq, beq_iff_eq] at h2
  exact ⟨x, h1, rfl, h2.1, h2.2.1, h2.2.2⟩
/-- What we know of the way. -/
def Once (p : List Int) : Prop := ∀ (i j : Nat) (y : Int), p[i]? = some y → p[j]? = some y → i = j
theorem idx_way (p : List Int) (hp : Once p) (i : Nat) (y : Int) (hi : p[i]? = some y) : idxP (fun x => y == x) p = (i : Int) := by
  have hlt : i < p.length := (List.getElem?_eq_some_iff.1 hi).1
  have hy : p[i] = y := (List.getElem?_eq_some_iff.1 hi).2
  refine idxP_at _ p i hlt (by simp [hy]) (fun j hj => ?_)
  rw [beq_eq_false_iff_ne]
  intro e
  have := hp j i y (by rw [List.getElem?_eq_getElem (by omega), ← e]) hi
  omega
theorem idx_lis (ls : List Lis) (hn : (ls.map Lis.id).Nodup) (x : Lis) (hx : x ∈ ls) : ∃ m, ∃ hm : m < ls.length, ls[m] = x ∧ idxP (fun y => y.id == x.id) ls = (m : Int) := by
  obtain ⟨m, hm, rfl⟩ := List.getElem_of_mem hx
  refine ⟨m, hm, rfl, idxP_at _ ls m hm (by simp) (fun j hj => ?_)⟩
  rw [beq_eq_false_iff_ne]
  intro e
  have hpw := List.pairwise_iff_getElem.1 hn j m (by simp; omega) (by simpa using hm) hj
  exact hpw (by simpa using e)
theorem heard_ord (ev : Ev) (ls : List Lis) (p : List Int) (hn : (ls.map Lis.id).Nodup) (hp : Once p) (s : St × Nat) (hs : StepAt p ev.bub s) (w : Hd) (hw : w ∈ heardAt ev ls s.1) : OrdAt ls p ev w ∧ pl ls p w = plc p s := by
  obtain ⟨x, hx, rfl, h1, h2, h3⟩ := heard_mem ev ls s.1 w hw
  obtain ⟨m, hm, h4, h5⟩ := idx_lis ls hn x hx
  have h6 := idx_way p hp s.2 s.1.node hs.node
  have hpl : pl ls p (mkHd s.1 x) = plc p s := by
    unfold pl plc
    rw [show (ls.any fun y => y.id == (mkHd s.1 x).lis && y.cap) = x.cap from cap_of ls hn x hx, h3]
    rw [show idxP (fun y => (mkHd s.1 x).node == y) p = (s.2 : Int) from h6]
  refine ⟨⟨m, s.2, hm, hs.lt, h5, h6, by rw [h4]; exact h1, by rw [h4]; exact h2, ?_, hs.phase, fun hc hi => ?_, by rw [h4]; rfl⟩, hpl⟩
  · rw [hpl, h4, h3]
    rfl
  · rw [h4, h3] at hc
    rcases hs.up hc with h | h
    · exact h
    · unfold lastOf at h
      omega
theorem full_ord (ev : Ev) (ls : List Lis) (p : List Int) (hn : (ls.map Lis.id).Nodup) (hp : Once p) : (∀ w ∈ full ev ls (stepsV p ev.bub), OrdAt ls p ev w) ∧ (full ev ls (stepsV p ev.bub)).Pairwise (fun a b => pl ls p a ≤ pl ls p b ∧ a.lis ≠ b.lis) := by
  have e : full ev ls (stepsV p ev.bub) = (stepsI p ev.bub).flatMap (fun s => heardAt ev ls s.1) := by
    unfold full
    rw [← stepsI_fst, List.flatMap_map]
  rw [e]
  refine ⟨fun w hw => ?_, ?_⟩
  · obtain ⟨s, hs, hw⟩ := List.mem_flatMap.1 hw
    exact (heard_ord ev ls p hn hp s (steps_at p ev.bub s hs) w hw).1
  · rw [List.pairwise_flatMap]
    refine ⟨fun s hs => ?_, ?_⟩
    · have hall := fun w hw => (heard_ord ev ls p hn hp s (steps_at p ev.bub s hs) w hw).2
      have hne : (heardAt ev ls s.1).Pairwise (fun a b => a.lis ≠ b.lis) := by
        unfold heardAt
        rw [List.pairwise_map]
        have h1 : (ls.filter (hearsAt ev s.1)).Pairwise (fun a b => a.id ≠ b.id) := by
          have h2 := nodup_sub ls (hearsAt ev s.1) hn
          exact List.pairwise_map.1 h2
        exact h1
      rw [List.pairwise_iff_getElem] at hne ⊢
      intro i j hi hj hij
      refine ⟨?_, hne i j hi hj hij⟩
      rw [hall _ (List.getElem_mem hi), hall _ (List.getElem_mem hj)]
      exact Int.le_refl _
    · have hst := steps_sorted p ev.bub
      rw [List.pairwise_iff_getElem] at hst ⊢
      intro i j hi hj hij a ha b hb
      have h1 := (heard_ord ev ls p hn hp _ (steps_at p ev.bub _ (List.getElem_mem hi)) a ha).2
      have h2 := (heard_ord ev ls p hn hp _ (steps_at p ev.bub _ (List.getElem_mem hj)) b hb).2
      have h3 := hst i j hi hj hij
      refine ⟨by omega, fun hl => ?_⟩
      obtain ⟨x, hx, ea, hxa, _⟩ := heard_mem ev ls _ a ha
      obtain ⟨y, hy, eb, hyb, _⟩ := heard_mem ev ls _ b hb
      have hxy : x = y := id_inj ls hn x hx y hy (by rw [ea, eb] at hl; exact hl)
      have hnode : a.node = b.node := by
        rw [ea, eb]
        show (stepsI p ev.bub)[i].1.node = (stepsI p ev.bub)[j].1.node
        rw [← hxa, ← hyb, hxy]
      have hab : pl ls p a = pl ls p b := by
        unfold pl
        rw [hl, hnode]
      omega
def lastPl (f : Hd → Int) (l : List Hd) : Int := l.foldl (fun _ w => f w) (-1)
theorem lastPl_snoc (f : Hd → Int) (l : List Hd) (w : Hd) : lastPl f (l ++ [w]) = f w := by
  unfold lastPl
  rw [List.foldl_append]
  rfl
theorem last_le (f : Hd → Int) (hs : List Hd) (h0 : ∀ w ∈ hs, 0 ≤ f w) (hp : hs.Pairwise (fun a b => f a ≤ f b ∧ a.lis ≠ b.lis)) (k : Nat) (hk : k < hs.length) : lastPl f (hs.take k) ≤ f hs[k] ∧ hs[k].lis ∉ (hs.take k).map Hd.lis := by
  rw [List.pairwise_iff_getElem] at hp
  constructor
  · cases k with
    | zero =>
      have := h0 _ (List.getElem_mem hk)
      show (-1 : Int) ≤ _
      omega
    | succ k =>
      have hk' : k < hs.length := by omega
      rw [List.take_add_one, List.getElem?_eq_getElem hk']
      show lastPl f (hs.take k ++ [hs[k]]) ≤ _
      rw [lastPl_snoc]
      exact (hp k (k + 1) hk' hk (Nat.lt_succ_self k)).1
  · intro hm
    obtain ⟨w, hw, e⟩ := List.mem_map.1 hm
    obtain ⟨j, hj, rfl⟩ := List.getElem_of_mem hw
    rw [List.length_take] at hj
    rw [List.getElem_take] at e
    exact (hp j k (by omega) hk (by omega)).2 e
/-- All that EventOrder asks. -/
theorem send_ord (ev : Ev) (ls : List Lis) (p : List Int) (hn : (ls.map Lis.id).Nodup) (hp : Once p) : (∀ w ∈ (sendS ev ls (stepsV p ev.bub)).heard, OrdAt ls p ev w) ∧ (sendS ev ls (stepsV p ev.bub)).heard.Pairwise (fun a b => pl ls p a ≤ pl ls p b ∧ a.lis ≠ b.lis) := by
  obtain ⟨t, h1, _⟩ := send_pre ev ls (stepsV p ev.bub)
  obtain ⟨h2, h3⟩ := full_ord ev ls p hn hp
  rw [← h1] at h2 h3
  exact ⟨fun w hw => h2 w (List.mem_append_left _ hw), (List.pairwise_append.1 h3).1⟩
end Go.Proofs.YtnnckjgafglgeaaDoor
