/- Plain: what one step of a loop gives (LoopTimes, LoopSmall). -/
import Derived.Test.YtpmklganodlciaaP4
namespace Go.Proofs.Ytpmklganodlciaa
open Go.RowKit

theorem Next_eq (q : Lp) (u : Int) (h : Right q) (h1 : q.now ≤ u) (h2 : u ≤ 1000000000) : q.Next u = ((q.nxt u).1, (q.nxt u).2.1, (q.nxt u).2.2, 0) := by
  unfold Lp.Next
  rw [if_pos ((right_iff q).2 h), if_pos (within_iff.2 ⟨h1, h2⟩)]
theorem idxP_none {α : Type} (p : α → Bool) : ∀ l : List α, (∀ x ∈ l, p x = false) → idxP p l = -1
  | [], _ => rfl
  | a :: l, h => by
    rw [idxP, if_neg (by rw [h a (by simp)]; simp), idxP_none p l (fun x hx => h x (by simp [hx]))]
    rfl
/-- The three ways of a step. -/
theorem nxt_ways (q : Lp) (u : Int) :
    (∃ j r, q.smalls = j :: r ∧ q.nxt u = (⟨q.now, q.next, q.tasks, r, q.tims⟩, j, true)) ∨
    (q.smalls = [] ∧ ∃ t r, q.tims = t :: r ∧ dueAt q.now q.tasks q.tims u = true ∧ q.nxt u = ((q.fire t r).1, (q.fire t r).2, true)) ∨
    (q.smalls = [] ∧ dueAt q.now q.tasks q.tims u = false ∧ ∃ j r, q.tasks = j :: r ∧ q.nxt u = (⟨q.now, q.next, r, q.smalls, q.tims⟩, j, true)) ∨
    (q.smalls = [] ∧ dueAt q.now q.tasks q.tims u = false ∧ q.tasks = [] ∧ q.nxt u = (⟨u, q.next, q.tasks, q.smalls, q.tims⟩, Job.zero, false)) := by
  obtain ⟨now, next, ts, ss, ms⟩ := q
  cases ss with
  | cons j r => exact .inl ⟨j, r, rfl, rfl⟩
  | nil =>
    right
    cases hd : dueAt now ts ms u with
    | true =>
      cases ms with
      | nil => simp [dueAt] at hd
      | cons t r => exact .inl ⟨rfl, t, r, rfl, rfl, by simp only [Lp.nxt, hd]⟩
    | false =>
      right
      cases ts with
      | cons j r => exact .inl ⟨rfl, rfl, j, r, rfl, by simp only [Lp.nxt, hd]⟩
      | nil => exact .inr ⟨rfl, rfl, rfl, by simp only [Lp.nxt, hd]⟩
theorem job_mem {q : Lp} {j : Job} (h : j ∈ q.tasks) (hn : q.nums.Nodup) : ∀ x ∈ q.tims, x.id ≠ j.id := by
  intro x hx e
  unfold Lp.nums at hn
  have := (List.nodup_append.1 hn).2.2 j.id (List.mem_append_left _ (List.mem_map_of_mem h)) x.id (List.mem_map_of_mem hx)
  exact this e.symm
theorem times_step (q : Lp) (u : Int) (h : Right q) :
    ((q.nxt u).2.2 = false → (q.nxt u).1.now = u ∧ (q.nxt u).1.tasks = [] ∧ (q.nxt u).1.smalls = [] ∧ ∀ t l, (q.nxt u).1.tims = t :: l → u < t.at_) ∧
    ((q.nxt u).2.2 = true → q.smalls = [] → idxP (fun t => t.id == (q.nxt u).2.1.id) q.tims = -1 ∨ (idxP (fun t => t.id == (q.nxt u).2.1.id) q.tims = 0 ∧ ∃ t l, q.tims = t :: l ∧ t.at_ ≤ (q.nxt u).1.now)) := by
  rcases nxt_ways q u with ⟨j, r, h1, h2⟩ | ⟨h1, t, r, h2, hd, h3⟩ | ⟨h1, hd, j, r, h2, h3⟩ | ⟨h1, hd, h2, h3⟩
  · rw [h2]
    exact ⟨(fun e => by cases e), fun _ e => by rw [h1] at e; cases e⟩
  · rw [h3]
    refine ⟨(fun e => by cases e), fun _ _ => .inr ⟨?_, t, r, h2, ?_⟩⟩
    · rw [h2]
      simp [idxP, Lp.fire, Tim.job]
    · simp only [Lp.fire]
      omega
  · rw [h3]
    refine ⟨(fun e => by cases e), fun _ _ => .inl (idxP_none _ _ (fun x hx => ?_))⟩
    have := job_mem (j := j) (by rw [h2]; simp) h.nod x hx
    simpa using this
  · rw [h3]
    refine ⟨fun _ => ⟨rfl, h2, h1, fun t l ht => ?_⟩, (fun e => by cases e)⟩
    simp only at ht
    unfold dueAt at hd
    rw [ht, h2] at hd
    simp only [List.isEmpty_nil, Bool.true_and, Bool.or_eq_false_iff, decide_eq_false_iff_not] at hd
    omega
/-- What LoopSmall's rounds keep: of q, so many small ones, and so many tasks, are taken. -/
structure SmallX (q p : Lp) (k tk : Nat) : Prop where
  r : Right p
  s : p.smalls = q.smalls.drop k
  t : p.tasks = q.tasks.drop tk
theorem drop_head {α : Type} {l : List α} {k : Nat} {a : α} {r : List α} (h : l.drop k = a :: r) : ∃ h : k < l.length, l[k] = a ∧ l.drop (k + 1) = r := by
  have hlt : k < l.length := by
    rcases Nat.lt_or_ge k l.length with h' | h'
    · exact h'
    · rw [List.drop_eq_nil_of_le h'] at h; cases h
  rw [List.drop_eq_getElem_cons hlt] at h
  injection h with h1 h2
  exact ⟨hlt, h1, h2⟩
theorem small_step (q p : Lp) (u : Int) (k tk : Nat) (h : SmallX q p k tk) (h1 : p.now ≤ u) (h2 : u ≤ 1000000000) :
    (k < q.smalls.length → (p.nxt u).2.2 = true ∧ q.smalls[k]? = some (p.nxt u).2.1 ∧ SmallX q (p.nxt u).1 (k + 1) tk) ∧
    (q.smalls.length ≤ k → ((p.nxt u).2.2 = true → (p.nxt u).2.1.small = false) ∧
      (((p.nxt u).2.2 = true ∧ p.tims.any (fun t => t.id == (p.nxt u).2.1.id) = false → q.tasks[tk]? = some (p.nxt u).2.1 ∧ SmallX q (p.nxt u).1 (k + 1) (tk + 1)) ∧
       (¬ ((p.nxt u).2.2 = true ∧ p.tims.any (fun t => t.id == (p.nxt u).2.1.id) = false) → SmallX q (p.nxt u).1 (k + 1) tk))) := by
  have hr := (nxt_right p u h.r h1 h2).1
  have hd1 : ∀ {l : List Job}, l.length ≤ k → l.drop k = l.drop (k + 1) := fun hl => by rw [List.drop_eq_nil_of_le hl, List.drop_eq_nil_of_le (by omega)]
  rcases nxt_ways p u with ⟨j, r, e1, e2⟩ | ⟨e1, t, r, e2, hd, e3⟩ | ⟨e1, hd, j, r, e2, e3⟩ | ⟨e1, hd, e2, e3⟩
  · rw [e2] at hr ⊢
    obtain ⟨hlt, g1, g2⟩ := drop_head (h.s.symm.trans e1)
    refine ⟨fun _ => ⟨rfl, by rw [List.getElem?_eq_getElem hlt, g1], hr, g2.symm, h.t⟩, fun hk => by omega⟩
  · have hk0 : q.smalls.length ≤ k := by
      have := h.s.symm.trans e1
      simpa using this
    rw [e3] at hr ⊢
    have hany : p.tims.any (fun x => x.id == (p.fire t r).2.id) = true := by
      rw [e2]
      simp [Lp.fire, Tim.job]
    have hx : SmallX q (p.fire t r).1 (k + 1) tk := ⟨hr, by show p.smalls = _; rw [h.s]; exact hd1 hk0, h.t⟩
    exact ⟨fun hk => by omega, fun _ => ⟨fun _ => rfl, fun hc => by rw [hany] at hc; exact absurd hc.2 (by simp), fun _ => hx⟩⟩
  · have hk0 : q.smalls.length ≤ k := by
      have := h.s.symm.trans e1
      simpa using this
    rw [e3] at hr ⊢
    have hno := job_mem (j := j) (by rw [e2]; simp) h.r.nod
    have hany : p.tims.any (fun x => x.id == j.id) = false := by
      rw [List.any_eq_false]
      intro x hx
      have := hno x hx
      simpa using this
    obtain ⟨hlt, g1, g2⟩ := drop_head (h.t.symm.trans e2)
    refine ⟨fun hk => by omega, fun _ => ⟨fun _ => (h.r.tk j (by rw [e2]; simp)).1, fun _ => ⟨by rw [List.getElem?_eq_getElem hlt, g1], hr, by show p.smalls = _; rw [h.s]; exact hd1 hk0, g2.symm⟩, fun hc => absurd ⟨rfl, hany⟩ hc⟩⟩
  · have hk0 : q.smalls.length ≤ k := by
      have := h.s.symm.trans e1
      simpa using this
    rw [e3] at hr ⊢
    have hx : SmallX q ⟨u, p.next, p.tasks, p.smalls, p.tims⟩ (k + 1) tk := ⟨hr, by show p.smalls = _; rw [h.s]; exact hd1 hk0, h.t⟩
    exact ⟨fun hk => by omega, fun _ => ⟨fun e => by (simp at e), fun hc => by (have := hc.1; simp at this), fun _ => hx⟩⟩
end Go.Proofs.Ytpmklganodlciaa
