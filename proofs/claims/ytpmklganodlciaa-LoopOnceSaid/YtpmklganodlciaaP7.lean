/- Plain: each number is told once, but those of timers that come again. -/
import Derived.Test.YtpmklganodlciaaP6
namespace Go.Proofs.Ytpmklganodlciaa
open Go.RowKit

/-- What LoopOnce asks of two jobs, one behind the other. -/
def OnceR (ev : Bool) (x y : Job) : Prop := x.id = y.id → ev = true ∧ y.src = 3
structure OI (ev : Bool) (q : Lp) (out : List Job) : Prop where
  r : Right q
  o : out.Pairwise (OnceR ev)
  lt : ∀ j ∈ out, 0 ≤ j.id ∧ j.id < q.next
  ts : ∀ x ∈ q.tasks, ∀ j ∈ out, j.id ≠ x.id
  ss : ∀ x ∈ q.smalls, ∀ j ∈ out, j.id ≠ x.id
  tm : ∀ t ∈ q.tims, (∀ j ∈ out, j.id ≠ t.id) ∨ ev = true
  ev : ∀ t ∈ q.tims, 0 < t.every → ev = true
structure Ids (q : Lp) : Prop where
  t : (q.tasks.map Job.id).Nodup
  s : (q.smalls.map Job.id).Nodup
  m : (q.tims.map Tim.id).Nodup
  st : ∀ x ∈ q.tasks, ∀ y ∈ q.smalls, x.id ≠ y.id
  tt : ∀ x ∈ q.tasks, ∀ y ∈ q.tims, x.id ≠ y.id
  sm : ∀ x ∈ q.smalls, ∀ y ∈ q.tims, x.id ≠ y.id
theorem ids_of {q : Lp} (h : q.nums.Nodup) : Ids q := by
  unfold Lp.nums at h
  rw [List.nodup_append, List.nodup_append] at h
  obtain ⟨⟨h1, h2, h3⟩, h4, h5⟩ := h
  exact ⟨h1, h2, h4, fun x hx y hy => h3 _ (List.mem_map_of_mem hx) _ (List.mem_map_of_mem hy), fun x hx y hy => h5 _ (List.mem_append_left _ (List.mem_map_of_mem hx)) _ (List.mem_map_of_mem hy), fun x hx y hy => h5 _ (List.mem_append_right _ (List.mem_map_of_mem hx)) _ (List.mem_map_of_mem hy)⟩
theorem once_snoc {ev : Bool} {l : List Job} {j : Job} (h : l.Pairwise (OnceR ev)) (hj : ∀ x ∈ l, OnceR ev x j) : (l ++ [j]).Pairwise (OnceR ev) := by
  rw [List.pairwise_append]
  exact ⟨h, List.pairwise_singleton _ _, fun x hx y hy => by rw [List.mem_singleton] at hy; subst hy; exact hj x hx⟩
theorem mem_snoc {j : Job} {l : List Job} {x : Job} (h : x ∈ l ++ [j]) : x ∈ l ∨ x = j := by
  rcases List.mem_append.1 h with h | h
  · exact .inl h
  · exact .inr (List.mem_singleton.1 h)
theorem nxt_once (ev : Bool) (q : Lp) (out : List Job) (u : Int) (h : OI ev q out) (h1 : q.now ≤ u) (h2 : u ≤ 1000000000) : OI ev (q.nxt u).1 (if (q.nxt u).2.2 then out ++ [(q.nxt u).2.1] else out) := by
  have hr := (nxt_right q u h.r h1 h2).1
  have hi := ids_of h.r.nod
  rcases nxt_ways q u with ⟨j, r, e1, e2⟩ | ⟨e1, t, r, e2, hd, e3⟩ | ⟨e1, hd, j, r, e2, e3⟩ | ⟨e1, hd, e2, e3⟩
  · rw [e2] at hr ⊢
    rw [if_pos rfl]
    have hj : j ∈ q.smalls := by rw [e1]; simp
    have hne := h.ss j hj
    have hrm : ∀ x ∈ r, x ∈ q.smalls := fun x hx => by rw [e1]; simp [hx]
    have hnd : ∀ x ∈ r, j.id ≠ x.id := by
      have := hi.s
      rw [e1, List.map_cons, List.nodup_cons] at this
      intro x hx e
      exact this.1 (List.mem_map.2 ⟨x, hx, e.symm⟩)
    refine ⟨hr, once_snoc h.o (fun x hx e => absurd e (hne x hx)), fun x hx => ?_, fun x hx y hy => ?_, fun x hx y hy => ?_, fun t ht => ?_, h.ev⟩
    · rcases mem_snoc hx with hx | rfl
      · exact h.lt x hx
      · exact h.r.rng _ (by unfold Lp.nums; exact List.mem_append_left _ (List.mem_append_right _ (List.mem_map_of_mem hj)))
    · rcases mem_snoc hy with hy | rfl
      · exact h.ts x hx y hy
      · exact (hi.st x hx y hj).symm
    · rcases mem_snoc hy with hy | rfl
      · exact h.ss x (hrm x hx) y hy
      · exact hnd x hx
    · rcases h.tm t ht with h3 | h3
      · refine .inl (fun y hy => ?_)
        rcases mem_snoc hy with hy | rfl
        · exact h3 y hy
        · exact hi.sm y hj t ht
      · exact .inr h3
  · rw [e3] at hr ⊢
    rw [if_pos rfl]
    have ht : t ∈ q.tims := by rw [e2]; simp
    have hrm : ∀ x ∈ r, x ∈ q.tims := fun x hx => by rw [e2]; simp [hx]
    have hnd : ∀ x ∈ r, t.id ≠ x.id := by
      have := hi.m
      rw [e2, List.map_cons, List.nodup_cons] at this
      intro x hx e
      exact this.1 (List.mem_map.2 ⟨x, hx, e.symm⟩)
    have hold : ∀ x ∈ r, (∀ j ∈ out ++ [t.job], j.id ≠ x.id) ∨ ev = true := fun x hx => by
      rcases h.tm x (hrm x hx) with h3 | h3
      · refine .inl (fun y hy => ?_)
        rcases mem_snoc hy with hy | rfl
        · exact h3 y hy
        · exact hnd x hx
      · exact .inr h3
    refine ⟨hr, once_snoc h.o (fun x hx e => ?_), fun x hx => ?_, fun x hx y hy => ?_, fun x hx y hy => ?_, fun x hx => ?_, fun x hx => ?_⟩
    · rcases h.tm t ht with h3 | h3
      · exact absurd e (h3 x hx)
      · exact ⟨h3, rfl⟩
    · rcases mem_snoc hx with hx | rfl
      · exact h.lt x hx
      · exact h.r.rng _ (tim_mem ht)
    · rcases mem_snoc hy with hy | rfl
      · exact h.ts x hx y hy
      · exact (hi.tt x hx t ht).symm
    · rcases mem_snoc hy with hy | rfl
      · exact h.ss x hx y hy
      · exact (hi.sm x hx t ht).symm
    · simp only [Lp.fire] at hx
      by_cases hm : t.more = true
      · rw [if_pos hm, (laid_perm _ _).mem_iff] at hx
        rcases List.mem_cons.1 hx with rfl | hx
        · refine .inr (h.ev t ht ?_)
          unfold Tim.more at hm
          rw [Bool.and_eq_true, Bool.and_eq_true, decide_eq_true_eq] at hm
          exact hm.1.1
        · exact hold x hx
      · rw [if_neg hm] at hx
        exact hold x hx
    · simp only [Lp.fire] at hx
      by_cases hm : t.more = true
      · rw [if_pos hm, (laid_perm _ _).mem_iff] at hx
        rcases List.mem_cons.1 hx with rfl | hx
        · exact h.ev t ht
        · exact h.ev x (hrm x hx)
      · rw [if_neg hm] at hx
        exact h.ev x (hrm x hx)
  · rw [e3] at hr ⊢
    rw [if_pos rfl]
    have hj : j ∈ q.tasks := by rw [e2]; simp
    have hne := h.ts j hj
    have hrm : ∀ x ∈ r, x ∈ q.tasks := fun x hx => by rw [e2]; simp [hx]
    have hnd : ∀ x ∈ r, j.id ≠ x.id := by
      have := hi.t
      rw [e2, List.map_cons, List.nodup_cons] at this
      intro x hx e
      exact this.1 (List.mem_map.2 ⟨x, hx, e.symm⟩)
    refine ⟨hr, once_snoc h.o (fun x hx e => absurd e (hne x hx)), fun x hx => ?_, fun x hx y hy => ?_, fun x hx y hy => ?_, fun t ht => ?_, h.ev⟩
    · rcases mem_snoc hx with hx | rfl
      · exact h.lt x hx
      · exact h.r.rng _ (by unfold Lp.nums; exact List.mem_append_left _ (List.mem_append_left _ (List.mem_map_of_mem hj)))
    · rcases mem_snoc hy with hy | rfl
      · exact h.ts x (hrm x hx) y hy
      · exact hnd x hx
    · rcases mem_snoc hy with hy | rfl
      · exact h.ss x hx y hy
      · exact hi.st y hj x hx
    · rcases h.tm t ht with h3 | h3
      · refine .inl (fun y hy => ?_)
        rcases mem_snoc hy with hy | rfl
        · exact h3 y hy
        · exact hi.tt y hj t ht
      · exact .inr h3
  · rw [e3] at hr ⊢
    exact ⟨hr, h.o, h.lt, h.ts, h.ss, h.tm, h.ev⟩
theorem runL_once (ev : Bool) : ∀ (n : Nat) (u : Int) (q : Lp) (out : List Job), OI ev q out → q.now ≤ u → u ≤ 1000000000 → OI ev (runL n u q out).1 (runL n u q out).2
  | 0, _, _, _, h, _, _ => h
  | n + 1, u, q, out, h, h1, h2 => by
    have hn := nxt_once ev q out u h h1 h2
    obtain ⟨_, _, r3⟩ := nxt_right q u h.r h1 h2
    unfold runL
    split
    · rename_i hi
      rw [if_pos hi] at hn
      exact runL_once ev n u _ _ hn r3 h2
    · rename_i hi
      rw [if_neg hi] at hn
      exact hn
theorem post_once (ev : Bool) (q : Lp) (a : Qst) (b : Bool) (out : List Job) (h : OI ev q out) (hr : Right (q.post a b).1) : OI ev (q.post a b).1 out := by
  have hnew : ∀ j ∈ out, j.id ≠ q.next := fun j hj => by have := h.lt j hj; omega
  unfold Lp.post at hr ⊢
  split
  · rename_i hb
    rw [if_pos hb] at hr
    split
    · exact h
    · rename_i hf
      rw [if_neg hf] at hr
      refine ⟨hr, h.o, fun j hj => by have := h.lt j hj; simp only; omega, h.ts, fun x hx => ?_, h.tm, h.ev⟩
      rcases mem_snoc hx with hx | rfl
      · exact h.ss x hx
      · exact hnew
  · rename_i hb
    rw [if_neg hb] at hr
    split
    · exact h
    · rename_i hw
      rw [if_neg hw] at hr
      split
      · exact h
      · rename_i hf
        rw [if_neg hf] at hr
        refine ⟨hr, h.o, fun j hj => by have := h.lt j hj; simp only; omega, fun x hx => ?_, h.ss, h.tm, h.ev⟩
        rcases mem_snoc hx with hx | rfl
        · exact h.ts x hx
        · exact hnew
theorem timerE_once (ev : Bool) (q : Lp) (a : Qst) (L E : Int) (out : List Job) (h : OI ev q out) (hr : Right (q.timerE a L E).1) (hE : 0 < E → ev = true) : OI ev (q.timerE a L E).1 out := by
  have hnew : ∀ j ∈ out, j.id ≠ q.next := fun j hj => by have := h.lt j hj; omega
  unfold Lp.timerE at hr ⊢
  split
  · exact h
  · rename_i h1
    rw [if_neg h1] at hr
    split
    · exact h
    · rename_i h2
      rw [if_neg h2] at hr
      split
      · exact h
      · rename_i h3
        rw [if_neg h3] at hr
        refine ⟨hr, h.o, fun j hj => by have := h.lt j hj; simp only; omega, h.ts, h.ss, fun t ht => ?_, fun t ht => ?_⟩
        · simp only at ht
          rw [(laid_perm _ _).mem_iff] at ht
          rcases List.mem_cons.1 ht with rfl | ht
          · exact .inl hnew
          · exact h.tm t ht
        · simp only at ht
          rw [(laid_perm _ _).mem_iff] at ht
          rcases List.mem_cons.1 ht with rfl | ht
          · exact hE
          · exact h.ev t ht
theorem do_once (ev : Bool) (q : Lp) (a : Qst) (out : List Job) (h : OI ev q out) (he : a.do_ = 4 → ev = true) (hr : Right (q.do_ a).1) : OI ev (q.do_ a).1 out := by
  unfold Lp.do_ at hr ⊢
  split
  · rename_i h1; rw [if_pos h1] at hr; exact post_once _ _ _ _ _ h hr
  · rename_i h1
    rw [if_neg h1] at hr
    split
    · rename_i h1; rw [if_pos h1] at hr; exact post_once _ _ _ _ _ h hr
    · rename_i h1
      rw [if_neg h1] at hr
      split
      · rename_i h1; rw [if_pos h1] at hr; exact timerE_once _ _ _ _ _ _ h hr (fun h => by simp at h)
      · rename_i h1
        rw [if_neg h1] at hr
        split
        · rename_i h1; rw [if_pos h1] at hr; exact timerE_once _ _ _ _ _ _ h hr (fun _ => he h1)
        · rename_i h1
          rw [if_neg h1] at hr
          split
          · exact h
          · rename_i h1
            rw [if_neg h1] at hr
            have hsub := List.eraseIdx_sublist q.tims (idxP (fun t => t.id == a.n) q.tims).toNat
            exact ⟨hr, h.o, h.lt, h.ts, h.ss, fun t ht => h.tm t (hsub.subset ht), fun t ht => h.ev t (hsub.subset ht)⟩
theorem step_once (ev : Bool) (s : Lp × List Job) (a : Qst) (h : OI ev s.1 s.2) (he : a.do_ = 4 → ev = true) : OI ev (playStep s a).1 (playStep s a).2 := by
  unfold playStep
  split
  · split
    · rename_i hr
      rw [runs_iff] at hr
      exact runL_once ev _ _ _ _ h (by omega) hr.2
    · exact h
  · split
    · rename_i hok
      obtain ⟨_, _, h3, h4⟩ := ask_right _ _ hok
      simp only
      rw [h3] at h4 ⊢
      exact do_once ev _ _ _ h he h4
    · exact h
theorem played_once (asks : List Qst) : OI (asks.any (fun a => a.do_ == 4)) (played asks).1 (played asks).2 := by
  have key : ∀ (ev : Bool) (l : List Qst) (s : Lp × List Job), OI ev s.1 s.2 → (∀ a ∈ l, a.do_ = 4 → ev = true) → OI ev (l.foldl playStep s).1 (l.foldl playStep s).2 := by
    intro ev l
    induction l with
    | nil => intro s h _; exact h
    | cons a l ih =>
      intro s h he
      exact ih _ (step_once ev s a h (he a (by simp))) (fun b hb => he b (by simp [hb]))
  refine key _ asks (Lp.zero, []) ⟨zero_right, List.Pairwise.nil, fun j hj => by simp at hj, fun x hx => by simp [Lp.zero] at hx, fun x hx => by simp [Lp.zero] at hx, fun x hx => by simp [Lp.zero] at hx, fun x hx => by simp [Lp.zero] at hx⟩ (fun a ha hd => ?_)
  rw [List.any_eq_true]
  exact ⟨a, ha, by simpa using hd⟩
/-- What LoopOnce looks at. -/
theorem once_plain (asks : List Qst) : ((play asks).2.2 ≠ 0 → (play asks).1 = []) ∧ (∀ (k : Nat) (h : k < (play asks).1.length), 0 ≤ (play asks).1[k].id ∧ (play asks).1[k].id ≤ 1000000000 ∧ ((((play asks).1.take k).map Job.id).contains (play asks).1[k].id = true → asks.any (fun a => a.do_ == 4) = true ∧ (play asks).1[k].src = 3)) ∧ (play asks).1.length ≤ 300 := by
  have ho := played_once asks
  have hl := (played_right asks).2
  unfold play
  split
  · exact ⟨fun _ => rfl, fun k h => by simp at h, by simp⟩
  · split
    · refine ⟨fun h => absurd rfl h, fun k h => ?_, hl⟩
      simp only at h ⊢
      have hm := List.getElem_mem h
      have hb := ho.lt _ hm
      have hn2 := ho.r.n2
      refine ⟨hb.1, by omega, fun hc => ?_⟩
      rw [List.contains_iff_mem, List.mem_map] at hc
      obtain ⟨x, hx, e⟩ := hc
      obtain ⟨i, hi, hx2⟩ := List.mem_iff_getElem.1 hx
      have hik : i < k := by rw [List.length_take] at hi; omega
      rw [List.getElem_take] at hx2
      have := List.pairwise_iff_getElem.1 ho.o i k (by omega) h hik
      rw [hx2] at this
      exact this e
    · exact ⟨fun _ => rfl, fun k h => by simp at h, by simp⟩
end Go.Proofs.Ytpmklganodlciaa
