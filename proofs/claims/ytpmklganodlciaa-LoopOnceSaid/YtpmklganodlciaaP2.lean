/- Plain: what is asked, and what is taken, leaves a loop right. -/
import Derived.Test.YtpmklganodlciaaT22
namespace Go.Proofs.Ytpmklganodlciaa
open Go.RowKit

theorem laid_perm (t : Tim) (l : List Tim) : (laid t l).Perm (t :: l) := by
  unfold laid
  refine List.perm_middle.trans ?_
  rw [List.takeWhile_append_dropWhile]
theorem ordT_total {a b : Tim} (h : ¬ ordT a b < 0) (hne : a.id ≠ b.id) : ordT b a < 0 := by
  rw [ordT_lt] at *
  omega
theorem mem_takeWhile {α : Type} {p : α → Bool} {x : α} : ∀ {l : List α}, x ∈ l.takeWhile p → p x = true
  | [], h => by simp at h
  | a :: l, h => by
    by_cases ha : p a = true
    · rw [List.takeWhile_cons_of_pos ha] at h
      rcases List.mem_cons.1 h with rfl | h
      · exact ha
      · exact mem_takeWhile h
    · rw [List.takeWhile_cons_of_neg ha] at h
      simp at h
theorem laid_srt (t : Tim) (l : List Tim) (hs : Srt l) (hne : ∀ x ∈ l, x.id ≠ t.id) : Srt (laid t l) := by
  have hlt : ∀ x ∈ l.takeWhile (fun x => decide (ordT x t < 0)), ordT x t < 0 := fun x hx => by simpa using mem_takeWhile hx
  have hgt : ∀ (l : List Tim), Srt l → (∀ x ∈ l, x.id ≠ t.id) → ∀ x ∈ l.dropWhile (fun x => decide (ordT x t < 0)), ordT t x < 0 := by
    intro l
    induction l with
    | nil => intro _ _ x hx; simp at hx
    | cons a l ih =>
      intro hs hne x hx
      obtain ⟨h1, h2⟩ := List.pairwise_cons.1 hs
      by_cases ha : ordT a t < 0
      · rw [List.dropWhile_cons_of_pos (by simpa using ha)] at hx
        exact ih h2 (fun y hy => hne y (by simp [hy])) x hx
      · rw [List.dropWhile_cons_of_neg (by simpa using ha)] at hx
        have hta := ordT_total ha (hne a (by simp))
        rcases List.mem_cons.1 hx with rfl | hx
        · exact hta
        · exact ordT_trans hta (h1 x hx)
  have hd := hgt l hs hne
  unfold Srt laid
  rw [List.pairwise_append, List.pairwise_cons]
  refine ⟨hs.sublist (List.takeWhile_sublist _), ⟨hd, hs.sublist (List.dropWhile_sublist _)⟩, fun x hx y hy => ?_⟩
  rcases List.mem_cons.1 hy with rfl | hy
  · exact hlt x hx
  · exact ordT_trans (hlt x hx) (hd y hy)
theorem full_false {next n : Int} (h : full next n = false) : n < 100 ∧ next ≠ 1000000000 := by
  unfold full at h
  rw [Bool.or_eq_false_iff, decide_eq_false_iff_not, beq_eq_false_iff_ne] at h
  exact ⟨by omega, h.2⟩
/-- One number more. -/
theorem Right.more {q q' : Lp} (h : Right q) (hp : q'.nums.Perm (q.next :: q.nums)) (hn : q'.next = q.next + 1) : (∀ n ∈ q'.nums, 0 ≤ n ∧ n < q'.next) ∧ q'.nums.Nodup := by
  refine ⟨fun n hm => ?_, ?_⟩
  · rw [hp.mem_iff] at hm
    have := h.n1
    rcases List.mem_cons.1 hm with rfl | hm
    · omega
    · have := h.rng n hm; omega
  · rw [hp.nodup_iff, List.nodup_cons]
    exact ⟨fun hm => by have := h.rng _ hm; omega, h.nod⟩
theorem tim_mem {q : Lp} {t : Tim} (h : t ∈ q.tims) : t.id ∈ q.nums := by
  unfold Lp.nums
  exact List.mem_append_right _ (List.mem_map_of_mem h)
theorem post_right (q : Lp) (a : Qst) (small : Bool) (h : Right q) (he : (q.post a small).2.2 = 0) : Right (q.post a small).1 := by
  unfold Lp.post at he ⊢
  cases small with
  | true =>
    simp only [if_true] at he ⊢
    split at he
    · cases he
    · rename_i hf
      obtain ⟨f1, f2⟩ := full_false (by simpa using hf)
      rw [if_neg hf]
      obtain ⟨m1, m2⟩ := h.more (q' := { q with smalls := q.smalls ++ [jobOf q.next 0 true a], next := q.next + 1 }) (by
        simp only [Lp.nums, List.map_append, List.map_cons, List.map_nil, jobOf, List.append_assoc]
        have : (q.next :: (q.tasks.map Job.id ++ (q.smalls.map Job.id ++ q.tims.map Tim.id))) = q.next :: ((q.tasks.map Job.id ++ q.smalls.map Job.id) ++ q.tims.map Tim.id) := by rw [List.append_assoc]
        rw [this, ← List.append_assoc]
        exact List.perm_middle) rfl
      exact ⟨h.h1, by simp only [List.length_append, List.length_cons, List.length_nil]; omega, h.h3, h.w1, h.w2, by have := h.n1; simp only; omega, by have := h.n2; simp only; omega, m1, m2, h.tk, fun j hj => by
        rcases List.mem_append.1 hj with hj | hj
        · exact h.sm j hj
        · rw [List.mem_singleton] at hj; subst hj; exact ⟨rfl, rfl⟩, h.tm, h.srt⟩
  | false =>
    simp only [Bool.false_eq_true, if_false] at he ⊢
    split at he
    · cases he
    · rename_i hw
      rw [if_neg hw]
      split at he
      · cases he
      · rename_i hf
        obtain ⟨f1, f2⟩ := full_false (by simpa using hf)
        rw [if_neg hf]
        have hw' := within_iff.1 (show within a.src 1 4 = true by simpa using hw)
        obtain ⟨m1, m2⟩ := h.more (q' := { q with tasks := q.tasks ++ [jobOf q.next a.src false a], next := q.next + 1 }) (by
          simp only [Lp.nums, List.map_append, List.map_cons, List.map_nil, jobOf, List.append_assoc]
          exact List.perm_middle) rfl
        exact ⟨by simp only [List.length_append, List.length_cons, List.length_nil]; omega, h.h2, h.h3, h.w1, h.w2, by have := h.n1; simp only; omega, by have := h.n2; simp only; omega, m1, m2, fun j hj => by
          rcases List.mem_append.1 hj with hj | hj
          · exact h.tk j hj
          · rw [List.mem_singleton] at hj; subst hj; exact ⟨rfl, hw'⟩, h.sm, h.tm, h.srt⟩
theorem timerE_right (q : Lp) (a : Qst) (L E : Int) (hL : 0 ≤ L) (hE : 0 ≤ E ∧ (E = 0 ∨ E = a.n)) (h : Right q) (he : (q.timerE a L E).2.2 = 0) : Right (q.timerE a L E).1 := by
  unfold Lp.timerE at he ⊢
  split at he
  · cases he
  · rename_i hw
    rw [if_neg hw]
    split at he
    · cases he
    · rename_i hs
      rw [if_neg hs]
      split at he
      · cases he
      · rename_i hf
        rw [if_neg hf]
        obtain ⟨f1, f2⟩ := full_false (by simpa using hf)
        have hw' := within_iff.1 (show within a.n L 1000000 = true by simpa using hw)
        have hn0 : 0 ≤ a.n := by omega
        generalize ht : (⟨q.next, q.now + a.n, E, 0, a.call⟩ : Tim) = t
        have hp := laid_perm t q.tims
        obtain ⟨m1, m2⟩ := h.more (q' := { q with tims := laid t q.tims, next := q.next + 1 }) (by
          simp only [Lp.nums]
          refine ((hp.map Tim.id).append_left _).trans ?_
          rw [List.map_cons, show t.id = q.next by rw [← ht]]
          exact List.perm_middle) rfl
        have w1 := h.w1
        refine ⟨h.h1, h.h2, by simp only [hp.length_eq, List.length_cons]; omega, h.w1, h.w2, by have := h.n1; simp only; omega, by have := h.n2; simp only; omega, m1, m2, h.tk, h.sm, fun x hx => ?_, ?_⟩
        · rw [hp.mem_iff] at hx
          rcases List.mem_cons.1 hx with rfl | hx
          · rw [← ht]
            simp only
            omega
          · exact h.tm x hx
        · refine laid_srt _ _ h.srt (fun x hx => ?_)
          have := h.rng x.id (tim_mem hx)
          rw [← ht]
          simp only
          omega
theorem timer_right (q : Lp) (a : Qst) (every : Bool) (h : Right q) (he : (q.timer a every).2.2 = 0) : Right (q.timer a every).1 := by
  unfold Lp.timer at he ⊢
  cases every with
  | false => exact timerE_right q a 0 0 (by omega) (by omega) h he
  | true =>
    have hn : within a.n 1 1000000 = true := by
      cases hw : within a.n 1 1000000 with
      | true => rfl
      | false => simp [Lp.timerE, hw] at he
    have := within_iff.1 hn
    exact timerE_right q a 1 a.n (by omega) (by omega) h he
theorem do_right (q : Lp) (a : Qst) (h : Right q) (he : (q.do_ a).2.2 = 0) : Right (q.do_ a).1 := by
  unfold Lp.do_ at he ⊢
  split at he
  · rename_i h1; rw [if_pos h1]; exact post_right _ _ _ h he
  · rename_i h1
    rw [if_neg h1]
    split at he
    · rename_i h1; rw [if_pos h1]; exact post_right _ _ _ h he
    · rename_i h1
      rw [if_neg h1]
      split at he
      · rename_i h1; rw [if_pos h1]; exact timer_right _ _ _ h he
      · rename_i h1
        rw [if_neg h1]
        split at he
        · rename_i h1; rw [if_pos h1]; exact timer_right _ _ _ h he
        · rename_i h1
          rw [if_neg h1]
          split at he
          · cases he
          · rename_i h1
            rw [if_neg h1]
            have hsub := List.eraseIdx_sublist q.tims (idxP (fun t => t.id == a.n) q.tims).toNat
            have hn : (q.tasks.map Job.id ++ q.smalls.map Job.id ++ (q.tims.eraseIdx (idxP (fun t => t.id == a.n) q.tims).toNat).map Tim.id).Sublist q.nums := (hsub.map Tim.id).append_left _
            refine ⟨h.h1, h.h2, Nat.le_trans hsub.length_le h.h3, h.w1, h.w2, h.n1, h.n2, fun n hm => h.rng n (hn.subset hm), h.nod.sublist hn, h.tk, h.sm, fun x hx => h.tm x (hsub.subset hx), h.srt.sublist hsub⟩
theorem ask_right (q : Lp) (a : Qst) (he : (q.ask a).2.2 = 0) : Right q ∧ within a.do_ 1 5 = true ∧ q.ask a = q.do_ a ∧ Right (q.ask a).1 := by
  unfold Lp.ask at he ⊢
  split at he
  · rename_i h1
    rw [if_pos h1]
    have h := (right_iff q).1 h1
    split at he
    · rename_i h2
      rw [if_pos h2]
      split at he
      · rename_i h3
        rw [if_pos h3]
        exact ⟨h, h2, rfl, do_right q a h he⟩
      · rename_i h3; exact absurd he h3
    · cases he
  · rename_i h1; exact absurd he h1
theorem fire_right (q : Lp) (t : Tim) (r : List Tim) (h : Right q) (ht : q.tims = t :: r) : Right (q.fire t r).1 ∧ (q.fire t r).1.now = t.at_ := by
  have hm : max q.now t.at_ = t.at_ := by have := (h.tm t (by rw [ht]; simp)).1; omega
  have hT := h.tm t (by rw [ht]; simp)
  have hs := h.srt
  rw [ht] at hs
  obtain ⟨s1, s2⟩ := List.pairwise_cons.1 hs
  have hlen := h.h3
  rw [ht, List.length_cons] at hlen
  have hnum : q.nums = q.tasks.map Job.id ++ q.smalls.map Job.id ++ (t.id :: r.map Tim.id) := by unfold Lp.nums; rw [ht, List.map_cons]
  have w1 := h.w1
  unfold Lp.fire
  simp only [hm]
  refine ⟨?_, trivial⟩
  have hat : ∀ x ∈ r, t.at_ ≤ x.at_ := fun x hx => by have := ordT_lt.1 (s1 x hx); omega
  have hrm : ∀ x ∈ r, x ∈ q.tims := fun x hx => by rw [ht]; simp [hx]
  by_cases hmore : t.more = true
  · rw [if_pos hmore]
    unfold Tim.more at hmore
    rw [Bool.and_eq_true, Bool.and_eq_true, decide_eq_true_eq, decide_eq_true_eq, decide_eq_true_eq] at hmore
    have hp := laid_perm t.again r
    have hpn : (q.tasks.map Job.id ++ q.smalls.map Job.id ++ (laid t.again r).map Tim.id).Perm q.nums := by
      rw [hnum]
      exact (hp.map Tim.id).append_left _
    refine ⟨h.h1, h.h2, by simp only [hp.length_eq, List.length_cons]; omega, by simp only; omega, by simp only; omega, h.n1, h.n2, fun n hm => h.rng n (hpn.mem_iff.1 hm), hpn.nodup_iff.2 h.nod, h.tk, h.sm, fun x hx => ?_, ?_⟩
    · rw [hp.mem_iff] at hx
      rcases List.mem_cons.1 hx with rfl | hx
      · simp only [Tim.again]; omega
      · have := h.tm x (hrm x hx); have := hat x hx; simp only; omega
    · refine laid_srt _ _ s2 (fun x hx e => ?_)
      have hn := h.nod
      rw [hnum] at hn
      have h3 := (List.nodup_append.1 hn).2.1
      rw [List.nodup_cons] at h3
      exact h3.1 (List.mem_map.2 ⟨x, hx, e⟩)
  · rw [if_neg hmore]
    have hsub : (q.tasks.map Job.id ++ q.smalls.map Job.id ++ r.map Tim.id).Sublist q.nums := by
      rw [hnum]
      exact (List.sublist_cons_self _ _).append_left _
    refine ⟨h.h1, h.h2, by simp only; omega, by simp only; omega, by simp only; omega, h.n1, h.n2, fun n hm => h.rng n (hsub.subset hm), h.nod.sublist hsub, h.tk, h.sm, fun x hx => ?_, s2⟩
    have := h.tm x (hrm x hx); have := hat x hx; simp only; omega
theorem nxt_right (q : Lp) (u : Int) (h : Right q) (h1 : q.now ≤ u) (h2 : u ≤ 1000000000) : Right (q.nxt u).1 ∧ q.now ≤ (q.nxt u).1.now ∧ (q.nxt u).1.now ≤ u := by
  have hw1 := h.w1
  unfold Lp.nxt
  split
  · rename_i j r hs
    have hsub : (q.tasks.map Job.id ++ r.map Job.id ++ q.tims.map Tim.id).Sublist q.nums := by
      unfold Lp.nums
      rw [hs]
      exact (((List.sublist_cons_self _ _).map Job.id).append_left _).append_right _
    have hl := h.h2
    rw [hs, List.length_cons] at hl
    exact ⟨⟨h.h1, by simp only; omega, h.h3, h.w1, h.w2, h.n1, h.n2, fun n hm => h.rng n (hsub.subset hm), h.nod.sublist hsub, h.tk, fun x hx => h.sm x (by rw [hs]; simp [hx]), h.tm, h.srt⟩, Int.le_refl _, h1⟩
  · rename_i hs
    split
    · rename_i t r hd ht
      obtain ⟨r1, r2⟩ := fire_right q t r h ht
      refine ⟨r1, ?_, ?_⟩
      · rw [r2]; exact (h.tm t (by rw [ht]; simp)).1.1
      · rw [r2]
        unfold dueAt at hd
        rw [ht] at hd
        simp only [Bool.or_eq_true, Bool.and_eq_true, decide_eq_true_eq] at hd
        omega
    · rename_i hnd
      split
      · rename_i j r hts
        have hsub : (r.map Job.id ++ q.smalls.map Job.id ++ q.tims.map Tim.id).Sublist q.nums := by
          unfold Lp.nums
          rw [hts]
          exact (((List.sublist_cons_self _ _).map Job.id).append_right _).append_right _
        have hl := h.h1
        rw [hts, List.length_cons] at hl
        exact ⟨⟨by simp only; omega, h.h2, h.h3, h.w1, h.w2, h.n1, h.n2, fun n hm => h.rng n (hsub.subset hm), h.nod.sublist hsub, fun x hx => h.tk x (by rw [hts]; simp [hx]), h.sm, h.tm, h.srt⟩, Int.le_refl _, h1⟩
      · rename_i hts
        refine ⟨⟨h.h1, h.h2, h.h3, by simp only; omega, h2, h.n1, h.n2, h.rng, h.nod, h.tk, h.sm, fun x hx => ?_, h.srt⟩, h1, Int.le_refl _⟩
        obtain ⟨t, r, ht⟩ : ∃ t r, q.tims = t :: r := by
          cases hq : q.tims with
          | nil => rw [show _ = q.tims from rfl, hq] at hx; simp at hx
          | cons t r => exact ⟨t, r, rfl⟩
        have hd : dueAt q.now q.tasks q.tims u = false := by
          cases hb : dueAt q.now q.tasks q.tims u with
          | false => rfl
          | true => exact absurd ht (hnd t r hb)
        unfold dueAt at hd
        rw [ht, hts] at hd
        simp only [List.isEmpty_nil, Bool.true_and, Bool.or_eq_false_iff, decide_eq_false_iff_not] at hd
        have hT := h.tm x hx
        have hs1 := h.srt
        rw [ht] at hs1
        have hx' : x ∈ t :: r := by rw [← ht]; exact hx
        have : t.at_ ≤ x.at_ := by
          rcases List.mem_cons.1 hx' with rfl | hx'
          · omega
          · have := ordT_lt.1 ((List.pairwise_cons.1 hs1).1 x hx'); omega
        simp only
        omega
end Go.Proofs.Ytpmklganodlciaa
