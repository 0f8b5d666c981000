/- Plain: a timer that is taken away as soon as it was asked for leaves all else as it was. -/
import Derived.Test.YtpmklganodlciaaP2
namespace Go.Proofs.Ytpmklganodlciaa
open Go.RowKit

theorem idxP_mid {α : Type} (p : α → Bool) (t : α) : ∀ (A B : List α), (∀ x ∈ A, p x = false) → p t = true → idxP p (A ++ t :: B) = A.length
  | [], B, _, h => by simp [idxP, h]
  | a :: A, B, h, ht => by
    have ih := idxP_mid p t A B (fun x hx => h x (by simp [hx])) ht
    rw [List.cons_append, idxP, if_neg (by rw [h a (by simp)]; simp), ih, if_neg (by omega)]
    simp
theorem erase_mid {α : Type} (t : α) (A B : List α) : (A ++ t :: B).eraseIdx A.length = A ++ B := by
  rw [List.eraseIdx_append_of_length_le (Nat.le_refl _)]
  simp
/-- What was laid is taken away. -/
theorem laid_erase (t : Tim) (l : List Tim) (h : ∀ x ∈ l, x.id ≠ t.id) : idxP (fun x => x.id == t.id) (laid t l) = (l.takeWhile (fun x => decide (ordT x t < 0))).length ∧ (laid t l).eraseIdx (l.takeWhile (fun x => decide (ordT x t < 0))).length = l := by
  unfold laid
  refine ⟨idxP_mid _ t _ _ (fun x hx => ?_) (by simp), ?_⟩
  · have := h x ((List.takeWhile_sublist _).subset hx)
    simpa using this
  · rw [erase_mid, List.takeWhile_append_dropWhile]
theorem cancel_plain (q : Lp) (n : Int) (c c2 : ByteArray) (s1 s2 : ByteArray) (he : (q.ask ⟨3, 0, n, c, 0, 0, s1⟩).2.2 = 0) :
    (q.ask ⟨3, 0, n, c, 0, 0, s1⟩).1.ask ⟨5, 0, (q.ask ⟨3, 0, n, c, 0, 0, s1⟩).2.1, c2, 0, 0, s2⟩ = (⟨q.now, q.next + 1, q.tasks, q.smalls, q.tims⟩, 0, 0) := by
  obtain ⟨h1, _, h3, h4⟩ := ask_right q _ he
  rw [h3] at he h4 ⊢
  have hd : q.do_ ⟨3, 0, n, c, 0, 0, s1⟩ = q.timer ⟨3, 0, n, c, 0, 0, s1⟩ false := rfl
  rw [hd] at he h4 ⊢
  have ht : q.timer ⟨3, 0, n, c, 0, 0, s1⟩ false = (⟨q.now, q.next + 1, q.tasks, q.smalls, laid ⟨q.next, q.now + n, 0, 0, c⟩ q.tims⟩, q.next, 0) := by
    unfold Lp.timer Lp.timerE at he ⊢
    simp only [Bool.false_eq_true, if_false] at he ⊢
    split at he
    · cases he
    · rename_i a1
      rw [if_neg a1]
      split at he
      · cases he
      · rename_i a2
        rw [if_neg a2]
        split at he
        · cases he
        · rename_i a3
          rw [if_neg a3]
  rw [ht] at h4 ⊢
  simp only at h4 ⊢
  have hc : (⟨q.now, q.next + 1, q.tasks, q.smalls, laid ⟨q.next, q.now + n, 0, 0, c⟩ q.tims⟩ : Lp).check = 0 := (right_iff _).2 h4
  have hne : ∀ x ∈ q.tims, x.id ≠ (⟨q.next, q.now + n, 0, 0, c⟩ : Tim).id := fun x hx => by have := h1.rng x.id (tim_mem hx); simp only; omega
  obtain ⟨e1, e2⟩ := laid_erase ⟨q.next, q.now + n, 0, 0, c⟩ q.tims hne
  have hdo : (⟨q.now, q.next + 1, q.tasks, q.smalls, laid ⟨q.next, q.now + n, 0, 0, c⟩ q.tims⟩ : Lp).do_ ⟨5, 0, q.next, c2, 0, 0, s2⟩ = (⟨q.now, q.next + 1, q.tasks, q.smalls, q.tims⟩, 0, 0) := by
    unfold Lp.do_
    rw [if_neg (show ¬ ((5 : Int) = 1) by decide), if_neg (show ¬ ((5 : Int) = 2) by decide), if_neg (show ¬ ((5 : Int) = 3) by decide), if_neg (show ¬ ((5 : Int) = 4) by decide)]
    simp only at e1 e2 ⊢
    rw [e1, if_neg (by omega), Int.toNat_natCast, e2]
  unfold Lp.ask
  rw [if_pos hc, hdo]
  rfl
end Go.Proofs.Ytpmklganodlciaa
