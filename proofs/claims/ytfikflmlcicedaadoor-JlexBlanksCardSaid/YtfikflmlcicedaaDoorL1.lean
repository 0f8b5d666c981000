/- Plain laws of the reader: a gap alone, a token alone. -/
import Derived.Test.YtfikflmlcicedaaDoorJ12
namespace Go.Proofs.YtfikflmlcicedaaDoor

theorem head_take (t : List UInt8) (n : Nat) (hn : 1 ≤ n) : (t.take n).head? = t.head? := by
  cases t with
  | nil => simp
  | cons a u => obtain ⟨k, rfl⟩ : ∃ k, n = k + 1 := ⟨n - 1, by omega⟩; rfl
theorem skip_take : ∀ (b : Bool) (m : List UInt8), skipN b (m.take (skipN b m)) = skipN b m
  | _, [] => by simp [skipN]
  | false, c :: t => by
    by_cases hb : bl c = true
    · have e : skipN false (c :: t) = skipN false t + 1 := by simp [skipN, hb, Nat.add_comm]
      rw [e, List.take_succ_cons]
      have ih := skip_take false t
      simp only [skipN, hb, if_true]
      omega
    · simp only [Bool.not_eq_true] at hb
      by_cases hc : (c == 47 && t.head? == some 47) = true
      · have e : skipN false (c :: t) = skipN true t + 1 := by simp only [skipN, hb, hc, if_true]; simp [Nat.add_comm]
        have ih := skip_take true t
        have hpos : 1 ≤ skipN true t := by
          simp only [Bool.and_eq_true, beq_iff_eq] at hc
          cases t with
          | nil => simp at hc
          | cons a u => unfold skipN; split <;> omega
        rw [e, List.take_succ_cons]
        have hc' : (c == 47 && (t.take (skipN true t)).head? == some 47) = true := by rw [head_take _ _ hpos]; exact hc
        conv => lhs; unfold skipN
        rw [hb, hc']
        simp only [if_true]
        simp
        omega
      · have e : skipN false (c :: t) = 0 := by simp only [skipN, hb]; simp only [hc]; simp
        rw [e]
        rfl
  | true, c :: t => by
    by_cases hc : (c == 10) = true
    · have e : skipN true (c :: t) = skipN false t + 1 := by simp only [skipN, hc, if_true]; omega
      have ih := skip_take false t
      rw [e, List.take_succ_cons]
      simp only [skipN, hc, if_true]
      omega
    · have e : skipN true (c :: t) = skipN true t + 1 := by simp only [skipN, hc]; simp; omega
      have ih := skip_take true t
      rw [e, List.take_succ_cons]
      simp only [skipN, hc]
      simp
      omega
theorem skip0_take (m : List UInt8) (n : Nat) (h : skipN false m = 0) : skipN false (m.take n) = 0 := by
  cases m with
  | nil => simp [skipN]
  | cons c t =>
    cases n with
    | zero => rfl
    | succ n =>
      rw [List.take_succ_cons]
      by_cases hb : bl c = true
      · simp [skipN, hb] at h
      · simp only [Bool.not_eq_true] at hb
        by_cases hc : (c == 47 && t.head? == some 47) = true
        · simp only [skipN, hb, hc, if_true] at h
          simp at h
        · have hc' : ¬ (c == 47 && (t.take n).head? == some 47) = true := by
            intro h'
            apply hc
            cases n with
            | zero => simp at h'
            | succ n => rwa [head_take _ _ (by omega)] at h'
          unfold skipN
          simp only [hb, hc', if_false, Bool.false_eq_true]
theorem gap_lex (m : List UInt8) (hm : m.length ≤ 2000) : lex (m.take (skipN false m)) = .inl [] := by
  have h1 := skip_take false m
  have h2 := skip_le false m
  unfold lex
  rw [if_neg (by rw [List.length_take]; omega), h1, List.drop_eq_nil_of_le (by rw [List.length_take]; omega)]
  rfl

theorem run_take (p : UInt8 → Bool) : ∀ l, runN p (l.take (runN p l)) = runN p l
  | [] => rfl
  | c :: t => by
    by_cases hc : p c = true
    · have e : runN p (c :: t) = runN p t + 1 := by simp only [runN, hc, if_true]; omega
      have ih := run_take p t
      rw [e, List.take_succ_cons]
      simp only [runN, hc, if_true]
      omega
    · have e : runN p (c :: t) = 0 := by simp [runN, hc]
      rw [e]; rfl
theorem pk_take (l : List UInt8) (k n : Nat) (h : k < n) : pk (l.take n) k = pk l k := by
  unfold pk
  rw [List.getD_eq_getElem?_getD, List.getD_eq_getElem?_getD, List.getElem?_take_of_lt h]
theorem pk_past (l : List UInt8) (n : Nat) : pk (l.take n) n = 0 := by
  unfold pk
  rw [List.getD_eq_getElem?_getD, List.getElem?_eq_none (by rw [List.length_take]; omega)]
  rfl
theorem esc_take (t : List UInt8) (b : UInt8) (k j : Nat) (h : esc t = some (b, k)) (hj : k ≤ j) : esc (t.take j) = some (b, k) := by
  have hk := (esc_le _ _ _ h).1
  have p0 : pk (t.take j) 0 = pk t 0 := pk_take _ _ _ (by omega)
  by_cases h3 : k = 3
  · subst h3
    unfold esc at h ⊢
    rw [p0, pk_take _ 1 _ (by omega), pk_take _ 2 _ (by omega)]
    exact h
  · unfold esc at h ⊢
    rw [p0]
    split at h
    · rename_i hc; rw [if_pos hc]; exact h
    · rename_i hc; rw [if_neg hc]
      split at h
      · rename_i hc; rw [if_pos hc]; exact h
      · rename_i hc; rw [if_neg hc]
        split at h
        · rename_i hc; rw [if_pos hc]; exact h
        · split at h
          · split at h
            · injection h with h; injection h with _ h; omega
            · cases h
          · cases h
theorem textF_take : ∀ (f : Nat) (acc l : List UInt8) (n : Nat) (x : List UInt8) (m : Nat), textF f acc l n = some (x, m) → ∀ f', m - n ≤ f' → textF f' acc (l.take (m - n)) n = some (x, m)
  | 0, _, _, _, _, _, h, _, _ => by cases h
  | f + 1, acc, [], n, x, m, h, _, _ => by rw [textF_nil] at h; cases h
  | f + 1, acc, c :: t, n, x, m, h, f', hf => by
    have hn := textF_n _ _ _ _ _ _ h
    obtain ⟨g, rfl⟩ : ∃ g, f' = g + 1 := ⟨f' - 1, by omega⟩
    obtain ⟨d, hd⟩ : ∃ d, m - n = d + 1 := ⟨m - n - 1, by omega⟩
    rw [hd, List.take_succ_cons]
    by_cases h1 : c = 34
    · subst h1
      rw [textF_quote] at h ⊢
      exact h
    · by_cases h2 : c < 32
      · rw [textF_low _ _ _ _ _ h1 h2] at h; cases h
      · by_cases h3 : c = 92
        · subst h3
          rcases he : esc t with _ | ⟨b, k⟩
          · rw [textF_back_no _ _ _ _ he] at h; cases h
          · rw [textF_back _ _ _ _ _ _ he] at h
            have hn2 := textF_n _ _ _ _ _ _ h
            rw [textF_back _ _ _ _ b k (esc_take _ _ _ _ he (by omega))]
            have := textF_take f _ _ _ _ _ h g (by omega)
            rw [show (t.take d).drop k = (t.drop k).take (m - (n + 1 + k)) by rw [List.drop_take]; congr 1; omega]
            exact this
        · rw [textF_on _ _ _ _ _ h1 h2 h3] at h ⊢
          have := textF_take f _ _ _ _ _ h g (by omega)
          rw [show d = m - (n + 1) by omega]
          exact this
end Go.Proofs.YtfikflmlcicedaaDoor
