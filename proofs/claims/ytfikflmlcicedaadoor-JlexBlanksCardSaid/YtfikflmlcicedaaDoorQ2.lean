/- Plain: what Quote writes, and that it is read again. -/
import Derived.Test.YtfikflmlcicedaaDoorL2
namespace Go.Proofs.YtfikflmlcicedaaDoor

def hx (n : Nat) : UInt8 := hexL.getD n 0
/-- What Quote writes for one byte. -/
def qb (c : UInt8) : List UInt8 :=
  if c == 34 || c == 92 then [92, c] else if c == 10 then [92, 110] else if c == 9 then [92, 116]
  else if decide (c.toNat < 32) || decide (126 < c.toNat) then [92, 120, hx (c.toNat / 16), hx (c.toNat % 16)] else [c]
def qu (l : List UInt8) : List UInt8 := l.flatMap qb
def quote (l : List UInt8) : List UInt8 := 34 :: (qu l ++ [34])

theorem qb_length (c : UInt8) : (qb c).length ≤ 4 := by
  unfold qb
  repeat' split
  all_goals simp
theorem qu_length (l : List UInt8) : (qu l).length ≤ 4 * l.length := by
  induction l with
  | nil => simp [qu]
  | cons c t ih =>
    have := qb_length c
    have e : qu (c :: t) = qb c ++ qu t := rfl
    rw [e, List.length_append, List.length_cons]
    omega
theorem hex_facts : ∀ c : Fin 256, 0 ≤ hexv (hx (c.val / 16)) ∧ 0 ≤ hexv (hx (c.val % 16)) ∧ UInt8.ofNat (hexv (hx (c.val / 16)) * 16 + hexv (hx (c.val % 16))).toNat = UInt8.ofNat c.val ∧ 32 ≤ hx (c.val / 16) ∧ hx (c.val / 16) ≤ 126 ∧ 32 ≤ hx (c.val % 16) ∧ hx (c.val % 16) ≤ 126 := by
  decide +kernel
theorem hex_byte (c : UInt8) : 0 ≤ hexv (hx (c.toNat / 16)) ∧ 0 ≤ hexv (hx (c.toNat % 16)) ∧ UInt8.ofNat (hexv (hx (c.toNat / 16)) * 16 + hexv (hx (c.toNat % 16))).toNat = c ∧ 32 ≤ hx (c.toNat / 16) ∧ hx (c.toNat / 16) ≤ 126 ∧ 32 ≤ hx (c.toNat % 16) ∧ hx (c.toNat % 16) ≤ 126 := by
  have := hex_facts ⟨c.toNat, UInt8.toNat_lt c⟩
  simpa using this
theorem qb_range (c : UInt8) : ∀ b ∈ qb c, 32 ≤ b ∧ b ≤ 126 := by
  intro b hb
  have hh := hex_byte c
  unfold qb at hb
  split at hb
  · rename_i h
    simp only [Bool.or_eq_true, beq_iff_eq] at h
    simp only [List.mem_cons, List.not_mem_nil, or_false] at hb
    rcases hb with rfl | rfl
    · decide
    · rcases h with rfl | rfl <;> decide
  · split at hb
    · simp only [List.mem_cons, List.not_mem_nil, or_false] at hb
      rcases hb with rfl | rfl <;> decide
    · split at hb
      · simp only [List.mem_cons, List.not_mem_nil, or_false] at hb
        rcases hb with rfl | rfl <;> decide
      · split at hb
        · simp only [List.mem_cons, List.not_mem_nil, or_false] at hb
          rcases hb with rfl | rfl | rfl | rfl
          · decide
          · decide
          · exact ⟨hh.2.2.2.1, hh.2.2.2.2.1⟩
          · exact ⟨hh.2.2.2.2.2.1, hh.2.2.2.2.2.2⟩
        · rename_i h
          simp only [Bool.or_eq_true, decide_eq_true_eq] at h
          simp only [List.mem_cons, List.not_mem_nil, or_false] at hb
          subst hb
          constructor
          · rw [UInt8.le_iff_toNat_le]; show 32 ≤ b.toNat; omega
          · rw [UInt8.le_iff_toNat_le]; show b.toNat ≤ 126; omega
theorem quote_range (l : List UInt8) : ∀ b ∈ quote l, 32 ≤ b ∧ b ≤ 126 := by
  intro b hb
  unfold quote at hb
  rcases List.mem_cons.1 hb with rfl | hb
  · decide
  · rcases List.mem_append.1 hb with hb | hb
    · obtain ⟨c, _, hc⟩ := List.mem_flatMap.1 hb
      exact qb_range c b hc
    · simp only [List.mem_cons, List.not_mem_nil, or_false] at hb
      subst hb; decide
theorem esc_hex (c : UInt8) (r : List UInt8) : esc (120 :: hx (c.toNat / 16) :: hx (c.toNat % 16) :: r) = some (c, 3) := by
  have hh := hex_byte c
  unfold esc
  have p0 : pk (120 :: hx (c.toNat / 16) :: hx (c.toNat % 16) :: r) 0 = 120 := rfl
  have p1 : pk (120 :: hx (c.toNat / 16) :: hx (c.toNat % 16) :: r) 1 = hx (c.toNat / 16) := rfl
  have p2 : pk (120 :: hx (c.toNat / 16) :: hx (c.toNat % 16) :: r) 2 = hx (c.toNat % 16) := rfl
  rw [p0, p1, p2, if_neg (by decide), if_neg (by decide), if_neg (by decide), if_pos (by decide), if_pos ⟨hh.1, hh.2.1⟩, hh.2.2.1]
theorem textF_qb (c : UInt8) (f : Nat) (acc r : List UInt8) (n : Nat) : textF (f + 1) acc (qb c ++ r) n = textF f (acc ++ [c]) r (n + (qb c).length) := by
  unfold qb
  split
  · rename_i h
    simp only [Bool.or_eq_true, beq_iff_eq] at h
    have he : esc (c :: r) = some (c, 1) := by
      unfold esc
      rw [show pk (c :: r) 0 = c from rfl, if_pos (by simpa using h)]
    show textF (f + 1) acc (92 :: (c :: r)) n = _
    rw [textF_back _ _ _ _ _ _ he]
    rfl
  · split
    · rename_i h
      simp only [beq_iff_eq] at h
      subst h
      have he : esc (110 :: r) = some (10, 1) := rfl
      show textF (f + 1) acc (92 :: (110 :: r)) n = _
      rw [textF_back _ _ _ _ _ _ he]
      rfl
    · split
      · rename_i h
        simp only [beq_iff_eq] at h
        subst h
        have he : esc (116 :: r) = some (9, 1) := rfl
        show textF (f + 1) acc (92 :: (116 :: r)) n = _
        rw [textF_back _ _ _ _ _ _ he]
        rfl
      · split
        · show textF (f + 1) acc (92 :: (120 :: hx (c.toNat / 16) :: hx (c.toNat % 16) :: r)) n = _
          rw [textF_back _ _ _ _ _ _ (esc_hex c r)]
          rfl
        · rename_i h1 _ _ h
          simp only [Bool.or_eq_true, decide_eq_true_eq] at h
          simp only [Bool.or_eq_true, beq_iff_eq] at h1
          show textF (f + 1) acc (c :: r) n = _
          rw [textF_on _ _ _ _ _ (fun e => h1 (.inl e)) (by rw [UInt8.lt_iff_toNat_lt]; show ¬ c.toNat < 32; omega) (fun e => h1 (.inr e))]
          rfl
theorem textF_qu : ∀ (l acc : List UInt8) (n f : Nat), l.length < f → textF f acc (qu l ++ [34]) n = some (acc ++ l, n + (qu l).length + 1)
  | [], acc, n, f, h => by
    obtain ⟨g, rfl⟩ : ∃ g, f = g + 1 := ⟨f - 1, by simp at h; omega⟩
    show textF (g + 1) acc [34] n = _
    rw [textF_quote]
    simp [qu]
  | c :: t, acc, n, f, h => by
    rw [List.length_cons] at h
    obtain ⟨g, rfl⟩ : ∃ g, f = g + 1 := ⟨f - 1, by omega⟩
    have e : qu (c :: t) = qb c ++ qu t := rfl
    rw [e, List.append_assoc, textF_qb, textF_qu t _ _ g (by omega)]
    simp
    omega
theorem qb_pos (c : UInt8) : 1 ≤ (qb c).length := by
  unfold qb
  repeat' split
  all_goals simp
theorem qu_ge (l : List UInt8) : l.length ≤ (qu l).length := by
  induction l with
  | nil => simp
  | cons c t ih =>
    have := qb_pos c
    have e : qu (c :: t) = qb c ++ qu t := rfl
    rw [e, List.length_append, List.length_cons]
    omega
theorem quote_length (l : List UInt8) : (quote l).length = (qu l).length + 2 := by simp [quote]
/-- What JlexQuotes says of the plain reader. -/
theorem lex_quote (l : List UInt8) : lex (quote l) = if 2000 < (quote l).length then .inr 2 else .inl [⟨⟨3, l, 0, (quote l).length⟩, 0⟩] := by
  unfold lex
  split
  · rfl
  · have hs : skipN false (quote l) = 0 := rfl
    have hn : nextT (quote l) = .tok ⟨3, l, 0, (quote l).length⟩ := by
      have h1 : nextT (quote l) = textT (quote l) := rfl
      rw [h1]
      unfold textT
      rw [show (quote l).drop 1 = qu l ++ [34] from rfl, textF_qu l [] 1 _ (by have := qu_ge l; rw [quote_length]; omega)]
      rw [quote_length, show 1 + (qu l).length + 1 = (qu l).length + 2 by omega]
      rfl
    rw [hs, List.drop_zero, lexF_tok _ _ _ _ (by simp [quote]) _ hn (by decide)]
    rw [List.drop_eq_nil_of_le (Nat.le_refl _), List.drop_eq_nil_of_le (Nat.le_add_right _ _)]
    obtain ⟨k, hk⟩ : ∃ k, (quote l).length = k + 1 := ⟨(quote l).length - 1, by rw [quote_length]; omega⟩
    rw [hk, lexF_nil]
    rfl
end Go.Proofs.YtfikflmlcicedaaDoor
