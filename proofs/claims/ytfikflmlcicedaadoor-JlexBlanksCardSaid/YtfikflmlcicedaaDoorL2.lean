/- Plain laws of the reader: each token alone is read as itself. -/
import Derived.Test.YtfikflmlcicedaaDoorL1
namespace Go.Proofs.YtfikflmlcicedaaDoor

theorem name_take (m : List UInt8) : nameT (m.take (nameT m).n) = nameT m := by
  show nameT (m.take (runN ld m)) = nameT m
  unfold nameT
  rw [run_take, List.take_take, Nat.min_self]
theorem number_take (m : List UInt8) (t : Tok) (h : numberT m = .tok t) : numberT (m.take t.n) = .tok t := by
  have hn : t.n = runN dg m := by
    unfold numberT at h
    split at h
    · cases h
    · split at h
      · cases h
      · injection h with h; subst h; rfl
  rw [hn]
  unfold numberT at h ⊢
  rw [run_take, List.take_take, Nat.min_self, pk_past]
  cases hv : numF 0 (m.take (runN dg m)) with
  | none => rw [hv] at h; cases h
  | some v =>
    rw [hv] at h
    simp only at h ⊢
    split at h
    · cases h
    · rw [if_neg (by decide)]; exact h
theorem text_take (m : List UInt8) (t : Tok) (h : textT m = .tok t) : textT (m.take t.n) = .tok t := by
  unfold textT at h
  cases hv : textF (m.length + 1) [] (m.drop 1) 1 with
  | none => rw [hv] at h; cases h
  | some p =>
    obtain ⟨w, n⟩ := p
    rw [hv] at h
    injection h with h
    subst h
    have hn := textF_n _ _ _ _ _ _ hv
    have ht := textF_take _ _ _ _ _ _ hv ((m.take n).length + 1) (by rw [List.length_take]; rw [List.length_drop] at hn; omega)
    unfold textT
    show (match textF ((m.take n).length + 1) [] ((m.take n).drop 1) 1 with
      | none => Out.err 4
      | some (w, n) => .tok ⟨3, w, 0, n⟩) = _
    rw [List.drop_take, ht]
theorem sign_take (m : List UInt8) (t : Tok) (h : signT m = .tok t) : signT (m.take t.n) = .tok t := by
  unfold signT at h
  split at h
  · rename_i h1
    injection h with h
    subst h
    unfold signT
    show (if 2 ≤ (m.take 2).length ∧ signs.contains ((m.take 2).take 2) = true then _ else _) = _
    rw [List.take_take, Nat.min_self, if_pos ⟨by rw [List.length_take]; omega, h1.2⟩]
  · split at h
    · rename_i h1
      injection h with h
      subst h
      unfold signT
      show (if 2 ≤ (m.take 1).length ∧ signs.contains ((m.take 1).take 2) = true then _ else if 1 ≤ (m.take 1).length ∧ signs.contains ((m.take 1).take 1) = true then _ else _) = _
      rw [if_neg (fun hh => by have := hh.1; rw [List.length_take] at this; omega), List.take_take, Nat.min_self, if_pos ⟨by rw [List.length_take]; omega, h1.2⟩]
    · cases h
theorem next_take (m : List UInt8) (hm : m ≠ []) (t : Tok) (h : nextT m = .tok t) : nextT (m.take t.n) = .tok t := by
  have hn := next_n m t hm h
  have hp : pk (m.take t.n) 0 = pk m 0 := pk_take _ _ _ (by omega)
  unfold nextT at h ⊢
  rw [hp]
  split at h
  · rename_i h1
    rw [if_pos h1]
    injection h with h
    subst h
    rw [name_take]
  · rename_i h1
    rw [if_neg h1]
    split at h
    · rename_i h2
      rw [if_pos h2]
      exact number_take m t h
    · rename_i h2
      rw [if_neg h2]
      split at h
      · rename_i h3
        rw [if_pos h3]
        exact text_take m t h
      · rename_i h3
        rw [if_neg h3]
        exact sign_take m t h
theorem own_lex (m : List UInt8) (hl : m.length ≤ 2000) (hm : m ≠ []) (hs : skipN false m = 0) (t : Tok) (h : nextT m = .tok t) : lex (m.take t.n) = .inl [⟨t, 0⟩] := by
  have hn := next_n m t hm h
  have hlen : (m.take t.n).length = t.n := by rw [List.length_take]; omega
  have hne : m.take t.n ≠ [] := fun e => by rw [e] at hlen; simp at hlen; omega
  unfold lex
  rw [if_neg (by omega), skip0_take _ _ hs, hlen, List.drop_zero, lexF_tok _ _ _ _ hne t (next_take m hm t h) (by decide)]
  obtain ⟨k, hk⟩ : ∃ k, t.n = k + 1 := ⟨t.n - 1, by omega⟩
  have hd : ∀ a, (m.take t.n).drop (t.n + a) = [] := fun a => List.drop_eq_nil_of_le (by omega)
  rw [hd, hk]
  rfl

/-- The tokens from place 'at' on, each where the last one's end and the gap behind it lead. -/
def Chain (l : List UInt8) : Nat → List Tk → Prop
  | _, [] => True
  | a, t :: r => t.i = a + skipN false (l.drop a) ∧ l.drop t.i ≠ [] ∧ nextT (l.drop t.i) = .tok t.t ∧ Chain l (t.i + t.t.n) r
theorem lexF_chain (l : List UInt8) : ∀ (f c a : Nat) (r : List Tk), lexF f c (a + skipN false (l.drop a)) (l.drop (a + skipN false (l.drop a))) = .inl r → Chain l a r
  | 0, _, _, _, h => by cases h
  | f + 1, c, a, r, h => by
    obtain ⟨i, hi⟩ : ∃ i, a + skipN false (l.drop a) = i := ⟨_, rfl⟩
    rw [hi] at h
    by_cases hne : l.drop i = []
    · rw [hne, lexF_nil] at h
      injection h with h; subst h; trivial
    · rcases hO : nextT (l.drop i) with t | e
      · by_cases hc : c = 1000
        · subst hc; rw [lexF_large _ _ _ hne t hO] at h; cases h
        · rw [lexF_tok _ _ _ _ hne t hO hc] at h
          have e1 : (l.drop i).drop t.n = l.drop (i + t.n) := by rw [List.drop_drop]
          have e2 : ∀ k, (l.drop i).drop (t.n + k) = l.drop (i + t.n + k) := fun k => by rw [List.drop_drop, Nat.add_assoc]
          rw [e1, e2] at h
          revert h
          generalize hy : lexF f (c + 1) _ _ = y
          cases y with
          | inl r' =>
            intro h
            injection h with h
            subst h
            exact ⟨hi.symm, hne, hO, lexF_chain l f (c + 1) (i + t.n) r' hy⟩
          | inr e => intro h; cases h
      · rw [lexF_err _ _ _ _ hne e hO] at h; cases h
theorem lex_chain (l : List UInt8) (r : List Tk) (h : lex l = .inl r) : l.length ≤ 2000 ∧ Chain l 0 r := by
  unfold lex at h
  split at h
  · cases h
  · rename_i hl
    exact ⟨by omega, lexF_chain l _ _ 0 r (by simpa using h)⟩
theorem skip_idem : ∀ (b : Bool) (m : List UInt8), skipN false (m.drop (skipN b m)) = 0
  | _, [] => by simp [skipN]
  | false, c :: t => by
    by_cases hb : bl c = true
    · have e : skipN false (c :: t) = skipN false t + 1 := by simp [skipN, hb, Nat.add_comm]
      rw [e, List.drop_succ_cons]; exact skip_idem false t
    · by_cases hc : (c == 47 && t.head? == some 47) = true
      · have e : skipN false (c :: t) = skipN true t + 1 := by simp only [skipN, hb, hc, if_true]; simp [Nat.add_comm]
        rw [e, List.drop_succ_cons]; exact skip_idem true t
      · have e : skipN false (c :: t) = 0 := by simp only [skipN, hb]; simp only [hc]; simp
        rw [e, List.drop_zero, e]
  | true, c :: t => by
    by_cases hc : (c == 10) = true
    · have e : skipN true (c :: t) = skipN false t + 1 := by simp only [skipN, hc, if_true]; omega
      rw [e, List.drop_succ_cons]; exact skip_idem false t
    · have e : skipN true (c :: t) = skipN true t + 1 := by simp only [skipN, hc]; simp; omega
      rw [e, List.drop_succ_cons]; exact skip_idem true t
/-- What JlexPlaces asks of one token. -/
theorem chain_step (l : List UInt8) (hl : l.length ≤ 2000) (a : Nat) (t : Tk) (r : List Tk) (h : Chain l a (t :: r)) :
    a ≤ t.i ∧ 1 ≤ t.t.n ∧ t.i + t.t.n ≤ l.length ∧ lex ((l.drop a).take (t.i - a)) = .inl [] ∧ lex ((l.drop t.i).take t.t.n) = .inl [⟨t.t, 0⟩] ∧ Chain l (t.i + t.t.n) r := by
  obtain ⟨h1, h2, h3, h4⟩ := h
  have hn := next_n _ _ h2 h3
  have hlt : t.i < l.length := by
    rcases Nat.lt_or_ge t.i l.length with h | h
    · exact h
    · exact absurd (List.drop_eq_nil_of_le h) h2
  rw [List.length_drop] at hn
  refine ⟨by omega, hn.1, by omega, ?_, own_lex _ (by rw [List.length_drop]; omega) h2 ?_ _ h3, h4⟩
  · rw [show t.i - a = skipN false (l.drop a) by omega]
    exact gap_lex _ (by rw [List.length_drop]; omega)
  · rw [h1, ← List.drop_drop]; exact skip_idem false _
end Go.Proofs.YtfikflmlcicedaaDoor
