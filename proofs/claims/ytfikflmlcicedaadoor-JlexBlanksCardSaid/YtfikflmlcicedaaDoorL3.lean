/- Plain law of the reader: two texts with a byte 10 between. -/
import Derived.Test.YtfikflmlcicedaaDoorL2
namespace Go.Proofs.YtfikflmlcicedaaDoor

theorem run_app (p : UInt8 → Bool) (hp : p 10 = false) (x : List UInt8) : ∀ l, runN p (l ++ 10 :: x) = runN p l
  | [] => by simp [runN, hp]
  | c :: t => by
    have ih := run_app p hp x t
    simp only [List.cons_append, runN, ih]
theorem pk_app (l x : List UInt8) (k : Nat) (h : k < l.length) : pk (l ++ x) k = pk l k := by
  unfold pk
  rw [List.getD_eq_getElem?_getD, List.getD_eq_getElem?_getD, List.getElem?_append_left h]
theorem pk_ten (l x : List UInt8) : pk (l ++ 10 :: x) l.length = 10 := by
  unfold pk
  simp [List.getD_eq_getElem?_getD]

theorem skF1 (c : UInt8) (t : List UInt8) (hb : bl c = true) : skipN false (c :: t) = skipN false t + 1 := by
  simp only [skipN, hb, if_true]; omega
theorem skF2 (c : UInt8) (t : List UInt8) (hb : bl c = false) (hc : (c == 47 && t.head? == some 47) = true) : skipN false (c :: t) = skipN true t + 1 := by
  simp only [skipN, hb, hc, if_true]; simp; omega
theorem skF3 (c : UInt8) (t : List UInt8) (hb : bl c = false) (hc : (c == 47 && t.head? == some 47) = false) : skipN false (c :: t) = 0 := by
  simp only [skipN, hb, hc]; simp
theorem skT1 (c : UInt8) (t : List UInt8) (hc : (c == 10) = true) : skipN true (c :: t) = skipN false t + 1 := by
  simp only [skipN, hc, if_true]; omega
theorem skT2 (c : UInt8) (t : List UInt8) (hc : (c == 10) = false) : skipN true (c :: t) = skipN true t + 1 := by
  simp only [skipN, hc]; simp; omega
theorem head_app (c : UInt8) (t x : List UInt8) : (c == 47 && (t ++ 10 :: x).head? == some 47) = (c == 47 && t.head? == some 47) := by
  cases t with
  | nil => simp
  | cons a u => rfl
theorem skip_app_lt (x : List UInt8) : ∀ (b : Bool) (m : List UInt8), skipN b m < m.length → skipN b (m ++ 10 :: x) = skipN b m
  | _, [], h => by simp at h
  | false, c :: t, h => by
    rw [List.cons_append]
    cases hb : bl c with
    | true =>
      rw [skF1 c _ hb] at h ⊢
      rw [skF1 c _ hb, skip_app_lt x false t (by simpa using h)]
    | false =>
      cases hc : (c == 47 && t.head? == some 47) with
      | true =>
        rw [skF2 c _ hb hc] at h ⊢
        rw [skF2 c _ hb ((head_app c t x).trans hc), skip_app_lt x true t (by simpa using h)]
      | false => rw [skF3 c _ hb hc, skF3 c _ hb ((head_app c t x).trans hc)]
  | true, c :: t, h => by
    rw [List.cons_append]
    cases hc : (c == 10) with
    | true =>
      rw [skT1 c _ hc] at h ⊢
      rw [skT1 c _ hc, skip_app_lt x false t (by simpa using h)]
    | false =>
      rw [skT2 c _ hc] at h ⊢
      rw [skT2 c _ hc, skip_app_lt x true t (by simpa using h)]
theorem skip_app_all (x : List UInt8) : ∀ (b : Bool) (m : List UInt8), skipN b m = m.length → skipN b (m ++ 10 :: x) = m.length + 1 + skipN false x
  | false, [], _ => by rw [List.nil_append, skF1 10 x (by decide)]; simp; omega
  | true, [], _ => by rw [List.nil_append, skT1 10 x (by decide)]; simp; omega
  | false, c :: t, h => by
    rw [List.cons_append]
    cases hb : bl c with
    | true =>
      rw [skF1 c _ hb] at h ⊢
      rw [skip_app_all x false t (by simpa using h), List.length_cons]; omega
    | false =>
      cases hc : (c == 47 && t.head? == some 47) with
      | true =>
        rw [skF2 c _ hb hc] at h
        rw [skF2 c _ hb ((head_app c t x).trans hc), skip_app_all x true t (by simpa using h), List.length_cons]; omega
      | false => rw [skF3 c _ hb hc] at h; simp at h
  | true, c :: t, h => by
    rw [List.cons_append]
    cases hc : (c == 10) with
    | true =>
      rw [skT1 c _ hc] at h ⊢
      rw [skip_app_all x false t (by simpa using h), List.length_cons]; omega
    | false =>
      rw [skT2 c _ hc] at h ⊢
      rw [skip_app_all x true t (by simpa using h), List.length_cons]; omega

theorem name_app (m x : List UInt8) : nameT (m ++ 10 :: x) = nameT m := by
  unfold nameT
  rw [run_app ld (by decide) x, List.take_append_of_le_length (run_le ld m)]
theorem number_app (m x : List UInt8) (t : Tok) (h : numberT m = .tok t) : numberT (m ++ 10 :: x) = .tok t := by
  unfold numberT at h ⊢
  rw [run_app dg (by decide) x, List.take_append_of_le_length (run_le dg m)]
  cases hv : numF 0 (m.take (runN dg m)) with
  | none => rw [hv] at h; cases h
  | some v =>
    rw [hv] at h
    simp only at h ⊢
    split at h
    · cases h
    · rename_i h1
      have hr := run_le dg m
      rcases Nat.lt_or_ge (runN dg m) m.length with hlt | hge
      · rw [pk_app _ _ _ hlt, if_neg h1]; exact h
      · rw [show runN dg m = m.length by omega] at h ⊢
        rw [pk_ten, if_neg (by decide)]; exact h
theorem esc_app (t x : List UInt8) (b : UInt8) (k : Nat) (h : esc t = some (b, k)) : esc (t ++ x) = some (b, k) := by
  have hk := esc_le _ _ _ h
  have p0 : pk (t ++ x) 0 = pk t 0 := pk_app _ _ _ (by omega)
  by_cases h3 : k = 3
  · subst h3
    unfold esc at h ⊢
    rw [p0, pk_app _ _ 1 (by omega), pk_app _ _ 2 (by omega)]
    exact h
  · unfold esc at h ⊢
    rw [p0]
    split at h
    · rename_i hc; rw [if_pos hc]; exact h
    · rename_i hc; rw [if_neg hc]
      split at h
      · rename_i hc; rw [if_pos hc]; exact h
      · rename_i hc; rw [if_neg hc]
        split at h
        · rename_i hc; rw [if_pos hc]; exact h
        · split at h
          · split at h
            · injection h with h; injection h with _ h; omega
            · cases h
          · cases h
theorem textF_app (x : List UInt8) : ∀ (f : Nat) (acc l : List UInt8) (n : Nat) (r : List UInt8 × Nat), textF f acc l n = some r → ∀ f', f ≤ f' → textF f' acc (l ++ x) n = some r
  | 0, _, _, _, _, h, _, _ => by cases h
  | f + 1, acc, [], n, r, h, _, _ => by rw [textF_nil] at h; cases h
  | f + 1, acc, c :: t, n, r, h, f', hf => by
    obtain ⟨g, rfl⟩ : ∃ g, f' = g + 1 := ⟨f' - 1, by omega⟩
    rw [List.cons_append]
    by_cases h1 : c = 34
    · subst h1
      rw [textF_quote] at h ⊢
      exact h
    · by_cases h2 : c < 32
      · rw [textF_low _ _ _ _ _ h1 h2] at h; cases h
      · by_cases h3 : c = 92
        · subst h3
          rcases he : esc t with _ | ⟨b, k⟩
          · rw [textF_back_no _ _ _ _ he] at h; cases h
          · have hk := (esc_le _ _ _ he).2
            rw [textF_back _ _ _ _ _ _ he] at h
            rw [textF_back _ _ _ _ b k (esc_app _ _ _ _ he), List.drop_append_of_le_length hk]
            exact textF_app x f _ _ _ _ h g (by omega)
        · rw [textF_on _ _ _ _ _ h1 h2 h3] at h ⊢
          exact textF_app x f _ _ _ _ h g (by omega)
theorem text_app (m x : List UInt8) (hm : m ≠ []) (t : Tok) (h : textT m = .tok t) : textT (m ++ 10 :: x) = .tok t := by
  unfold textT at h ⊢
  have h1 : 1 ≤ m.length := by cases m with
    | nil => exact absurd rfl hm
    | cons a u => simp
  cases hv : textF (m.length + 1) [] (m.drop 1) 1 with
  | none => rw [hv] at h; cases h
  | some p =>
    rw [hv] at h
    rw [List.drop_append_of_le_length h1, textF_app (10 :: x) _ _ _ _ _ hv _ (by rw [List.length_append]; omega)]
    exact h
theorem signs_ten (c : UInt8) : signs.contains [c, 10] = false := by
  simp [signs]
theorem sign_app (m x : List UInt8) (hm : m ≠ []) (t : Tok) (h : signT m = .tok t) : signT (m ++ 10 :: x) = .tok t := by
  obtain ⟨c, u, rfl⟩ : ∃ c u, m = c :: u := by cases m with
    | nil => exact absurd rfl hm
    | cons a u => exact ⟨a, u, rfl⟩
  cases u with
  | nil =>
    unfold signT at h ⊢
    rw [if_neg (by simp)] at h
    rw [if_neg (by simp only [List.cons_append, List.nil_append, List.take_succ_cons, List.take_zero, signs_ten]; simp)]
    rw [show (([c] ++ 10 :: x : List UInt8)).take 1 = ([c] : List UInt8).take 1 by rfl]
    split at h
    · rename_i h1; rw [if_pos ⟨by simp, h1.2⟩]; exact h
    · cases h
  | cons d v =>
    unfold signT at h ⊢
    rw [show ((c :: d :: v) ++ 10 :: x).take 2 = (c :: d :: v).take 2 by rfl, show ((c :: d :: v) ++ 10 :: x).take 1 = (c :: d :: v).take 1 by rfl]
    split at h
    · rename_i h1; rw [if_pos ⟨by simp, h1.2⟩]; exact h
    · rename_i h1
      rw [if_neg (fun hh => h1 ⟨by simp, hh.2⟩)]
      split at h
      · rename_i h2; rw [if_pos ⟨by simp, h2.2⟩]; exact h
      · cases h
theorem next_app (m x : List UInt8) (hm : m ≠ []) (t : Tok) (h : nextT m = .tok t) : nextT (m ++ 10 :: x) = .tok t := by
  have hp : pk (m ++ 10 :: x) 0 = pk m 0 := pk_app _ _ _ (by
    cases m with
    | nil => exact absurd rfl hm
    | cons a u => simp)
  unfold nextT at h ⊢
  rw [hp]
  split at h
  · rename_i h1
    rw [if_pos h1, name_app]; exact h
  · rename_i h1
    rw [if_neg h1]
    split at h
    · rename_i h2
      rw [if_pos h2]
      exact number_app m x t h
    · rename_i h2
      rw [if_neg h2]
      split at h
      · rename_i h3
        rw [if_pos h3]
        exact text_app m x hm t h
      · rename_i h3
        rw [if_neg h3]
        exact sign_app m x hm t h

/-- A token that stands so far behind. -/
def sh (d : Nat) (t : Tk) : Tk := ⟨t.t, t.i + d⟩
theorem lexF_sh : ∀ (f c i : Nat) (l : List UInt8) (m : List Tk), lexF f c i l = .inl m → ∀ (F c' d : Nat), l.length < F → lexF F c' (i + d) l = .inr 2 ∨ lexF F c' (i + d) l = .inl (m.map (sh d))
  | 0, _, _, _, _, h, _, _, _, _ => by cases h
  | f + 1, c, i, l, m, h, F, c', d, hF => by
    obtain ⟨g, rfl⟩ : ∃ g, F = g + 1 := ⟨F - 1, by omega⟩
    by_cases hne : l = []
    · subst hne
      rw [lexF_nil] at h ⊢
      injection h with h; subst h; exact .inr rfl
    · rcases hO : nextT l with t | e
      · by_cases hc : c = 1000
        · subst hc; rw [lexF_large _ _ _ hne t hO] at h; cases h
        · by_cases hc' : c' = 1000
          · subst hc'; exact .inl (lexF_large _ _ _ hne t hO)
          · rw [lexF_tok _ _ _ _ hne t hO hc] at h
            rw [lexF_tok _ _ _ _ hne t hO hc']
            have hn := next_n l t hne hO
            revert h
            generalize hy : lexF f (c + 1) _ _ = y
            cases y with
            | inl r' =>
              intro h
              injection h with h
              subst h
              have ih := lexF_sh f _ _ _ _ hy g (c' + 1) d (by rw [List.length_drop]; omega)
              rw [show i + d + t.n + skipN false (l.drop t.n) = i + t.n + skipN false (l.drop t.n) + d by omega]
              rcases ih with ih | ih
              · rw [ih]; exact .inl rfl
              · rw [ih]; exact .inr rfl
            | inr e => intro h; cases h
      · rw [lexF_err _ _ _ _ hne e hO] at h; cases h
theorem lexF_two (x : List UInt8) (m' : List Tk) (f0 : Nat) (hx : lexF f0 0 (skipN false x) (x.drop (skipN false x)) = .inl m') :
    ∀ (f c i : Nat) (m : List UInt8) (l : List Tk), lexF f c (i + skipN false m) (m.drop (skipN false m)) = .inl l → ∀ F, m.length + 1 + x.length < F →
      lexF F c (i + skipN false (m ++ 10 :: x)) ((m ++ 10 :: x).drop (skipN false (m ++ 10 :: x))) = .inr 2 ∨ lexF F c (i + skipN false (m ++ 10 :: x)) ((m ++ 10 :: x).drop (skipN false (m ++ 10 :: x))) = .inl (l ++ m'.map (sh (i + m.length + 1)))
  | 0, _, _, _, _, h, _, _ => by cases h
  | f + 1, c, i, m, l, h, F, hF => by
    obtain ⟨g, rfl⟩ : ∃ g, F = g + 1 := ⟨F - 1, by omega⟩
    have hle := skip_le false m
    rcases Nat.lt_or_ge (skipN false m) m.length with hlt | hge
    · rw [skip_app_lt x false m hlt, List.drop_append_of_le_length (by omega)]
      have hlen := List.length_drop (i := skipN false m) (l := m)
      generalize hk : skipN false m = k at *
      generalize hu : m.drop k = u at *
      have hne : u ≠ [] := fun e => by subst e; simp at hlen; omega
      have hne2 : u ++ 10 :: x ≠ [] := by simp
      rcases hO : nextT u with t | e
      · by_cases hc : c = 1000
        · subst hc; rw [lexF_large _ _ _ hne t hO] at h; cases h
        · rw [lexF_tok _ _ _ _ hne t hO hc] at h
          rw [lexF_tok _ _ _ _ hne2 t (next_app u x hne t hO) hc]
          have hn := next_n u t hne hO
          rw [List.drop_append_of_le_length hn.2]
          have e2 : ∀ a, (u ++ 10 :: x).drop (t.n + a) = (u.drop t.n ++ 10 :: x).drop a := fun a => by rw [← List.drop_drop, List.drop_append_of_le_length hn.2]
          rw [e2]
          rw [← List.drop_drop] at h
          revert h
          generalize hy : lexF f (c + 1) _ _ = y
          cases y with
          | inl r' =>
            intro h
            injection h with h
            subst h
            have ih := lexF_two x m' f0 hx f (c + 1) (i + k + t.n) (u.drop t.n) r' hy g (by rw [List.length_drop]; omega)
            rw [show i + k + t.n + (u.drop t.n).length + 1 = i + m.length + 1 by rw [List.length_drop]; omega] at ih
            rcases ih with ih | ih
            · rw [ih]; exact .inl rfl
            · rw [ih]; exact .inr rfl
          | inr e => intro h; cases h
      · rw [lexF_err _ _ _ _ hne e hO] at h; cases h
    · have he : skipN false m = m.length := by omega
      rw [he, List.drop_length, lexF_nil] at h
      injection h with h
      subst h
      rw [skip_app_all x false m he, ← List.drop_drop, show (m ++ 10 :: x).drop (m.length + 1) = x by rw [← List.drop_drop, List.drop_left]; rfl]
      have := lexF_sh f0 0 _ _ m' hx (g + 1) c (i + m.length + 1) (by rw [List.length_drop]; omega)
      rw [show i + (m.length + 1 + skipN false x) = skipN false x + (i + m.length + 1) by omega]
      simpa using this
/-- What JlexTwo says of the plain reader. -/
theorem lex_two (s t : List UInt8) (l m : List Tk) (hs : lex s = .inl l) (ht : lex t = .inl m) : lex (s ++ 10 :: t) = .inr 2 ∨ lex (s ++ 10 :: t) = .inl (l ++ m.map (sh (s.length + 1))) := by
  unfold lex at hs ht ⊢
  split at hs
  · cases hs
  · split at ht
    · cases ht
    · split
      · exact .inl rfl
      · have := lexF_two t m _ ht (s.length + 1) 0 0 s l (by simpa using hs) ((s ++ 10 :: t).length + 1) (by simp; omega)
        simpa using this
end Go.Proofs.YtfikflmlcicedaaDoor
