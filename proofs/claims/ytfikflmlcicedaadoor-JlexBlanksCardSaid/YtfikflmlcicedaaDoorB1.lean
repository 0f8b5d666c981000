/- Plain law of the reader: more blanks between tokens are no matter. -/
import Derived.Test.YtfikflmlcicedaaDoorL3
namespace Go.Proofs.YtfikflmlcicedaaDoor

theorem run_end (p : UInt8 → Bool) (d : UInt8) (y : List UInt8) : ∀ x, runN p (x ++ d :: y) = x.length → p d = false
  | [], h => by
    cases hp : p d with
    | false => rfl
    | true => simp [runN, hp] at h
  | c :: x, h => by
    cases hc : p c with
    | false => simp [runN, hc] at h
    | true =>
      simp only [List.cons_append, runN, hc, if_true, List.length_cons] at h
      exact run_end p d y x (by omega)
theorem run_stop (p : UInt8 → Bool) (d : UInt8) (hd : p d = false) (y : List UInt8) : ∀ x, runN p x = x.length → runN p (x ++ d :: y) = x.length
  | [], _ => by simp [runN, hd]
  | c :: x, h => by
    cases hc : p c with
    | false => simp [runN, hc] at h
    | true =>
      simp only [runN, hc, if_true, List.length_cons] at h
      simp only [List.cons_append, runN, hc, if_true, List.length_cons]
      have := run_stop p d hd y x (by omega)
      omega
theorem pk_mid (x : List UInt8) (d : UInt8) (y : List UInt8) : pk (x ++ d :: y) x.length = d := by
  unfold pk
  simp [List.getD_eq_getElem?_getD]
theorem take_mid (x y : List UInt8) : (x ++ y).take x.length = x := by simp
theorem signs_blank (c : UInt8) : signs.contains [c, 32] = false := by simp [signs]
theorem number_tok {m : List UInt8} {t : Tok} (h : numberT m = .tok t) : t.n = runN dg m ∧ lt (pk m (runN dg m)) = false ∧ ∃ v, numF 0 (m.take (runN dg m)) = some v ∧ t = ⟨2, [], v, runN dg m⟩ := by
  unfold numberT at h
  split at h
  · cases h
  · rename_i v hv
    split at h
    · cases h
    · rename_i hl
      injection h with h
      subst h
      exact ⟨rfl, by simpa using hl, v, hv, rfl⟩
theorem sign_tok {m : List UInt8} {t : Tok} (h : signT m = .tok t) : (t.n = 2 ∧ 2 ≤ m.length) ∨ (t.n = 1 ∧ ¬ (2 ≤ m.length ∧ signs.contains (m.take 2) = true)) := by
  unfold signT at h
  split at h
  · rename_i h1; injection h with h; subst h; exact .inl ⟨rfl, h1.1⟩
  · rename_i h0
    split at h
    · injection h with h; subst h; exact .inr ⟨rfl, h0⟩
    · cases h
/-- A token that is told, and what comes behind it: a blank, or what came there. -/
theorem next_cons (x : List UInt8) (hx : x ≠ []) (d : UInt8) (y : List UInt8) (t : Tok) (h : nextT x = .tok t) (hn : t.n = x.length)
    (hd : d = 32 ∨ ∃ y0, nextT (x ++ d :: y0) = .tok t) : nextT (x ++ d :: y) = .tok t := by
  have hpos : 0 < x.length := by cases x with
    | nil => exact absurd rfl hx
    | cons a u => simp
  have hp : ∀ z, pk (x ++ z) 0 = pk x 0 := fun z => pk_app _ _ _ hpos
  unfold nextT at h hd ⊢
  rw [hp]
  split at h
  · rename_i h1
    rw [if_pos h1]
    injection h with h
    have hr : runN ld x = x.length := by rw [← hn, ← h]; rfl
    have hld : ld d = false := by
      rcases hd with rfl | ⟨y0, hd⟩
      · decide
      · rw [hp, if_pos h1] at hd
        injection hd with hd
        exact run_end ld d y0 x (by rw [← hn, ← hd]; rfl)
    unfold nameT at h ⊢
    rw [run_stop ld d hld y x hr, take_mid]
    rw [hr, List.take_length] at h
    rw [h]
  · rename_i h1
    rw [if_neg h1]
    split at h
    · rename_i h2
      rw [if_pos h2]
      obtain ⟨e1, e2, v, e3, e4⟩ := number_tok h
      have hr : runN dg x = x.length := by rw [← e1, hn]
      have hdd : dg d = false ∧ lt d = false := by
        rcases hd with rfl | ⟨y0, hd⟩
        · decide
        · rw [hp, if_neg h1, if_pos h2] at hd
          obtain ⟨f1, f2, _⟩ := number_tok hd
          have hr2 : runN dg (x ++ d :: y0) = x.length := by rw [← f1, hn]
          rw [hr2, pk_mid] at f2
          exact ⟨run_end dg d y0 x hr2, f2⟩
      rw [hr, List.take_length] at e3
      unfold numberT
      rw [run_stop dg d hdd.1 y x hr, take_mid, e3, pk_mid]
      simp only
      rw [if_neg (by rw [hdd.2]; decide), e4, hr]
    · rename_i h2
      rw [if_neg h2]
      split at h
      · rename_i h3
        rw [if_pos h3]
        unfold textT at h ⊢
        cases hv : textF (x.length + 1) [] (x.drop 1) 1 with
        | none => rw [hv] at h; cases h
        | some p =>
          rw [hv] at h
          rw [List.drop_append_of_le_length (by omega), textF_app (d :: y) _ _ _ _ _ hv _ (by rw [List.length_append]; omega)]
          exact h
      · rename_i h3
        rw [if_neg h3]
        obtain ⟨c, u, rfl⟩ : ∃ c u, x = c :: u := by cases x with
          | nil => exact absurd rfl hx
          | cons a u => exact ⟨a, u, rfl⟩
        cases u with
        | nil =>
          have hno : signs.contains [c, d] = false := by
            rcases hd with rfl | ⟨y0, hd⟩
            · exact signs_blank c
            · rw [hp, if_neg h1, if_neg h2, if_neg h3] at hd
              rcases sign_tok hd with ⟨q, _⟩ | ⟨_, q⟩
              · rw [q] at hn; simp at hn
              · simp only [List.cons_append, List.nil_append, List.length_cons, List.take_succ_cons, List.take_zero] at q
                cases hb : signs.contains [c, d] with
                | false => rfl
                | true => exact absurd ⟨by omega, hb⟩ q
          unfold signT at h ⊢
          rw [if_neg (by simp)] at h
          rw [if_neg (by simp only [List.cons_append, List.nil_append, List.take_succ_cons, List.take_zero, hno]; simp)]
          rw [show (([c] ++ d :: y : List UInt8)).take 1 = ([c] : List UInt8).take 1 by rfl]
          split at h
          · rename_i h1; rw [if_pos ⟨by simp, h1.2⟩]; exact h
          · cases h
        | cons a v =>
          unfold signT at h ⊢
          rw [show ((c :: a :: v) ++ d :: y).take 2 = (c :: a :: v).take 2 by rfl, show ((c :: a :: v) ++ d :: y).take 1 = (c :: a :: v).take 1 by rfl]
          split at h
          · rename_i h1; rw [if_pos ⟨by simp, h1.2⟩]; exact h
          · rename_i h1
            rw [if_neg (fun hh => h1 ⟨by simp, hh.2⟩)]
            split at h
            · rename_i h2; rw [if_pos ⟨by simp, h2.2⟩]; exact h
            · cases h

/-- What may come behind a token in place of what came there. -/
def Fol (r r' : List UInt8) : Prop := r' = [] ∨ r'.head? = some 32 ∨ (r' ≠ [] ∧ r'.head? = r.head?)
theorem next_fol (x : List UInt8) (hx : x ≠ []) (r r' : List UInt8) (t : Tok) (h : nextT (x ++ r) = .tok t) (hn : t.n = x.length) (hf : Fol r r') : nextT (x ++ r') = .tok t := by
  have h0 : nextT x = .tok t := by
    have := next_take (x ++ r) (by simp [hx]) t h
    rwa [hn, take_mid] at this
  cases r' with
  | nil => rwa [List.append_nil]
  | cons d y =>
    refine next_cons x hx d y t h0 hn ?_
    rcases hf with hf | hf | ⟨_, hf⟩
    · cases hf
    · exact .inl (by simpa using hf)
    · cases r with
      | nil => simp at hf
      | cons e z =>
        have : d = e := by simpa using hf
        subst this
        exact .inr ⟨z, h⟩
theorem skip0_fol (x : List UInt8) (hx : x ≠ []) (r r' : List UInt8) (h : skipN false (x ++ r) = 0) (hf : Fol r r') : skipN false (x ++ r') = 0 := by
  obtain ⟨c, u, rfl⟩ : ∃ c u, x = c :: u := by cases x with
    | nil => exact absurd rfl hx
    | cons a u => exact ⟨a, u, rfl⟩
  rw [List.cons_append] at h ⊢
  cases hb : bl c with
  | true => rw [skF1 c _ hb] at h; omega
  | false =>
    cases hc : (c == 47 && (u ++ r).head? == some 47) with
    | true => rw [skF2 c _ hb hc] at h; omega
    | false =>
      refine skF3 c _ hb ?_
      cases u with
      | cons a v => exact hc
      | nil =>
        rw [List.nil_append] at hc ⊢
        rcases hf with hf | hf | ⟨_, hf⟩
        · subst hf; simp
        · rw [hf]; simp
        · rw [hf]; exact hc
theorem skip_gap : ∀ (b : Bool) (m : List UInt8), skipN b m < m.length → ∀ y, skipN b (m.take (skipN b m) ++ y) = skipN b m + skipN false y
  | _, [], h, _ => by simp at h
  | false, c :: t, h, y => by
    cases hb : bl c with
    | true =>
      rw [skF1 c _ hb] at h ⊢
      rw [List.take_succ_cons, List.cons_append, skF1 c _ hb, skip_gap false t (by simpa using h) y]
      omega
    | false =>
      cases hc : (c == 47 && t.head? == some 47) with
      | true =>
        have hpos : 1 ≤ skipN true t := by
          simp only [Bool.and_eq_true, beq_iff_eq] at hc
          cases t with
          | nil => simp at hc
          | cons a u => unfold skipN; split <;> omega
        rw [skF2 c _ hb hc] at h ⊢
        rw [List.take_succ_cons, List.cons_append, skF2 c _ hb ?_, skip_gap true t (by simpa using h) y]
        · omega
        · refine Eq.trans ?_ hc
          congr 2
          rw [List.head?_append, head_take _ _ hpos]
          cases t with
          | nil => simp at hc
          | cons a u => rfl
      | false =>
        rw [skF3 c _ hb hc]
        simp
  | true, c :: t, h, y => by
    cases hc : (c == 10) with
    | true =>
      rw [skT1 c _ hc] at h ⊢
      rw [List.take_succ_cons, List.cons_append, skT1 c _ hc, skip_gap false t (by simpa using h) y]
      omega
    | false =>
      rw [skT2 c _ hc] at h ⊢
      rw [List.take_succ_cons, List.cons_append, skT2 c _ hc, skip_gap true t (by simpa using h) y]
      omega

/-- What JlexBlanks lays between tokens. -/
def sepB : List UInt8 := [32, 9, 47, 47, 32, 115, 111, 10]
theorem skip_sep (z : List UInt8) : skipN false (sepB ++ z) = 8 + skipN false z := by
  unfold sepB
  simp only [List.cons_append, List.nil_append]
  rw [skF1 32 _ (by decide), skF1 9 _ (by decide), skF2 47 _ (by decide) rfl, skT2 47 _ (by decide), skT2 32 _ (by decide), skT2 115 _ (by decide), skT2 111 _ (by decide), skT1 10 _ (by decide)]
  omega
def gapB (l : List UInt8) (a : Nat) (t : Tk) : List UInt8 := (l.drop a).take (t.i - a)
def sepO (l : List UInt8) (a : Nat) (t : Tk) : List UInt8 := if 0 < a ∧ (gapB l a t).contains 47 = false then sepB else []
def tokB (l : List UInt8) (t : Tk) : List UInt8 := (l.drop t.i).take t.t.n
def pieceB (l : List UInt8) (a : Nat) (t : Tk) : List UInt8 := gapB l a t ++ sepO l a t ++ tokB l t
def wideF (l : List UInt8) : Nat → List Tk → List UInt8
  | _, [] => []
  | a, t :: r => pieceB l a t ++ wideF l (t.i + t.t.n) r
theorem wide_fol (l : List UInt8) (a : Nat) (r : List Tk) (ha : 0 < a) (h : Chain l a r) : Fol (l.drop a) (wideF l a r) := by
  cases r with
  | nil => exact .inl rfl
  | cons t r =>
    obtain ⟨h1, h2, h3, h4⟩ := h
    have hlt : t.i < l.length := by
      rcases Nat.lt_or_ge t.i l.length with h' | h'
      · exact h'
      · exact absurd (List.drop_eq_nil_of_le h') h2
    have hn := next_n _ _ h2 h3
    cases hg : gapB l a t with
    | nil =>
      refine .inr (.inl ?_)
      have hs : sepO l a t = sepB := by unfold sepO; rw [hg]; exact if_pos ⟨ha, rfl⟩
      show (gapB l a t ++ sepO l a t ++ tokB l t ++ _).head? = _
      rw [hg, hs]
      rfl
    | cons c u =>
      refine .inr (.inr ?_)
      have he : wideF l a (t :: r) = c :: (u ++ (sepO l a t ++ (tokB l t ++ wideF l (t.i + t.t.n) r))) := by
        show gapB l a t ++ sepO l a t ++ tokB l t ++ _ = _
        rw [hg]; simp
      rw [he]
      refine ⟨by simp, ?_⟩
      show some c = _
      unfold gapB at hg
      cases hd : l.drop a with
      | nil => rw [hd] at hg; simp at hg
      | cons e v =>
        rw [hd] at hg
        obtain ⟨k, hk⟩ : ∃ k, t.i - a = k + 1 := by
          cases hk : t.i - a with
          | zero => rw [hk] at hg; simp at hg
          | succ k => exact ⟨k, rfl⟩
        rw [hk, List.take_succ_cons] at hg
        injection hg with hg _
        rw [hg]; rfl
theorem wide_main (l : List UInt8) : ∀ (r : List Tk) (a : Nat), Chain l a r → ∀ (f c i : Nat), (wideF l a r).length < f → c + r.length ≤ 1000 →
    ∃ r', lexF f c (i + skipN false (wideF l a r)) ((wideF l a r).drop (skipN false (wideF l a r))) = .inl r' ∧ r'.map Tk.t = r.map Tk.t
  | [], a, _, f, c, i, hf, _ => by
    obtain ⟨g, rfl⟩ : ∃ g, f = g + 1 := ⟨f - 1, by omega⟩
    exact ⟨[], rfl, rfl⟩
  | t :: r, a, h, f, c, i, hf, hc => by
    obtain ⟨g, rfl⟩ : ∃ g, f = g + 1 := ⟨f - 1, by omega⟩
    obtain ⟨h1, h2, h3, h4⟩ := h
    have hlt : t.i < l.length := by
      rcases Nat.lt_or_ge t.i l.length with h' | h'
      · exact h'
      · exact absurd (List.drop_eq_nil_of_le h') h2
    have hn := next_n _ _ h2 h3
    rw [List.length_drop] at hn
    have hxl : (tokB l t).length = t.t.n := by unfold tokB; rw [List.length_take, List.length_drop]; omega
    have hx : tokB l t ≠ [] := fun e => by rw [e] at hxl; simp at hxl; omega
    have hsplit : tokB l t ++ l.drop (t.i + t.t.n) = l.drop t.i := by
      unfold tokB
      rw [← List.drop_drop, List.take_append_drop]
    have hfol := wide_fol l (t.i + t.t.n) r (by omega) h4
    have hnext : nextT (tokB l t ++ wideF l (t.i + t.t.n) r) = .tok t.t := next_fol _ hx (l.drop (t.i + t.t.n)) _ _ (by rw [hsplit]; exact h3) hxl.symm hfol
    have hs0 : skipN false (l.drop t.i) = 0 := by rw [h1, ← List.drop_drop]; exact skip_idem false _
    have hskip0 : skipN false (tokB l t ++ wideF l (t.i + t.t.n) r) = 0 := skip0_fol _ hx (l.drop (t.i + t.t.n)) _ (by rw [hsplit]; exact hs0) hfol
    have hgap : gapB l a t = (l.drop a).take (skipN false (l.drop a)) := by unfold gapB; rw [h1]; congr 1; omega
    have hglen : (gapB l a t).length = skipN false (l.drop a) := by
      rw [hgap, List.length_take, List.length_drop]
      have := skip_le false (l.drop a)
      rw [List.length_drop] at this
      omega
    have hsk : skipN false (wideF l a (t :: r)) = (gapB l a t ++ sepO l a t).length := by
      show skipN false (gapB l a t ++ sepO l a t ++ tokB l t ++ wideF l (t.i + t.t.n) r) = _
      rw [List.append_assoc, List.append_assoc, List.length_append, hglen, hgap, skip_gap false (l.drop a) (by rw [List.length_drop]; omega)]
      unfold sepO
      split
      · rw [skip_sep, hskip0]; rfl
      · rw [List.nil_append, hskip0]; rfl
    have hdr : (wideF l a (t :: r)).drop (skipN false (wideF l a (t :: r))) = tokB l t ++ wideF l (t.i + t.t.n) r := by
      rw [hsk]
      show (gapB l a t ++ sepO l a t ++ tokB l t ++ wideF l (t.i + t.t.n) r).drop _ = _
      rw [List.append_assoc (gapB l a t ++ sepO l a t), List.drop_left]
    rw [hdr]
    rw [List.length_cons] at hc
    rw [lexF_tok _ _ _ _ (by simp [hx]) _ hnext (by omega)]
    have e1 : (tokB l t ++ wideF l (t.i + t.t.n) r).drop t.t.n = wideF l (t.i + t.t.n) r := by rw [← hxl, List.drop_left]
    rw [e1, ← List.drop_drop, e1]
    have hlen : (wideF l (t.i + t.t.n) r).length < g := by
      have : (wideF l a (t :: r)).length = (gapB l a t ++ sepO l a t ++ tokB l t).length + (wideF l (t.i + t.t.n) r).length := by
        show (pieceB l a t ++ _).length = _
        rw [List.length_append]; rfl
      rw [this, List.length_append, hxl] at hf
      omega
    obtain ⟨r', hr', hm⟩ := wide_main l r (t.i + t.t.n) h4 g (c + 1) (i + skipN false (wideF l a (t :: r)) + t.t.n) hlen (by omega)
    rw [hr']
    exact ⟨⟨t.t, _⟩ :: r', rfl, by simp [hm]⟩
theorem chain_len (l : List UInt8) : ∀ (r : List Tk) (a : Nat), Chain l a r → a ≤ l.length → a + r.length ≤ l.length
  | [], a, _, h => by simpa using h
  | t :: r, a, h, ha => by
    obtain ⟨h1, h2, h3, h4⟩ := h
    have hlt : t.i < l.length := by
      rcases Nat.lt_or_ge t.i l.length with h' | h'
      · exact h'
      · exact absurd (List.drop_eq_nil_of_le h') h2
    have hn := next_n _ _ h2 h3
    rw [List.length_drop] at hn
    have := chain_len l r _ h4 (by omega)
    rw [List.length_cons]
    omega
theorem wide_len (l : List UInt8) : ∀ (r : List Tk) (a : Nat), Chain l a r → a ≤ l.length → a + (wideF l a r).length ≤ l.length + 8 * r.length
  | [], a, _, h => by simpa [wideF] using h
  | t :: r, a, h, ha => by
    obtain ⟨h1, h2, h3, h4⟩ := h
    have hlt : t.i < l.length := by
      rcases Nat.lt_or_ge t.i l.length with h' | h'
      · exact h'
      · exact absurd (List.drop_eq_nil_of_le h') h2
    have hn := next_n _ _ h2 h3
    rw [List.length_drop] at hn
    have ih := wide_len l r _ h4 (by omega)
    have hs : (sepO l a t).length ≤ 8 := by unfold sepO; split <;> simp [sepB]
    have hg : (gapB l a t).length ≤ t.i - a := by unfold gapB; rw [List.length_take]; omega
    have ht : (tokB l t).length ≤ t.t.n := by unfold tokB; rw [List.length_take]; omega
    have he : (wideF l a (t :: r)).length = (gapB l a t).length + (sepO l a t).length + (tokB l t).length + (wideF l (t.i + t.t.n) r).length := by
      show (pieceB l a t ++ _).length = _
      unfold pieceB
      simp only [List.length_append]
    rw [he, List.length_cons]
    omega
/-- What JlexBlanks says of the plain reader. -/
theorem lex_wide (l : List UInt8) (r : List Tk) (h : lex l = .inl r) (hl : l.length ≤ 200) : (wideF l 0 r).length ≤ 1800 ∧ ∃ r', lex (wideF l 0 r) = .inl r' ∧ r'.map Tk.t = r.map Tk.t := by
  have hc := (lex_chain _ _ h).2
  have h1 := chain_len l r 0 hc (Nat.zero_le _)
  have h2 := wide_len l r 0 hc (Nat.zero_le _)
  refine ⟨by omega, ?_⟩
  unfold lex
  rw [if_neg (by omega)]
  have := wide_main l r 0 hc ((wideF l 0 r).length + 1) 0 0 (Nat.lt_succ_self _) (by omega)
  simpa using this
end Go.Proofs.YtfikflmlcicedaaDoor
