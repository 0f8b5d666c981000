/- Plain: what is parsed is right; what is right is read as it was written. -/
import Derived.Test.YtjcejijdeohkgaaGreatDoorU4
namespace Go.Proofs.YtjcejijdeohkgaaGreatDoor

structure Good (u : Ur) : Prop where
  sch : ∃ c r, u.sch = c :: r ∧ c ∈ lowSet ∧ ∀ x ∈ r, SchR x
  host : hostP u.host = true
  port : u.port = 0 ∨ (1 ≤ u.port ∧ u.port ≤ 65535 ∧ u.port ≠ ownP u.sch)
  path : u.path ≠ [] ∧ ∀ p ∈ u.path, NoDot p
  query : cleanP u.query = some u.query ∧ (u.asks = false → u.query = [])
  frag : cleanP u.frag = some u.frag ∧ (u.points = false → u.frag = [])
theorem place_good {sch s h : Bs} {n : Int} (hp : placeP sch s = some (h, n)) : hostP h = true ∧ (n = 0 ∨ (1 ≤ n ∧ n ≤ 65535 ∧ n ≠ ownP sch)) := by
  unfold placeP at hp
  split at hp
  · cases hp
  · rename_i h1
    have h1' : hostP (smallP (frontC 58 s)) = true := by simpa using h1
    split at hp
    · injection hp with hp
      injection hp with e1 e2
      rw [← e1, ← e2]
      exact ⟨h1', .inl rfl⟩
    · split at hp
      · cases hp
      · split at hp
        · cases hp
        · rename_i h4
          injection hp with hp
          injection hp with e1 e2
          rw [← e1, ← e2]
          refine ⟨h1', ?_⟩
          split
          · exact .inl rfl
          · rename_i h5
            exact .inr ⟨by omega, by omega, h5⟩
theorem backC_nil {c : UInt8} {s : Bs} (h : s.contains c = false) : backC c s = [] := (front_not (by simpa using h)).2
theorem parseB_good {sch rest : Bs} {u : Ur} (hs : ∃ c r, sch = c :: r ∧ c ∈ lowSet ∧ ∀ x ∈ r, SchR x) (h : parseB sch rest = .ok u) : Good u := by
  unfold parseB at h
  split at h
  · cases h
  · rename_i hst port hp
    split at h
    · rename_i q f l hq hf hl
      injection h with h
      subst h
      obtain ⟨p1, p2⟩ := place_good hp
      refine ⟨hs, p1, p2, tidy_good l, ⟨clean_clean hq, fun ha => ?_⟩, ⟨clean_clean hf, fun ha => ?_⟩⟩
      · unfold queryT at hq
        rw [backC_nil ha] at hq
        exact (Option.some.inj hq).symm
      · unfold fragT at hf
        rw [backC_nil ha] at hf
        exact (Option.some.inj hf).symm
    · cases h
theorem parse_parts {s : Bs} {u : Ur} (h : parseP s = .ok u) : s.length ≤ 500 ∧ ∃ sch r, schP s = some (sch, 47 :: 47 :: r) ∧ parseB sch r = .ok u := by
  unfold parseP at h
  split at h
  · cases h
  · rename_i hl
    refine ⟨by omega, ?_⟩
    split at h
    · cases h
    · rename_i sch rest hs
      split at h
      · rename_i h2
        refine ⟨sch, rest.drop 2, ?_, h⟩
        have e : rest = rest.take 2 ++ rest.drop 2 := (List.take_append_drop 2 rest).symm
        rw [hs]
        congr 2
        rw [e, h2]
        rfl
      · cases h
theorem parse_good {s : Bs} {u : Ur} (h : parseP s = .ok u) : Good u := by
  obtain ⟨_, sch, r, h1, h2⟩ := parse_parts h
  exact parseB_good (sch_good h1) h2
theorem beside_good {b u : Ur} {s : Bs} (hb : Good b) (h : besideP b s = .ok u) : Good u := by
  unfold besideP at h
  split at h
  · rename_i q f l hq hf hl
    have hq2 : asksT s = false → q = [] := fun ha => by
      unfold queryT at hq
      rw [backC_nil ha] at hq
      exact (Option.some.inj hq).symm
    have hf2 : pointsT s = false → f = [] := fun ha => by
      unfold fragT at hf
      rw [backC_nil ha] at hf
      exact (Option.some.inj hf).symm
    split at h
    · injection h with h
      subst h
      refine ⟨hb.sch, hb.host, hb.port, hb.path, ?_, ⟨clean_clean hf, hf2⟩⟩
      simp only
      cases ha : asksT s with
      | true => exact ⟨clean_clean hq, fun h => by cases h⟩
      | false => simpa using hb.query
    · split at h
      · injection h with h
        subst h
        exact ⟨hb.sch, hb.host, hb.port, tidy_good _, ⟨clean_clean hq, hq2⟩, ⟨clean_clean hf, hf2⟩⟩
      · injection h with h
        subst h
        exact ⟨hb.sch, hb.host, hb.port, tidy_good _, ⟨clean_clean hq, hq2⟩, ⟨clean_clean hf, hf2⟩⟩
  · cases h
theorem aim_good {b u : Ur} {s : Bs} (hb : Good b) (h : aimP b s = .ok u) : Good u := by
  unfold aimP at h
  split at h
  · exact parse_good h
  · split at h
    · exact parse_good h
    · exact beside_good hb h
theorem portT_eq {n : Int} (h1 : 1 ≤ n) (h2 : n ≤ 65535) : portT n = 58 :: Lib.decDigits n.toNat := by
  unfold portT Lib.itoa
  rw [if_neg (by omega), if_neg (by omega)]
theorem portT_free {n : Int} (h : n = 0 ∨ (1 ≤ n ∧ n ≤ 65535)) : ∀ b ∈ portT n, endSet.contains b = false := by
  rcases h with rfl | ⟨h1, h2⟩
  · intro b hb; cases hb
  · rw [portT_eq h1 h2]
    intro b hb
    rcases List.mem_cons.1 hb with rfl | hb
    · decide
    · exact (dig_low b (dec_mem _ b hb)).2
theorem place_text {u : Ur} (g : Good u) : placeP u.sch (u.host ++ portT u.port) = some (u.host, u.port) := by
  have hc := host_chars g.host
  have h58 : (58 : UInt8) ∉ u.host := fun h => (host_ok (hc 58 h)).2.2.1 rfl
  unfold placeP
  rcases g.port with h0 | ⟨h1, h2, h3⟩
  · rw [h0]
    have e : portT 0 = [] := rfl
    rw [e, List.append_nil, (front_not h58).1, host_small g.host, if_neg (by rw [g.host]; simp), if_pos (by simpa using h58)]
  · rw [portT_eq h1 h2, (front_cut _ h58).1, (front_cut _ h58).2, host_small g.host, if_neg (by rw [g.host]; simp), if_neg (by simp)]
    have hl := dec_len 4 u.port.toNat (by omega)
    have hn := dec_ne u.port.toNat
    have hl0 : (Lib.decDigits u.port.toNat).length ≠ 0 := fun e => hn (List.eq_nil_of_length_eq_zero e)
    have ht : Lib.trimS (Lib.decDigits u.port.toNat) digs = [] := (trim_iff _ _).2 (dec_mem _)
    have hv := num_dec u.port.toNat (by omega)
    rw [if_neg (by rintro (h | h | h)
                   · omega
                   · omega
                   · exact h ht), hv, if_neg (by omega), if_neg (by omega)]
    congr 2
    omega
theorem auth_cut : ∀ {a : Bs} (t : Bs), (∀ b ∈ a, endSet.contains b = false) → authP (a ++ 47 :: t) = a ∧ restP (a ++ 47 :: t) = 47 :: t
  | [], t, _ => ⟨rfl, rfl⟩
  | x :: a, t, h => by
    obtain ⟨h1, h2⟩ := auth_cut (a := a) t (fun b hb => h b (List.mem_cons_of_mem _ hb))
    have hx := h x (by simp)
    unfold authP restP at *
    rw [List.cons_append, List.takeWhile_cons, List.dropWhile_cons, hx]
    simp only [Bool.not_false, if_true]
    exact ⟨by rw [h1], h2⟩
/-- The text behind the host and the port. -/
def tailT (u : Ur) : Bs := joinT u.path ++ ((if u.asks then 63 :: u.query else []) ++ (if u.points then 35 :: u.frag else []))
theorem tail_text {u : Ur} (g : Good u) : pathT (tailT u) = joinT u.path ∧ asksT (tailT u) = u.asks ∧ pointsT (tailT u) = u.points ∧ queryT (tailT u) = some u.query ∧ fragT (tailT u) = some u.frag := by
  have n35 : (35 : UInt8) ∉ joinT u.path ++ (if u.asks then 63 :: u.query else []) := by
    intro h
    rcases List.mem_append.1 h with h | h
    · exact join_free _ (by decide) (by decide) (by decide) h
    · split at h
      · rcases List.mem_cons.1 h with h | h
        · revert h; decide
        · exact clean_free g.query.1 (by decide) (by decide) (by decide) h
      · cases h
  have n63 : (63 : UInt8) ∉ joinT u.path := join_free _ (by decide) (by decide) (by decide)
  have eF : frontC 35 (tailT u) = joinT u.path ++ (if u.asks then 63 :: u.query else []) ∧ backC 35 (tailT u) = u.frag ∧ pointsT (tailT u) = u.points := by
    unfold tailT pointsT
    rw [← List.append_assoc]
    cases hp : u.points with
    | true =>
      rw [if_pos rfl]
      obtain ⟨e1, e2⟩ := front_cut u.frag n35
      exact ⟨e1, e2, by simp⟩
    | false =>
      rw [show (if false = true then 35 :: u.frag else []) = [] from rfl, List.append_nil]
      obtain ⟨e1, e2⟩ := front_not n35
      refine ⟨e1, by rw [e2, g.frag.2 hp], ?_⟩
      simpa using n35
  have eQ : pathT (tailT u) = joinT u.path ∧ backC 63 (frontC 35 (tailT u)) = u.query ∧ asksT (tailT u) = u.asks := by
    unfold pathT asksT
    rw [eF.1]
    cases ha : u.asks with
    | true =>
      rw [if_pos rfl]
      obtain ⟨e1, e2⟩ := front_cut u.query n63
      exact ⟨e1, e2, by simp⟩
    | false =>
      rw [show (if false = true then 63 :: u.query else []) = [] from rfl, List.append_nil]
      obtain ⟨e1, e2⟩ := front_not n63
      refine ⟨e1, by rw [e2, g.query.2 ha], ?_⟩
      simpa using n63
  refine ⟨eQ.1, eQ.2.2, eF.2.2, ?_, ?_⟩
  · unfold queryT
    rw [eQ.2.1]
    exact g.query.1
  · unfold fragT
    rw [eF.2.1]
    exact g.frag.1
theorem segs_text {l : List Bs} (h : l ≠ []) : segsP (splitC 47 (noSl (joinT l))) = some l := by
  cases l with
  | nil => exact absurd rfl h
  | cons p l =>
    have e : joinT (p :: l) = 47 :: (encP p ++ joinT l) := rfl
    have e2 : noSl (joinT (p :: l)) = encP p ++ joinT l := by rw [e]; rfl
    rw [e2, split_join p l, ← List.map_cons, segs_enc]
theorem text_eq (u : Ur) : textP u = u.sch ++ 58 :: 47 :: 47 :: ((u.host ++ portT u.port) ++ tailT u) := by
  unfold textP origP tailT joinT
  simp
theorem parse_text {u : Ur} (g : Good u) (hl : (textP u).length ≤ 500) : parseP (textP u) = .ok u := by
  obtain ⟨c, r, e1, e2, e3⟩ := g.sch
  unfold parseP
  rw [if_neg (by omega), text_eq, e1, sch_run _ e2 e3]
  simp only
  rw [if_pos (show List.take 2 (47 :: 47 :: (u.host ++ portT u.port ++ tailT u)) = [47, 47] from rfl)]
  show parseB (c :: r) ((u.host ++ portT u.port) ++ tailT u) = _
  obtain ⟨t, ht⟩ : ∃ t, tailT u = 47 :: t := by
    unfold tailT
    cases hp : u.path with
    | nil => exact absurd hp g.path.1
    | cons p l => exact ⟨_, rfl⟩
  have hA : ∀ b ∈ u.host ++ portT u.port, endSet.contains b = false := by
    intro b hb
    rcases List.mem_append.1 hb with hb | hb
    · exact (host_ok (host_chars g.host b hb)).2.2.2
    · refine portT_free ?_ b hb
      rcases g.port with h | ⟨h1, h2, _⟩
      · exact .inl h
      · exact .inr ⟨h1, h2⟩
  obtain ⟨a1, a2⟩ := auth_cut t hA
  obtain ⟨t1, t2, t3, t4, t5⟩ := tail_text g
  unfold parseB
  rw [← e1]
  rw [ht, a1, a2, place_text g, ← ht, t1, t2, t3, t4, t5, segs_text g.path.1]
  simp only
  rw [tidy_id g.path.1 g.path.2]
/-- What a resolved text is. -/
theorem resolve_parts {base ref s : Bs} (h : resolveP base ref = .ok s) : ∃ b u, parseP base = .ok b ∧ ref.length ≤ 500 ∧ aimP b ref = .ok u ∧ s = textP u ∧ s.length ≤ 500 ∧ Good u := by
  unfold resolveP at h
  split at h
  · cases h
  · rename_i b hb
    split at h
    · cases h
    · rename_i hr
      split at h
      · cases h
      · rename_i u hu
        split at h
        · cases h
        · rename_i hl
          injection h with h
          subst h
          exact ⟨b, u, hb, by omega, hu, rfl, by omega, aim_good (parse_good hb) hu⟩
theorem text_sch {u : Ur} (g : Good u) : (schP (textP u)).isSome = true := by
  obtain ⟨c, r, e1, e2, e3⟩ := g.sch
  rw [text_eq, e1, sch_run _ e2 e3]
  rfl
theorem resolve_self {b u : Ur} {base : Bs} (hb : parseP base = .ok b) (g : Good u) (hl : (textP u).length ≤ 500) : resolveP base (textP u) = .ok (textP u) := by
  unfold resolveP
  rw [hb]
  simp only
  rw [if_neg (by omega)]
  unfold aimP
  rw [if_pos (text_sch g), parse_text g hl]
  simp only
  rw [if_neg (by omega)]
/-- UrlAgain. -/
theorem plain_again {base ref s : Bs} (h : resolveP base ref = .ok s) : resolveP base s = .ok s ∧ ∀ other t, resolveP other s = .ok t → t = s := by
  obtain ⟨b, u, hb, _, _, rfl, hl, g⟩ := resolve_parts h
  refine ⟨resolve_self hb g hl, fun other t ht => ?_⟩
  obtain ⟨b2, _, hb2, _⟩ := resolve_parts ht
  rw [resolve_self hb2 g hl] at ht
  injection ht with ht
  exact ht.symm
/-- UrlDots. -/
theorem plain_dots {base ref s : Bs} (h : resolveP base ref = .ok s) : ∃ u, parseP s = .ok u ∧ u.path ≠ [] ∧ [46] ∉ u.path ∧ [46, 46] ∉ u.path := by
  obtain ⟨b, u, _, _, _, rfl, hl, g⟩ := resolve_parts h
  exact ⟨u, parse_text g hl, g.path.1, fun hm => (g.path.2 _ hm).1 rfl, fun hm => (g.path.2 _ hm).2 rfl⟩
/-- UrlBack. -/
theorem plain_back {s : Bs} {u : Ur} (h : parseP s = .ok u) : checkU u = 2 ∨ (checkU u = 0 ∧ parseP (textP u) = .ok u) := by
  have g := parse_good h
  unfold checkU
  by_cases hl : 500 < (textP u).length
  · rw [if_pos hl]
    exact .inl rfl
  · rw [if_neg hl, parse_text g (by omega)]
    right
    simp
end Go.Proofs.YtjcejijdeohkgaaGreatDoor
