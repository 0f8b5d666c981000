/- Plain: UrlHere. -/
import Derived.Test.YtjcejijdeohkgaaGreatDoorU5
namespace Go.Proofs.YtjcejijdeohkgaaGreatDoor

theorem schK_front : ∀ (s b : Bs) (k m : Nat), schK k s = some m → schK k (s.take (m - k + 1) ++ b) = some m
  | [], b, k, m, h => by cases h
  | c :: r, b, k, m, h => by
    have hk := (schK_at (c :: r) k m h).1
    unfold schK at h
    split at h
    · rename_i h1
      have e : k = m := Option.some.inj h
      subst e
      rw [Nat.sub_self, Nat.zero_add, List.take_succ_cons, List.take_zero]
      show schK k (c :: b) = _
      unfold schK
      rw [if_pos h1]
    · rename_i h1
      split at h
      · cases h
      · rename_i h2
        have hm := (schK_at r (k + 1) m h).1
        have e : m - k + 1 = (m - (k + 1) + 1) + 1 := by omega
        rw [e, List.take_succ_cons]
        show schK k (c :: (r.take (m - (k + 1) + 1) ++ b)) = _
        unfold schK
        rw [if_neg h1, if_neg h2, schK_front r b (k + 1) m h]
theorem front_app {c : UInt8} : ∀ {a : Bs} (b : Bs), c ∉ a → frontC c (a ++ b) = a ++ frontC c b
  | [], _, _ => rfl
  | x :: a, b, h => by
    have hx : (x != c) = true := by
      simp only [bne_iff_ne, ne_eq]
      exact fun e => h (by rw [e]; simp)
    have ih := front_app (a := a) b (fun h' => h (List.mem_cons_of_mem _ h'))
    unfold frontC at *
    rw [List.cons_append, List.takeWhile_cons, if_pos hx, ih, List.cons_append]
theorem sch_front {s sch rest : Bs} (h : schP s = some (sch, rest)) : schP (frontC 35 s) = some (sch, frontC 35 rest) := by
  unfold schP at h
  obtain ⟨k, h1, h2⟩ := Option.map_eq_some_iff.1 h
  injection h2 with h2 h3
  obtain ⟨_, i2, i3, i4, i5⟩ := schK_at s 0 k h1
  rw [Nat.sub_zero] at i2 i3 i5
  have hlet : ∀ x, letP x = true → x ≠ 35 := by
    rintro x hx rfl
    revert hx; decide
  have hset : ∀ x ∈ schSet, x ≠ 35 := by decide
  have nf : (35 : UInt8) ∉ s.take (k + 1) := by
    intro hm
    obtain ⟨j, hj, e⟩ := List.mem_iff_getElem.1 hm
    rw [List.length_take] at hj
    have hx2 : s[j]? = some 35 := by
      rw [← e, List.getElem_take, List.getElem?_eq_getElem]
    by_cases hjk : j < k
    · rcases i5 j 35 hjk hx2 with h4 | ⟨_, h4⟩
      · exact hlet 35 h4 rfl
      · exact hset 35 (by simpa using h4) rfl
    · have : j = k := by omega
      subst this
      rw [i3] at hx2
      injection hx2 with hx2
      revert hx2; decide
  have e : frontC 35 s = s.take (k + 1) ++ frontC 35 rest := by
    have := front_app (c := 35) (a := s.take (k + 1)) (s.drop (k + 1)) nf
    rw [List.take_append_drop] at this
    rw [this, h3]
  have hK : schK 0 (frontC 35 s) = some k := by
    rw [e]
    have := schK_front s (frontC 35 rest) 0 k h1
    rwa [Nat.sub_zero] at this
  unfold schP
  rw [hK, Option.map_some]
  have t1 : (frontC 35 s).take k = s.take k := by
    rw [e, List.take_append_of_le_length (by rw [List.length_take]; omega), List.take_take]
    congr 1
    omega
  have t2 : (frontC 35 s).drop (k + 1) = frontC 35 rest := by
    rw [e]
    have hl : (s.take (k + 1)).length = k + 1 := by rw [List.length_take]; omega
    rw [List.drop_append_of_le_length (by omega), List.drop_of_length_le (by omega)]
    rfl
  rw [t1, t2, h2]
theorem auth_front : ∀ (r : Bs), authP (frontC 35 r) = authP r ∧ restP (frontC 35 r) = frontC 35 (restP r)
  | [] => ⟨rfl, rfl⟩
  | x :: r => by
    obtain ⟨h1, h2⟩ := auth_front r
    by_cases hx : x = 35
    · subst hx
      have e : frontC 35 (35 :: r) = [] := by unfold frontC; simp
      have e1 : authP (35 :: r) = [] := rfl
      have e2 : restP (35 :: r) = 35 :: r := rfl
      rw [e, e1, e2, e]
      exact ⟨rfl, rfl⟩
    · have hx2 : (x != 35) = true := by simpa using hx
      have e : frontC 35 (x :: r) = x :: frontC 35 r := by unfold frontC; rw [List.takeWhile_cons, if_pos hx2]
      by_cases hy : endSet.contains x = true
      · have e1 : ∀ l, authP (x :: l) = [] := fun l => by unfold authP; rw [List.takeWhile_cons, hy]; rfl
        have e2 : ∀ l, restP (x :: l) = x :: l := fun l => by unfold restP; rw [List.dropWhile_cons, hy]; rfl
        rw [e, e1, e1, e2, e2, e]
        exact ⟨rfl, rfl⟩
      · have hy' : endSet.contains x = false := by simpa using hy
        have e1 : ∀ l, authP (x :: l) = x :: authP l := fun l => by unfold authP; rw [List.takeWhile_cons, hy']; rfl
        have e2 : ∀ l, restP (x :: l) = restP l := fun l => by unfold restP; rw [List.dropWhile_cons, hy']; rfl
        rw [e, e1, e1, e2, e2, h1, h2]
        exact ⟨rfl, rfl⟩
theorem front_front (c : UInt8) (s : Bs) : frontC c (frontC c s) = frontC c s ∧ backC c (frontC c s) = [] ∧ (frontC c s).contains c = false := by
  have h := front_free c s
  obtain ⟨h1, h2⟩ := front_not h
  exact ⟨h1, h2, by simpa using h⟩
def bareU (u : Ur) : Ur := ⟨u.sch, u.host, u.port, u.path, u.query, u.asks, [], false⟩
/-- Without the fragment. -/
theorem parse_front {s : Bs} {u : Ur} (h : parseP s = .ok u) : parseP (frontC 35 s) = .ok (bareU u) := by
  obtain ⟨hl, sch, r, h1, h2⟩ := parse_parts h
  have hl2 : (frontC 35 s).length ≤ s.length := by unfold frontC; exact (List.takeWhile_sublist _).length_le
  have h3 := sch_front h1
  have e : frontC 35 (47 :: 47 :: r) = 47 :: 47 :: frontC 35 r := by unfold frontC; rfl
  rw [e] at h3
  unfold parseP
  rw [if_neg (by omega), h3]
  simp only
  rw [if_pos (show List.take 2 (47 :: 47 :: frontC 35 r) = [47, 47] from rfl)]
  show parseB sch (frontC 35 r) = _
  obtain ⟨a1, a2⟩ := auth_front r
  obtain ⟨f1, f2, f3⟩ := front_front 35 (restP r)
  unfold parseB at h2 ⊢
  rw [a1, a2]
  split at h2
  · cases h2
  · rename_i hst port hp
    split at h2
    · rename_i q f l hq hf hl'
      injection h2 with h2
      subst h2
      have q1 : queryT (frontC 35 (restP r)) = some q := by unfold queryT at hq ⊢; rw [f1]; exact hq
      have q2 : fragT (frontC 35 (restP r)) = some [] := by unfold fragT; rw [f2]; rfl
      have q3 : pathT (frontC 35 (restP r)) = pathT (restP r) := by unfold pathT; rw [f1]
      have q4 : asksT (frontC 35 (restP r)) = asksT (restP r) := by unfold asksT; rw [f1]
      have q5 : pointsT (frontC 35 (restP r)) = false := f3
      simp only [q1, q2, q3, q4, q5, hl']
      rfl
    · cases h2
theorem beside_nil (b : Ur) : besideP b [] = .ok (bareU b) := by
  have e1 : queryT [] = some [] := rfl
  have e2 : fragT [] = some [] := rfl
  have e3 : segsP (splitC 47 (noSl (pathT []))) = some [[]] := rfl
  unfold besideP
  rw [e1, e2, e3]
  simp only
  rw [if_pos (show pathT [] = [] from rfl)]
  have e4 : asksT [] = false := rfl
  have e5 : pointsT [] = false := rfl
  rw [e4, e5]
  simp [bareU]
theorem aim_nil (b : Ur) : aimP b [] = .ok (bareU b) := by
  unfold aimP
  rw [if_neg (by decide), if_neg (by decide), beside_nil]
/-- UrlHere, its second part: an empty text is where one is. -/
theorem plain_empty {base : Bs} {b : Ur} (hb : parseP base = .ok b) : resolveP base [] = resolveP (frontC 35 base) (frontC 35 base) := by
  have hf := parse_front hb
  obtain ⟨hl, sch, r, h1, h2⟩ := parse_parts hf
  unfold resolveP
  rw [hb, hf]
  simp only
  rw [if_neg (by simp), if_neg (by omega), aim_nil]
  unfold aimP
  rw [if_pos (by rw [h1]; rfl), hf]
theorem sch_colon {s : Bs} (h : (58 : UInt8) ∉ s) : schP s = none := by
  cases hs : schP s with
  | none => rfl
  | some x =>
    obtain ⟨sch, rest⟩ := x
    unfold schP at hs
    obtain ⟨k, h1, _⟩ := Option.map_eq_some_iff.1 hs
    obtain ⟨_, _, i3, _⟩ := schK_at s 0 k h1
    exact absurd (List.mem_of_getElem? i3) h
theorem beside_same {b u : Ur} {s : Bs} (h : besideP b s = .ok u) : u.sch = b.sch ∧ u.host = b.host ∧ u.port = b.port := by
  unfold besideP at h
  split at h
  · split at h
    · injection h with h; subst h; exact ⟨rfl, rfl, rfl⟩
    · split at h
      · injection h with h; subst h; exact ⟨rfl, rfl, rfl⟩
      · injection h with h; subst h; exact ⟨rfl, rfl, rfl⟩
  · cases h
/-- UrlHere, its last part. -/
theorem plain_here {base ref s : Bs} {b : Ur} (hb : parseP base = .ok b) (hr : resolveP base ref = .ok s) (h58 : (58 : UInt8) ∉ ref) (h2 : ref.take 2 ≠ [47, 47]) :
    originP s = .ok (origP b) ∧ ∃ t, s = origP b ++ 47 :: t := by
  obtain ⟨b', u, hb', _, hu, rfl, hl, g⟩ := resolve_parts hr
  rw [hb] at hb'
  injection hb' with hb'
  subst hb'
  unfold aimP at hu
  rw [if_neg (by rw [sch_colon h58]; simp), if_neg h2] at hu
  obtain ⟨e1, e2, e3⟩ := beside_same hu
  have eo : origP u = origP b := by unfold origP; rw [e1, e2, e3]
  refine ⟨?_, ?_⟩
  · unfold originP
    rw [parse_text g hl]
    simp only
    rw [eo]
  · unfold textP
    rw [eo]
    cases hp : u.path with
    | nil => exact absurd hp g.path.1
    | cons p l => exact ⟨_, rfl⟩
/-- UrlHere, where the base is none. -/
theorem resolve_bad {base ref : Bs} {e : Int} (h : parseP base = .error e) : resolveP base ref = .error e := by
  unfold resolveP
  rw [h]
end Go.Proofs.YtjcejijdeohkgaaGreatDoor
