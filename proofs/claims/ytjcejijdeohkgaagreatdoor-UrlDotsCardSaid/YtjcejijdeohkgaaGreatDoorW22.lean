/- Plain: what is parsed is short. -/
import Derived.Test.YtjcejijdeohkgaaGreatDoorW21
namespace Go.Proofs.YtjcejijdeohkgaaGreatDoor

theorem unitsF_len : ∀ (f : Nat) (s : Bs) (us : List (UInt8 × Nat)), unitsF f s = some us → us.length ≤ s.length
  | f, [], us, h => by
    have : unitsF f [] = some [] := by cases f <;> rfl
    rw [this] at h
    injection h with h
    subst h
    exact Nat.le_refl _
  | 0, _ :: _, us, h => by cases h
  | f + 1, c :: r, us, h => by
    unfold unitsF at h
    split at h
    · cases h
    · rename_i h0
      obtain ⟨vs, h1, h2⟩ := Option.map_eq_some_iff.1 h
      have := unitsF_len f _ vs h1
      rw [← h2, List.length_cons]
      rw [List.length_drop] at this
      simp only [List.length_cons] at this ⊢
      omega
theorem dec_le {p d : Bs} (h : decP p = some d) : d.length ≤ p.length := by
  unfold decP units at h
  obtain ⟨us, h1, h2⟩ := Option.map_eq_some_iff.1 h
  rw [← h2, List.length_map]
  exact unitsF_len _ _ _ h1
theorem clean_le {p d : Bs} (h : cleanP p = some d) : d.length ≤ 3 * p.length := by
  unfold cleanP units at h
  obtain ⟨us, h1, h2⟩ := Option.map_eq_some_iff.1 h
  have h3 := unitsF_len _ _ _ h1
  have key : ∀ l : List (UInt8 × Nat), (l.flatMap clU).length ≤ 3 * l.length := by
    intro l
    induction l with
    | nil => exact Nat.le_refl _
    | cons u l ih =>
      have := clU_len u
      rw [List.flatMap_cons, List.length_append, List.length_cons]
      omega
  have := key us
  rw [← h2]
  omega
theorem segs_each : ∀ (l ds : List Bs) (n : Nat), segsP l = some ds → (∀ p ∈ l, p.length ≤ n) → ∀ d ∈ ds, d.length ≤ n
  | [], ds, n, h, _ => by
    rw [segsP] at h
    injection h with h
    subst h
    intro d hd
    cases hd
  | p :: ps, ds, n, h, hp => by
    rw [segs_cons] at h
    cases hd : decP p with
    | none => rw [hd] at h; cases h
    | some d =>
      rw [hd] at h
      obtain ⟨e, h1, h2⟩ := Option.map_eq_some_iff.1 h
      intro x hx
      rw [← h2] at hx
      rcases List.mem_cons.1 hx with rfl | hx
      · exact Nat.le_trans (dec_le hd) (hp p (by simp))
      · exact segs_each ps e n h1 (fun q hq => hp q (List.mem_cons_of_mem _ hq)) x hx
theorem tidyF_each (n : Nat) : ∀ (l out : List Bs), (∀ p ∈ l, p.length ≤ n) → (∀ p ∈ out, p.length ≤ n) → (∀ p ∈ tidyF out l, p.length ≤ n) ∧ (tidyF out l).length ≤ out.length + l.length
  | [], out, _, ho => by
    rw [tidyF_nil]
    exact ⟨ho, Nat.le_refl _⟩
  | s :: r, out, hl, ho => by
    have hr : ∀ p ∈ r, p.length ≤ n := fun p hp => hl p (List.mem_cons_of_mem _ hp)
    have hd : ∀ p ∈ (if s = [46, 46] then out.dropLast else out), p.length ≤ n := by
      split
      · exact fun p hp => ho p (List.dropLast_subset _ hp)
      · exact ho
    have hdl : (if s = [46, 46] then out.dropLast else out).length ≤ out.length := by
      split
      · rw [List.length_dropLast]; omega
      · exact Nat.le_refl _
    rw [tidyF_cons]
    split
    · split
      · have h := tidyF_each n r ((if s = [46, 46] then out.dropLast else out) ++ [[]]) hr (fun p hp => by
          rcases List.mem_append.1 hp with hp | hp
          · exact hd p hp
          · rw [List.mem_singleton] at hp
            subst hp
            exact Nat.zero_le _)
        refine ⟨h.1, Nat.le_trans h.2 ?_⟩
        rw [List.length_append, List.length_cons]
        simp only [List.length_cons, List.length_nil]
        omega
      · have h := tidyF_each n r _ hr hd
        refine ⟨h.1, Nat.le_trans h.2 ?_⟩
        rw [List.length_cons]
        omega
    · have h := tidyF_each n r (out ++ [s]) hr (fun p hp => by
        rcases List.mem_append.1 hp with hp | hp
        · exact ho p hp
        · rw [List.mem_singleton] at hp
          subst hp
          exact hl p (by simp))
      refine ⟨h.1, Nat.le_trans h.2 ?_⟩
      rw [List.length_append, List.length_cons]
      simp only [List.length_cons, List.length_nil]
      omega
theorem tidy_each {n : Nat} {l : List Bs} (hl : ∀ p ∈ l, p.length ≤ n) : (∀ p ∈ tidyP l, p.length ≤ n) ∧ (tidyP l).length ≤ l.length + 1 := by
  have h := tidyF_each n l [] hl (fun p hp => by cases hp)
  unfold tidyP
  split
  · refine ⟨fun p hp => ?_, by simp⟩
    rw [List.mem_singleton] at hp
    subst hp
    exact Nat.zero_le _
  · refine ⟨h.1, ?_⟩
    have := h.2
    simp only [List.length_nil] at this
    omega
/-- Bounds on the parts of an address. -/
structure Small (u : Ur) : Prop where
  s : u.sch.length ≤ 2000
  h : u.host.length ≤ 100
  p : 0 ≤ u.port ∧ u.port ≤ 65535
  l : ∀ x ∈ u.path, x.length ≤ 500
  n : u.path.length ≤ 1502
  q : u.query.length ≤ 1500
  f : u.frag.length ≤ 1500
theorem join_le (l : List Bs) (h : ∀ x ∈ l, x.length ≤ 500) : (joinT l).length ≤ 1501 * l.length := by
  induction l with
  | nil => exact Nat.le_refl _
  | cons p l ih =>
    have h1 := ih (fun x hx => h x (List.mem_cons_of_mem _ hx))
    have h2 := enc_len p
    have h3 := h p (by simp)
    have e : joinT (p :: l) = 47 :: (encP p ++ joinT l) := rfl
    rw [e]
    simp only [List.length_cons, List.length_append]
    omega
theorem Small.short {u : Ur} (h : Small u) : Short u := by
  refine ⟨by have := h.s; omega, by have := h.h; omega, h.p, fun x hx => by have := h.l x hx; omega, by have := h.n; omega, ?_⟩
  have h1 := join_le u.path h.l
  have h2 := h.n
  have h3 := h.s
  have h4 := h.h
  have h5 := h.q
  have h6 := h.f
  have h7 : (portT u.port).length ≤ 6 := by
    rcases Int.lt_or_le u.port 1 with h0 | h0
    · have : u.port = 0 := by have := h.p.1; omega
      rw [this]
      exact Nat.zero_le _
    · rw [portT_eq h0 h.p.2, List.length_cons]
      have := dec_len 4 u.port.toNat (by have := h.p.2; omega)
      omega
  have e : textP u = u.sch ++ ([58, 47, 47] ++ (u.host ++ portT u.port)) ++ (joinT u.path ++ ((if u.asks then 63 :: u.query else []) ++ (if u.points then 35 :: u.frag else []))) := rfl
  have h8 : (if u.asks then 63 :: u.query else []).length ≤ 1501 := by
    split
    · rw [List.length_cons]; omega
    · exact Nat.zero_le _
  have h9 : (if u.points then 35 :: u.frag else []).length ≤ 1501 := by
    split
    · rw [List.length_cons]; omega
    · exact Nat.zero_le _
  rw [e]
  simp only [List.length_append, List.length_cons, List.length_nil]
  omega
theorem host_len {h : Bs} (hh : hostP h = true) : h.length ≤ 100 := by
  unfold hostP at hh
  rw [Bool.and_eq_true] at hh
  exact of_decide_eq_true hh.1
theorem tail_small {s q f : Bs} {l : List Bs} (hs : s.length ≤ 500) (hq : queryT s = some q) (hf : fragT s = some f) (hl : segsP (splitC 47 (noSl (pathT s))) = some l) : q.length ≤ 1500 ∧ f.length ≤ 1500 ∧ (∀ p ∈ l, p.length ≤ 500) ∧ l.length ≤ 501 := by
  have h1 := clean_le hq
  have h2 := clean_le hf
  have h3 := back_len 63 (frontC 35 s)
  have h4 := front_len 35 s
  have h5 := back_len 35 s
  have h6 : (pathT s).length ≤ 500 := Nat.le_trans (Nat.le_trans (front_len 63 _) h4) hs
  have h7 : (noSl (pathT s)).length ≤ 500 := by
    unfold noSl
    split
    · rw [List.length_drop]; omega
    · exact h6
  refine ⟨by omega, by omega, segs_each _ _ 500 hl (fun p hp => Nat.le_trans (splitC_len 47 _ p hp) h7), ?_⟩
  have := segs_len _ _ hl
  have := splitC_count 47 (noSl (pathT s))
  omega
theorem parse_small {s : Bs} {u : Ur} (h : parseP s = .ok u) : Small u := by
  obtain ⟨hl, sch, r, h1, h2⟩ := parse_parts h
  have g := parse_good h
  obtain ⟨hr, hsc⟩ := sch_rest_len h1
  simp only [List.length_cons] at hr
  unfold parseB at h2
  split at h2
  · cases h2
  · rename_i hst port hp
    split at h2
    · rename_i q f l hq hf hs
      injection h2 with h2
      subst h2
      have hre : (restP r).length ≤ 500 := by
        unfold restP
        have := (List.dropWhile_sublist (l := r) (fun b => !endSet.contains b)).length_le
        omega
      obtain ⟨t1, t2, t3, t4⟩ := tail_small hre hq hf hs
      obtain ⟨t5, t6⟩ := tidy_each t3
      refine ⟨by simp only; omega, host_len g.host, ?_, t5, by simp only; omega, t1, t2⟩
      rcases g.port with h0 | ⟨h0, h9, _⟩
      · exact ⟨by rw [h0]; decide, by rw [h0]; decide⟩
      · exact ⟨by omega, h9⟩
    · cases h2
theorem beside_small {b u : Ur} {s : Bs} (hb : Small b) (hn : b.path.length ≤ 502) (hs : s.length ≤ 500) (g : Good u) (h : besideP b s = .ok u) : Small u := by
  unfold besideP at h
  split at h
  · rename_i q f l hq hf hl
    obtain ⟨t1, t2, t3, t4⟩ := tail_small hs hq hf hl
    split at h
    · injection h with h
      subst h
      refine ⟨hb.s, hb.h, hb.p, hb.l, hb.n, ?_, t2⟩
      simp only
      split
      · exact t1
      · exact hb.q
    · split at h
      · injection h with h
        subst h
        obtain ⟨t5, t6⟩ := tidy_each t3
        exact ⟨hb.s, hb.h, hb.p, t5, by simp only; omega, t1, t2⟩
      · injection h with h
        subst h
        obtain ⟨t5, t6⟩ := tidy_each (n := 500) (l := b.path.dropLast ++ l) (fun p hp => by
          rcases List.mem_append.1 hp with hp | hp
          · exact hb.l p (List.dropLast_subset _ hp)
          · exact t3 p hp)
        rw [List.length_append, List.length_dropLast] at t6
        exact ⟨hb.s, hb.h, hb.p, t5, by simp only; omega, t1, t2⟩
  · cases h
end Go.Proofs.YtjcejijdeohkgaaGreatDoor
