/- Plain: what Resolve and Origin answer, as pairs. -/
import Derived.Test.YtjcejijdeohkgaaGreatDoorW23
namespace Go.Proofs.YtjcejijdeohkgaaGreatDoor

def resR (b r : Bs) : Bs × Int := match resolveP b r with
  | .ok s => (s, 0)
  | .error x => ([], x)
theorem beside_err {b : Ur} {s : Bs} {x : Int} (h : besideP b s = .error x) : x = 3 := by
  unfold besideP at h
  split at h
  · split at h
    · cases h
    · split at h <;> cases h
  · injection h with h; exact h.symm
theorem aim_err {b : Ur} {r : Bs} {x : Int} (h : aimP b r = .error x) : x = 2 ∨ x = 3 := by
  unfold aimP at h
  split at h
  · exact parse_err h
  · split at h
    · exact parse_err h
    · exact .inr (beside_err h)
theorem res_err {b r : Bs} {x : Int} (h : resolveP b r = .error x) : x = 2 ∨ x = 3 := by
  unfold resolveP at h
  split at h
  · rename_i hp
    injection h with h
    subst h
    exact parse_err hp
  · split at h
    · injection h with h; exact .inl h.symm
    · split at h
      · rename_i ha
        injection h with h
        subst h
        exact aim_err ha
      · split at h
        · injection h with h; exact .inl h.symm
        · cases h
theorem resR_ok {b r : Bs} (h : (resR b r).2 = 0) : resolveP b r = .ok (resR b r).1 := by
  unfold resR at h ⊢
  cases hp : resolveP b r with
  | ok s => rfl
  | error x =>
    rw [hp] at h
    have := res_err hp
    simp only at h
    omega
theorem resR_of {b r s : Bs} (h : resolveP b r = .ok s) : resR b r = (s, 0) := by
  unfold resR
  rw [h]
theorem resR_bad {b r : Bs} (h : ¬ (resR b r).2 = 0) : (resR b r).1 = [] := by
  unfold resR at h ⊢
  cases hp : resolveP b r with
  | ok s => rw [hp] at h; exact absurd rfl h
  | error x => rfl
theorem resR_len (b r : Bs) : (resR b r).1.length ≤ 500 := by
  unfold resR
  cases hp : resolveP b r with
  | ok s =>
    obtain ⟨_, _, _, _, _, _, hl, _⟩ := resolve_parts hp
    exact hl
  | error x => exact Nat.zero_le _
theorem orgR_ok {s : Bs} (h : (orgR s).2 = 0) : ∃ u, parseP s = .ok u ∧ (orgR s).1 = origP u := by
  unfold orgR originP at h ⊢
  cases hp : parseP s with
  | ok u => exact ⟨u, rfl, rfl⟩
  | error x =>
    rw [hp] at h
    have := parse_err hp
    simp only at h
    omega
theorem orgR_of {s o : Bs} (h : originP s = .ok o) : orgR s = (o, 0) := by
  unfold orgR
  rw [h]
theorem orgR_bad {s : Bs} (h : ¬ (orgR s).2 = 0) : ∃ x, parseP s = .error x := by
  unfold orgR originP at h
  cases hp : parseP s with
  | ok u => rw [hp] at h; exact absurd rfl h
  | error x => exact ⟨x, rfl⟩
/-- UrlAgain, as the law asks it. -/
theorem ask_again (base ref other : Bs) (h : (resR base ref).2 = 0) : resR base (resR base ref).1 = ((resR base ref).1, 0) ∧ ((resR other (resR base ref).1).2 = 0 → (resR other (resR base ref).1).1 = (resR base ref).1) := by
  obtain ⟨h1, h2⟩ := plain_again (resR_ok h)
  exact ⟨resR_of h1, fun h3 => h2 other _ (resR_ok h3)⟩
/-- UrlHere, as the law asks it. -/
theorem ask_here_bad (base ref : Bs) (h : ¬ (orgR base).2 = 0) : ¬ (resR base ref).2 = 0 ∧ ¬ (resR base []).2 = 0 := by
  obtain ⟨x, hx⟩ := orgR_bad h
  have key : ∀ r, ¬ (resR base r).2 = 0 := fun r h0 => by
    have h1 := resR_ok h0
    rw [resolve_bad hx] at h1
    cases h1
  exact ⟨key ref, key []⟩
theorem ask_here_empty (base : Bs) (h : (orgR base).2 = 0) : resR base [] = resR (frontC 35 base) (frontC 35 base) := by
  obtain ⟨u, hu, _⟩ := orgR_ok h
  unfold resR
  rw [plain_empty hu]
theorem ask_here (base ref : Bs) (h : (orgR base).2 = 0) (hr : (resR base ref).2 = 0) (h58 : ref.contains 58 = false) (h2 : ref.take 2 ≠ [47, 47]) :
    orgR (resR base ref).1 = ((orgR base).1, 0) ∧ Lib.hasPrefix (resR base ref).1 ((orgR base).1 ++ [47]) = true := by
  obtain ⟨u, hu, ho⟩ := orgR_ok h
  obtain ⟨h3, t, ht⟩ := plain_here hu (resR_ok hr) (by simpa using h58) h2
  refine ⟨?_, ?_⟩
  · rw [orgR_of h3, ho]
  · rw [ht, ho]
    unfold Lib.hasPrefix
    rw [List.isPrefixOf_iff_prefix]
    exact ⟨t, by simp⟩
/-- UrlDots, as the law asks it. -/
theorem ask_dots (base ref : Bs) (h : (resR base ref).2 = 0) : ∃ u, parseP (resR base ref).1 = .ok u ∧ u.path ≠ [] ∧ [46] ∉ u.path ∧ [46, 46] ∉ u.path := plain_dots (resR_ok h)
theorem check_le (u : Ur) : checkU u = 0 ∨ checkU u = 2 ∨ checkU u = 3 := by
  unfold checkU
  split
  · exact .inr (.inl rfl)
  · split
    · split
      · exact .inl rfl
      · exact .inr (.inr rfl)
    · exact .inr (.inr rfl)
theorem enc_trim (s : Bs) (cs : Bs) (hcs : ∀ b, plainP b = true ∨ b = 37 → b ∈ cs) : Lib.trimS (encP s) cs = [] := by
  rw [trim_iff]
  intro b hb
  exact hcs b (enc_bytes s b hb)
end Go.Proofs.YtjcejijdeohkgaaGreatDoor
