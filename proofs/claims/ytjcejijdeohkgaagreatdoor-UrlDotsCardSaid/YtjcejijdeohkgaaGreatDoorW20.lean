/- The contract of url.Parse. -/
import Derived.Test.YtjcejijdeohkgaaGreatDoorW19
namespace Go.Proofs.YtjcejijdeohkgaaGreatDoor
open Go.RowKit

theorem TB.lt {w : World} (h : TB w) : 5 < w.heap.size := by
  have h5 := h.p
  unfold Lib.TabIs World.var? at h5
  rw [show Tryz.prog.globalNamed "internal/strconv.uint64pow10" = some 5 by kernel_rfl] at h5
  simp only [Option.bind_some] at h5
  rcases Nat.lt_or_ge 5 w.heap.size with h' | h'
  · exact h'
  · rw [Array.getElem?_eq_none h'] at h5; cases h5
theorem ia_auth : ∀ (r : Bs), (Lib.indexAny r endSet = -1 → authP r = r ∧ restP r = []) ∧ ∀ o : Nat, Lib.indexAny r endSet = o → o ≤ r.length ∧ authP r = r.take o ∧ restP r = r.drop o
  | [] => ⟨fun _ => ⟨rfl, rfl⟩, fun o h => by rw [show Lib.indexAny [] endSet = -1 from rfl] at h; omega⟩
  | b :: r => by
    obtain ⟨i1, i2⟩ := ia_auth r
    have hge := Lib.indexAny_ge endSet r
    have e : Lib.indexAny (b :: r) endSet = if endSet.contains b then 0 else if Lib.indexAny r endSet == -1 then -1 else Lib.indexAny r endSet + 1 := by rw [Lib.indexAny]
    cases hb : endSet.contains b with
    | true =>
      have a1 : authP (b :: r) = [] := by unfold authP; rw [List.takeWhile_cons, hb]; rfl
      have a2 : restP (b :: r) = b :: r := by unfold restP; rw [List.dropWhile_cons, hb]; rfl
      rw [hb, if_pos rfl] at e
      refine ⟨fun h => by omega, fun o h => ?_⟩
      have : o = 0 := by omega
      subst this
      exact ⟨Nat.zero_le _, a1, a2⟩
    | false =>
      have a1 : authP (b :: r) = b :: authP r := by unfold authP; rw [List.takeWhile_cons, hb]; rfl
      have a2 : restP (b :: r) = restP r := by unfold restP; rw [List.dropWhile_cons, hb]; rfl
      rw [hb, if_neg (by simp)] at e
      by_cases hm : Lib.indexAny r endSet = -1
      · rw [hm] at e
        obtain ⟨j1, j2⟩ := i1 hm
        refine ⟨fun _ => ⟨by rw [a1, j1], by rw [a2, j2]⟩, fun o h => ?_⟩
        rw [e] at h
        simp at h
      · rw [if_neg (by simpa using hm)] at e
        obtain ⟨p, hp⟩ : ∃ p : Nat, Lib.indexAny r endSet = p := ⟨(Lib.indexAny r endSet).toNat, by omega⟩
        obtain ⟨j0, j1, j2⟩ := i2 p hp
        refine ⟨fun h => by omega, fun o h => ?_⟩
        have : o = p + 1 := by omega
        subst this
        exact ⟨by rw [List.length_cons]; omega, by rw [a1, j1, List.take_succ_cons], by rw [a2, j2]; rfl⟩
/-- Where the host ends. -/
def endN (r : Bs) : Nat := if Lib.indexAny r endSet = -1 then r.length else (Lib.indexAny r endSet).toNat
theorem endN_le (r : Bs) : endN r ≤ r.length ∧ authP r = r.take (endN r) ∧ restP r = r.drop (endN r) := by
  obtain ⟨i1, i2⟩ := ia_auth r
  have hge := Lib.indexAny_ge endSet r
  unfold endN
  by_cases h : Lib.indexAny r endSet = -1
  · rw [if_pos h, (i1 h).1, (i1 h).2]
    exact ⟨Nat.le_refl _, by simp, by simp⟩
  · rw [if_neg h]
    exact i2 _ (by omega)
theorem pre_two (r : Bs) : Lib.hasPrefix r [47, 47] = decide (r.take 2 = [47, 47]) ∧ (r.take 2 = [47, 47] → Lib.trimPrefix r [47, 47] = r.drop 2) := by
  have h : Lib.hasPrefix r [47, 47] = decide (r.take 2 = [47, 47]) := by
    unfold Lib.hasPrefix
    rw [Bool.eq_iff_iff]
    simp only [decide_eq_true_eq, List.isPrefixOf_iff_prefix, List.prefix_iff_eq_take]
    exact eq_comm
  refine ⟨h, fun h2 => ?_⟩
  unfold Lib.trimPrefix
  rw [h, decide_eq_true h2]
  rfl
theorem pre_one (p : Bs) : Lib.trimPrefix p [47] = noSl p := by
  unfold Lib.trimPrefix noSl Lib.hasPrefix
  cases p with
  | nil => rfl
  | cons c r =>
    by_cases hc : c = 47
    · subst hc; rfl
    · have h1 : ¬ ((c :: r).head? = some 47) := by simpa using hc
      rw [if_neg h1]
      have h2 : (List.isPrefixOf [47] (c :: r)) = false := by
        simp [List.isPrefixOf]
        exact fun e => hc e.symm
      rw [h2]
      rfl
end Go.Proofs.YtjcejijdeohkgaaGreatDoor
