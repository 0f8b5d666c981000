/- Plain: what is parsed is right, and what is right is parsed as it was written. -/
import Derived.Test.YtjcejijdeohkgaaGreatDoorU2
import Derived.Lib.TrimUEq
namespace Go.Proofs.YtjcejijdeohkgaaGreatDoor

def lowC (c : UInt8) : UInt8 := if 65 ≤ c.toNat ∧ c.toNat ≤ 90 then c + 32 else c
theorem decode_asc (c : UInt8) (r : Bs) (h : c.toNat < 128) : Lib.decodeL (c :: r) = (c.toNat, 1) := by
  rw [Lib.decodeL_N]
  unfold Lib.decodeN
  simp [h]
theorem small_cons (c : UInt8) (r : Bs) (h : c.toNat < 128) : smallP (c :: r) = lowC c :: smallP r := by
  unfold smallP
  rw [Lib.mapD_step _ _ (by simp), decode_asc c r h]
  have hd : (c :: r).drop 1 = r := rfl
  simp only [hd]
  have h0 : 0 ≤ smR (c.toNat : Int) := by unfold smR; split <;> omega
  have h1 : smR (c.toNat : Int) ≤ 127 := by unfold smR; split <;> omega
  rw [if_pos h0]
  have e : Lib.encodeRune (smR (c.toNat : Int)) = [lowC c] := by
    unfold Lib.encodeRune
    rw [Lib.encodeRuneZ_one h0 h1]
    have key : ∀ d : Fin 128, (smR (d.val : Int)).toNat.toUInt8 = lowC (UInt8.ofNat d.val) := by decide +kernel
    have := key ⟨c.toNat, h⟩
    simp only at this
    rw [List.map_cons, List.map_nil, this]
    simp
  rw [e]
  rfl
theorem small_asc : ∀ (s : Bs), (∀ c ∈ s, c.toNat < 128) → smallP s = s.map lowC
  | [], _ => rfl
  | c :: r, h => by rw [small_cons c r (h c (by simp)), small_asc r (fun x hx => h x (List.mem_cons_of_mem _ hx)), List.map_cons]
theorem let_asc : ∀ c : UInt8, letP c = true → c.toNat < 128 ∧ lowC c ∈ lowSet ∧ c ≠ 58 := by
  have key : ∀ d : Fin 256, letP (UInt8.ofNat d.val) = true → d.val < 128 ∧ lowC (UInt8.ofNat d.val) ∈ lowSet ∧ UInt8.ofNat d.val ≠ 58 := by decide +kernel
  intro c hc
  have := key ⟨c.toNat, c.toNat_lt⟩
  simp only [UInt8.ofNat_toNat] at this
  exact this hc
theorem sch_asc : ∀ c ∈ schSet, c.toNat < 128 ∧ lowC c = c ∧ c ≠ 58 := by decide
theorem low_let : ∀ c ∈ lowSet, letP c = true ∧ lowC c = c := by decide
theorem host_low : ∀ c ∈ hostSet, c.toNat < 128 ∧ lowC c = c ∧ c ≠ 58 ∧ endSet.contains c = false := by decide
theorem dig_low : ∀ c ∈ digs, c ≠ 58 ∧ endSet.contains c = false := by decide
/-- A scheme's rest. -/
def SchR (x : UInt8) : Prop := x ∈ lowSet ∨ x ∈ schSet
theorem schR_low {x : UInt8} (h : SchR x) : lowC x = x := by
  rcases h with h | h
  · exact (low_let x h).2
  · exact (sch_asc x h).2.1
theorem schR_asc {x : UInt8} (h : SchR x) : x.toNat < 128 := by
  rcases h with h | h
  · exact (let_asc x (low_let x h).1).1
  · exact (sch_asc x h).1
theorem schK_at : ∀ (s : Bs) (k : Nat) (m : Nat), schK k s = some m → k ≤ m ∧ m - k < s.length ∧ s[m - k]? = some 58 ∧ 0 < m ∧ ∀ (j : Nat) x, j < m - k → s[j]? = some x → (letP x = true ∨ (0 < k + j ∧ schSet.contains x = true))
  | [], k, m, h => by cases h
  | c :: r, k, m, h => by
    unfold schK at h
    split at h
    · rename_i h1
      have e : k = m := Option.some.inj h
      subst e
      rw [Nat.sub_self]
      exact ⟨Nat.le_refl _, by simp, by rw [h1.1]; rfl, h1.2, fun j x hj => by omega⟩
    · rename_i h1
      split at h
      · cases h
      · rename_i h2
        obtain ⟨i1, i2, i3, i4, i5⟩ := schK_at r (k + 1) m h
        have e : m - k = (m - (k + 1)) + 1 := by omega
        refine ⟨by omega, by rw [e, List.length_cons]; omega, by rw [e]; exact i3, i4, fun j x hj hx => ?_⟩
        cases j with
        | zero =>
          have hc : c = x := by simpa using hx
          subst hc
          by_cases hl : letP c = true
          · exact .inl hl
          · right
            have hl' : letP c = false := by simpa using hl
            refine ⟨?_, ?_⟩
            · rcases Nat.eq_zero_or_pos k with h0 | h0
              · exact absurd ⟨hl', .inl h0⟩ h2
              · omega
            · cases hs : schSet.contains c with
              | true => rfl
              | false => exact absurd ⟨hl', .inr hs⟩ h2
        | succ j =>
          have := i5 j x (by omega) (by simpa using hx)
          rcases this with h3 | ⟨h3, h4⟩
          · exact .inl h3
          · exact .inr ⟨by omega, h4⟩
/-- What scheme cuts off. -/
theorem sch_good {s sch rest : Bs} (h : schP s = some (sch, rest)) : ∃ c r, sch = c :: r ∧ c ∈ lowSet ∧ ∀ x ∈ r, SchR x := by
  unfold schP at h
  obtain ⟨k, h1, h2⟩ := Option.map_eq_some_iff.1 h
  injection h2 with h2 _
  obtain ⟨_, i2, _, i4, i5⟩ := schK_at s 0 k h1
  rw [Nat.sub_zero] at i2 i5
  have good : ∀ x ∈ s.take k, x.toNat < 128 ∧ SchR (lowC x) := by
    intro x hx
    obtain ⟨j, hj, e⟩ := List.mem_iff_getElem.1 hx
    rw [List.length_take] at hj
    have hx2 : s[j]? = some x := by
      rw [← e, List.getElem_take, List.getElem?_eq_getElem]
    rcases i5 j x (by omega) hx2 with h3 | ⟨_, h3⟩
    · exact ⟨(let_asc x h3).1, .inl (let_asc x h3).2.1⟩
    · have h4 : x ∈ schSet := by simpa using h3
      exact ⟨(sch_asc x h4).1, .inr (by rw [(sch_asc x h4).2.1]; exact h4)⟩
  rw [small_asc _ (fun x hx => (good x hx).1)] at h2
  cases s with
  | nil => simp at i2
  | cons c r =>
    obtain ⟨m, rfl⟩ : ∃ m, k = m + 1 := ⟨k - 1, by omega⟩
    rw [List.take_succ_cons, List.map_cons] at h2
    refine ⟨lowC c, (r.take m).map lowC, h2.symm, ?_, fun x hx => ?_⟩
    · rcases i5 0 c (by omega) rfl with h3 | ⟨h3, _⟩
      · exact (let_asc c h3).2.1
      · omega
    · obtain ⟨y, hy, rfl⟩ := List.mem_map.1 hx
      exact (good y (by rw [List.take_succ_cons]; exact List.mem_cons_of_mem _ hy)).2
theorem schK_run : ∀ (r rest : Bs) (k : Nat), 0 < k → (∀ x ∈ r, SchR x) → schK k (r ++ 58 :: rest) = some (k + r.length)
  | [], rest, k, hk, _ => by
    show schK k (58 :: rest) = _
    unfold schK
    rw [if_pos ⟨rfl, hk⟩]
    rfl
  | c :: r, rest, k, hk, h => by
    show schK k (c :: (r ++ 58 :: rest)) = _
    have hc := h c (by simp)
    have h58 : c ≠ 58 := by
      rcases hc with hc | hc
      · exact (let_asc c (low_let c hc).1).2.2
      · exact (sch_asc c hc).2.2
    unfold schK
    rw [if_neg (fun e => h58 e.1), if_neg, schK_run r rest (k + 1) (by omega) (fun x hx => h x (List.mem_cons_of_mem _ hx))]
    · rw [List.length_cons]; congr 1; omega
    · rintro ⟨h1, h2⟩
      rcases hc with hc | hc
      · rw [(low_let c hc).1] at h1; cases h1
      · rcases h2 with h2 | h2
        · omega
        · rw [show schSet.contains c = true by simpa using hc] at h2; cases h2
theorem sch_run {c : UInt8} {r : Bs} (rest : Bs) (h1 : c ∈ lowSet) (h2 : ∀ x ∈ r, SchR x) : schP ((c :: r) ++ 58 :: rest) = some (c :: r, rest) := by
  unfold schP
  have e : schK 0 ((c :: r) ++ 58 :: rest) = some (1 + r.length) := by
    show schK 0 (c :: (r ++ 58 :: rest)) = _
    unfold schK
    rw [if_neg (by omega), if_neg, schK_run r rest 1 (by omega) h2]
    rintro ⟨h3, _⟩
    rw [(low_let c h1).1] at h3
    cases h3
  rw [e, Option.map_some]
  have e2 : ((c :: r) ++ 58 :: rest).take (1 + r.length) = c :: r := by
    rw [List.take_append_of_le_length (by simp; omega)]
    exact List.take_of_length_le (by simp; omega)
  have e3 : ((c :: r) ++ 58 :: rest).drop (1 + r.length + 1) = rest := by
    rw [show 1 + r.length + 1 = (c :: r).length + 1 by simp; omega, List.drop_append]
    simp
  rw [e2, e3]
  have e4 : smallP (c :: r) = c :: r := by
    have hs : ∀ x ∈ c :: r, SchR x := fun x hx => by
      rcases List.mem_cons.1 hx with rfl | hx
      · exact .inl h1
      · exact h2 x hx
    rw [small_asc _ (fun x hx => schR_asc (hs x hx))]
    have : ∀ l : Bs, (∀ x ∈ l, lowC x = x) → l.map lowC = l := by
      intro l hl
      induction l with
      | nil => rfl
      | cons a l ih => rw [List.map_cons, hl a (by simp), ih (fun x hx => hl x (List.mem_cons_of_mem _ hx))]
    exact this _ (fun x hx => schR_low (hs x hx))
  rw [e4]
end Go.Proofs.YtjcejijdeohkgaaGreatDoor
