/- Plain: what a loop that is right is; what is asked leaves it right. -/
import Derived.Test.YtpmklganodlciaaT18
namespace Go.Proofs.Ytpmklganodlciaa
open Go.RowKit

structure Right (q : Lp) : Prop where
  h1 : q.tasks.length ≤ 100
  h2 : q.smalls.length ≤ 100
  h3 : q.tims.length ≤ 100
  w1 : 0 ≤ q.now
  w2 : q.now ≤ 1000000000
  n1 : 0 ≤ q.next
  n2 : q.next ≤ 1000000000
  rng : ∀ n ∈ q.nums, 0 ≤ n ∧ n < q.next
  nod : q.nums.Nodup
  tk : ∀ j ∈ q.tasks, j.small = false ∧ 1 ≤ j.src ∧ j.src ≤ 4
  sm : ∀ j ∈ q.smalls, j.small = true ∧ j.src = 0
  tm : ∀ t ∈ q.tims, (q.now ≤ t.at_ ∧ t.at_ ≤ 1000000000) ∧ (0 ≤ t.every ∧ t.every ≤ 1000000000) ∧ (0 ≤ t.turn ∧ t.turn ≤ 1000000000)
  srt : Srt q.tims
theorem within_iff {n l h : Int} : within n l h = true ↔ l ≤ n ∧ n ≤ h := by
  unfold within
  rw [Bool.and_eq_true, decide_eq_true_eq, decide_eq_true_eq]
theorem distinct_iff (next : Int) : ∀ (l seen : List Int), distinct next seen l = true ↔ (∀ n ∈ l, 0 ≤ n ∧ n < next) ∧ l.Nodup ∧ ∀ n ∈ l, n ∉ seen
  | [], seen => by simp [distinct]
  | n :: l, seen => by
    have ih := distinct_iff next l (seen ++ [n])
    unfold distinct
    rw [Bool.and_eq_true, Bool.and_eq_true, ih, within_iff, List.nodup_cons]
    constructor
    · rintro ⟨⟨⟨h1, h2⟩, h3⟩, h4, h5, h6⟩
      refine ⟨?_, ⟨fun hn => (h6 n hn) (by simp), h5⟩, ?_⟩
      · intro m hm
        rcases List.mem_cons.1 hm with rfl | hm
        · omega
        · exact h4 m hm
      · intro m hm
        rcases List.mem_cons.1 hm with rfl | hm
        · simpa using h3
        · intro h; exact h6 m hm (List.mem_append_left _ h)
    · rintro ⟨h1, ⟨h2, h3⟩, h4⟩
      have := h1 n (by simp)
      refine ⟨⟨⟨this.1, by omega⟩, by simpa using h4 n (by simp)⟩, fun m hm => h1 m (by simp [hm]), h3, fun m hm h => ?_⟩
      rcases List.mem_append.1 h with h | h
      · exact h4 m (by simp [hm]) h
      · rw [List.mem_singleton] at h; subst h; exact h2 hm
theorem timOk_iff (now : Int) : ∀ (l : List Tim) (p : Option Tim), timOk now p l = true ↔ (∀ t ∈ l, (now ≤ t.at_ ∧ t.at_ ≤ 1000000000) ∧ (0 ≤ t.every ∧ t.every ≤ 1000000000) ∧ (0 ≤ t.turn ∧ t.turn ≤ 1000000000)) ∧ Srt l ∧ ∀ s, p = some s → ∀ t ∈ l, ordT s t < 0
  | [], p => by simp [timOk, Srt]
  | t :: l, p => by
    have ih := timOk_iff now l (some t)
    unfold timOk
    rw [Bool.and_eq_true, Bool.and_eq_true, Bool.and_eq_true, Bool.and_eq_true, ih, within_iff, within_iff, within_iff]
    unfold Srt
    rw [List.pairwise_cons]
    constructor
    · rintro ⟨⟨⟨⟨h1, h2⟩, h3⟩, h4⟩, h5, h6, h7⟩
      refine ⟨?_, ⟨fun x hx => h7 t rfl x hx, h6⟩, ?_⟩
      · intro x hx
        rcases List.mem_cons.1 hx with rfl | hx
        · exact ⟨h1, h2, h3⟩
        · exact h5 x hx
      · rintro s rfl x hx
        have h4' : ordT s t < 0 := by simpa using h4
        rcases List.mem_cons.1 hx with rfl | hx
        · exact h4'
        · exact ordT_trans h4' (h7 t rfl x hx)
    · rintro ⟨h1, ⟨h2, h3⟩, h4⟩
      obtain ⟨a, b, c⟩ := h1 t (by simp)
      refine ⟨⟨⟨⟨a, b⟩, c⟩, ?_⟩, fun x hx => h1 x (by simp [hx]), h3, ?_⟩
      · cases p with
        | none => rfl
        | some s => simpa using h4 s rfl t (by simp)
      · rintro s h x hx
        injection h with h
        subst h
        exact h2 x hx
theorem right_iff (q : Lp) : q.check = 0 ↔ Right q := by
  unfold Lp.check
  constructor
  · intro h
    split at h
    · cases h
    · rename_i hl
      split at h
      · rename_i hc
        simp only [Bool.and_eq_true, within_iff, distinct_iff, timOk_iff, Bool.not_eq_true', List.any_eq_false, badTask, badSmall] at hc
        obtain ⟨⟨⟨⟨⟨⟨a1, a2⟩, b1, b2⟩, c1, c2, _⟩, d⟩, e⟩, f1, f2, _⟩ := hc
        refine ⟨by omega, by omega, by omega, a1, a2, b1, b2, c1, c2, fun j hj => ?_, fun j hj => ?_, f1, f2⟩
        · have := d j hj
          rw [Bool.or_eq_true, not_or] at this
          obtain ⟨t1, t2⟩ := this
          have t3 : within j.src 1 4 = true := by simpa using t2
          rw [within_iff] at t3
          exact ⟨by simpa using t1, t3.1, t3.2⟩
        · have := e j hj
          rw [Bool.or_eq_true, not_or] at this
          obtain ⟨t1, t2⟩ := this
          exact ⟨by simpa using t1, by simpa using t2⟩
      · cases h
  · intro h
    rw [if_neg (by have := h.h1; have := h.h2; have := h.h3; omega), if_pos]
    simp only [Bool.and_eq_true, within_iff, distinct_iff, timOk_iff, Bool.not_eq_true', List.any_eq_false, badTask, badSmall]
    refine ⟨⟨⟨⟨⟨⟨h.w1, h.w2⟩, h.n1, h.n2⟩, h.rng, h.nod, by simp⟩, fun j hj => ?_⟩, fun j hj => ?_⟩, h.tm, h.srt, by simp⟩
    · obtain ⟨a, b, c⟩ := h.tk j hj
      have : within j.src 1 4 = true := within_iff.2 ⟨b, c⟩
      simp [a, this]
    · obtain ⟨a, b⟩ := h.sm j hj
      simp [a, b]
theorem Right.bnd {q : Lp} (h : Right q) : Bnd q.now q.next q.tasks q.smalls q.tims := ⟨h.h1, h.h2, h.h3, h.srt, h.n1, h.n2, h.w1, h.w2⟩
def Lp.zero : Lp := ⟨0, 0, [], [], []⟩
def Lp.ask (q : Lp) (a : Qst) : Lp × Int × Int :=
  if q.check = 0 then (if within a.do_ 1 5 then (if (q.do_ a).2.2 = 0 then q.do_ a else (Lp.zero, 0, (q.do_ a).2.2)) else (Lp.zero, 0, 3)) else (Lp.zero, 0, q.check)
end Go.Proofs.Ytpmklganodlciaa
