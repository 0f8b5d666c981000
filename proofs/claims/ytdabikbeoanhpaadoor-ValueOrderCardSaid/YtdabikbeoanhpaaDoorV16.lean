/- The laws ValueOrder and ValueSame: their cases together. -/
import Derived.Test.YtdabikbeoanhpaaDoorV14af
import Derived.Test.YtdabikbeoanhpaaDoorV14at
import Derived.Test.YtdabikbeoanhpaaDoorV14bf
import Derived.Test.YtdabikbeoanhpaaDoorV14btf
import Derived.Test.YtdabikbeoanhpaaDoorV14btt
import Derived.Test.YtdabikbeoanhpaaDoorV15ff
import Derived.Test.YtdabikbeoanhpaaDoorV15ft
import Derived.Test.YtdabikbeoanhpaaDoorV15tf
import Derived.Test.YtdabikbeoanhpaaDoorV15tt
namespace Go.Proofs.YtdabikbeoanhpaaDoor
open Go.RowKit

theorem kind_list : sKind.toList.isEmpty = false := by decide +kernel
theorem one_true (t : Bool) : oneK true = 1 ∧ oneN true t = b2i t ∧ oneE true = ⟨#[]⟩ := ⟨rfl, rfl, rfl⟩
theorem one_false (t : Bool) : oneK false = 0 ∧ oneN false t = 0 ∧ oneE false = sKind := ⟨rfl, rfl, rfl⟩
theorem cnt_3 {c : Int} (h : c = -1 ∨ c = 0 ∨ c = 1) : cnt (decide (c < 0)) (decide (0 < c)) (decide (c = 0)) 3 = 1 := by
  rcases h with rfl | rfl | rfl <;> rfl

theorem order_any (k1 n1 : Int) (s1 : ByteArray) (k2 n2 : Int) (s2 : ByteArray) (k3 n3 : Int) (s3 : ByteArray) (w : World) (ht : Tab w) (h1 : s1.size ≤ maxLen) (h2 : s2.size ≤ maxLen) (h3 : s3.size ≤ maxLen) :
    Calls Tryd.prog 5 #[.agg #[.int .i64 k1, .int .i64 n1, .string s1], .agg #[.int .i64 k2, .int .i64 n2, .string s2], .agg #[.int .i64 k3, .int .i64 n3, .string s3]] w fun e w' => e = .returned (.bool true) ∧ Below w.heap.size w w' := by
  have L : BinAt ⟨#[60]⟩ k1 n1 s1 k2 n2 s2 _ _ _ := fun w ht => lss_any h1 h2 w ht
  have M : BinAt ⟨#[62]⟩ k1 n1 s1 k2 n2 s2 _ _ _ := fun w ht => gtr_any h1 h2 w ht
  have S : BinAt ⟨#[61, 61]⟩ k1 n1 s1 k2 n2 s2 _ _ _ := fun w ht => eql_any h1 h2 w ht
  have X : BinAt ⟨#[60]⟩ k2 n2 s2 k3 n3 s3 _ _ _ := fun w ht => lss_any h2 h3 w ht
  have F : BinAt ⟨#[60]⟩ k1 n1 s1 k3 n3 s3 _ _ _ := fun w ht => lss_any h1 h3 w ht
  have O : BinAt ⟨#[62, 61]⟩ k1 n1 s1 k2 n2 s2 _ _ _ := fun w ht => geq_any h1 h2 w ht
  have T := @cmpC_trans (rk k1 n1 s1) (rn k1 n1 s1) (rs k1 n1 s1) (rk k2 n2 s2) (rn k2 n2 s2) (rs k2 n2 s2) (rk k3 n3 s3) (rn k3 n3 s3) (rs k3 n3 s3)
  have T2 := @cmpB_trans (rk k1 n1 s1) (rk k2 n2 s2) (rk k3 n3 s3)
  cases hb : cmpB (rk k1 n1 s1) (rk k2 n2 s2)
  · rw [hb] at L M
    exact order_kind k1 n1 s1 k2 n2 s2 k3 n3 s3 w ht _ _ _ _ _ _ _ _ _ _ _ _ L M S X F O
  · rw [cmpC_zero (chk_right k1 n1 s1) (chk_right k2 n2 s2) hb] at S
    rw [hb] at L M O
    have hr := @cmpC_range (rk k1 n1 s1) (rn k1 n1 s1) (rs k1 n1 s1) (rk k2 n2 s2) (rn k2 n2 s2) (rs k2 n2 s2)
    generalize cmpC (rk k1 n1 s1) (rn k1 n1 s1) (rs k1 n1 s1) (rk k2 n2 s2) (rn k2 n2 s2) (rs k2 n2 s2) = c at *
    generalize cmpC (rk k2 n2 s2) (rn k2 n2 s2) (rs k2 n2 s2) (rk k3 n3 s3) (rn k3 n3 s3) (rs k3 n3 s3) = d at *
    generalize cmpC (rk k1 n1 s1) (rn k1 n1 s1) (rs k1 n1 s1) (rk k3 n3 s3) (rn k3 n3 s3) (rs k3 n3 s3) = f at *
    have hc := cnt_3 hr
    have ho : decide (0 ≤ c) = !decide (c < 0) := by rw [Bool.eq_iff_iff]; simp
    rw [ho] at O
    cases hb2 : cmpB (rk k2 n2 s2) (rk k3 n3 s3)
    · rw [hb2] at X
      cases hl : decide (c < 0)
      · rw [hl] at L O hc
        exact order_yes1_false k1 n1 s1 k2 n2 s2 k3 n3 s3 w ht _ _ _ _ _ _ _ _ kind_list L M S X F O hc
      · rw [hl] at L O hc
        exact order_yes1_true k1 n1 s1 k2 n2 s2 k3 n3 s3 w ht _ _ _ _ _ _ _ _ kind_list L M S X F O hc
    · rw [hb2] at X
      rw [T2 hb hb2] at F
      cases hl : decide (c < 0)
      · rw [hl] at L O hc
        exact order_yes2_f k1 n1 s1 k2 n2 s2 k3 n3 s3 w ht _ _ _ _ L M S X F O hc
      · rw [hl] at L O hc
        cases hx : decide (d < 0)
        · rw [hx] at X
          exact order_yes2_tf k1 n1 s1 k2 n2 s2 k3 n3 s3 w ht _ _ _ L M S X F O hc
        · rw [hx] at X
          have hf : decide (f < 0) = true := decide_eq_true (T hb hb2 (of_decide_eq_true hl) (of_decide_eq_true hx))
          rw [hf] at F
          exact order_yes2_tt k1 n1 s1 k2 n2 s2 k3 n3 s3 w ht _ _ L M S X F O hc

theorem eqB_turned (k n : Int) (s : ByteArray) (k' n' : Int) (s' : ByteArray) : eqB k n s k' n' s' = eqB k' n' s' k n s := by
  rw [Bool.eq_iff_iff]
  simp only [eqB, Bool.and_eq_true, beq_iff_eq]
  exact ⟨fun h => ⟨h.1.symm, h.2.1.symm, h.2.2.symm⟩, fun h => ⟨h.1.symm, h.2.1.symm, h.2.2.symm⟩⟩
theorem eqB_refl (k n : Int) (s : ByteArray) : eqB k n s k n s = true := by simp [eqB]
theorem eqB_eq {k n : Int} {s : ByteArray} {k' n' : Int} {s' : ByteArray} (h : eqB k n s k' n' s' = true) : k = k' ∧ n = n' ∧ s = s' := by
  simp only [eqB, Bool.and_eq_true, beq_iff_eq] at h
  refine ⟨h.1, h.2.1, Go.WideShapes.bytes_inj ?_⟩
  have := h.2.2
  rwa [ByteArray.toList_eq, ByteArray.toList_eq] at this

theorem valueSame_any (k1 n1 : Int) (s1 : ByteArray) (k2 n2 : Int) (s2 : ByteArray) (w : World) (ht : Tab w) (h1 : s1.size ≤ 140737488351232) (h2 : s2.size ≤ 140737488351232) :
    Calls Tryd.prog 6 #[.agg #[.int .i64 k1, .int .i64 n1, .string s1], .agg #[.int .i64 k2, .int .i64 n2, .string s2]] w fun e w' => e = .returned (.bool true) ∧ Below w.heap.size w w' := by
  have m1 : s1.size ≤ maxLen := by unfold maxLen; omega
  have m2 : s2.size ≤ maxLen := by unfold maxLen; omega
  have H0 : Says 12 #[.string ⟨#[33]⟩, .agg #[.int .i64 k1, .int .i64 n1, .string s1]] _ := fun w _ => not_any k1 n1 s1 w m1
  have H1 : Says 13 #[.agg #[.int .i64 k1, .int .i64 n1, .string s1], .agg #[.int .i64 k1, .int .i64 n1, .string s1]] _ := fun w _ => same_any k1 n1 k1 n1 s1 s1 w m1 m1
  have H2 : Says 13 #[.agg #[.int .i64 k1, .int .i64 n1, .string s1], .agg #[.int .i64 k2, .int .i64 n2, .string s2]] _ := fun w _ => same_any k1 n1 k2 n2 s1 s2 w m1 m2
  have H3 : Says 13 #[.agg #[.int .i64 k2, .int .i64 n2, .string s2], .agg #[.int .i64 k1, .int .i64 n1, .string s1]] _ := fun w _ => same_any k2 n2 k1 n1 s2 s1 w m2 m1
  have H4 : Says 11 #[.agg #[.int .i64 k1, .int .i64 n1, .string s1]] _ := fun w _ => tru_any k1 n1 s1 w m1
  have H5 : Says 14 #[.agg #[.int .i64 k1, .int .i64 n1, .string s1]] _ := fun w ht => text_any k1 n1 s1 w h1 ht
  have H6 : Says 14 #[.agg #[.int .i64 k2, .int .i64 n2, .string s2]] _ := fun w ht => text_any k2 n2 s2 w h2 ht
  have H7 : Says 15 #[.agg #[.int .i64 k1, .int .i64 n1, .string s1]] _ := fun w _ => kind_any k1 n1 s1 w m1
  have H8 : Says 15 #[.agg #[.int .i64 k2, .int .i64 n2, .string s2]] _ := fun w _ => kind_any k2 n2 s2 w m2
  have H9 : Says 11 #[.agg #[.int .i64 k2, .int .i64 n2, .string s2]] _ := fun w _ => tru_any k2 n2 s2 w m2
  rw [eqB_refl] at H1
  rw [eqB_turned] at H3
  cases hq : eqB (rk k1 n1 s1) (rn k1 n1 s1) (rs k1 n1 s1) (rk k2 n2 s2) (rn k2 n2 s2) (rs k2 n2 s2)
  · rw [hq] at H2 H3
    cases ht1 : tru k1 n1 s1
    · rw [ht1] at H0 H4
      exact same_false_false k1 n1 s1 k2 n2 s2 w ht H0 H1 H2 H3 H4
    · rw [ht1] at H0 H4
      exact same_true_false k1 n1 s1 k2 n2 s2 w ht H0 H1 H2 H3 H4
  · rw [hq] at H2 H3
    obtain ⟨e1, e2, e3⟩ := eqB_eq hq
    have et : tru k2 n2 s2 = tru k1 n1 s1 := by unfold tru; rw [e1, e2, e3]
    rw [← e1, ← e2, ← e3] at H6
    rw [← e1] at H8
    rw [et] at H9
    cases ht1 : tru k1 n1 s1
    · rw [ht1] at H0 H4 H9
      exact same_false_true k1 n1 s1 k2 n2 s2 w ht _ _ H0 H1 H2 H3 H4 H5 H6 H7 H8 H9
    · rw [ht1] at H0 H4 H9
      exact same_true_true k1 n1 s1 k2 n2 s2 w ht _ _ H0 H1 H2 H3 H4 H5 H6 H7 H8 H9
end Go.Proofs.YtdabikbeoanhpaaDoor
