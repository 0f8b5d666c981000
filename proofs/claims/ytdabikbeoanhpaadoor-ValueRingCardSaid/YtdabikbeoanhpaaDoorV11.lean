/- value.Binary at what sums and products give; the law ValueRing: true. -/
import Derived.Test.YtdabikbeoanhpaaDoorV10
namespace Go.Proofs.YtdabikbeoanhpaaDoor
open Go.RowKit

/-- What an operation gives where both were numbers (b), m being what they come to. -/
def oK (b : Bool) (m : Int) : Int := if b then numK m else 0
def oN (b : Bool) (m : Int) : Int := if b then numN m else 0
def oE (b : Bool) (m : Int) : ByteArray := if b then numE m else sKind

theorem chk_V (m : Int) : chk (numK m) (numN m) ⟨#[]⟩ = true := by
  unfold numK numN
  cases h : fits m
  · exact chk_zero
  · exact (chk_num m).trans h
theorem right_V (m : Int) (w : World) :
    Calls Tryd.prog 17 #[.agg #[.int .i64 (numK m), .int .i64 (numN m), .string ⟨#[]⟩]] w fun e w' => e = .returned (.agg #[.int .i64 (numK m), .int .i64 (numN m), .string ⟨#[]⟩]) ∧ Below w.heap.size w w' :=
  right_yes _ _ ⟨#[]⟩ w maxLen_0 (chk_V m)
theorem in_V (m : Int) : numK m = 2 → -9007199254740992 ≤ numN m ∧ numN m ≤ 9007199254740992 := by
  unfold numK numN
  cases h : fits m
  · intro h; simp at h
  · exact fun _ => fits_in h
theorem txt_V (m : Int) : (txt (numK m) (numN m) ⟨#[]⟩).size ≤ 21 := by
  unfold numK numN
  cases h : fits m
  · exact (by decide : (txt 0 0 ⟨#[]⟩).size ≤ 21)
  · exact txt_num_size h _
theorem V_of {a : Int} (h : fits a = true) : numK a = 2 ∧ numN a = a := ⟨if_pos h, if_pos h⟩
theorem numK_2 (m : Int) : (numK m == 2) = fits m := by unfold numK; cases fits m <;> rfl
theorem numN_of {m : Int} (h : fits m = true) : numN m = m := if_pos h
theorem numK_3 (m : Int) : (numK m == 3) = false := by unfold numK; cases fits m <;> rfl

theorem add_V (m m' : Int) (w : World) (ht : Tab w) :
    Calls Tryd.prog 10 #[.string ⟨#[43]⟩, .agg #[.int .i64 (numK m), .int .i64 (numN m), .string ⟨#[]⟩], .agg #[.int .i64 (numK m'), .int .i64 (numN m'), .string ⟨#[]⟩]] w
      (Gives (oK (fits m && fits m') (m + m')) (oN (fits m && fits m') (m + m')) ⟨#[]⟩ (oE (fits m && fits m') (m + m')) w) := by
  have h1 := txt_V m
  have h2 := txt_V m'
  refine (bin_add _ _ _ _ _ _ w ht _ _ _ _ ⟨#[]⟩ ⟨#[]⟩ (right_V m) (right_V m') (in_V m) (in_V m') _ _ rfl rfl
    (fun w ht => text_right (Nat.zero_le _) (chk_V m) w ht) (fun w ht => text_right (Nat.zero_le _) (chk_V m') w ht) (by omega)).mono fun x w' h => gives_of h ?_
  simp only [binR, numK_2, numK_3]
  cases h : fits m <;> cases h' : fits m' <;> simp [oK, oN, oE, sEmpty, reckK, reckV, reckE, reckZ, reckN, numN_of, h, h']

theorem mul_V (m m' : Int) (w : World) (ht : Tab w) :
    Calls Tryd.prog 10 #[.string ⟨#[42]⟩, .agg #[.int .i64 (numK m), .int .i64 (numN m), .string ⟨#[]⟩], .agg #[.int .i64 (numK m'), .int .i64 (numN m'), .string ⟨#[]⟩]] w
      (Gives (oK (fits m && fits m') (m * m')) (oN (fits m && fits m') (m * m')) ⟨#[]⟩ (oE (fits m && fits m') (m * m')) w) := by
  refine (bin_mul _ _ _ _ _ _ w ht _ _ _ _ ⟨#[]⟩ ⟨#[]⟩ (right_V m) (right_V m') (in_V m) (in_V m')).mono fun x w' h => gives_of h ?_
  simp only [binR, numK_2, numK_3]
  cases h : fits m <;> cases h' : fits m' <;> simp [oK, oN, oE, sEmpty, reckK, reckV, reckE, reckZ, reckN, numN_of, h, h']

theorem add_vn {m c : Int} (hc : fits c = true) (w : World) (ht : Tab w) :
    Calls Tryd.prog 10 #[.string ⟨#[43]⟩, .agg #[.int .i64 (numK m), .int .i64 (numN m), .string ⟨#[]⟩], .agg #[.int .i64 2, .int .i64 c, .string ⟨#[]⟩]] w
      (Gives (oK (fits m) (m + c)) (oN (fits m) (m + c)) ⟨#[]⟩ (oE (fits m) (m + c)) w) := by
  have h := add_V m c w ht
  rw [(V_of hc).1, (V_of hc).2, hc, Bool.and_true] at h
  exact h
theorem add_nv {a m : Int} (ha : fits a = true) (w : World) (ht : Tab w) :
    Calls Tryd.prog 10 #[.string ⟨#[43]⟩, .agg #[.int .i64 2, .int .i64 a, .string ⟨#[]⟩], .agg #[.int .i64 (numK m), .int .i64 (numN m), .string ⟨#[]⟩]] w
      (Gives (oK (fits m) (a + m)) (oN (fits m) (a + m)) ⟨#[]⟩ (oE (fits m) (a + m)) w) := by
  have h := add_V a m w ht
  rw [(V_of ha).1, (V_of ha).2, ha, Bool.true_and] at h
  exact h
theorem mul_vn {m c : Int} (hc : fits c = true) (w : World) (ht : Tab w) :
    Calls Tryd.prog 10 #[.string ⟨#[42]⟩, .agg #[.int .i64 (numK m), .int .i64 (numN m), .string ⟨#[]⟩], .agg #[.int .i64 2, .int .i64 c, .string ⟨#[]⟩]] w
      (Gives (oK (fits m) (m * c)) (oN (fits m) (m * c)) ⟨#[]⟩ (oE (fits m) (m * c)) w) := by
  have h := mul_V m c w ht
  rw [(V_of hc).1, (V_of hc).2, hc, Bool.and_true] at h
  exact h
theorem mul_nv {a m : Int} (ha : fits a = true) (w : World) (ht : Tab w) :
    Calls Tryd.prog 10 #[.string ⟨#[42]⟩, .agg #[.int .i64 2, .int .i64 a, .string ⟨#[]⟩], .agg #[.int .i64 (numK m), .int .i64 (numN m), .string ⟨#[]⟩]] w
      (Gives (oK (fits m) (a * m)) (oN (fits m) (a * m)) ⟨#[]⟩ (oE (fits m) (a * m)) w) := by
  have h := mul_V a m w ht
  rw [(V_of ha).1, (V_of ha).2, ha, Bool.true_and] at h
  exact h

/-! What the texts of four or five throws say together. -/
theorem numE_nil (m : Int) : (numE m).toList = [] ↔ fits m = true := by
  unfold numE; cases fits m
  · simp [sRange]
  · simp
theorem oE_nil (b : Bool) (m : Int) : (oE b m).toList = [] ↔ (b = true ∧ fits m = true) := by
  unfold oE; cases b
  · simp [sKind]
  · simpa using numE_nil m
end Go.Proofs.YtdabikbeoanhpaaDoor
