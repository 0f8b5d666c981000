/- value.Binary at two numbers, at two that are none; valueLives. -/
import Derived.Test.YtdabikbeoanhpaaDoorV7add
import Derived.Test.YtdabikbeoanhpaaDoorV7eql
import Derived.Test.YtdabikbeoanhpaaDoorV7geq
import Derived.Test.YtdabikbeoanhpaaDoorV7gtr
import Derived.Test.YtdabikbeoanhpaaDoorV7lss
import Derived.Test.YtdabikbeoanhpaaDoorV7mul
import Derived.Test.YtdabikbeoanhpaaDoorV7quo
import Derived.Test.YtdabikbeoanhpaaDoorV7rem
import Derived.Deep.RegionHeld3
import Derived.Deep.DrawnRows
import Derived.Lib.ItoaLen
namespace Go.Proofs.YtdabikbeoanhpaaDoor
open Go.RowKit

theorem emp_list : (⟨#[]⟩ : ByteArray).toList = [] := by decide +kernel
theorem chk_num (a : Int) : chk 2 a ⟨#[]⟩ = fits a := by
  simp [chk, fits]
theorem fits_in {a : Int} (h : fits a = true) : -9007199254740992 ≤ a ∧ a ≤ 9007199254740992 := by
  simpa [fits] using h
theorem maxLen_0 : (⟨#[]⟩ : ByteArray).size ≤ maxLen := by unfold maxLen; exact Nat.zero_le _

theorem right_num {a : Int} (h : fits a = true) (w : World) :
    Calls Tryd.prog 17 #[.agg #[.int .i64 2, .int .i64 a, .string ⟨#[]⟩]] w fun e w' => e = .returned (.agg #[.int .i64 2, .int .i64 a, .string ⟨#[]⟩]) ∧ Below w.heap.size w w' :=
  right_yes 2 a ⟨#[]⟩ w maxLen_0 (by rw [chk_num, h])
theorem right_none {a : Int} (h : fits a = false) (w : World) :
    Calls Tryd.prog 17 #[.agg #[.int .i64 2, .int .i64 a, .string ⟨#[]⟩]] w fun e w' => e = .returned (.agg #[.int .i64 0, .int .i64 0, .string ⟨#[]⟩]) ∧ Below w.heap.size w w' :=
  right_no 2 a ⟨#[]⟩ w maxLen_0 (by rw [chk_num, h])

/-- What Binary gives, written out. -/
def Gives (k n : Int) (s e : ByteArray) (w : World) (x : Ending) (w' : World) : Prop :=
  x = .returned (.tuple #[.agg #[.int .i64 k, .int .i64 n, .string s], .string e]) ∧ Below w.heap.size w w'
theorem gives_of {R : Res} {k n : Int} {s e : ByteArray} {w w' : World} {x : Ending} (h : BinPost R w x w') (hr : R = ⟨k, n, s, e⟩) : Gives k n s e w x w' := by subst hr; exact h

theorem quo_nums {a b : Int} (ha : fits a = true) (hb : fits b = true) (h0 : b ≠ 0) (w : World) (ht : Tab w) :
    Calls Tryd.prog 10 #[.string ⟨#[47]⟩, .agg #[.int .i64 2, .int .i64 a, .string ⟨#[]⟩], .agg #[.int .i64 2, .int .i64 b, .string ⟨#[]⟩]] w (Gives 2 (a.tdiv b) ⟨#[]⟩ ⟨#[]⟩ w) := by
  refine (bin_quo _ _ _ _ _ _ w ht 2 a 2 b ⟨#[]⟩ ⟨#[]⟩ (right_num ha) (right_num hb) (fun _ => fits_in ha) (fun _ => fits_in hb)).mono fun x w' h => gives_of h ?_
  have := tdiv_in a b (fits_in ha).1 (fits_in ha).2
  have hf : fits (a.tdiv b) = true := by simp [fits, this]
  simp [binR, reckK, reckV, reckE, reckZ, reckN, numK, numN, numE, hf, h0, sEmpty]

theorem tmod_in (a b : Int) (ha : fits a = true) : fits (a.tmod b) = true := by
  have h := fits_in ha
  have h1 := Int.natAbs_tmod a b
  have h2 := Nat.mod_le a.natAbs b.natAbs
  simp [fits]
  omega

theorem rem_nums {a b : Int} (ha : fits a = true) (hb : fits b = true) (h0 : b ≠ 0) (w : World) (ht : Tab w) :
    Calls Tryd.prog 10 #[.string ⟨#[37]⟩, .agg #[.int .i64 2, .int .i64 a, .string ⟨#[]⟩], .agg #[.int .i64 2, .int .i64 b, .string ⟨#[]⟩]] w (Gives 2 (a.tmod b) ⟨#[]⟩ ⟨#[]⟩ w) := by
  refine (bin_rem _ _ _ _ _ _ w ht 2 a 2 b ⟨#[]⟩ ⟨#[]⟩ (right_num ha) (right_num hb) (fun _ => fits_in ha) (fun _ => fits_in hb)).mono fun x w' h => gives_of h ?_
  have hf := tmod_in a b ha
  simp [binR, reckK, reckV, reckE, reckZ, reckN, numK, numN, numE, hf, h0, sEmpty]

theorem quo_zero {a : Int} (ha : fits a = true) (w : World) (ht : Tab w) :
    Calls Tryd.prog 10 #[.string ⟨#[47]⟩, .agg #[.int .i64 2, .int .i64 a, .string ⟨#[]⟩], .agg #[.int .i64 2, .int .i64 0, .string ⟨#[]⟩]] w (Gives 0 0 ⟨#[]⟩ sZero w) := by
  have hb : fits 0 = true := by decide
  refine (bin_quo _ _ _ _ _ _ w ht 2 a 2 0 ⟨#[]⟩ ⟨#[]⟩ (right_num ha) (right_num hb) (fun _ => fits_in ha) (fun _ => fits_in hb)).mono fun x w' h => gives_of h ?_
  simp [binR, reckK, reckV, reckE, reckZ, sEmpty]
theorem rem_zero {a : Int} (ha : fits a = true) (w : World) (ht : Tab w) :
    Calls Tryd.prog 10 #[.string ⟨#[37]⟩, .agg #[.int .i64 2, .int .i64 a, .string ⟨#[]⟩], .agg #[.int .i64 2, .int .i64 0, .string ⟨#[]⟩]] w (Gives 0 0 ⟨#[]⟩ sZero w) := by
  have hb : fits 0 = true := by decide
  refine (bin_rem _ _ _ _ _ _ w ht 2 a 2 0 ⟨#[]⟩ ⟨#[]⟩ (right_num ha) (right_num hb) (fun _ => fits_in ha) (fun _ => fits_in hb)).mono fun x w' h => gives_of h ?_
  simp [binR, reckK, reckV, reckE, reckZ, sEmpty]

/-- What 'right' leaves of a number. -/
def rkn (a : Int) : Int := if fits a then 2 else 0
def rnn (a : Int) : Int := if fits a then a else 0
theorem right_any_num (a : Int) (w : World) :
    Calls Tryd.prog 17 #[.agg #[.int .i64 2, .int .i64 a, .string ⟨#[]⟩]] w fun e w' => e = .returned (.agg #[.int .i64 (rkn a), .int .i64 (rnn a), .string ⟨#[]⟩]) ∧ Below w.heap.size w w' := by
  cases h : fits a
  · simpa [rkn, rnn, h] using right_none h w
  · simpa [rkn, rnn, h] using right_num h w
theorem rkn_in (a : Int) : rkn a = 2 → -9007199254740992 ≤ rnn a ∧ rnn a ≤ 9007199254740992 := by
  unfold rkn rnn
  split
  · rename_i h; exact fun _ => fits_in h
  · intro h; simp at h

theorem quo_kind {a b : Int} (h : (fits a && fits b) = false) (w : World) (ht : Tab w) :
    Calls Tryd.prog 10 #[.string ⟨#[47]⟩, .agg #[.int .i64 2, .int .i64 a, .string ⟨#[]⟩], .agg #[.int .i64 2, .int .i64 b, .string ⟨#[]⟩]] w (Gives 0 0 ⟨#[]⟩ sKind w) := by
  refine (bin_quo _ _ _ _ _ _ w ht (rkn a) (rnn a) (rkn b) (rnn b) ⟨#[]⟩ ⟨#[]⟩ (right_any_num a) (right_any_num b) (rkn_in a) (rkn_in b)).mono fun x w' hh => gives_of hh ?_
  cases ha : fits a <;> cases hb : fits b <;> simp_all [binR, rkn, sEmpty]
theorem rem_kind {a b : Int} (h : (fits a && fits b) = false) (w : World) (ht : Tab w) :
    Calls Tryd.prog 10 #[.string ⟨#[37]⟩, .agg #[.int .i64 2, .int .i64 a, .string ⟨#[]⟩], .agg #[.int .i64 2, .int .i64 b, .string ⟨#[]⟩]] w (Gives 0 0 ⟨#[]⟩ sKind w) := by
  refine (bin_rem _ _ _ _ _ _ w ht (rkn a) (rnn a) (rkn b) (rnn b) ⟨#[]⟩ ⟨#[]⟩ (right_any_num a) (right_any_num b) (rkn_in a) (rkn_in b)).mono fun x w' hh => gives_of hh ?_
  cases ha : fits a <;> cases hb : fits b <;> simp_all [binR, rkn, sEmpty]

theorem mul_nums {a b : Int} (ha : fits a = true) (hb : fits b = true) (w : World) (ht : Tab w) :
    Calls Tryd.prog 10 #[.string ⟨#[42]⟩, .agg #[.int .i64 2, .int .i64 a, .string ⟨#[]⟩], .agg #[.int .i64 2, .int .i64 b, .string ⟨#[]⟩]] w (Gives (numK (a * b)) (numN (a * b)) ⟨#[]⟩ (numE (a * b)) w) := by
  refine (bin_mul _ _ _ _ _ _ w ht 2 a 2 b ⟨#[]⟩ ⟨#[]⟩ (right_num ha) (right_num hb) (fun _ => fits_in ha) (fun _ => fits_in hb)).mono fun x w' h => gives_of h ?_
  simp [binR, reckK, reckV, reckE, reckZ, reckN, sEmpty]

theorem txt_num (a : Int) (s : ByteArray) : txt 2 a s = ⟨(Lib.itoa a).toArray⟩ := rfl
theorem txt_text (n : Int) (s : ByteArray) : txt 3 n s = s := rfl
theorem txt_num_size {a : Int} (h : fits a = true) (s : ByteArray) : (txt 2 a s).size ≤ 21 := by
  have h1 := fits_in h
  have h2 := Lib.itoa_length_le a (by omega) (by omega)
  rw [txt_num]
  simpa [ByteArray.size] using h2

theorem text_right {k n : Int} {s : ByteArray} (hs : s.size ≤ 140737488351232) (h : chk k n s = true) (w : World) (ht : Tab w) :
    Calls Tryd.prog 14 #[.agg #[.int .i64 k, .int .i64 n, .string s]] w fun e w' => e = .returned (.string (txt k n s)) ∧ Below w.heap.size w w' := by
  have := text_any k n s w hs ht
  rw [rk, rn, rs, if_pos h, if_pos h, if_pos h] at this
  exact this

theorem add_nums {a b : Int} (ha : fits a = true) (hb : fits b = true) (w : World) (ht : Tab w) :
    Calls Tryd.prog 10 #[.string ⟨#[43]⟩, .agg #[.int .i64 2, .int .i64 a, .string ⟨#[]⟩], .agg #[.int .i64 2, .int .i64 b, .string ⟨#[]⟩]] w (Gives (numK (a + b)) (numN (a + b)) ⟨#[]⟩ (numE (a + b)) w) := by
  have h1 := txt_num_size ha ⟨#[]⟩
  have h2 := txt_num_size hb ⟨#[]⟩
  refine (bin_add _ _ _ _ _ _ w ht 2 a 2 b ⟨#[]⟩ ⟨#[]⟩ (right_num ha) (right_num hb) (fun _ => fits_in ha) (fun _ => fits_in hb) _ _ rfl rfl
    (fun w ht => text_right (Nat.zero_le _) (by rw [chk_num, ha]) w ht) (fun w ht => text_right (Nat.zero_le _) (by rw [chk_num, hb]) w ht) (by omega)).mono fun x w' h => gives_of h ?_
  simp [binR, reckK, reckV, reckE, reckZ, reckN, sEmpty]

theorem chk_a : chk 3 0 ⟨#[97]⟩ = true := by decide +kernel
theorem itoa_m2 : Lib.itoa (-2) = [45, 50] := by simp [Lib.itoa, Lib.decDigits]

theorem add_lives (w : World) (ht : Tab w) :
    Calls Tryd.prog 10 #[.string ⟨#[43]⟩, .agg #[.int .i64 2, .int .i64 (-2), .string ⟨#[]⟩], .agg #[.int .i64 3, .int .i64 0, .string ⟨#[97]⟩]] w (Gives 3 0 ⟨#[45, 50, 97]⟩ ⟨#[]⟩ w) := by
  have ha : fits (-2) = true := by decide
  have h1 := txt_num_size ha ⟨#[]⟩
  have h2 : (txt 3 0 ⟨#[97]⟩).size = 1 := rfl
  have hs : (⟨#[97]⟩ : ByteArray).size ≤ maxLen := by unfold maxLen; decide
  refine (bin_add _ _ _ _ _ _ w ht 2 (-2) 3 0 ⟨#[]⟩ ⟨#[97]⟩ (right_num ha) (fun w => right_yes 3 0 ⟨#[97]⟩ w hs chk_a) (fun _ => fits_in ha) (fun h => by simp at h) _ _ rfl rfl
    (fun w ht => text_right (Nat.zero_le _) (by rw [chk_num, ha]) w ht) (fun w ht => text_right (by decide) chk_a w ht) (by omega)).mono fun x w' h => gives_of h ?_
  have e1 : txt 2 (-2) ⟨#[]⟩ = ⟨#[45, 50]⟩ := by rw [txt_num, itoa_m2]
  have e2 : (⟨#[45, 50]⟩ : ByteArray) ++ ⟨#[97]⟩ = ⟨#[45, 50, 97]⟩ := by decide +kernel
  have e3 : ¬ 2000 < (⟨#[45, 50, 97]⟩ : ByteArray).size := by decide
  simp only [binR, e1, txt_text, e2, if_neg e3]
  simp [sEmpty]
end Go.Proofs.YtdabikbeoanhpaaDoor
