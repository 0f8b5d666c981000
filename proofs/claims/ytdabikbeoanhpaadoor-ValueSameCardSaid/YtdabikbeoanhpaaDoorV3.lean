/- The contracts of value.product, reckoned, ordered, Text. -/
import Derived.Test.YtdabikbeoanhpaaDoorV2
import Derived.Lib.Hide
namespace Go.Proofs.YtdabikbeoanhpaaDoor
open Go.RowKit

theorem mul64_any (x y : Nat) (hx : x ≤ 9007199254740992) (hy : y ≤ 9007199254740992) (w : World) : ∃ hi lo : Nat, (x * y ≤ 9007199254740992 → hi = 0 ∧ lo = x * y) ∧ (9007199254740992 < x * y → 0 < hi ∨ 9007199254740992 < lo) ∧ lo ≤ 18446744073709551615 ∧
    Calls Tryd.prog 31 #[.int .u64 x, .int .u64 y] w fun e w' => e = .returned (.tuple #[.int .u64 hi, .int .u64 lo]) ∧ w = w' := by
  refine ⟨x * y / 18446744073709551616, x * y % 18446744073709551616, ?_, ?_, ?_, (Tryd.bits_Mul64 x y (by omega) (by omega) w).mono fun e w' h => ⟨h.1, h.2.symm⟩⟩
  · intro h; constructor
    · exact Nat.div_eq_of_lt (by omega)
    · exact Nat.mod_eq_of_lt (by omega)
  · intro h
    have := Nat.div_add_mod (x * y) 18446744073709551616
    by_cases h0 : 0 < x * y / 18446744073709551616
    · exact Or.inl h0
    · right; omega
  · omega

theorem tup2 {a b : Int} {x y : Bool} (h1 : a = b) (h2 : x = y) : Ending.returned (.tuple #[.int .i64 a, .bool x]) = .returned (.tuple #[.int .i64 b, .bool y]) := by rw [h1, h2]

/-- |a| * |b|. -/
theorem mul_abs (a b : Int) (x y : Nat) (hx : max a (-a) = x) (hy : max b (-b) = y) :
    (a < 0 → b < 0 → ((x * y : Nat) : Int) = a * b) ∧ (a < 0 → 0 ≤ b → ((x * y : Nat) : Int) = -(a * b)) ∧ (0 ≤ a → b < 0 → ((x * y : Nat) : Int) = -(a * b)) ∧ (0 ≤ a → 0 ≤ b → ((x * y : Nat) : Int) = a * b) := by
  rw [Int.natCast_mul]
  refine ⟨fun h1 h2 => ?_, fun h1 h2 => ?_, fun h1 h2 => ?_, fun h1 h2 => ?_⟩
  · rw [show (x : Int) = -a by omega, show (y : Int) = -b by omega, Int.neg_mul_neg]
  · rw [show (x : Int) = -a by omega, show (y : Int) = b by omega, Int.neg_mul]
  · rw [show (x : Int) = a by omega, show (y : Int) = -b by omega, Int.mul_neg]
  · rw [show (x : Int) = a by omega, show (y : Int) = b by omega]

def prodN (a b : Int) : Int := if fits (a * b) then a * b else 0

set_option maxHeartbeats 400000 in
theorem product_any (a b : Int) (w : World) (ha : -9007199254740992 ≤ a) (ha' : a ≤ 9007199254740992) (hb : -9007199254740992 ≤ b) (hb' : b ≤ 9007199254740992) :
    Calls Tryd.prog 26 #[.int .i64 a, .int .i64 b] w fun e w' => e = .returned (.tuple #[.int .i64 (prodN a b), .bool (fits (a * b))]) ∧ w = w' := by
  obtain ⟨x, hx⟩ : ∃ x : Nat, max a (-a) = x := ⟨(max a (-a)).toNat, by omega⟩
  obtain ⟨y, hy⟩ : ∃ y : Nat, max b (-b) = y := ⟨(max b (-b)).toNat, by omega⟩
  have hab := mul_abs a b x y hx hy
  have Hx := Lib.hid hx
  have Hy := Lib.hid hy
  have bx : x ≤ 9007199254740992 := by omega
  have bY : y ≤ 9007199254740992 := by omega
  clear hx hy
  obtain ⟨hi, lo, g1, g2, g3, hm⟩ := mul64_any x y bx bY w
  have HM := Lib.hid hm
  clear hm bx bY
  by_cases hs : x * y ≤ 9007199254740992
  · obtain ⟨e1, e2⟩ := g1 hs
    subst e1
    have e4 : (lo : Int) ≤ 9007199254740992 := by omega
    clear g1 g2 g3
    rw [← e2] at hab
    have E : fits (a * b) = true := by
      unfold fits
      simp only [Bool.and_eq_true, decide_eq_true_eq]
      omega
    have EE := Lib.hid E
    by_cases h1 : a < 0
    all_goals by_cases h2 : b < 0
    all_goals
      have HAB := Lib.hid hab
      obtain ⟨q, hq⟩ : ∃ q, decide (a < 0) = q := ⟨_, rfl⟩
      obtain ⟨q', hq'⟩ : ∃ q, decide (b < 0) = q := ⟨_, rfl⟩
      have hq2 := hq
      have hq3 := hq'
      simp only [h1, h2] at hq hq'
      subst hq hq'
      clear hs e2 hab E
      go_enter Tryd.func26, Tryd.ntmps26
      go_wp2_with fail
      rw [Hx.out, Hy.out]
      refine HM.out.mono ?_
      rintro e w' ⟨rfl, rfl⟩
      go_wp2_with fail
      go_ret2
      refine ⟨tup2 ?_ EE.out.symm, rfl⟩
      unfold prodN
      rw [if_pos EE.out]
      have := HAB.out
      omega
  · have hs' : 9007199254740992 < x * y := by omega
    have E : fits (a * b) = false := by
      unfold fits
      simp only [Bool.and_eq_false_iff, decide_eq_false_iff_not]
      omega
    have EE := Lib.hid E
    have hc := g2 hs'
    clear g1 g2 hs hs' hab E
    by_cases h0 : hi = 0
    · subst h0
      have e4 : (9007199254740992 : Int) < (lo : Int) := by omega
      clear hc g3
      go_enter Tryd.func26, Tryd.ntmps26
      go_wp2_with fail
      rw [Hx.out, Hy.out]
      refine HM.out.mono ?_
      rintro e w' ⟨rfl, rfl⟩
      go_wp2_with fail
      go_ret2
      exact ⟨tup2 (by unfold prodN; rw [EE.out]; rfl) EE.out.symm, rfl⟩
    · have e4 : ((hi : Int) != 0) = true := by rw [bne_iff_ne]; omega
      clear hc g3 h0
      go_enter Tryd.func26, Tryd.ntmps26
      go_wp2_with fail
      rw [Hx.out, Hy.out]
      refine HM.out.mono ?_
      rintro e w' ⟨rfl, rfl⟩
      go_wp2_with fail
      go_ret2
      exact ⟨tup2 (by unfold prodN; rw [EE.out]; rfl) EE.out.symm, rfl⟩

/-- The sign's truth. -/
def ordB (sg : List UInt8) (c : Int) : Bool :=
  if sg == [60] then decide (c < 0) else if sg == [60, 61] then decide (c ≤ 0) else if sg == [62] then decide (0 < c) else decide (0 ≤ c)

theorem ret_ord {a b : Bool} (h : a = b) : Ending.returned (.agg #[.int .i64 1, .int .i64 (b2i a), .string ⟨#[]⟩]) = .returned (.agg #[.int .i64 1, .int .i64 (b2i b), .string ⟨#[]⟩]) := by rw [h]

set_option maxHeartbeats 400000 in
theorem ordered_any (sg : ByteArray) (c : Int) (w : World) :
    Calls Tryd.prog 20 #[.string sg, .int .i64 c] w fun e w' => e = .returned (.agg #[.int .i64 1, .int .i64 (b2i (ordB sg.toList c)), .string ⟨#[]⟩]) ∧ Below w.heap.size w w' := by
  go_enter Tryd.func20, Tryd.ntmps20
  go_wp2_with ((go_at_call 18; refine (truth_any _ _).mono ?_; rintro e w' ⟨rfl, hb⟩; obtain ⟨hc, hf⟩ := bcell hb; have hz := hb.size; simp at hz))
  all_goals
    refine bodyPost_ret (v := .agg #[.int .i64 1, .int .i64 (b2i (ordB sg.toList c)), .string ⟨#[]⟩]) (by simp [results, Tryd.results20, go_sem, ordB, *]) rfl ⟨rfl, ?_⟩
    exact ((((((Below.refl _ _).alloc (Nat.le_refl _) _).trans (hb.mono (by simp))).setCell (by simp) _).setCell (by simp) _).setCell (by simp) _)

/-- 'zero'. -/
def sZero : ByteArray := ⟨#[122, 101, 114, 111]⟩
/-- A number, or what is thrown: kind, number, text of the throw. -/
def numK (n : Int) : Int := if fits n then 2 else 0
def numN (n : Int) : Int := if fits n then n else 0
def numE (n : Int) : ByteArray := if fits n then ⟨#[]⟩ else sRange

theorem number_any (n : Int) (w : World) :
    Calls Tryd.prog 23 #[.int .i64 n, .bool true] w fun e w' => e = .returned (.tuple #[.agg #[.int .i64 (numK n), .int .i64 (numN n), .string ⟨#[]⟩], .string (numE n)]) ∧ Below w.heap.size w w' := by
  cases h : fits n
  · simpa [numK, numN, numE, h] using number_no n true w (by simpa using h)
  · simpa [numK, numN, numE, h] using number_yes n w h

theorem number_prod (a b : Int) (w : World) :
    Calls Tryd.prog 23 #[.int .i64 (prodN a b), .bool (fits (a * b))] w fun e w' => e = .returned (.tuple #[.agg #[.int .i64 (numK (a * b)), .int .i64 (numN (a * b)), .string ⟨#[]⟩], .string (numE (a * b))]) ∧ Below w.heap.size w w' := by
  cases h : fits (a * b)
  · simpa [numK, numN, numE, h] using number_no (prodN a b) false w rfl
  · simpa [numK, numN, numE, h, prodN] using number_yes (a * b) w h

/-- What is reckoned by a sign: the number. -/
def reckN (sg : List UInt8) (a b : Int) : Int :=
  if sg == [43] then a + b else if sg == [45] then a - b else if sg == [42] then a * b else if sg == [47] then a.tdiv b else a.tmod b
def reckZ (sg : List UInt8) (b : Int) : Bool := !(sg == [43]) && !(sg == [45]) && !(sg == [42]) && b == 0
def reckK (sg : List UInt8) (a b : Int) : Int := if reckZ sg b then 0 else numK (reckN sg a b)
def reckV (sg : List UInt8) (a b : Int) : Int := if reckZ sg b then 0 else numN (reckN sg a b)
def reckE (sg : List UInt8) (a b : Int) : ByteArray := if reckZ sg b then sZero else numE (reckN sg a b)

theorem ret_reck {k n k' n' : Int} {e e' : ByteArray} (h : k = k') (h1 : n = n') (h2 : e = e') : Ending.returned (.tuple #[.agg #[.int .i64 k, .int .i64 n, .string ⟨#[]⟩], .string e]) = .returned (.tuple #[.agg #[.int .i64 k', .int .i64 n', .string ⟨#[]⟩], .string e']) := by rw [h, h1, h2]

theorem tdiv_in (a b : Int) (ha : -9007199254740992 ≤ a) (ha' : a ≤ 9007199254740992) : -9007199254740992 ≤ a.tdiv b ∧ a.tdiv b ≤ 9007199254740992 := by
  have h := Int.natAbs_tdiv_le_natAbs a b
  omega

set_option maxHeartbeats 400000 in
theorem reckoned_any (sg : ByteArray) (a b : Int) (w : World) (ha : -9007199254740992 ≤ a) (ha' : a ≤ 9007199254740992) (hb : -9007199254740992 ≤ b) (hb' : b ≤ 9007199254740992) :
    Calls Tryd.prog 19 #[.string sg, .int .i64 a, .int .i64 b] w fun e w' => e = .returned (.tuple #[.agg #[.int .i64 (reckK sg.toList a b), .int .i64 (reckV sg.toList a b), .string ⟨#[]⟩], .string (reckE sg.toList a b)]) ∧ Below w.heap.size w w' := by
  obtain ⟨hq1, hq2⟩ := tdiv_in a b ha ha'
  go_enter Tryd.func19, Tryd.ntmps19
  go_wp2_with (first
    | (go_at_call 26; refine (product_any _ _ _ ha ha' hb hb').mono ?_; rintro e w' ⟨rfl, rfl⟩)
    | (go_at_call 23; (first | (with_reducible refine (number_prod _ _ _).mono ?_) | (with_reducible refine (number_any _ _).mono ?_)); rintro e w' ⟨rfl, hbw⟩; obtain ⟨hc, hf⟩ := bcell hbw; have hz := hbw.size; simp at hz))
  all_goals first
    | (exfalso; simp_all; done)
    | (refine bodyPost_ret (v := .tuple #[.agg #[.int .i64 (reckK sg.toList a b), .int .i64 (reckV sg.toList a b), .string ⟨#[]⟩], .string (reckE sg.toList a b)]) (by simp [results, Tryd.results19, go_sem, reckK, reckV, reckE, reckZ, reckN, sZero, *]) rfl ⟨rfl, ?_⟩
       first
         | exact ((((((Below.refl _ _).alloc (Nat.le_refl _) _).trans (hbw.mono (by simp))).setCell (by simp) _).setCell (by simp) _).setCell (by simp) _)
         | exact ((Below.refl _ _).alloc (Nat.le_refl _) _))
end Go.Proofs.YtdabikbeoanhpaaDoor
