/- The order of values: the plain laws, and value.Binary at the order's signs. -/
import Derived.Test.YtdabikbeoanhpaaDoorV9
namespace Go.Proofs.YtdabikbeoanhpaaDoor
open Go.RowKit

theorem bytes_range : ∀ a b : List UInt8, Lib.compareBytes a b = -1 ∨ Lib.compareBytes a b = 0 ∨ Lib.compareBytes a b = 1
  | [], [] => by simp [Lib.compareBytes]
  | [], _ :: _ => by simp [Lib.compareBytes]
  | _ :: _, [] => by simp [Lib.compareBytes]
  | a :: xs, b :: bs => by
    unfold Lib.compareBytes
    split
    · simp
    · split
      · simp
      · exact bytes_range xs bs
theorem bytes_zero : ∀ a b : List UInt8, Lib.compareBytes a b = 0 ↔ a = b
  | [], [] => by simp [Lib.compareBytes]
  | [], _ :: _ => by simp [Lib.compareBytes]
  | _ :: _, [] => by simp [Lib.compareBytes]
  | a :: xs, b :: bs => by
    unfold Lib.compareBytes
    split
    · rename_i h; simp; intro e; subst e; exact absurd h (UInt8.lt_irrefl _)
    · split
      · rename_i h; simp; intro e; subst e; exact absurd h (UInt8.lt_irrefl _)
      · rename_i h1 h2
        have e : a = b := UInt8.le_antisymm (UInt8.not_lt.1 h2) (UInt8.not_lt.1 h1)
        rw [bytes_zero xs bs]
        simp [e]
theorem bytes_trans : ∀ a b c : List UInt8, Lib.compareBytes a b < 0 → Lib.compareBytes b c < 0 → Lib.compareBytes a c < 0
  | [], [], _, h, _ => by simp [Lib.compareBytes] at h
  | _ :: _, [], _, h, _ => by simp [Lib.compareBytes] at h
  | [], _ :: _, [], _, h => by simp [Lib.compareBytes] at h
  | [], _ :: _, _ :: _, _, _ => by simp [Lib.compareBytes]
  | _ :: _, _ :: _, [], _, h => by simp [Lib.compareBytes] at h
  | a :: xs, b :: bs, c :: cs, h1, h2 => by
    unfold Lib.compareBytes at *
    by_cases ab : a < b
    · by_cases bc : b < c
      · rw [if_pos (UInt8.lt_trans ab bc)]; decide
      · rw [if_neg bc] at h2
        by_cases cb : c < b
        · rw [if_pos cb] at h2; simp at h2
        · have e : b = c := UInt8.le_antisymm (UInt8.not_lt.1 cb) (UInt8.not_lt.1 bc)
          subst e
          rw [if_pos ab]; decide
    · rw [if_neg ab] at h1
      by_cases ba : b < a
      · rw [if_pos ba] at h1; simp at h1
      · rw [if_neg ba] at h1
        have e : a = b := UInt8.le_antisymm (UInt8.not_lt.1 ba) (UInt8.not_lt.1 ab)
        subst e
        by_cases bc : a < c
        · rw [if_pos bc]; decide
        · rw [if_neg bc] at h2 ⊢
          by_cases cb : c < a
          · rw [if_pos cb] at h2; simp at h2
          · rw [if_neg cb] at h2 ⊢
            exact bytes_trans xs bs cs h1 h2

/-- May two values that are right be put in order? And how. -/
def cmpB (k k' : Int) : Bool := (k == 2 && k' == 2) || (k == 3 && k' == 3)
def cmpC (k n : Int) (s : ByteArray) (k' n' : Int) (s' : ByteArray) : Int := if k == 2 && k' == 2 then Lib.compareInt n n' else Lib.compareBytes s.data.toList s'.data.toList
def oneK (b : Bool) : Int := if b then 1 else 0
def oneN (b t : Bool) : Int := if b then b2i t else 0
def oneE (b : Bool) : ByteArray := if b then ⟨#[]⟩ else sKind

variable {k n : Int} {s : ByteArray} {k' n' : Int} {s' : ByteArray} {k2 n2 : Int} {s2 : ByteArray}
theorem int_range (a b : Int) : Lib.compareInt a b = -1 ∨ Lib.compareInt a b = 0 ∨ Lib.compareInt a b = 1 := by
  unfold Lib.compareInt
  split
  · simp
  · split <;> simp
theorem int_neg (a b : Int) : Lib.compareInt a b < 0 ↔ a < b := by
  unfold Lib.compareInt
  split
  · simpa
  · split <;> simp <;> omega
theorem cmpC_range : cmpC k n s k' n' s' = -1 ∨ cmpC k n s k' n' s' = 0 ∨ cmpC k n s k' n' s' = 1 := by
  unfold cmpC; split
  · exact int_range _ _
  · exact bytes_range _ _
theorem chk_parts (h : chk k n s = true) : (k = 2 → s.toList = []) ∧ (k = 3 → n = 0) := by
  refine ⟨fun hk => ?_, fun hk => ?_⟩
  · subst hk; simp [chk] at h; exact h.2
  · subst hk; simp [chk] at h; exact h.2
theorem cmpC_zero (h : chk k n s = true) (h' : chk k' n' s' = true) (hb : cmpB k k' = true) : eqB k n s k' n' s' = decide (cmpC k n s k' n' s' = 0) := by
  have p := chk_parts h
  have p' := chk_parts h'
  unfold cmpB at hb
  cases q : (k == 2 && k' == 2)
  · rw [q, Bool.false_or] at hb
    simp only [Bool.and_eq_true, beq_iff_eq] at hb
    obtain ⟨rfl, rfl⟩ := hb
    unfold cmpC
    rw [if_neg (by simp), p.2 rfl, p'.2 rfl]
    rw [Bool.eq_iff_iff]
    simp [eqB, ByteArray.toList_eq, bytes_zero]
  · simp only [Bool.and_eq_true, beq_iff_eq] at q
    obtain ⟨rfl, rfl⟩ := q
    unfold cmpC
    rw [if_pos (by simp)]
    rw [Bool.eq_iff_iff]
    simp only [eqB, p.1 rfl, p'.1 rfl, Lib.compareInt]
    simp
    constructor
    · rintro rfl; simp
    · intro h; split at h
      · simp at h
      · split at h
        · simp at h
        · omega
theorem cmpC_trans (h1 : cmpB k k' = true) (h2 : cmpB k' k2 = true) (l1 : cmpC k n s k' n' s' < 0) (l2 : cmpC k' n' s' k2 n2 s2 < 0) : cmpC k n s k2 n2 s2 < 0 := by
  unfold cmpB at h1 h2
  simp only [Bool.or_eq_true, Bool.and_eq_true, beq_iff_eq] at h1 h2
  rcases h1 with ⟨rfl, rfl⟩ | ⟨rfl, rfl⟩
  · rcases h2 with ⟨_, rfl⟩ | ⟨h, _⟩
    · simp only [cmpC, Bool.and_self, beq_self_eq_true, if_true, int_neg] at *
      omega
    · simp at h
  · rcases h2 with ⟨h, _⟩ | ⟨_, rfl⟩
    · simp at h
    · simp only [cmpC] at *
      simp at *
      exact bytes_trans _ _ _ l1 l2
theorem cmpB_trans (h1 : cmpB k k' = true) (h2 : cmpB k' k2 = true) : cmpB k k2 = true := by
  unfold cmpB at *
  simp only [Bool.or_eq_true, Bool.and_eq_true, beq_iff_eq] at *
  omega

variable {k0 n0 k0' n0' : Int} {s0 s0' : ByteArray}
theorem in_right : rk k n s = 2 → -9007199254740992 ≤ rn k n s ∧ rn k n s ≤ 9007199254740992 := right_nums k n s

theorem binR_lss : binR [60] k n s k' n' s' = ⟨oneK (cmpB k k'), oneN (cmpB k k') (decide (cmpC k n s k' n' s' < 0)), ⟨#[]⟩, oneE (cmpB k k')⟩ := by
  unfold binR cmpB cmpC oneK oneN oneE
  cases q : (k == 2 && k' == 2) <;> cases q' : (k == 3 && k' == 3) <;> simp [sEmpty, ordB]
theorem binR_gtr : binR [62] k n s k' n' s' = ⟨oneK (cmpB k k'), oneN (cmpB k k') (decide (0 < cmpC k n s k' n' s')), ⟨#[]⟩, oneE (cmpB k k')⟩ := by
  unfold binR cmpB cmpC oneK oneN oneE
  cases q : (k == 2 && k' == 2) <;> cases q' : (k == 3 && k' == 3) <;> simp [sEmpty, ordB]
theorem binR_geq : binR [62, 61] k n s k' n' s' = ⟨oneK (cmpB k k'), oneN (cmpB k k') (decide (0 ≤ cmpC k n s k' n' s')), ⟨#[]⟩, oneE (cmpB k k')⟩ := by
  unfold binR cmpB cmpC oneK oneN oneE
  cases q : (k == 2 && k' == 2) <;> cases q' : (k == 3 && k' == 3) <;> simp [sEmpty, ordB]
theorem binR_eql : binR [61, 61] k n s k' n' s' = ⟨1, b2i (eqB k n s k' n' s'), ⟨#[]⟩, ⟨#[]⟩⟩ := by
  simp [binR, sEmpty]

theorem lss_any (hs : s.size ≤ maxLen) (hs' : s'.size ≤ maxLen) (w : World) (ht : Tab w) :
    Calls Tryd.prog 10 #[.string ⟨#[60]⟩, .agg #[.int .i64 k, .int .i64 n, .string s], .agg #[.int .i64 k', .int .i64 n', .string s']] w
      (Gives (oneK (cmpB (rk k n s) (rk k' n' s'))) (oneN (cmpB (rk k n s) (rk k' n' s')) (decide (cmpC (rk k n s) (rn k n s) (rs k n s) (rk k' n' s') (rn k' n' s') (rs k' n' s') < 0))) ⟨#[]⟩ (oneE (cmpB (rk k n s) (rk k' n' s'))) w) :=
  (bin_lss _ _ _ _ _ _ w ht _ _ _ _ _ _ (fun w => right_any k n s w hs) (fun w => right_any k' n' s' w hs') in_right in_right).mono fun _ _ h => gives_of h binR_lss
theorem gtr_any (hs : s.size ≤ maxLen) (hs' : s'.size ≤ maxLen) (w : World) (ht : Tab w) :
    Calls Tryd.prog 10 #[.string ⟨#[62]⟩, .agg #[.int .i64 k, .int .i64 n, .string s], .agg #[.int .i64 k', .int .i64 n', .string s']] w
      (Gives (oneK (cmpB (rk k n s) (rk k' n' s'))) (oneN (cmpB (rk k n s) (rk k' n' s')) (decide (0 < cmpC (rk k n s) (rn k n s) (rs k n s) (rk k' n' s') (rn k' n' s') (rs k' n' s')))) ⟨#[]⟩ (oneE (cmpB (rk k n s) (rk k' n' s'))) w) :=
  (bin_gtr _ _ _ _ _ _ w ht _ _ _ _ _ _ (fun w => right_any k n s w hs) (fun w => right_any k' n' s' w hs') in_right in_right).mono fun _ _ h => gives_of h binR_gtr
theorem geq_any (hs : s.size ≤ maxLen) (hs' : s'.size ≤ maxLen) (w : World) (ht : Tab w) :
    Calls Tryd.prog 10 #[.string ⟨#[62, 61]⟩, .agg #[.int .i64 k, .int .i64 n, .string s], .agg #[.int .i64 k', .int .i64 n', .string s']] w
      (Gives (oneK (cmpB (rk k n s) (rk k' n' s'))) (oneN (cmpB (rk k n s) (rk k' n' s')) (decide (0 ≤ cmpC (rk k n s) (rn k n s) (rs k n s) (rk k' n' s') (rn k' n' s') (rs k' n' s')))) ⟨#[]⟩ (oneE (cmpB (rk k n s) (rk k' n' s'))) w) :=
  (bin_geq _ _ _ _ _ _ w ht _ _ _ _ _ _ (fun w => right_any k n s w hs) (fun w => right_any k' n' s' w hs') in_right in_right).mono fun _ _ h => gives_of h binR_geq
theorem eql_any (hs : s.size ≤ maxLen) (hs' : s'.size ≤ maxLen) (w : World) (ht : Tab w) :
    Calls Tryd.prog 10 #[.string ⟨#[61, 61]⟩, .agg #[.int .i64 k, .int .i64 n, .string s], .agg #[.int .i64 k', .int .i64 n', .string s']] w
      (Gives 1 (b2i (eqB (rk k n s) (rn k n s) (rs k n s) (rk k' n' s') (rn k' n' s') (rs k' n' s'))) ⟨#[]⟩ ⟨#[]⟩ w) :=
  (bin_eql _ _ _ _ _ _ w ht _ _ _ _ _ _ (fun w => right_any k n s w hs) (fun w => right_any k' n' s' w hs') in_right in_right).mono fun _ _ h => gives_of h binR_eql
end Go.Proofs.YtdabikbeoanhpaaDoor
