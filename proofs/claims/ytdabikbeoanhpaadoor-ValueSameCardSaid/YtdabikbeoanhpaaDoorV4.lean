/- The contracts of value.Text, Truth, Unary, Same, Kind. -/
import Derived.Test.YtdabikbeoanhpaaDoorV3
import Derived.Lib.AppendIntMem
namespace Go.Proofs.YtdabikbeoanhpaaDoor
open Go.RowKit

/-- The library's table, as laid. -/
def Tab (w : World) : Prop := Lib.TabIs Tryd.prog w "internal/strconv.uint64pow10" .u64 Lib.pow10Tab
theorem Tab.below {w w1 : World} (h : Tab w) (hb : Below w.heap.size w w1) : Tab w1 := Lib.tabBelow_of_tabIs h w1 hb

theorem itoa_any (n : Int) (w : World) (h0 : -9007199254740992 ≤ n) (h1 : n ≤ 9007199254740992) (ht : Tab w) :
    Calls Tryd.prog 25 #[.int .i64 n] w fun e w' => e = .returned (.string ⟨(Lib.itoa n).toArray⟩) ∧ Below w.heap.size w w' := by
  refine (Tryd.strconv_Itoa n (by omega) (by omega) w ht).mono ?_
  rintro e w' ⟨rfl, k, os, rfl⟩
  exact ⟨rfl, ⟨rfl, rfl, rfl, by simp, fun i hi => Sort.heap_grow_old _ _ hi⟩⟩

/-- What is told of a value that is right. -/
def txt (k n : Int) (s : ByteArray) : ByteArray :=
  if k == 1 then ⟨(Lib.formatBool (n == 1)).toArray⟩ else if k == 2 then ⟨(Lib.itoa n).toArray⟩ else if k == 3 then s else if k == 4 then ⟨#[91, 114, 101, 102, 93]⟩
  else if k == 5 then (⟨#[91, 99, 97, 108, 108, 32]⟩ ++ s) ++ ⟨#[93]⟩ else ⟨#[110, 117, 108, 108]⟩

theorem ret_string {a b : ByteArray} (h : a = b) : Ending.returned (.string a) = .returned (.string b) := by rw [h]

theorem right_nums (k n : Int) (s : ByteArray) : rk k n s = 2 → -9007199254740992 ≤ rn k n s ∧ rn k n s ≤ 9007199254740992 := by
  unfold rk rn
  cases h : chk k n s
  · simp
  · simp only [if_true]
    intro hk
    subst hk
    simp [chk] at h
    omega

theorem rs_le (k n : Int) (s : ByteArray) (m : Nat) (hs : s.size ≤ m) : (rs k n s).size ≤ m := by
  unfold rs; split
  · exact hs
  · exact Nat.zero_le _

set_option maxHeartbeats 400000 in
theorem text_any (k n : Int) (s : ByteArray) (w : World) (hs : s.size ≤ 140737488351232) (ht : Tab w) :
    Calls Tryd.prog 14 #[.agg #[.int .i64 k, .int .i64 n, .string s]] w fun e w' => e = .returned (.string (txt (rk k n s) (rn k n s) (rs k n s))) ∧ Below w.heap.size w w' := by
  have HR := right_any k n s (w.alloc (.cells #[.int .i64 k, .int .i64 n, .string s] 23)) (by unfold maxLen; omega)
  have hn := right_nums k n s
  have hz := rs_le k n s _ hs
  generalize rk k n s = k1 at *
  generalize rn k n s = n1 at *
  generalize rs k n s = s1 at *
  have H := Lib.hid HR
  have HN := Lib.hid hn
  have HT := Lib.hid ht
  clear HR hn ht
  go_enter Tryd.func14, Tryd.ntmps14
  go_wp2_with fail
  refine H.out.mono ?_
  rintro e w1 ⟨rfl, hb⟩
  have hA : Below w.heap.size w w1 := ((Below.refl _ _).alloc (Nat.le_refl _) (.cells #[.int .i64 k, .int .i64 n, .string s] 23)).trans (hb.mono (by simp))
  have hB := fun u v x => set3 hA w.heap.size (Nat.le_refl _) u v x
  have HB := Lib.hid hB
  obtain ⟨hc, hf⟩ := bcell hb
  have hz1 := hb.size
  simp at hz1
  clear hA hB
  go_wp2_with (first
    | (go_at_call 24; refine (Tryd.strconv_FormatBool _ _).mono ?_; rintro e w' ⟨rfl, rfl⟩)
    | (go_at_call 25; refine (itoa_any _ _ (HN.out (by simp_all)).1 (HN.out (by simp_all)).2 (HT.out.below (HB.out _ _ _))).mono ?_; rintro e w' ⟨rfl, hw2⟩))
  all_goals go_ret
  all_goals first
    | exact ⟨ret_string (by simp_all [txt]), HB.out _ _ _⟩
    | exact ⟨ret_string (by simp_all [txt]), (HB.out _ _ _).trans (hw2.mono (HB.out _ _ _).size)⟩

/-- The truth of a value that is right. -/
def trB (k n : Int) (s : ByteArray) : Bool := if k == 0 then false else if k == 1 || k == 2 then n != 0 else if k == 3 then !s.toList.isEmpty else true
def tru (k n : Int) (s : ByteArray) : Bool := trB (rk k n s) (rn k n s) (rs k n s)

set_option maxHeartbeats 400000 in
theorem tru_any (k n : Int) (s : ByteArray) (w : World) (hs : s.size ≤ maxLen) :
    Calls Tryd.prog 11 #[.agg #[.int .i64 k, .int .i64 n, .string s]] w fun e w' => e = .returned (.bool (tru k n s)) ∧ Below w.heap.size w w' := by
  have HR := right_any k n s (w.alloc (.cells #[.int .i64 k, .int .i64 n, .string s] 23)) hs
  unfold tru
  generalize rk k n s = k1 at *
  generalize rn k n s = n1 at *
  generalize rs k n s = s1 at *
  have H := Lib.hid HR
  clear HR
  go_enter Tryd.func11, Tryd.ntmps11
  go_wp2_with fail
  refine H.out.mono ?_
  rintro e w1 ⟨rfl, hb⟩
  have hA : Below w.heap.size w w1 := ((Below.refl _ _).alloc (Nat.le_refl _) (.cells #[.int .i64 k, .int .i64 n, .string s] 23)).trans (hb.mono (by simp))
  have hB := fun u v x => set3 hA w.heap.size (Nat.le_refl _) u v x
  have HB := Lib.hid hB
  obtain ⟨hc, hf⟩ := bcell hb
  have hz1 := hb.size
  simp at hz1
  clear hA hB
  go_wp2_with fail
  all_goals go_ret
  all_goals exact ⟨ret_bool (by simp_all [trB]), HB.out _ _ _⟩

theorem chk_zero : chk 0 0 ⟨#[]⟩ = true := by decide +kernel
theorem chk_right (k n : Int) (s : ByteArray) : chk (rk k n s) (rn k n s) (rs k n s) = true := by
  unfold rk rn rs
  cases h : chk k n s
  · exact chk_zero
  · simpa using h
theorem rk_right (k n : Int) (s : ByteArray) : rk (rk k n s) (rn k n s) (rs k n s) = rk k n s := by rw [rk, if_pos (chk_right k n s)]
theorem rn_right (k n : Int) (s : ByteArray) : rn (rk k n s) (rn k n s) (rs k n s) = rn k n s := by rw [rn, if_pos (chk_right k n s)]
theorem rs_right (k n : Int) (s : ByteArray) : rs (rk k n s) (rn k n s) (rs k n s) = rs k n s := by rw [rs, if_pos (chk_right k n s)]
theorem tru_right (k n : Int) (s : ByteArray) : tru (rk k n s) (rn k n s) (rs k n s) = tru k n s := by
  unfold tru; rw [rk_right, rn_right, rs_right]

set_option maxHeartbeats 400000 in
theorem not_any (k n : Int) (s : ByteArray) (w : World) (hs : s.size ≤ maxLen) :
    Calls Tryd.prog 12 #[.string ⟨#[33]⟩, .agg #[.int .i64 k, .int .i64 n, .string s]] w fun e w' => e = .returned (.tuple #[.agg #[.int .i64 1, .int .i64 (b2i (!tru k n s)), .string ⟨#[]⟩], .string ⟨#[]⟩]) ∧ Below w.heap.size w w' := by
  have HR := right_any k n s ((w.alloc (Obj.cells #[Value.int IntKind.i64 k, Value.int IntKind.i64 n, Value.string s] 23)).alloc (Obj.cells #[Value.int IntKind.i64 0, Value.int IntKind.i64 0, Value.string { data := #[] }] 23)) hs
  have HQ := fun W => tru_any (rk k n s) (rn k n s) (rs k n s) W (rs_le k n s _ hs)
  rw [tru_right] at HQ
  generalize rk k n s = k1 at *
  generalize rn k n s = n1 at *
  generalize rs k n s = s1 at *
  generalize tru k n s = b at *
  have H := Lib.hid HR
  have H2 := Lib.hid HQ
  clear HR HQ
  go_enter Tryd.func12, Tryd.ntmps12
  go_wp2_with fail
  refine H.out.mono ?_
  rintro e w1 ⟨rfl, hb⟩
  have hA : Below w.heap.size w w1 := (((Below.refl _ _).alloc (Nat.le_refl _) (.cells #[.int .i64 k, .int .i64 n, .string s] 23)).alloc (by simp) (Obj.cells #[Value.int IntKind.i64 0, Value.int IntKind.i64 0, Value.string { data := #[] }] 23)).trans (hb.mono (by simp; omega))
  have b1 := ((Box.new w k n s).alloc (Obj.cells #[Value.int IntKind.i64 0, Value.int IntKind.i64 0, Value.string { data := #[] }] 23)).below hb
  have b2 := (Box.new (w.alloc (.cells #[.int .i64 k, .int .i64 n, .string s] 23)) 0 0 ⟨#[]⟩).below hb
  rw [show (w.alloc (.cells #[.int .i64 k, .int .i64 n, .string s] 23)).heap.size = w.heap.size + 1 by simp] at b2
  have c1 := b1.set k1 n1 s1
  have c2 := b2.other (b' := w.heap.size) (by omega) (.int .i64 k1) (.int .i64 n1) (.string s1)
  have hB := Lib.hid (set3 hA w.heap.size (Nat.le_refl _) (.int .i64 k1) (.int .i64 n1) (.string s1))
  have F1 := b1.c
  have F2 := b1.f
  have F3 := c1.c
  clear hA hb b1 b2
  go_wp2_with fail
  generalize (((w1.setCell ⟨w.heap.size, 0, none⟩ (.int .i64 k1)).setCell ⟨w.heap.size, 1, none⟩ (.int .i64 n1)).setCell ⟨w.heap.size, 2, none⟩ (.string s1)) = W1 at *
  clear F1 F2 F3
  refine (H2.out _).mono ?_
  rintro e w2 ⟨rfl, hb2⟩
  have hA := hB.out.trans (hb2.mono hB.out.size)
  have HA := Lib.hid hA
  have d2 := c2.below hb2
  clear hA hb2
  go_wp2_with fail
  refine (truth_any _ _).mono ?_
  rintro e w3 ⟨rfl, hb3⟩
  have hA := HA.out.trans (hb3.mono HA.out.size)
  have hC := fun u v x => set3 hA (w.heap.size + 1) (by omega) u v x
  have HC := Lib.hid hC
  have e2 := d2.below hb3
  have e3 := e2.set 1 (b2i (!b)) ⟨#[]⟩
  have F1 := e2.c
  have F2 := e2.f
  have F3 := e3.c
  clear hA hC hb3
  go_wp2_with fail
  refine bodyPost_ret (v := .tuple #[.agg #[.int .i64 1, .int .i64 (b2i (!b)), .string ⟨#[]⟩], .string ⟨#[]⟩]) (by simp [results, Tryd.results12, go_sem, F3]) rfl ⟨rfl, ?_⟩
  exact HC.out _ _ _

theorem rk_cases (k n : Int) (s : ByteArray) : rk k n s = 0 ∨ rk k n s = 1 ∨ rk k n s = 2 ∨ rk k n s = 3 ∨ rk k n s = 4 ∨ rk k n s = 5 := by
  unfold rk
  cases h : chk k n s
  · simp
  · simp only [if_true]
    unfold chk at h
    repeat' split at h
    all_goals first | omega | simp at h

/-- A kind's word. -/
def kindS (k : Int) : ByteArray :=
  if k == 0 then ⟨#[110, 117, 108, 108]⟩ else if k == 1 then ⟨#[98, 111, 111, 108]⟩ else if k == 2 then ⟨#[110, 117, 109, 98, 101, 114]⟩ else if k == 3 then ⟨#[116, 101, 120, 116]⟩
  else if k == 4 then ⟨#[114, 101, 102]⟩ else ⟨#[99, 97, 108, 108]⟩

/-- A JVal's kind. -/
theorem field_k (w : World) (k n : Int) (s : ByteArray) : (Instr.field 23 (.agg #[.int .i64 k, .int .i64 n, .string s]) 0).run Tryd.prog w = .ok (.int .i64 k) w := by kernel_rfl
/-- The six words. -/
theorem kinds_at (w : World) : ∀ k : Int, k = 0 ∨ k = 1 ∨ k = 2 ∨ k = 3 ∨ k = 4 ∨ k = 5 → (Instr.index 46 (.agg #[.string ⟨#[110, 117, 108, 108]⟩, .string ⟨#[98, 111, 111, 108]⟩, .string ⟨#[110, 117, 109, 98, 101, 114]⟩, .string ⟨#[116, 101, 120, 116]⟩, .string ⟨#[114, 101, 102]⟩, .string ⟨#[99, 97, 108, 108]⟩]) (.int .i64 k)).run Tryd.prog w = .ok (.string (kindS k)) w := by
  rintro k (rfl | rfl | rfl | rfl | rfl | rfl)
  all_goals kernel_rfl

set_option maxHeartbeats 400000 in
theorem kind_any (k n : Int) (s : ByteArray) (w : World) (hs : s.size ≤ maxLen) :
    Calls Tryd.prog 15 #[.agg #[.int .i64 k, .int .i64 n, .string s]] w fun e w' => e = .returned (.string (kindS (rk k n s))) ∧ Below w.heap.size w w' := by
  have HR := right_any k n s (w.alloc (.cells #[.int .i64 k, .int .i64 n, .string s] 23)) hs
  have hk := rk_cases k n s
  generalize rk k n s = k1 at *
  generalize rn k n s = n1 at *
  generalize rs k n s = s1 at *
  rcases hk with rfl | rfl | rfl | rfl | rfl | rfl
  all_goals
    have H := Lib.hid HR
    clear HR
    have hx0 := fun w => kinds_at w 0 (by simp)
    have hx1 := fun w => kinds_at w 1 (by simp)
    have hx2 := fun w => kinds_at w 2 (by simp)
    have hx3 := fun w => kinds_at w 3 (by simp)
    have hx4 := fun w => kinds_at w 4 (by simp)
    have hx5 := fun w => kinds_at w 5 (by simp)
    have hy := field_k
    go_enter Tryd.func15, Tryd.ntmps15
    go_wp2_with fail
    refine H.out.mono ?_
    rintro e w1 ⟨rfl, hb⟩
    have hA : Below w.heap.size w w1 := ((Below.refl _ _).alloc (Nat.le_refl _) (.cells #[.int .i64 k, .int .i64 n, .string s] 23)).trans (hb.mono (by simp))
    go_wp2_with fail
    go_ret
    exact ⟨rfl, hA⟩
end Go.Proofs.YtdabikbeoanhpaaDoor
