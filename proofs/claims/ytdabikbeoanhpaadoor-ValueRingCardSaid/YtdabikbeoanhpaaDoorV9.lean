/- valueLives: true. -/
import Derived.Test.YtdabikbeoanhpaaDoorV8
namespace Go.Proofs.YtdabikbeoanhpaaDoor
open Go.RowKit
attribute [local go_sem ↓] Go.wp_at_zero Go.wp_at_succ

theorem Gives.eq {k n : Int} {s e : ByteArray} {w : World} {x : Ending} {w' : World} (h : Gives k n s e w x w') : x = .returned (.tuple #[.agg #[.int .i64 k, .int .i64 n, .string s], .string e]) ∧ Below w.heap.size w w' := h

/-- Two boxes that are only read, behind whatever makes memory. -/
theorem keep2 {w0 w w1 : World} {b b' : Nat} {k n k' n' : Int} {s s' : ByteArray}
    (h : (Box w b k n s ∧ Box w b' k' n' s' ∧ Below w0.heap.size w0 w) ∧ (w.cell? ⟨b, 0, none⟩ = some (.int .i64 k) ∧ w.cell? ⟨b, 1, none⟩ = some (.int .i64 n) ∧ w.cell? ⟨b, 2, none⟩ = some (.string s)) ∧ (w.cell? ⟨b', 0, none⟩ = some (.int .i64 k') ∧ w.cell? ⟨b', 1, none⟩ = some (.int .i64 n') ∧ w.cell? ⟨b', 2, none⟩ = some (.string s')))
    (hb : Below w.heap.size w w1) :
    (Box w1 b k n s ∧ Box w1 b' k' n' s' ∧ Below w0.heap.size w0 w1) ∧ (w1.cell? ⟨b, 0, none⟩ = some (.int .i64 k) ∧ w1.cell? ⟨b, 1, none⟩ = some (.int .i64 n) ∧ w1.cell? ⟨b, 2, none⟩ = some (.string s)) ∧ (w1.cell? ⟨b', 0, none⟩ = some (.int .i64 k') ∧ w1.cell? ⟨b', 1, none⟩ = some (.int .i64 n') ∧ w1.cell? ⟨b', 2, none⟩ = some (.string s')) := by
  obtain ⟨⟨h1, h2, h3⟩, _, _⟩ := h
  exact ⟨⟨h1.below hb, h2.below hb, h3.trans (hb.mono h3.size)⟩, (h1.below hb).c, (h2.below hb).c⟩

theorem keep2_below {w0 w : World} {b b' : Nat} {k n k' n' : Int} {s s' : ByteArray}
    (h : (Box w b k n s ∧ Box w b' k' n' s' ∧ Below w0.heap.size w0 w) ∧ (w.cell? ⟨b, 0, none⟩ = some (.int .i64 k) ∧ w.cell? ⟨b, 1, none⟩ = some (.int .i64 n) ∧ w.cell? ⟨b, 2, none⟩ = some (.string s)) ∧ (w.cell? ⟨b', 0, none⟩ = some (.int .i64 k') ∧ w.cell? ⟨b', 1, none⟩ = some (.int .i64 n') ∧ w.cell? ⟨b', 2, none⟩ = some (.string s'))) : Below w0.heap.size w0 w := h.1.2.2

theorem fits_2 : fits 2 = true := by decide
theorem fits_3 : fits 3 = true := by decide
theorem fits_1 : fits 1 = true := by decide
theorem tru_0 : tru 2 0 ⟨#[]⟩ = false := by decide +kernel

theorem mul_lives (w : World) (ht : Tab w) :
    Calls Tryd.prog 10 #[.string ⟨#[42]⟩, .agg #[.int .i64 2, .int .i64 2, .string ⟨#[]⟩], .agg #[.int .i64 2, .int .i64 3, .string ⟨#[]⟩]] w (Gives 2 6 ⟨#[]⟩ ⟨#[]⟩ w) := mul_nums fits_2 fits_3 w ht

set_option maxRecDepth 100000 in
set_option maxHeartbeats 1000000 in
theorem lives_any (w : World) (ht : Tab w) : Calls Tryd.prog 8 #[] w fun e w' => e = .returned (.bool true) ∧ Below w.heap.size w w' := by
  have HT := Lib.hid ht
  clear ht
  go_enter Tryd.func8, Tryd.ntmps8
  go_wp2_with fail
  refine (num_any _ _).mono ?_
  rintro e w1 ⟨rfl, hb1⟩
  go_wp2_with fail
  refine (num_any _ _).mono ?_
  rintro e w2 ⟨rfl, hb2⟩
  have U2 := Lib.hid (hb1.trans (hb2.mono hb1.size))
  clear hb1 hb2
  go_wp2_with fail
  refine (mul_lives _ (HT.out.below U2.out)).mono ?_
  rintro e w3 he
  obtain ⟨rfl, hb3⟩ := he.eq
  have U3 := Lib.hid (U2.out.trans (hb3.mono U2.out.size))
  clear hb3 U2 he
  go_wp2_with fail
  have q6 := Box.new w3 2 6 ⟨#[]⟩
  have V3 := Lib.hid (U3.out.alloc U3.out.size (.cells #[.int .i64 2, .int .i64 6, .string ⟨#[]⟩] 23))
  refine (num_any _ _).mono ?_
  rintro e w4 ⟨rfl, hb4⟩
  have p6 := q6.below hb4
  have V4 := Lib.hid (V3.out.trans (hb4.mono V3.out.size))
  clear hb4 V3 U3 q6
  go_wp2_with fail
  refine (add_lives _ (HT.out.below V4.out)).mono ?_
  rintro e w5 he
  obtain ⟨rfl, hb5⟩ := he.eq
  have q6 := (p6.below hb5).alloc (.cells #[.int .i64 3, .int .i64 0, .string ⟨#[45, 50, 97]⟩] 23)
  have q7 := Box.new w5 3 0 ⟨#[45, 50, 97]⟩
  have V5 := Lib.hid ((V4.out.trans (hb5.mono V4.out.size)).alloc (Nat.le_trans V4.out.size hb5.size) (.cells #[.int .i64 3, .int .i64 0, .string ⟨#[45, 50, 97]⟩] 23))
  clear hb5 V4 he p6
  go_wp2_with fail
  refine (num_any _ _).mono ?_
  rintro e w6 ⟨rfl, hb6⟩
  have V6 := Lib.hid (V5.out.trans (hb6.mono V5.out.size))
  have p6 := q6.below hb6
  have p7 := q7.below hb6
  clear hb6 V5 q6 q7
  go_wp2_with fail
  refine (num_any _ _).mono ?_
  rintro e w7 ⟨rfl, hb7⟩
  have V7 := Lib.hid (V6.out.trans (hb7.mono V6.out.size))
  have q6 := p6.below hb7
  have q7 := p7.below hb7
  clear hb7 V6 p6 p7
  go_wp2_with fail
  refine (quo_zero fits_1 _ (HT.out.below V7.out)).mono ?_
  rintro e w8 he
  obtain ⟨rfl, hb8⟩ := he.eq
  have p6 := (q6.below hb8).alloc (.cells #[.int .i64 0, .int .i64 0, .string ⟨#[]⟩] 23)
  have p7 := (q7.below hb8).alloc (.cells #[.int .i64 0, .int .i64 0, .string ⟨#[]⟩] 23)
  have V8 := Lib.hid ((V7.out.trans (hb8.mono V7.out.size)).alloc (Nat.le_trans V7.out.size hb8.size) (.cells #[.int .i64 0, .int .i64 0, .string ⟨#[]⟩] 23))
  clear hb8 V7 he q6 q7
  go_wp2_with fail
  have VV := V8.out
  clear V8
  generalize w8.alloc (.cells #[.int .i64 0, .int .i64 0, .string ⟨#[]⟩] 23) = W at *
  have hz : sZero = ⟨#[122, 101, 114, 111]⟩ := rfl
  generalize w3.heap.size = B3 at *
  generalize w5.heap.size = B5 at *
  generalize w8.heap.size = B8 at *
  have F := keep2 ⟨⟨p6, p7, VV⟩, p6.c, p7.c⟩ (Below.drew (Below.refl _ _))
  clear HT w1 w2 w4 w6 w7 p6 p7 VV
  go_region_held3 (fun w' => (Box w' B3 2 6 ⟨#[]⟩ ∧ Box w' B5 3 0 ⟨#[45, 50, 97]⟩ ∧ Below w.heap.size w w') ∧ (w'.cell? ⟨B3, 0, none⟩ = some (.int .i64 2) ∧ w'.cell? ⟨B3, 1, none⟩ = some (.int .i64 6) ∧ w'.cell? ⟨B3, 2, none⟩ = some (.string ⟨#[]⟩)) ∧ (w'.cell? ⟨B5, 0, none⟩ = some (.int .i64 3) ∧ w'.cell? ⟨B5, 1, none⟩ = some (.int .i64 0) ∧ w'.cell? ⟨B5, 2, none⟩ = some (.string ⟨#[45, 50, 97]⟩)))
    (first | assumption | exact keep2 (by assumption) (by assumption))
    (first
      | (go_at_call 7; refine (num_any _ _).mono ?_; rintro e w' ⟨rfl, hb⟩)
      | (go_at_call 11; refine (tru_any _ _ _ _ maxLen_0).mono ?_; rintro e w' ⟨rfl, hb⟩; rw [tru_0]))
  go_wp2_with fail
  go_ret
  exact ⟨rfl, keep2_below (by assumption)⟩
end Go.Proofs.YtdabikbeoanhpaaDoor
