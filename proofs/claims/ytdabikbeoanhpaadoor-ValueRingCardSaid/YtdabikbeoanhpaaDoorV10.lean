/- The law ValueDivides: true. -/
import Derived.Test.YtdabikbeoanhpaaDoorV9
namespace Go.Proofs.YtdabikbeoanhpaaDoor
open Go.RowKit
attribute [local go_sem ↓] Go.wp_at_zero Go.wp_at_succ

theorem check_num {a : Int} {c : Bool} (h : fits a = c) (w : World) :
    Calls Tryd.prog 9 #[.agg #[.int .i64 2, .int .i64 a, .string ⟨#[]⟩]] w fun e w' => e = .returned (.bool c) ∧ Below w.heap.size w w' := by
  refine (check_any 2 a ⟨#[]⟩ w maxLen_0).mono ?_
  rintro e w' ⟨rfl, rfl⟩
  rw [chk_num, h]
  exact ⟨rfl, (Below.refl _ _).alloc (Nat.le_refl _) _⟩

theorem emp_app : (⟨#[]⟩ : ByteArray) ++ ⟨#[]⟩ = ⟨#[]⟩ := by decide +kernel
theorem fits_of {a b : Int} (ha : fits a = true) (h : b.natAbs ≤ a.natAbs) : fits b = true := by
  have := fits_in ha
  simp [fits]
  omega
theorem div_mul_le (a b : Int) : (a.tdiv b * b).natAbs ≤ a.natAbs := by
  rw [Int.natAbs_mul, Int.natAbs_tdiv]
  exact Nat.div_mul_le_self _ _
theorem div_mul_add (a b : Int) : a.tdiv b * b + a.tmod b = a := by
  have := Int.mul_tdiv_add_tmod a b
  rw [Int.mul_comm] at this
  exact this
theorem mul_div {a b : Int} (ha : fits a = true) (hb : fits b = true) (w : World) (ht : Tab w) :
    Calls Tryd.prog 10 #[.string ⟨#[42]⟩, .agg #[.int .i64 2, .int .i64 (a.tdiv b), .string ⟨#[]⟩], .agg #[.int .i64 2, .int .i64 b, .string ⟨#[]⟩]] w (Gives 2 (a.tdiv b * b) ⟨#[]⟩ ⟨#[]⟩ w) := by
  have hq := fits_of ha (Int.natAbs_tdiv_le_natAbs a b)
  have hm := fits_of ha (div_mul_le a b)
  have h := mul_nums hq hb w ht
  rw [numK, numN, numE, if_pos hm, if_pos hm, if_pos hm] at h
  exact h
theorem add_div {a b : Int} (ha : fits a = true) (w : World) (ht : Tab w) :
    Calls Tryd.prog 10 #[.string ⟨#[43]⟩, .agg #[.int .i64 2, .int .i64 (a.tdiv b * b), .string ⟨#[]⟩], .agg #[.int .i64 2, .int .i64 (a.tmod b), .string ⟨#[]⟩]] w (Gives 2 a ⟨#[]⟩ ⟨#[]⟩ w) := by
  have hm := fits_of ha (div_mul_le a b)
  have h := add_nums hm (tmod_in a b ha) w ht
  rw [div_mul_add, numK, numN, numE, if_pos ha, if_pos ha, if_pos ha] at h
  exact h
theorem tmod_lt (a b : Int) (h0 : b ≠ 0) : max (a.tmod b) (-(a.tmod b)) < max b (-b) := by
  have h1 := Int.natAbs_tmod a b
  have h2 := Nat.mod_lt a.natAbs (show 0 < b.natAbs by omega)
  omega
theorem tmod_sign (a b : Int) : a.tmod b = 0 ∨ ((a.tmod b < 0) ↔ (a < 0)) := by
  by_cases h : 0 ≤ a
  · right
    have := Int.tmod_nonneg b h
    omega
  · by_cases h1 : a.tmod b = 0
    · exact Or.inl h1
    · right
      have h2 := Int.tmod_nonneg b (show 0 ≤ -a by omega)
      rw [Int.neg_tmod] at h2
      omega

theorem fits_0 : fits 0 = true := by decide
set_option maxRecDepth 100000 in
set_option maxHeartbeats 1000000 in
theorem divides_yes (a b : Int) (w : World) (ht : Tab w) (ha : fits a = true) (hb : fits b = true) (h0 : b ≠ 0) :
    Calls Tryd.prog 4 #[.int .i64 a, .int .i64 b] w fun e w' => e = .returned (.bool true) ∧ Below w.heap.size w w' := by
  have HT := Lib.hid ht
  have HA := Lib.hid ha
  have HB := Lib.hid hb
  have h1 := fits_in ha
  have h2 := fits_in hb
  clear ht ha hb
  go_enter Tryd.func4, Tryd.ntmps4
  go_wp2_with fail
  refine (num_any _ _).mono ?_
  rintro e w1 ⟨rfl, hb1⟩
  go_wp2_with fail
  refine (num_any _ _).mono ?_
  rintro e w2 ⟨rfl, hb2⟩
  have U2 := Lib.hid (hb1.trans (hb2.mono hb1.size))
  clear hb1 hb2
  go_wp2_with fail
  have x0 := (Box.new w2 2 a ⟨#[]⟩).alloc (.cells #[.int .i64 2, .int .i64 b, .string ⟨#[]⟩] 23)
  have y0 := Box.new (w2.alloc (.cells #[.int .i64 2, .int .i64 a, .string ⟨#[]⟩] 23)) 2 b ⟨#[]⟩
  have V0 := Lib.hid ((U2.out.alloc U2.out.size (.cells #[.int .i64 2, .int .i64 a, .string ⟨#[]⟩] 23)).alloc (Nat.le_trans U2.out.size (by simp)) (.cells #[.int .i64 2, .int .i64 b, .string ⟨#[]⟩] 23))
  rw [show (w2.alloc (.cells #[.int .i64 2, .int .i64 a, .string ⟨#[]⟩] 23)).heap.size = w2.heap.size + 1 by simp] at y0
  clear U2
  refine (quo_nums HA.out HB.out h0 _ (HT.out.below V0.out)).mono ?_
  rintro e w3 he
  obtain ⟨rfl, hb_w3⟩ := he.eq
  have x_w3 := x0.below hb_w3
  have y_w3 := y0.below hb_w3
  have V_w3 := Lib.hid (V0.out.trans (hb_w3.mono V0.out.size))
  clear hb_w3 V0 x0 y0 he
  have Fc_x := x_w3.c
  have Fl_x := x_w3.l
  have Fc_y := y_w3.c
  have Fl_y := y_w3.l
  go_wp2_with fail
  clear Fc_x Fl_x Fc_y Fl_y
  have x_w3a := x_w3.alloc (.cells #[.int .i64 2, .int .i64 (a.tdiv b), .string ⟨#[]⟩] 23)
  have y_w3a := y_w3.alloc (.cells #[.int .i64 2, .int .i64 (a.tdiv b), .string ⟨#[]⟩] 23)
  have q_w3a := Box.new w3 2 (a.tdiv b) ⟨#[]⟩
  have V_w3a := Lib.hid (V_w3.out.alloc V_w3.out.size (.cells #[.int .i64 2, .int .i64 (a.tdiv b), .string ⟨#[]⟩] 23))
  clear V_w3 x_w3 y_w3
  refine (rem_nums HA.out HB.out h0 _ (HT.out.below V_w3a.out)).mono ?_
  rintro e w4 he
  obtain ⟨rfl, hb_w4⟩ := he.eq
  have x_w4 := x_w3a.below hb_w4
  have y_w4 := y_w3a.below hb_w4
  have q_w4 := q_w3a.below hb_w4
  have V_w4 := Lib.hid (V_w3a.out.trans (hb_w4.mono V_w3a.out.size))
  clear hb_w4 V_w3a x_w3a y_w3a q_w3a he
  have Fc_x := x_w4.c
  have Fl_x := x_w4.l
  have Fc_y := y_w4.c
  have Fl_y := y_w4.l
  have Fc_q := q_w4.c
  have Fl_q := q_w4.l
  go_wp2_with fail
  clear Fc_x Fl_x Fc_y Fl_y Fc_q Fl_q
  have x_w4a := x_w4.alloc (.cells #[.int .i64 2, .int .i64 (a.tmod b), .string ⟨#[]⟩] 23)
  have y_w4a := y_w4.alloc (.cells #[.int .i64 2, .int .i64 (a.tmod b), .string ⟨#[]⟩] 23)
  have q_w4a := q_w4.alloc (.cells #[.int .i64 2, .int .i64 (a.tmod b), .string ⟨#[]⟩] 23)
  have r_w4a := Box.new w4 2 (a.tmod b) ⟨#[]⟩
  have V_w4a := Lib.hid (V_w4.out.alloc V_w4.out.size (.cells #[.int .i64 2, .int .i64 (a.tmod b), .string ⟨#[]⟩] 23))
  clear V_w4 x_w4 y_w4 q_w4
  refine (lives_any _ (HT.out.below V_w4a.out)).mono ?_
  rintro e w5 ⟨rfl, hb_w5⟩
  have x_w5 := x_w4a.below hb_w5
  have y_w5 := y_w4a.below hb_w5
  have q_w5 := q_w4a.below hb_w5
  have r_w5 := r_w4a.below hb_w5
  have V_w5 := Lib.hid (V_w4a.out.trans (hb_w5.mono V_w4a.out.size))
  clear hb_w5 V_w4a x_w4a y_w4a q_w4a r_w4a
  have Fc_x := x_w5.c
  have Fl_x := x_w5.l
  have Fc_y := y_w5.c
  have Fl_y := y_w5.l
  have Fc_q := q_w5.c
  have Fl_q := q_w5.l
  have Fc_r := r_w5.c
  have Fl_r := r_w5.l
  go_wp2_with fail
  clear Fc_x Fl_x Fc_y Fl_y Fc_q Fl_q Fc_r Fl_r
  refine (check_num HA.out _).mono ?_
  rintro e w6 ⟨rfl, hb_w6⟩
  have x_w6 := x_w5.below hb_w6
  have y_w6 := y_w5.below hb_w6
  have q_w6 := q_w5.below hb_w6
  have r_w6 := r_w5.below hb_w6
  have V_w6 := Lib.hid (V_w5.out.trans (hb_w6.mono V_w5.out.size))
  clear hb_w6 V_w5 x_w5 y_w5 q_w5 r_w5
  have Fc_x := x_w6.c
  have Fl_x := x_w6.l
  have Fc_y := y_w6.c
  have Fl_y := y_w6.l
  have Fc_q := q_w6.c
  have Fl_q := q_w6.l
  have Fc_r := r_w6.c
  have Fl_r := r_w6.l
  go_wp2_with fail
  clear Fc_x Fl_x Fc_y Fl_y Fc_q Fl_q Fc_r Fl_r
  refine (check_num HB.out _).mono ?_
  rintro e w7 ⟨rfl, hb_w7⟩
  have x_w7 := x_w6.below hb_w7
  have y_w7 := y_w6.below hb_w7
  have q_w7 := q_w6.below hb_w7
  have r_w7 := r_w6.below hb_w7
  have V_w7 := Lib.hid (V_w6.out.trans (hb_w7.mono V_w6.out.size))
  clear hb_w7 V_w6 x_w6 y_w6 q_w6 r_w6
  have Fc_x := x_w7.c
  have Fl_x := x_w7.l
  have Fc_y := y_w7.c
  have Fl_y := y_w7.l
  have Fc_q := q_w7.c
  have Fl_q := q_w7.l
  have Fc_r := r_w7.c
  have Fl_r := r_w7.l
  go_wp2_with fail
  clear Fc_x Fl_x Fc_y Fl_y Fc_q Fl_q Fc_r Fl_r
  refine (mul_div HA.out HB.out _ (HT.out.below V_w7.out)).mono ?_
  rintro e w8 he
  obtain ⟨rfl, hb_w8⟩ := he.eq
  have x_w8 := x_w7.below hb_w8
  have y_w8 := y_w7.below hb_w8
  have q_w8 := q_w7.below hb_w8
  have r_w8 := r_w7.below hb_w8
  have V_w8 := Lib.hid (V_w7.out.trans (hb_w8.mono V_w7.out.size))
  clear hb_w8 V_w7 x_w7 y_w7 q_w7 r_w7 he
  have Fc_x := x_w8.c
  have Fl_x := x_w8.l
  have Fc_y := y_w8.c
  have Fl_y := y_w8.l
  have Fc_q := q_w8.c
  have Fl_q := q_w8.l
  have Fc_r := r_w8.c
  have Fl_r := r_w8.l
  go_wp2_with fail
  clear Fc_x Fl_x Fc_y Fl_y Fc_q Fl_q Fc_r Fl_r
  have x_w8a := x_w8.alloc (.cells #[.int .i64 2, .int .i64 (a.tdiv b * b), .string ⟨#[]⟩] 23)
  have y_w8a := y_w8.alloc (.cells #[.int .i64 2, .int .i64 (a.tdiv b * b), .string ⟨#[]⟩] 23)
  have q_w8a := q_w8.alloc (.cells #[.int .i64 2, .int .i64 (a.tdiv b * b), .string ⟨#[]⟩] 23)
  have r_w8a := r_w8.alloc (.cells #[.int .i64 2, .int .i64 (a.tdiv b * b), .string ⟨#[]⟩] 23)
  have p_w8a := Box.new w8 2 (a.tdiv b * b) ⟨#[]⟩
  have V_w8a := Lib.hid (V_w8.out.alloc V_w8.out.size (.cells #[.int .i64 2, .int .i64 (a.tdiv b * b), .string ⟨#[]⟩] 23))
  clear V_w8 x_w8 y_w8 q_w8 r_w8
  refine (add_div HA.out _ (HT.out.below V_w8a.out)).mono ?_
  rintro e w9 he
  obtain ⟨rfl, hb_w9⟩ := he.eq
  have x_w9 := x_w8a.below hb_w9
  have y_w9 := y_w8a.below hb_w9
  have q_w9 := q_w8a.below hb_w9
  have r_w9 := r_w8a.below hb_w9
  have p_w9 := p_w8a.below hb_w9
  have V_w9 := Lib.hid (V_w8a.out.trans (hb_w9.mono V_w8a.out.size))
  clear hb_w9 V_w8a x_w8a y_w8a q_w8a r_w8a p_w8a he
  have Fc_x := x_w9.c
  have Fl_x := x_w9.l
  have Fc_y := y_w9.c
  have Fl_y := y_w9.l
  have Fc_q := q_w9.c
  have Fl_q := q_w9.l
  have Fc_r := r_w9.c
  have Fl_r := r_w9.l
  have Fc_p := p_w9.c
  have Fl_p := p_w9.l
  have hm := Lib.hid (tmod_in a b HA.out)
  have hl := Lib.hid (tmod_lt a b h0)
  have hs := Lib.hid (tmod_sign a b)
  generalize a.tmod b = r at *
  generalize a.tdiv b * b = p at *
  generalize a.tdiv b = q at *
  have h3 := fits_in hm.out
  have he := emp_app
  have h4 := hl.out
  rcases hs.out with h5 | h5
  · subst h5
    go_wp2_with fail
    go_ret
    exact ⟨rfl, V_w9.out.alloc V_w9.out.size _⟩
  · have h6 : (decide (r < 0) == decide (a < 0)) = true := by
      by_cases q1 : r < 0 <;> by_cases q2 : a < 0 <;> simp [q1, q2] <;> omega
    have H6 := h6
    clear h5 h6
    cases q0 : (r == 0)
    all_goals
      go_wp2_with fail
      go_ret
      exact ⟨rfl, V_w9.out.alloc V_w9.out.size _⟩
set_option maxRecDepth 100000 in
set_option maxHeartbeats 1000000 in
theorem divides_no1 (a b : Int) (w : World) (ht : Tab w) (ha : fits a = false) :
    Calls Tryd.prog 4 #[.int .i64 a, .int .i64 b] w fun e w' => e = .returned (.bool true) ∧ Below w.heap.size w w' := by
  have HT := Lib.hid ht
  have HA := Lib.hid ha
  clear ht ha
  have HK : (fits a && fits b) = false := by rw [HA.out]; rfl
  have K := Lib.hid HK
  clear HK
  go_enter Tryd.func4, Tryd.ntmps4
  go_wp2_with fail
  refine (num_any _ _).mono ?_
  rintro e w1 ⟨rfl, hb1⟩
  go_wp2_with fail
  refine (num_any _ _).mono ?_
  rintro e w2 ⟨rfl, hb2⟩
  have U2 := Lib.hid (hb1.trans (hb2.mono hb1.size))
  clear hb1 hb2
  go_wp2_with fail
  have x0 := (Box.new w2 2 a ⟨#[]⟩).alloc (.cells #[.int .i64 2, .int .i64 b, .string ⟨#[]⟩] 23)
  have y0 := Box.new (w2.alloc (.cells #[.int .i64 2, .int .i64 a, .string ⟨#[]⟩] 23)) 2 b ⟨#[]⟩
  have V0 := Lib.hid ((U2.out.alloc U2.out.size (.cells #[.int .i64 2, .int .i64 a, .string ⟨#[]⟩] 23)).alloc (Nat.le_trans U2.out.size (by simp)) (.cells #[.int .i64 2, .int .i64 b, .string ⟨#[]⟩] 23))
  rw [show (w2.alloc (.cells #[.int .i64 2, .int .i64 a, .string ⟨#[]⟩] 23)).heap.size = w2.heap.size + 1 by simp] at y0
  clear U2
  refine (quo_kind K.out _ (HT.out.below V0.out)).mono ?_
  rintro e w3 he
  obtain ⟨rfl, hb_w3⟩ := he.eq
  have x_w3 := x0.below hb_w3
  have y_w3 := y0.below hb_w3
  have V_w3 := Lib.hid (V0.out.trans (hb_w3.mono V0.out.size))
  clear hb_w3 V0 x0 y0 he
  have Fc_x := x_w3.c
  have Fl_x := x_w3.l
  have Fc_y := y_w3.c
  have Fl_y := y_w3.l
  go_wp2_with fail
  clear Fc_x Fl_x Fc_y Fl_y
  have x_w3a := x_w3.alloc (.cells #[.int .i64 0, .int .i64 0, .string ⟨#[]⟩] 23)
  have y_w3a := y_w3.alloc (.cells #[.int .i64 0, .int .i64 0, .string ⟨#[]⟩] 23)
  have q_w3a := Box.new w3 0 0 ⟨#[]⟩
  have V_w3a := Lib.hid (V_w3.out.alloc V_w3.out.size (.cells #[.int .i64 0, .int .i64 0, .string ⟨#[]⟩] 23))
  clear V_w3 x_w3 y_w3
  refine (rem_kind K.out _ (HT.out.below V_w3a.out)).mono ?_
  rintro e w4 he
  obtain ⟨rfl, hb_w4⟩ := he.eq
  have x_w4 := x_w3a.below hb_w4
  have y_w4 := y_w3a.below hb_w4
  have q_w4 := q_w3a.below hb_w4
  have V_w4 := Lib.hid (V_w3a.out.trans (hb_w4.mono V_w3a.out.size))
  clear hb_w4 V_w3a x_w3a y_w3a q_w3a he
  have Fc_x := x_w4.c
  have Fl_x := x_w4.l
  have Fc_y := y_w4.c
  have Fl_y := y_w4.l
  have Fc_q := q_w4.c
  have Fl_q := q_w4.l
  go_wp2_with fail
  clear Fc_x Fl_x Fc_y Fl_y Fc_q Fl_q
  have x_w4a := x_w4.alloc (.cells #[.int .i64 0, .int .i64 0, .string ⟨#[]⟩] 23)
  have y_w4a := y_w4.alloc (.cells #[.int .i64 0, .int .i64 0, .string ⟨#[]⟩] 23)
  have q_w4a := q_w4.alloc (.cells #[.int .i64 0, .int .i64 0, .string ⟨#[]⟩] 23)
  have r_w4a := Box.new w4 0 0 ⟨#[]⟩
  have V_w4a := Lib.hid (V_w4.out.alloc V_w4.out.size (.cells #[.int .i64 0, .int .i64 0, .string ⟨#[]⟩] 23))
  clear V_w4 x_w4 y_w4 q_w4
  refine (lives_any _ (HT.out.below V_w4a.out)).mono ?_
  rintro e w5 ⟨rfl, hb_w5⟩
  have x_w5 := x_w4a.below hb_w5
  have y_w5 := y_w4a.below hb_w5
  have q_w5 := q_w4a.below hb_w5
  have r_w5 := r_w4a.below hb_w5
  have V_w5 := Lib.hid (V_w4a.out.trans (hb_w5.mono V_w4a.out.size))
  clear hb_w5 V_w4a x_w4a y_w4a q_w4a r_w4a
  have Fc_x := x_w5.c
  have Fl_x := x_w5.l
  have Fc_y := y_w5.c
  have Fl_y := y_w5.l
  have Fc_q := q_w5.c
  have Fl_q := q_w5.l
  have Fc_r := r_w5.c
  have Fl_r := r_w5.l
  go_wp2_with fail
  clear Fc_x Fl_x Fc_y Fl_y Fc_q Fl_q Fc_r Fl_r
  refine (check_num HA.out _).mono ?_
  rintro e w6 ⟨rfl, hb_w6⟩
  have x_w6 := x_w5.below hb_w6
  have y_w6 := y_w5.below hb_w6
  have q_w6 := q_w5.below hb_w6
  have r_w6 := r_w5.below hb_w6
  have V_w6 := Lib.hid (V_w5.out.trans (hb_w6.mono V_w5.out.size))
  clear hb_w6 V_w5 x_w5 y_w5 q_w5 r_w5
  have Fc_x := x_w6.c
  have Fl_x := x_w6.l
  have Fc_y := y_w6.c
  have Fl_y := y_w6.l
  have Fc_q := q_w6.c
  have Fl_q := q_w6.l
  have Fc_r := r_w6.c
  have Fl_r := r_w6.l
  go_wp2_with fail
  clear Fc_x Fl_x Fc_y Fl_y Fc_q Fl_q Fc_r Fl_r
  refine (lives_any _ (HT.out.below V_w6.out)).mono ?_
  rintro e w9 ⟨rfl, hb_w9⟩
  have x_w9 := x_w6.below hb_w9
  have y_w9 := y_w6.below hb_w9
  have q_w9 := q_w6.below hb_w9
  have r_w9 := r_w6.below hb_w9
  have V_w9 := Lib.hid (V_w6.out.trans (hb_w9.mono V_w6.out.size))
  clear hb_w9 V_w6 x_w6 y_w6 q_w6 r_w6
  have Fc_x := x_w9.c
  have Fl_x := x_w9.l
  have Fc_y := y_w9.c
  have Fl_y := y_w9.l
  have Fc_q := q_w9.c
  have Fl_q := q_w9.l
  have Fc_r := r_w9.c
  have Fl_r := r_w9.l
  go_wp2_with fail
  clear Fc_x Fl_x Fc_y Fl_y Fc_q Fl_q Fc_r Fl_r
  go_ret
  exact ⟨rfl, V_w9.out⟩
set_option maxRecDepth 100000 in
set_option maxHeartbeats 1000000 in
theorem divides_no2 (a b : Int) (w : World) (ht : Tab w) (ha : fits a = true) (hb : fits b = false) :
    Calls Tryd.prog 4 #[.int .i64 a, .int .i64 b] w fun e w' => e = .returned (.bool true) ∧ Below w.heap.size w w' := by
  have HT := Lib.hid ht
  have HA := Lib.hid ha
  clear ht ha
  have HK : (fits a && fits b) = false := by rw [hb, Bool.and_false]
  have K := Lib.hid HK
  have HB := Lib.hid hb
  clear HK hb
  go_enter Tryd.func4, Tryd.ntmps4
  go_wp2_with fail
  refine (num_any _ _).mono ?_
  rintro e w1 ⟨rfl, hb1⟩
  go_wp2_with fail
  refine (num_any _ _).mono ?_
  rintro e w2 ⟨rfl, hb2⟩
  have U2 := Lib.hid (hb1.trans (hb2.mono hb1.size))
  clear hb1 hb2
  go_wp2_with fail
  have x0 := (Box.new w2 2 a ⟨#[]⟩).alloc (.cells #[.int .i64 2, .int .i64 b, .string ⟨#[]⟩] 23)
  have y0 := Box.new (w2.alloc (.cells #[.int .i64 2, .int .i64 a, .string ⟨#[]⟩] 23)) 2 b ⟨#[]⟩
  have V0 := Lib.hid ((U2.out.alloc U2.out.size (.cells #[.int .i64 2, .int .i64 a, .string ⟨#[]⟩] 23)).alloc (Nat.le_trans U2.out.size (by simp)) (.cells #[.int .i64 2, .int .i64 b, .string ⟨#[]⟩] 23))
  rw [show (w2.alloc (.cells #[.int .i64 2, .int .i64 a, .string ⟨#[]⟩] 23)).heap.size = w2.heap.size + 1 by simp] at y0
  clear U2
  refine (quo_kind K.out _ (HT.out.below V0.out)).mono ?_
  rintro e w3 he
  obtain ⟨rfl, hb_w3⟩ := he.eq
  have x_w3 := x0.below hb_w3
  have y_w3 := y0.below hb_w3
  have V_w3 := Lib.hid (V0.out.trans (hb_w3.mono V0.out.size))
  clear hb_w3 V0 x0 y0 he
  have Fc_x := x_w3.c
  have Fl_x := x_w3.l
  have Fc_y := y_w3.c
  have Fl_y := y_w3.l
  go_wp2_with fail
  clear Fc_x Fl_x Fc_y Fl_y
  have x_w3a := x_w3.alloc (.cells #[.int .i64 0, .int .i64 0, .string ⟨#[]⟩] 23)
  have y_w3a := y_w3.alloc (.cells #[.int .i64 0, .int .i64 0, .string ⟨#[]⟩] 23)
  have q_w3a := Box.new w3 0 0 ⟨#[]⟩
  have V_w3a := Lib.hid (V_w3.out.alloc V_w3.out.size (.cells #[.int .i64 0, .int .i64 0, .string ⟨#[]⟩] 23))
  clear V_w3 x_w3 y_w3
  refine (rem_kind K.out _ (HT.out.below V_w3a.out)).mono ?_
  rintro e w4 he
  obtain ⟨rfl, hb_w4⟩ := he.eq
  have x_w4 := x_w3a.below hb_w4
  have y_w4 := y_w3a.below hb_w4
  have q_w4 := q_w3a.below hb_w4
  have V_w4 := Lib.hid (V_w3a.out.trans (hb_w4.mono V_w3a.out.size))
  clear hb_w4 V_w3a x_w3a y_w3a q_w3a he
  have Fc_x := x_w4.c
  have Fl_x := x_w4.l
  have Fc_y := y_w4.c
  have Fl_y := y_w4.l
  have Fc_q := q_w4.c
  have Fl_q := q_w4.l
  go_wp2_with fail
  clear Fc_x Fl_x Fc_y Fl_y Fc_q Fl_q
  have x_w4a := x_w4.alloc (.cells #[.int .i64 0, .int .i64 0, .string ⟨#[]⟩] 23)
  have y_w4a := y_w4.alloc (.cells #[.int .i64 0, .int .i64 0, .string ⟨#[]⟩] 23)
  have q_w4a := q_w4.alloc (.cells #[.int .i64 0, .int .i64 0, .string ⟨#[]⟩] 23)
  have r_w4a := Box.new w4 0 0 ⟨#[]⟩
  have V_w4a := Lib.hid (V_w4.out.alloc V_w4.out.size (.cells #[.int .i64 0, .int .i64 0, .string ⟨#[]⟩] 23))
  clear V_w4 x_w4 y_w4 q_w4
  refine (lives_any _ (HT.out.below V_w4a.out)).mono ?_
  rintro e w5 ⟨rfl, hb_w5⟩
  have x_w5 := x_w4a.below hb_w5
  have y_w5 := y_w4a.below hb_w5
  have q_w5 := q_w4a.below hb_w5
  have r_w5 := r_w4a.below hb_w5
  have V_w5 := Lib.hid (V_w4a.out.trans (hb_w5.mono V_w4a.out.size))
  clear hb_w5 V_w4a x_w4a y_w4a q_w4a r_w4a
  have Fc_x := x_w5.c
  have Fl_x := x_w5.l
  have Fc_y := y_w5.c
  have Fl_y := y_w5.l
  have Fc_q := q_w5.c
  have Fl_q := q_w5.l
  have Fc_r := r_w5.c
  have Fl_r := r_w5.l
  go_wp2_with fail
  clear Fc_x Fl_x Fc_y Fl_y Fc_q Fl_q Fc_r Fl_r
  refine (check_num HA.out _).mono ?_
  rintro e w6 ⟨rfl, hb_w6⟩
  have x_w6 := x_w5.below hb_w6
  have y_w6 := y_w5.below hb_w6
  have q_w6 := q_w5.below hb_w6
  have r_w6 := r_w5.below hb_w6
  have V_w6 := Lib.hid (V_w5.out.trans (hb_w6.mono V_w5.out.size))
  clear hb_w6 V_w5 x_w5 y_w5 q_w5 r_w5
  have Fc_x := x_w6.c
  have Fl_x := x_w6.l
  have Fc_y := y_w6.c
  have Fl_y := y_w6.l
  have Fc_q := q_w6.c
  have Fl_q := q_w6.l
  have Fc_r := r_w6.c
  have Fl_r := r_w6.l
  go_wp2_with fail
  clear Fc_x Fl_x Fc_y Fl_y Fc_q Fl_q Fc_r Fl_r
  refine (check_num HB.out _).mono ?_
  rintro e w7 ⟨rfl, hb_w7⟩
  have x_w7 := x_w6.below hb_w7
  have y_w7 := y_w6.below hb_w7
  have q_w7 := q_w6.below hb_w7
  have r_w7 := r_w6.below hb_w7
  have V_w7 := Lib.hid (V_w6.out.trans (hb_w7.mono V_w6.out.size))
  clear hb_w7 V_w6 x_w6 y_w6 q_w6 r_w6
  have Fc_x := x_w7.c
  have Fl_x := x_w7.l
  have Fc_y := y_w7.c
  have Fl_y := y_w7.l
  have Fc_q := q_w7.c
  have Fl_q := q_w7.l
  have Fc_r := r_w7.c
  have Fl_r := r_w7.l
  go_wp2_with fail
  clear Fc_x Fl_x Fc_y Fl_y Fc_q Fl_q Fc_r Fl_r
  refine (lives_any _ (HT.out.below V_w7.out)).mono ?_
  rintro e w9 ⟨rfl, hb_w9⟩
  have x_w9 := x_w7.below hb_w9
  have y_w9 := y_w7.below hb_w9
  have q_w9 := q_w7.below hb_w9
  have r_w9 := r_w7.below hb_w9
  have V_w9 := Lib.hid (V_w7.out.trans (hb_w9.mono V_w7.out.size))
  clear hb_w9 V_w7 x_w7 y_w7 q_w7 r_w7
  have Fc_x := x_w9.c
  have Fl_x := x_w9.l
  have Fc_y := y_w9.c
  have Fl_y := y_w9.l
  have Fc_q := q_w9.c
  have Fl_q := q_w9.l
  have Fc_r := r_w9.c
  have Fl_r := r_w9.l
  go_wp2_with fail
  clear Fc_x Fl_x Fc_y Fl_y Fc_q Fl_q Fc_r Fl_r
  go_ret
  exact ⟨rfl, V_w9.out⟩
set_option maxRecDepth 100000 in
set_option maxHeartbeats 1000000 in
theorem divides_zero (a b : Int) (w : World) (ht : Tab w) (ha : fits a = true) (hb : b = 0) :
    Calls Tryd.prog 4 #[.int .i64 a, .int .i64 b] w fun e w' => e = .returned (.bool true) ∧ Below w.heap.size w w' := by
  have HT := Lib.hid ht
  have HA := Lib.hid ha
  clear ht ha
  subst hb
  go_enter Tryd.func4, Tryd.ntmps4
  go_wp2_with fail
  refine (num_any _ _).mono ?_
  rintro e w1 ⟨rfl, hb1⟩
  go_wp2_with fail
  refine (num_any _ _).mono ?_
  rintro e w2 ⟨rfl, hb2⟩
  have U2 := Lib.hid (hb1.trans (hb2.mono hb1.size))
  clear hb1 hb2
  go_wp2_with fail
  have x0 := (Box.new w2 2 a ⟨#[]⟩).alloc (.cells #[.int .i64 2, .int .i64 0, .string ⟨#[]⟩] 23)
  have y0 := Box.new (w2.alloc (.cells #[.int .i64 2, .int .i64 a, .string ⟨#[]⟩] 23)) 2 0 ⟨#[]⟩
  have V0 := Lib.hid ((U2.out.alloc U2.out.size (.cells #[.int .i64 2, .int .i64 a, .string ⟨#[]⟩] 23)).alloc (Nat.le_trans U2.out.size (by simp)) (.cells #[.int .i64 2, .int .i64 0, .string ⟨#[]⟩] 23))
  rw [show (w2.alloc (.cells #[.int .i64 2, .int .i64 a, .string ⟨#[]⟩] 23)).heap.size = w2.heap.size + 1 by simp] at y0
  clear U2
  refine (quo_zero HA.out _ (HT.out.below V0.out)).mono ?_
  rintro e w3 he
  obtain ⟨rfl, hb_w3⟩ := he.eq
  have x_w3 := x0.below hb_w3
  have y_w3 := y0.below hb_w3
  have V_w3 := Lib.hid (V0.out.trans (hb_w3.mono V0.out.size))
  clear hb_w3 V0 x0 y0 he
  have Fc_x := x_w3.c
  have Fl_x := x_w3.l
  have Fc_y := y_w3.c
  have Fl_y := y_w3.l
  go_wp2_with fail
  clear Fc_x Fl_x Fc_y Fl_y
  have x_w3a := x_w3.alloc (.cells #[.int .i64 0, .int .i64 0, .string ⟨#[]⟩] 23)
  have y_w3a := y_w3.alloc (.cells #[.int .i64 0, .int .i64 0, .string ⟨#[]⟩] 23)
  have q_w3a := Box.new w3 0 0 ⟨#[]⟩
  have V_w3a := Lib.hid (V_w3.out.alloc V_w3.out.size (.cells #[.int .i64 0, .int .i64 0, .string ⟨#[]⟩] 23))
  clear V_w3 x_w3 y_w3
  refine (rem_zero HA.out _ (HT.out.below V_w3a.out)).mono ?_
  rintro e w4 he
  obtain ⟨rfl, hb_w4⟩ := he.eq
  have x_w4 := x_w3a.below hb_w4
  have y_w4 := y_w3a.below hb_w4
  have q_w4 := q_w3a.below hb_w4
  have V_w4 := Lib.hid (V_w3a.out.trans (hb_w4.mono V_w3a.out.size))
  clear hb_w4 V_w3a x_w3a y_w3a q_w3a he
  have Fc_x := x_w4.c
  have Fl_x := x_w4.l
  have Fc_y := y_w4.c
  have Fl_y := y_w4.l
  have Fc_q := q_w4.c
  have Fl_q := q_w4.l
  go_wp2_with fail
  clear Fc_x Fl_x Fc_y Fl_y Fc_q Fl_q
  have x_w4a := x_w4.alloc (.cells #[.int .i64 0, .int .i64 0, .string ⟨#[]⟩] 23)
  have y_w4a := y_w4.alloc (.cells #[.int .i64 0, .int .i64 0, .string ⟨#[]⟩] 23)
  have q_w4a := q_w4.alloc (.cells #[.int .i64 0, .int .i64 0, .string ⟨#[]⟩] 23)
  have r_w4a := Box.new w4 0 0 ⟨#[]⟩
  have V_w4a := Lib.hid (V_w4.out.alloc V_w4.out.size (.cells #[.int .i64 0, .int .i64 0, .string ⟨#[]⟩] 23))
  clear V_w4 x_w4 y_w4 q_w4
  refine (lives_any _ (HT.out.below V_w4a.out)).mono ?_
  rintro e w5 ⟨rfl, hb_w5⟩
  have x_w5 := x_w4a.below hb_w5
  have y_w5 := y_w4a.below hb_w5
  have q_w5 := q_w4a.below hb_w5
  have r_w5 := r_w4a.below hb_w5
  have V_w5 := Lib.hid (V_w4a.out.trans (hb_w5.mono V_w4a.out.size))
  clear hb_w5 V_w4a x_w4a y_w4a q_w4a r_w4a
  have Fc_x := x_w5.c
  have Fl_x := x_w5.l
  have Fc_y := y_w5.c
  have Fl_y := y_w5.l
  have Fc_q := q_w5.c
  have Fl_q := q_w5.l
  have Fc_r := r_w5.c
  have Fl_r := r_w5.l
  go_wp2_with fail
  clear Fc_x Fl_x Fc_y Fl_y Fc_q Fl_q Fc_r Fl_r
  refine (check_num HA.out _).mono ?_
  rintro e w6 ⟨rfl, hb_w6⟩
  have x_w6 := x_w5.below hb_w6
  have y_w6 := y_w5.below hb_w6
  have q_w6 := q_w5.below hb_w6
  have r_w6 := r_w5.below hb_w6
  have V_w6 := Lib.hid (V_w5.out.trans (hb_w6.mono V_w5.out.size))
  clear hb_w6 V_w5 x_w5 y_w5 q_w5 r_w5
  have Fc_x := x_w6.c
  have Fl_x := x_w6.l
  have Fc_y := y_w6.c
  have Fl_y := y_w6.l
  have Fc_q := q_w6.c
  have Fl_q := q_w6.l
  have Fc_r := r_w6.c
  have Fl_r := r_w6.l
  go_wp2_with fail
  clear Fc_x Fl_x Fc_y Fl_y Fc_q Fl_q Fc_r Fl_r
  refine (check_num fits_0 _).mono ?_
  rintro e w7 ⟨rfl, hb_w7⟩
  have x_w7 := x_w6.below hb_w7
  have y_w7 := y_w6.below hb_w7
  have q_w7 := q_w6.below hb_w7
  have r_w7 := r_w6.below hb_w7
  have V_w7 := Lib.hid (V_w6.out.trans (hb_w7.mono V_w6.out.size))
  clear hb_w7 V_w6 x_w6 y_w6 q_w6 r_w6
  have Fc_x := x_w7.c
  have Fl_x := x_w7.l
  have Fc_y := y_w7.c
  have Fl_y := y_w7.l
  have Fc_q := q_w7.c
  have Fl_q := q_w7.l
  have Fc_r := r_w7.c
  have Fl_r := r_w7.l
  go_wp2_with fail
  clear Fc_x Fl_x Fc_y Fl_y Fc_q Fl_q Fc_r Fl_r
  refine (lives_any _ (HT.out.below V_w7.out)).mono ?_
  rintro e w9 ⟨rfl, hb_w9⟩
  have x_w9 := x_w7.below hb_w9
  have y_w9 := y_w7.below hb_w9
  have q_w9 := q_w7.below hb_w9
  have r_w9 := r_w7.below hb_w9
  have V_w9 := Lib.hid (V_w7.out.trans (hb_w9.mono V_w7.out.size))
  clear hb_w9 V_w7 x_w7 y_w7 q_w7 r_w7
  have Fc_x := x_w9.c
  have Fl_x := x_w9.l
  have Fc_y := y_w9.c
  have Fl_y := y_w9.l
  have Fc_q := q_w9.c
  have Fl_q := q_w9.l
  have Fc_r := r_w9.c
  have Fl_r := r_w9.l
  go_wp2_with fail
  clear Fc_x Fl_x Fc_y Fl_y Fc_q Fl_q Fc_r Fl_r
  go_ret
  exact ⟨rfl, V_w9.out⟩
theorem divides_any (a b : Int) (w : World) (ht : Tab w) :
    Calls Tryd.prog 4 #[.int .i64 a, .int .i64 b] w fun e w' => e = .returned (.bool true) ∧ Below w.heap.size w w' := by
  cases ha : fits a
  · exact divides_no1 a b w ht ha
  · cases hb : fits b
    · exact divides_no2 a b w ht ha hb
    · by_cases h0 : b = 0
      · exact divides_zero a b w ht ha h0
      · exact divides_yes a b w ht ha hb h0
end Go.Proofs.YtdabikbeoanhpaaDoor
