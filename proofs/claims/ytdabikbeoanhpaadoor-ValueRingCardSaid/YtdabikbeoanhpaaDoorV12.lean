/- The law ValueRing: true. -/
import Derived.Test.YtdabikbeoanhpaaDoorV11
namespace Go.Proofs.YtdabikbeoanhpaaDoor
open Go.RowKit

theorem neq_jval (w : World) (k n k' n' : Int) (s s' : ByteArray) : (binOp .neq 23 (.agg #[.int .i64 k, .int .i64 n, .string s]) (.agg #[.int .i64 k', .int .i64 n', .string s'])).run Tryd.prog w = .ok (.bool (!eqB k n s k' n' s')) w := by
  unfold eqB
  go_simp
  cases h1 : k == k' <;> cases h2 : n == n' <;> cases h3 : s.toList == s'.toList <;> simp_all
attribute [local go_sem ↓] eq_jval neq_jval
theorem sign_0 (w : World) : (Instr.index 27 (.agg #[.string ⟨#[43]⟩, .string ⟨#[42]⟩]) (.int .i64 0)).run Tryd.prog w = .ok (.string ⟨#[43]⟩) w := by kernel_rfl
theorem sign_1 (w : World) : (Instr.index 27 (.agg #[.string ⟨#[43]⟩, .string ⟨#[42]⟩]) (.int .i64 1)).run Tryd.prog w = .ok (.string ⟨#[42]⟩) w := by kernel_rfl
theorem eqB_self (k n : Int) (s : ByteArray) : eqB k n s k n s = true := by simp [eqB]
theorem numE_size (m : Int) : (numE m).size ≤ 5 := by unfold numE; cases fits m <;> decide
theorem oE_size (b : Bool) (m : Int) : (oE b m).size ≤ 5 := by
  unfold oE; cases b
  · exact (by decide : sKind.size ≤ 5)
  · exact numE_size m
theorem app_nil (a b : ByteArray) : (a ++ b).toList = [] ↔ a.toList = [] ∧ b.toList = [] := by
  simp [ByteArray.toList_eq]
theorem add_turned {a b : Int} (ha : fits a = true) (hb : fits b = true) (w : World) (ht : Tab w) :
    Calls Tryd.prog 10 #[.string ⟨#[43]⟩, .agg #[.int .i64 2, .int .i64 b, .string ⟨#[]⟩], .agg #[.int .i64 2, .int .i64 a, .string ⟨#[]⟩]] w (Gives (numK (a + b)) (numN (a + b)) ⟨#[]⟩ (numE (a + b)) w) := by
  have h := add_nums hb ha w ht
  rw [Int.add_comm] at h
  exact h
theorem mul_turned {a b : Int} (ha : fits a = true) (hb : fits b = true) (w : World) (ht : Tab w) :
    Calls Tryd.prog 10 #[.string ⟨#[42]⟩, .agg #[.int .i64 2, .int .i64 b, .string ⟨#[]⟩], .agg #[.int .i64 2, .int .i64 a, .string ⟨#[]⟩]] w (Gives (numK (a * b)) (numN (a * b)) ⟨#[]⟩ (numE (a * b)) w) := by
  have h := mul_nums hb ha w ht
  rw [Int.mul_comm] at h
  exact h
/-- Where nothing is thrown, the order of the two operations is no matter. -/
theorem assoc_eq {m m' u v : Int} (huv : u = v) (h : (numE m ++ oE (fits m) u ++ numE m' ++ oE (fits m') v).toList = []) :
    eqB (oK (fits m) u) (oN (fits m) u) ⟨#[]⟩ (oK (fits m') v) (oN (fits m') v) ⟨#[]⟩ = true := by
  simp only [app_nil, numE_nil, oE_nil] at h
  obtain ⟨⟨⟨h1, _, _⟩, h2⟩, _⟩ := h
  subst huv
  rw [h1, h2]
  exact eqB_self _ _ _
/-- Where nothing is thrown, a product with a sum is the sum of both products. -/
theorem distr_eq {m u v p q : Int} (huv : u = v) (h : (numE m ++ oE (fits m) u ++ numE p ++ numE q ++ oE (fits p && fits q) v).toList = []) :
    eqB (oK (fits m) u) (oN (fits m) u) ⟨#[]⟩ (oK (fits p && fits q) v) (oN (fits p && fits q) v) ⟨#[]⟩ = true := by
  simp only [app_nil, numE_nil, oE_nil] at h
  obtain ⟨⟨⟨⟨h1, _, _⟩, h2⟩, h3⟩, _⟩ := h
  subst huv
  rw [h1, h2, h3]
  exact eqB_self _ _ _

set_option maxRecDepth 100000 in
set_option maxHeartbeats 2000000 in
theorem ring_yes (a b c : Int) (w : World) (ht : Tab w) (ha : fits a = true) (hb : fits b = true) (hc : fits c = true) :
    Calls Tryd.prog 3 #[.int .i64 a, .int .i64 b, .int .i64 c] w fun e w' => e = .returned (.bool true) ∧ Below w.heap.size w w' := by
  have HT := Lib.hid ht
  have HA := Lib.hid ha
  have HB := Lib.hid hb
  have HC := Lib.hid hc
  clear ht ha hb hc
  go_enter Tryd.func3, Tryd.ntmps3
  go_wp2_with fail
  refine (num_any _ _).mono ?_
  rintro e w1 ⟨rfl, hb1⟩
  go_wp2_with fail
  refine (num_any _ _).mono ?_
  rintro e w2 ⟨rfl, hb2⟩
  go_wp2_with fail
  refine (num_any _ _).mono ?_
  rintro e w3 ⟨rfl, hb3⟩
  have U3 := Lib.hid ((hb1.trans (hb2.mono hb1.size)).trans (hb3.mono (Nat.le_trans hb1.size hb2.size)))
  clear hb1 hb2 hb3
  go_wp2_with fail
  have x0 := ((Box.new w3 2 a ⟨#[]⟩).alloc (.cells #[.int .i64 2, .int .i64 b, .string ⟨#[]⟩] 23)).alloc (.cells #[.int .i64 2, .int .i64 c, .string ⟨#[]⟩] 23)
  have y0 := (Box.new (w3.alloc (.cells #[.int .i64 2, .int .i64 a, .string ⟨#[]⟩] 23)) 2 b ⟨#[]⟩).alloc (.cells #[.int .i64 2, .int .i64 c, .string ⟨#[]⟩] 23)
  have z0 := Box.new ((w3.alloc (.cells #[.int .i64 2, .int .i64 a, .string ⟨#[]⟩] 23)).alloc (.cells #[.int .i64 2, .int .i64 b, .string ⟨#[]⟩] 23)) 2 c ⟨#[]⟩
  have V0 := Lib.hid (((U3.out.alloc U3.out.size (.cells #[.int .i64 2, .int .i64 a, .string ⟨#[]⟩] 23)).alloc (Nat.le_trans U3.out.size (by simp)) (.cells #[.int .i64 2, .int .i64 b, .string ⟨#[]⟩] 23)).alloc (Nat.le_trans U3.out.size (by simp; omega)) (.cells #[.int .i64 2, .int .i64 c, .string ⟨#[]⟩] 23))
  rw [show (w3.alloc (.cells #[.int .i64 2, .int .i64 a, .string ⟨#[]⟩] 23)).heap.size = w3.heap.size + 1 by simp] at y0
  rw [show ((w3.alloc (.cells #[.int .i64 2, .int .i64 a, .string ⟨#[]⟩] 23)).alloc (.cells #[.int .i64 2, .int .i64 b, .string ⟨#[]⟩] 23)).heap.size = w3.heap.size + 1 + 1 by simp] at z0
  clear U3
  refine (lives_any _ (HT.out.below V0.out)).mono ?_
  rintro e w4 ⟨rfl, hb_w4⟩
  have x_w4 := x0.below hb_w4
  have y_w4 := y0.below hb_w4
  have z_w4 := z0.below hb_w4
  have V_w4 := Lib.hid (V0.out.trans (hb_w4.mono V0.out.size))
  clear hb_w4 V0 x0 y0 z0
  have Fc_x := x_w4.c
  have Fl_x := x_w4.l
  have Fc_y := y_w4.c
  have Fl_y := y_w4.l
  have Fc_z := z_w4.c
  have Fl_z := z_w4.l
  go_wp2_with fail
  clear Fc_x Fl_x Fc_y Fl_y Fc_z Fl_z
  refine (check_num HA.out _).mono ?_
  rintro e w5 ⟨rfl, hb_w5⟩
  have x_w5 := x_w4.below hb_w5
  have y_w5 := y_w4.below hb_w5
  have z_w5 := z_w4.below hb_w5
  have V_w5 := Lib.hid (V_w4.out.trans (hb_w5.mono V_w4.out.size))
  clear hb_w5 V_w4 x_w4 y_w4 z_w4
  have Fc_x := x_w5.c
  have Fl_x := x_w5.l
  have Fc_y := y_w5.c
  have Fl_y := y_w5.l
  have Fc_z := z_w5.c
  have Fl_z := z_w5.l
  go_wp2_with fail
  clear Fc_x Fl_x Fc_y Fl_y Fc_z Fl_z
  refine (check_num HB.out _).mono ?_
  rintro e w6 ⟨rfl, hb_w6⟩
  have x_w6 := x_w5.below hb_w6
  have y_w6 := y_w5.below hb_w6
  have z_w6 := z_w5.below hb_w6
  have V_w6 := Lib.hid (V_w5.out.trans (hb_w6.mono V_w5.out.size))
  clear hb_w6 V_w5 x_w5 y_w5 z_w5
  have Fc_x := x_w6.c
  have Fl_x := x_w6.l
  have Fc_y := y_w6.c
  have Fl_y := y_w6.l
  have Fc_z := z_w6.c
  have Fl_z := z_w6.l
  go_wp2_with fail
  clear Fc_x Fl_x Fc_y Fl_y Fc_z Fl_z
  refine (check_num HC.out _).mono ?_
  rintro e w7 ⟨rfl, hb_w7⟩
  have x_w7 := x_w6.below hb_w7
  have y_w7 := y_w6.below hb_w7
  have z_w7 := z_w6.below hb_w7
  have V_w7 := Lib.hid (V_w6.out.trans (hb_w7.mono V_w6.out.size))
  clear hb_w7 V_w6 x_w6 y_w6 z_w6
  have Fc_x := x_w7.c
  have Fl_x := x_w7.l
  have Fc_y := y_w7.c
  have Fl_y := y_w7.l
  have Fc_z := z_w7.c
  have Fl_z := z_w7.l
  go_wp2_with fail
  clear Fc_x Fl_x Fc_y Fl_y Fc_z Fl_z
  have s1 := eqB_self
  have i0 := sign_0
  have i1 := sign_1
  have V9 := V_w7.out
  clear V_w7 w1 w2 w4 w5 w6
  generalize w3.heap.size = B at *
  go_loopw [57] (fun i wr => ∃ k : Nat, k ≤ 2 ∧ i = .int .i64 k ∧ Box wr B 2 a ⟨#[]⟩ ∧ Box wr (B + 1) 2 b ⟨#[]⟩ ∧ Box wr (B + 1 + 1) 2 c ⟨#[]⟩ ∧ Below w.heap.size w wr) (fun i _ => 2 - (intOf i).toNat)
  case atStart => exact ⟨0, by omega, rfl, x_w7, y_w7, z_w7, V9⟩
  case round =>
    obtain ⟨k, hk, rfl, hx, hy, hz, hu⟩ := hrel
    have hk3 : k = 0 ∨ k = 1 ∨ k = 2 := by omega
    clear hk x_w7 y_w7 z_w7 V9
    rcases hk3 with rfl | rfl | rfl
    · skip
      have x0 := hx
      have y0 := hy
      have z0 := hz
      have R0 := Lib.hid hu
      clear hx hy hz hu
      have Fx := x0.c
      have Fy := y0.c
      go_wp2_with fail
      clear Fx Fy
      refine (add_nums HA.out HB.out _ (HT.out.below R0.out)).mono ?_
      rintro e u1 he
      obtain ⟨rfl, hb_u1⟩ := he.eq
      have x_u1 := x0.below hb_u1
      have y_u1 := y0.below hb_u1
      have z_u1 := z0.below hb_u1
      have V_u1 := Lib.hid (R0.out.trans (hb_u1.mono R0.out.size))
      clear hb_u1 R0 x0 y0 z0 he
      have Fc_x := x_u1.c
      have Fl_x := x_u1.l
      have Fc_y := y_u1.c
      have Fl_y := y_u1.l
      have Fc_z := z_u1.c
      have Fl_z := z_u1.l
      go_wp2_with fail
      clear Fc_x Fl_x Fc_y Fl_y Fc_z Fl_z
      have x_u1a := x_u1.alloc (.cells #[.int .i64 (numK (a + b)), .int .i64 (numN (a + b)), .string ⟨#[]⟩] 23)
      have y_u1a := y_u1.alloc (.cells #[.int .i64 (numK (a + b)), .int .i64 (numN (a + b)), .string ⟨#[]⟩] 23)
      have z_u1a := z_u1.alloc (.cells #[.int .i64 (numK (a + b)), .int .i64 (numN (a + b)), .string ⟨#[]⟩] 23)
      have p_u1a := Box.new u1 (numK (a + b)) (numN (a + b)) ⟨#[]⟩
      have V_u1a := Lib.hid (V_u1.out.alloc V_u1.out.size (.cells #[.int .i64 (numK (a + b)), .int .i64 (numN (a + b)), .string ⟨#[]⟩] 23))
      clear V_u1 x_u1 y_u1 z_u1
      refine (add_turned HA.out HB.out _ (HT.out.below V_u1a.out)).mono ?_
      rintro e u2 he
      obtain ⟨rfl, hb_u2⟩ := he.eq
      have x_u2 := x_u1a.below hb_u2
      have y_u2 := y_u1a.below hb_u2
      have z_u2 := z_u1a.below hb_u2
      have p_u2 := p_u1a.below hb_u2
      have V_u2 := Lib.hid (V_u1a.out.trans (hb_u2.mono V_u1a.out.size))
      clear hb_u2 V_u1a x_u1a y_u1a z_u1a p_u1a he
      have Fc_x := x_u2.c
      have Fl_x := x_u2.l
      have Fc_y := y_u2.c
      have Fl_y := y_u2.l
      have Fc_z := z_u2.c
      have Fl_z := z_u2.l
      have Fc_p := p_u2.c
      have Fl_p := p_u2.l
      go_wp2_with fail
      clear Fc_x Fl_x Fc_y Fl_y Fc_z Fl_z Fc_p Fl_p
      have x_u2a := x_u2.alloc (.cells #[.int .i64 (numK (a + b)), .int .i64 (numN (a + b)), .string ⟨#[]⟩] 23)
      have y_u2a := y_u2.alloc (.cells #[.int .i64 (numK (a + b)), .int .i64 (numN (a + b)), .string ⟨#[]⟩] 23)
      have z_u2a := z_u2.alloc (.cells #[.int .i64 (numK (a + b)), .int .i64 (numN (a + b)), .string ⟨#[]⟩] 23)
      have p_u2a := p_u2.alloc (.cells #[.int .i64 (numK (a + b)), .int .i64 (numN (a + b)), .string ⟨#[]⟩] 23)
      have q_u2a := Box.new u2 (numK (a + b)) (numN (a + b)) ⟨#[]⟩
      have V_u2a := Lib.hid (V_u2.out.alloc V_u2.out.size (.cells #[.int .i64 (numK (a + b)), .int .i64 (numN (a + b)), .string ⟨#[]⟩] 23))
      clear V_u2 x_u2 y_u2 z_u2 p_u2
      refine (add_vn HC.out _ (HT.out.below V_u2a.out)).mono ?_
      rintro e u3 he
      obtain ⟨rfl, hb_u3⟩ := he.eq
      have x_u3 := x_u2a.below hb_u3
      have y_u3 := y_u2a.below hb_u3
      have z_u3 := z_u2a.below hb_u3
      have p_u3 := p_u2a.below hb_u3
      have q_u3 := q_u2a.below hb_u3
      have V_u3 := Lib.hid (V_u2a.out.trans (hb_u3.mono V_u2a.out.size))
      clear hb_u3 V_u2a x_u2a y_u2a z_u2a p_u2a q_u2a he
      have Fc_x := x_u3.c
      have Fl_x := x_u3.l
      have Fc_y := y_u3.c
      have Fl_y := y_u3.l
      have Fc_z := z_u3.c
      have Fl_z := z_u3.l
      have Fc_p := p_u3.c
      have Fl_p := p_u3.l
      have Fc_q := q_u3.c
      have Fl_q := q_u3.l
      go_wp2_with fail
      clear Fc_x Fl_x Fc_y Fl_y Fc_z Fl_z Fc_p Fl_p Fc_q Fl_q
      have x_u3a := x_u3.alloc (.cells #[.int .i64 (oK (fits (a + b)) ((a + b) + c)), .int .i64 (oN (fits (a + b)) ((a + b) + c)), .string ⟨#[]⟩] 23)
      have y_u3a := y_u3.alloc (.cells #[.int .i64 (oK (fits (a + b)) ((a + b) + c)), .int .i64 (oN (fits (a + b)) ((a + b) + c)), .string ⟨#[]⟩] 23)
      have z_u3a := z_u3.alloc (.cells #[.int .i64 (oK (fits (a + b)) ((a + b) + c)), .int .i64 (oN (fits (a + b)) ((a + b) + c)), .string ⟨#[]⟩] 23)
      have p_u3a := p_u3.alloc (.cells #[.int .i64 (oK (fits (a + b)) ((a + b) + c)), .int .i64 (oN (fits (a + b)) ((a + b) + c)), .string ⟨#[]⟩] 23)
      have q_u3a := q_u3.alloc (.cells #[.int .i64 (oK (fits (a + b)) ((a + b) + c)), .int .i64 (oN (fits (a + b)) ((a + b) + c)), .string ⟨#[]⟩] 23)
      have l_u3a := Box.new u3 (oK (fits (a + b)) ((a + b) + c)) (oN (fits (a + b)) ((a + b) + c)) ⟨#[]⟩
      have V_u3a := Lib.hid (V_u3.out.alloc V_u3.out.size (.cells #[.int .i64 (oK (fits (a + b)) ((a + b) + c)), .int .i64 (oN (fits (a + b)) ((a + b) + c)), .string ⟨#[]⟩] 23))
      clear V_u3 x_u3 y_u3 z_u3 p_u3 q_u3
      refine (add_nums HB.out HC.out _ (HT.out.below V_u3a.out)).mono ?_
      rintro e u4 he
      obtain ⟨rfl, hb_u4⟩ := he.eq
      have x_u4 := x_u3a.below hb_u4
      have y_u4 := y_u3a.below hb_u4
      have z_u4 := z_u3a.below hb_u4
      have p_u4 := p_u3a.below hb_u4
      have q_u4 := q_u3a.below hb_u4
      have l_u4 := l_u3a.below hb_u4
      have V_u4 := Lib.hid (V_u3a.out.trans (hb_u4.mono V_u3a.out.size))
      clear hb_u4 V_u3a x_u3a y_u3a z_u3a p_u3a q_u3a l_u3a he
      have Fc_x := x_u4.c
      have Fl_x := x_u4.l
      have Fc_y := y_u4.c
      have Fl_y := y_u4.l
      have Fc_z := z_u4.c
      have Fl_z := z_u4.l
      have Fc_p := p_u4.c
      have Fl_p := p_u4.l
      have Fc_q := q_u4.c
      have Fl_q := q_u4.l
      have Fc_l := l_u4.c
      have Fl_l := l_u4.l
      go_wp2_with fail
      clear Fc_x Fl_x Fc_y Fl_y Fc_z Fl_z Fc_p Fl_p Fc_q Fl_q Fc_l Fl_l
      have x_u4a := x_u4.alloc (.cells #[.int .i64 (numK (b + c)), .int .i64 (numN (b + c)), .string ⟨#[]⟩] 23)
      have y_u4a := y_u4.alloc (.cells #[.int .i64 (numK (b + c)), .int .i64 (numN (b + c)), .string ⟨#[]⟩] 23)
      have z_u4a := z_u4.alloc (.cells #[.int .i64 (numK (b + c)), .int .i64 (numN (b + c)), .string ⟨#[]⟩] 23)
      have p_u4a := p_u4.alloc (.cells #[.int .i64 (numK (b + c)), .int .i64 (numN (b + c)), .string ⟨#[]⟩] 23)
      have q_u4a := q_u4.alloc (.cells #[.int .i64 (numK (b + c)), .int .i64 (numN (b + c)), .string ⟨#[]⟩] 23)
      have l_u4a := l_u4.alloc (.cells #[.int .i64 (numK (b + c)), .int .i64 (numN (b + c)), .string ⟨#[]⟩] 23)
      have m_u4a := Box.new u4 (numK (b + c)) (numN (b + c)) ⟨#[]⟩
      have V_u4a := Lib.hid (V_u4.out.alloc V_u4.out.size (.cells #[.int .i64 (numK (b + c)), .int .i64 (numN (b + c)), .string ⟨#[]⟩] 23))
      clear V_u4 x_u4 y_u4 z_u4 p_u4 q_u4 l_u4
      refine (add_nv HA.out _ (HT.out.below V_u4a.out)).mono ?_
      rintro e u5 he
      obtain ⟨rfl, hb_u5⟩ := he.eq
      have x_u5 := x_u4a.below hb_u5
      have y_u5 := y_u4a.below hb_u5
      have z_u5 := z_u4a.below hb_u5
      have p_u5 := p_u4a.below hb_u5
      have q_u5 := q_u4a.below hb_u5
      have l_u5 := l_u4a.below hb_u5
      have m_u5 := m_u4a.below hb_u5
      have V_u5 := Lib.hid (V_u4a.out.trans (hb_u5.mono V_u4a.out.size))
      clear hb_u5 V_u4a x_u4a y_u4a z_u4a p_u4a q_u4a l_u4a m_u4a he
      have Fc_x := x_u5.c
      have Fl_x := x_u5.l
      have Fc_y := y_u5.c
      have Fl_y := y_u5.l
      have Fc_z := z_u5.c
      have Fl_z := z_u5.l
      have Fc_p := p_u5.c
      have Fl_p := p_u5.l
      have Fc_q := q_u5.c
      have Fl_q := q_u5.l
      have Fc_l := l_u5.c
      have Fl_l := l_u5.l
      have Fc_m := m_u5.c
      have Fl_m := m_u5.l
      have z1 := numE_size (a + b)
      have z2 := oE_size (fits (a + b)) ((a + b) + c)
      have z3 := numE_size (b + c)
      have z4 := oE_size (fits (b + c)) (a + (b + c))
      have Bx := x_u5.alloc (.cells #[.int .i64 (oK (fits (b + c)) (a + (b + c))), .int .i64 (oN (fits (b + c)) (a + (b + c))), .string ⟨#[]⟩] 23)
      have By := y_u5.alloc (.cells #[.int .i64 (oK (fits (b + c)) (a + (b + c))), .int .i64 (oN (fits (b + c)) (a + (b + c))), .string ⟨#[]⟩] 23)
      have Bz := z_u5.alloc (.cells #[.int .i64 (oK (fits (b + c)) (a + (b + c))), .int .i64 (oN (fits (b + c)) (a + (b + c))), .string ⟨#[]⟩] 23)
      have Bu := V_u5.out.alloc V_u5.out.size (.cells #[.int .i64 (oK (fits (b + c)) (a + (b + c))), .int .i64 (oN (fits (b + c)) (a + (b + c))), .string ⟨#[]⟩] 23)
      have AS := assoc_eq (m := (a + b)) (m' := (b + c)) (u := ((a + b) + c)) (v := (a + (b + c))) (Int.add_assoc a b c)
      by_cases hn : (numE (a + b) ++ oE (fits (a + b)) ((a + b) + c) ++ numE (b + c) ++ oE (fits (b + c)) (a + (b + c))).toList = []
      all_goals
        first | have AQ := AS hn | skip
        clear AS
        go_wp2_with fail
        go_roundw
        case rel => exact ⟨1, by omega, by go_num, Bx, By, Bz, Bu⟩
        case measure => simp [intOf]
    · skip
      have x0 := hx
      have y0 := hy
      have z0 := hz
      have R0 := Lib.hid hu
      clear hx hy hz hu
      have Fx := x0.c
      have Fy := y0.c
      go_wp2_with fail
      clear Fx Fy
      refine (mul_nums HA.out HB.out _ (HT.out.below R0.out)).mono ?_
      rintro e t1 he
      obtain ⟨rfl, hb_t1⟩ := he.eq
      have x_t1 := x0.below hb_t1
      have y_t1 := y0.below hb_t1
      have z_t1 := z0.below hb_t1
      have V_t1 := Lib.hid (R0.out.trans (hb_t1.mono R0.out.size))
      clear hb_t1 R0 x0 y0 z0 he
      have Fc_x := x_t1.c
      have Fl_x := x_t1.l
      have Fc_y := y_t1.c
      have Fl_y := y_t1.l
      have Fc_z := z_t1.c
      have Fl_z := z_t1.l
      go_wp2_with fail
      clear Fc_x Fl_x Fc_y Fl_y Fc_z Fl_z
      have x_t1a := x_t1.alloc (.cells #[.int .i64 (numK (a * b)), .int .i64 (numN (a * b)), .string ⟨#[]⟩] 23)
      have y_t1a := y_t1.alloc (.cells #[.int .i64 (numK (a * b)), .int .i64 (numN (a * b)), .string ⟨#[]⟩] 23)
      have z_t1a := z_t1.alloc (.cells #[.int .i64 (numK (a * b)), .int .i64 (numN (a * b)), .string ⟨#[]⟩] 23)
      have p_t1a := Box.new t1 (numK (a * b)) (numN (a * b)) ⟨#[]⟩
      have V_t1a := Lib.hid (V_t1.out.alloc V_t1.out.size (.cells #[.int .i64 (numK (a * b)), .int .i64 (numN (a * b)), .string ⟨#[]⟩] 23))
      clear V_t1 x_t1 y_t1 z_t1
      refine (mul_turned HA.out HB.out _ (HT.out.below V_t1a.out)).mono ?_
      rintro e t2 he
      obtain ⟨rfl, hb_t2⟩ := he.eq
      have x_t2 := x_t1a.below hb_t2
      have y_t2 := y_t1a.below hb_t2
      have z_t2 := z_t1a.below hb_t2
      have p_t2 := p_t1a.below hb_t2
      have V_t2 := Lib.hid (V_t1a.out.trans (hb_t2.mono V_t1a.out.size))
      clear hb_t2 V_t1a x_t1a y_t1a z_t1a p_t1a he
      have Fc_x := x_t2.c
      have Fl_x := x_t2.l
      have Fc_y := y_t2.c
      have Fl_y := y_t2.l
      have Fc_z := z_t2.c
      have Fl_z := z_t2.l
      have Fc_p := p_t2.c
      have Fl_p := p_t2.l
      go_wp2_with fail
      clear Fc_x Fl_x Fc_y Fl_y Fc_z Fl_z Fc_p Fl_p
      have x_t2a := x_t2.alloc (.cells #[.int .i64 (numK (a * b)), .int .i64 (numN (a * b)), .string ⟨#[]⟩] 23)
      have y_t2a := y_t2.alloc (.cells #[.int .i64 (numK (a * b)), .int .i64 (numN (a * b)), .string ⟨#[]⟩] 23)
      have z_t2a := z_t2.alloc (.cells #[.int .i64 (numK (a * b)), .int .i64 (numN (a * b)), .string ⟨#[]⟩] 23)
      have p_t2a := p_t2.alloc (.cells #[.int .i64 (numK (a * b)), .int .i64 (numN (a * b)), .string ⟨#[]⟩] 23)
      have q_t2a := Box.new t2 (numK (a * b)) (numN (a * b)) ⟨#[]⟩
      have V_t2a := Lib.hid (V_t2.out.alloc V_t2.out.size (.cells #[.int .i64 (numK (a * b)), .int .i64 (numN (a * b)), .string ⟨#[]⟩] 23))
      clear V_t2 x_t2 y_t2 z_t2 p_t2
      refine (mul_vn HC.out _ (HT.out.below V_t2a.out)).mono ?_
      rintro e t3 he
      obtain ⟨rfl, hb_t3⟩ := he.eq
      have x_t3 := x_t2a.below hb_t3
      have y_t3 := y_t2a.below hb_t3
      have z_t3 := z_t2a.below hb_t3
      have p_t3 := p_t2a.below hb_t3
      have q_t3 := q_t2a.below hb_t3
      have V_t3 := Lib.hid (V_t2a.out.trans (hb_t3.mono V_t2a.out.size))
      clear hb_t3 V_t2a x_t2a y_t2a z_t2a p_t2a q_t2a he
      have Fc_x := x_t3.c
      have Fl_x := x_t3.l
      have Fc_y := y_t3.c
      have Fl_y := y_t3.l
      have Fc_z := z_t3.c
      have Fl_z := z_t3.l
      have Fc_p := p_t3.c
      have Fl_p := p_t3.l
      have Fc_q := q_t3.c
      have Fl_q := q_t3.l
      go_wp2_with fail
      clear Fc_x Fl_x Fc_y Fl_y Fc_z Fl_z Fc_p Fl_p Fc_q Fl_q
      have x_t3a := x_t3.alloc (.cells #[.int .i64 (oK (fits (a * b)) ((a * b) * c)), .int .i64 (oN (fits (a * b)) ((a * b) * c)), .string ⟨#[]⟩] 23)
      have y_t3a := y_t3.alloc (.cells #[.int .i64 (oK (fits (a * b)) ((a * b) * c)), .int .i64 (oN (fits (a * b)) ((a * b) * c)), .string ⟨#[]⟩] 23)
      have z_t3a := z_t3.alloc (.cells #[.int .i64 (oK (fits (a * b)) ((a * b) * c)), .int .i64 (oN (fits (a * b)) ((a * b) * c)), .string ⟨#[]⟩] 23)
      have p_t3a := p_t3.alloc (.cells #[.int .i64 (oK (fits (a * b)) ((a * b) * c)), .int .i64 (oN (fits (a * b)) ((a * b) * c)), .string ⟨#[]⟩] 23)
      have q_t3a := q_t3.alloc (.cells #[.int .i64 (oK (fits (a * b)) ((a * b) * c)), .int .i64 (oN (fits (a * b)) ((a * b) * c)), .string ⟨#[]⟩] 23)
      have l_t3a := Box.new t3 (oK (fits (a * b)) ((a * b) * c)) (oN (fits (a * b)) ((a * b) * c)) ⟨#[]⟩
      have V_t3a := Lib.hid (V_t3.out.alloc V_t3.out.size (.cells #[.int .i64 (oK (fits (a * b)) ((a * b) * c)), .int .i64 (oN (fits (a * b)) ((a * b) * c)), .string ⟨#[]⟩] 23))
      clear V_t3 x_t3 y_t3 z_t3 p_t3 q_t3
      refine (mul_nums HB.out HC.out _ (HT.out.below V_t3a.out)).mono ?_
      rintro e t4 he
      obtain ⟨rfl, hb_t4⟩ := he.eq
      have x_t4 := x_t3a.below hb_t4
      have y_t4 := y_t3a.below hb_t4
      have z_t4 := z_t3a.below hb_t4
      have p_t4 := p_t3a.below hb_t4
      have q_t4 := q_t3a.below hb_t4
      have l_t4 := l_t3a.below hb_t4
      have V_t4 := Lib.hid (V_t3a.out.trans (hb_t4.mono V_t3a.out.size))
      clear hb_t4 V_t3a x_t3a y_t3a z_t3a p_t3a q_t3a l_t3a he
      have Fc_x := x_t4.c
      have Fl_x := x_t4.l
      have Fc_y := y_t4.c
      have Fl_y := y_t4.l
      have Fc_z := z_t4.c
      have Fl_z := z_t4.l
      have Fc_p := p_t4.c
      have Fl_p := p_t4.l
      have Fc_q := q_t4.c
      have Fl_q := q_t4.l
      have Fc_l := l_t4.c
      have Fl_l := l_t4.l
      go_wp2_with fail
      clear Fc_x Fl_x Fc_y Fl_y Fc_z Fl_z Fc_p Fl_p Fc_q Fl_q Fc_l Fl_l
      have x_t4a := x_t4.alloc (.cells #[.int .i64 (numK (b * c)), .int .i64 (numN (b * c)), .string ⟨#[]⟩] 23)
      have y_t4a := y_t4.alloc (.cells #[.int .i64 (numK (b * c)), .int .i64 (numN (b * c)), .string ⟨#[]⟩] 23)
      have z_t4a := z_t4.alloc (.cells #[.int .i64 (numK (b * c)), .int .i64 (numN (b * c)), .string ⟨#[]⟩] 23)
      have p_t4a := p_t4.alloc (.cells #[.int .i64 (numK (b * c)), .int .i64 (numN (b * c)), .string ⟨#[]⟩] 23)
      have q_t4a := q_t4.alloc (.cells #[.int .i64 (numK (b * c)), .int .i64 (numN (b * c)), .string ⟨#[]⟩] 23)
      have l_t4a := l_t4.alloc (.cells #[.int .i64 (numK (b * c)), .int .i64 (numN (b * c)), .string ⟨#[]⟩] 23)
      have m_t4a := Box.new t4 (numK (b * c)) (numN (b * c)) ⟨#[]⟩
      have V_t4a := Lib.hid (V_t4.out.alloc V_t4.out.size (.cells #[.int .i64 (numK (b * c)), .int .i64 (numN (b * c)), .string ⟨#[]⟩] 23))
      clear V_t4 x_t4 y_t4 z_t4 p_t4 q_t4 l_t4
      refine (mul_nv HA.out _ (HT.out.below V_t4a.out)).mono ?_
      rintro e t5 he
      obtain ⟨rfl, hb_t5⟩ := he.eq
      have x_t5 := x_t4a.below hb_t5
      have y_t5 := y_t4a.below hb_t5
      have z_t5 := z_t4a.below hb_t5
      have p_t5 := p_t4a.below hb_t5
      have q_t5 := q_t4a.below hb_t5
      have l_t5 := l_t4a.below hb_t5
      have m_t5 := m_t4a.below hb_t5
      have V_t5 := Lib.hid (V_t4a.out.trans (hb_t5.mono V_t4a.out.size))
      clear hb_t5 V_t4a x_t4a y_t4a z_t4a p_t4a q_t4a l_t4a m_t4a he
      have Fc_x := x_t5.c
      have Fl_x := x_t5.l
      have Fc_y := y_t5.c
      have Fl_y := y_t5.l
      have Fc_z := z_t5.c
      have Fl_z := z_t5.l
      have Fc_p := p_t5.c
      have Fl_p := p_t5.l
      have Fc_q := q_t5.c
      have Fl_q := q_t5.l
      have Fc_l := l_t5.c
      have Fl_l := l_t5.l
      have Fc_m := m_t5.c
      have Fl_m := m_t5.l
      have z1 := numE_size (a * b)
      have z2 := oE_size (fits (a * b)) ((a * b) * c)
      have z3 := numE_size (b * c)
      have z4 := oE_size (fits (b * c)) (a * (b * c))
      have Bx := x_t5.alloc (.cells #[.int .i64 (oK (fits (b * c)) (a * (b * c))), .int .i64 (oN (fits (b * c)) (a * (b * c))), .string ⟨#[]⟩] 23)
      have By := y_t5.alloc (.cells #[.int .i64 (oK (fits (b * c)) (a * (b * c))), .int .i64 (oN (fits (b * c)) (a * (b * c))), .string ⟨#[]⟩] 23)
      have Bz := z_t5.alloc (.cells #[.int .i64 (oK (fits (b * c)) (a * (b * c))), .int .i64 (oN (fits (b * c)) (a * (b * c))), .string ⟨#[]⟩] 23)
      have Bu := V_t5.out.alloc V_t5.out.size (.cells #[.int .i64 (oK (fits (b * c)) (a * (b * c))), .int .i64 (oN (fits (b * c)) (a * (b * c))), .string ⟨#[]⟩] 23)
      have AS := assoc_eq (m := (a * b)) (m' := (b * c)) (u := ((a * b) * c)) (v := (a * (b * c))) (Int.mul_assoc a b c)
      by_cases hn : (numE (a * b) ++ oE (fits (a * b)) ((a * b) * c) ++ numE (b * c) ++ oE (fits (b * c)) (a * (b * c))).toList = []
      all_goals
        first | have AQ := AS hn | skip
        clear AS
        go_wp2_with fail
        go_roundw
        case rel => exact ⟨2, by omega, by go_num, Bx, By, Bz, Bu⟩
        case measure => simp [intOf]

    · skip
      have x0 := hx
      have y0 := hy
      have z0 := hz
      have R0 := Lib.hid hu
      clear hx hy hz hu i0 i1
      have Fx := y0.c
      have Fy := z0.c
      go_wp2_with fail
      clear Fx Fy
      refine (add_nums HB.out HC.out _ (HT.out.below R0.out)).mono ?_
      rintro e r1 he
      obtain ⟨rfl, hb_r1⟩ := he.eq
      have x_r1 := x0.below hb_r1
      have y_r1 := y0.below hb_r1
      have z_r1 := z0.below hb_r1
      have V_r1 := Lib.hid (R0.out.trans (hb_r1.mono R0.out.size))
      clear hb_r1 R0 x0 y0 z0 he
      have Fc_x := x_r1.c
      have Fl_x := x_r1.l
      have Fc_y := y_r1.c
      have Fl_y := y_r1.l
      have Fc_z := z_r1.c
      have Fl_z := z_r1.l
      go_wp2_with fail
      clear Fc_x Fl_x Fc_y Fl_y Fc_z Fl_z
      have x_r1a := x_r1.alloc (.cells #[.int .i64 (numK (b + c)), .int .i64 (numN (b + c)), .string ⟨#[]⟩] 23)
      have y_r1a := y_r1.alloc (.cells #[.int .i64 (numK (b + c)), .int .i64 (numN (b + c)), .string ⟨#[]⟩] 23)
      have z_r1a := z_r1.alloc (.cells #[.int .i64 (numK (b + c)), .int .i64 (numN (b + c)), .string ⟨#[]⟩] 23)
      have s_r1a := Box.new r1 (numK (b + c)) (numN (b + c)) ⟨#[]⟩
      have V_r1a := Lib.hid (V_r1.out.alloc V_r1.out.size (.cells #[.int .i64 (numK (b + c)), .int .i64 (numN (b + c)), .string ⟨#[]⟩] 23))
      clear V_r1 x_r1 y_r1 z_r1
      refine (mul_nv HA.out _ (HT.out.below V_r1a.out)).mono ?_
      rintro e r2 he
      obtain ⟨rfl, hb_r2⟩ := he.eq
      have x_r2 := x_r1a.below hb_r2
      have y_r2 := y_r1a.below hb_r2
      have z_r2 := z_r1a.below hb_r2
      have s_r2 := s_r1a.below hb_r2
      have V_r2 := Lib.hid (V_r1a.out.trans (hb_r2.mono V_r1a.out.size))
      clear hb_r2 V_r1a x_r1a y_r1a z_r1a s_r1a he
      have Fc_x := x_r2.c
      have Fl_x := x_r2.l
      have Fc_y := y_r2.c
      have Fl_y := y_r2.l
      have Fc_z := z_r2.c
      have Fl_z := z_r2.l
      have Fc_s := s_r2.c
      have Fl_s := s_r2.l
      go_wp2_with fail
      clear Fc_x Fl_x Fc_y Fl_y Fc_z Fl_z Fc_s Fl_s
      have x_r2a := x_r2.alloc (.cells #[.int .i64 (oK (fits (b + c)) (a * (b + c))), .int .i64 (oN (fits (b + c)) (a * (b + c))), .string ⟨#[]⟩] 23)
      have y_r2a := y_r2.alloc (.cells #[.int .i64 (oK (fits (b + c)) (a * (b + c))), .int .i64 (oN (fits (b + c)) (a * (b + c))), .string ⟨#[]⟩] 23)
      have z_r2a := z_r2.alloc (.cells #[.int .i64 (oK (fits (b + c)) (a * (b + c))), .int .i64 (oN (fits (b + c)) (a * (b + c))), .string ⟨#[]⟩] 23)
      have s_r2a := s_r2.alloc (.cells #[.int .i64 (oK (fits (b + c)) (a * (b + c))), .int .i64 (oN (fits (b + c)) (a * (b + c))), .string ⟨#[]⟩] 23)
      have p_r2a := Box.new r2 (oK (fits (b + c)) (a * (b + c))) (oN (fits (b + c)) (a * (b + c))) ⟨#[]⟩
      have V_r2a := Lib.hid (V_r2.out.alloc V_r2.out.size (.cells #[.int .i64 (oK (fits (b + c)) (a * (b + c))), .int .i64 (oN (fits (b + c)) (a * (b + c))), .string ⟨#[]⟩] 23))
      clear V_r2 x_r2 y_r2 z_r2 s_r2
      refine (mul_nums HA.out HB.out _ (HT.out.below V_r2a.out)).mono ?_
      rintro e r3 he
      obtain ⟨rfl, hb_r3⟩ := he.eq
      have x_r3 := x_r2a.below hb_r3
      have y_r3 := y_r2a.below hb_r3
      have z_r3 := z_r2a.below hb_r3
      have s_r3 := s_r2a.below hb_r3
      have p_r3 := p_r2a.below hb_r3
      have V_r3 := Lib.hid (V_r2a.out.trans (hb_r3.mono V_r2a.out.size))
      clear hb_r3 V_r2a x_r2a y_r2a z_r2a s_r2a p_r2a he
      have Fc_x := x_r3.c
      have Fl_x := x_r3.l
      have Fc_y := y_r3.c
      have Fl_y := y_r3.l
      have Fc_z := z_r3.c
      have Fl_z := z_r3.l
      have Fc_s := s_r3.c
      have Fl_s := s_r3.l
      have Fc_p := p_r3.c
      have Fl_p := p_r3.l
      go_wp2_with fail
      clear Fc_x Fl_x Fc_y Fl_y Fc_z Fl_z Fc_s Fl_s Fc_p Fl_p
      have x_r3a := x_r3.alloc (.cells #[.int .i64 (numK (a * b)), .int .i64 (numN (a * b)), .string ⟨#[]⟩] 23)
      have y_r3a := y_r3.alloc (.cells #[.int .i64 (numK (a * b)), .int .i64 (numN (a * b)), .string ⟨#[]⟩] 23)
      have z_r3a := z_r3.alloc (.cells #[.int .i64 (numK (a * b)), .int .i64 (numN (a * b)), .string ⟨#[]⟩] 23)
      have s_r3a := s_r3.alloc (.cells #[.int .i64 (numK (a * b)), .int .i64 (numN (a * b)), .string ⟨#[]⟩] 23)
      have p_r3a := p_r3.alloc (.cells #[.int .i64 (numK (a * b)), .int .i64 (numN (a * b)), .string ⟨#[]⟩] 23)
      have q_r3a := Box.new r3 (numK (a * b)) (numN (a * b)) ⟨#[]⟩
      have V_r3a := Lib.hid (V_r3.out.alloc V_r3.out.size (.cells #[.int .i64 (numK (a * b)), .int .i64 (numN (a * b)), .string ⟨#[]⟩] 23))
      clear V_r3 x_r3 y_r3 z_r3 s_r3 p_r3
      refine (mul_nums HA.out HC.out _ (HT.out.below V_r3a.out)).mono ?_
      rintro e r4 he
      obtain ⟨rfl, hb_r4⟩ := he.eq
      have x_r4 := x_r3a.below hb_r4
      have y_r4 := y_r3a.below hb_r4
      have z_r4 := z_r3a.below hb_r4
      have s_r4 := s_r3a.below hb_r4
      have p_r4 := p_r3a.below hb_r4
      have q_r4 := q_r3a.below hb_r4
      have V_r4 := Lib.hid (V_r3a.out.trans (hb_r4.mono V_r3a.out.size))
      clear hb_r4 V_r3a x_r3a y_r3a z_r3a s_r3a p_r3a q_r3a he
      have Fc_x := x_r4.c
      have Fl_x := x_r4.l
      have Fc_y := y_r4.c
      have Fl_y := y_r4.l
      have Fc_z := z_r4.c
      have Fl_z := z_r4.l
      have Fc_s := s_r4.c
      have Fl_s := s_r4.l
      have Fc_p := p_r4.c
      have Fl_p := p_r4.l
      have Fc_q := q_r4.c
      have Fl_q := q_r4.l
      go_wp2_with fail
      clear Fc_x Fl_x Fc_y Fl_y Fc_z Fl_z Fc_s Fl_s Fc_p Fl_p Fc_q Fl_q
      have x_r4a := x_r4.alloc (.cells #[.int .i64 (numK (a * c)), .int .i64 (numN (a * c)), .string ⟨#[]⟩] 23)
      have y_r4a := y_r4.alloc (.cells #[.int .i64 (numK (a * c)), .int .i64 (numN (a * c)), .string ⟨#[]⟩] 23)
      have z_r4a := z_r4.alloc (.cells #[.int .i64 (numK (a * c)), .int .i64 (numN (a * c)), .string ⟨#[]⟩] 23)
      have s_r4a := s_r4.alloc (.cells #[.int .i64 (numK (a * c)), .int .i64 (numN (a * c)), .string ⟨#[]⟩] 23)
      have p_r4a := p_r4.alloc (.cells #[.int .i64 (numK (a * c)), .int .i64 (numN (a * c)), .string ⟨#[]⟩] 23)
      have q_r4a := q_r4.alloc (.cells #[.int .i64 (numK (a * c)), .int .i64 (numN (a * c)), .string ⟨#[]⟩] 23)
      have r_r4a := Box.new r4 (numK (a * c)) (numN (a * c)) ⟨#[]⟩
      have V_r4a := Lib.hid (V_r4.out.alloc V_r4.out.size (.cells #[.int .i64 (numK (a * c)), .int .i64 (numN (a * c)), .string ⟨#[]⟩] 23))
      clear V_r4 x_r4 y_r4 z_r4 s_r4 p_r4 q_r4
      refine (add_V (a * b) (a * c) _ (HT.out.below V_r4a.out)).mono ?_
      rintro e r5 he
      obtain ⟨rfl, hb_r5⟩ := he.eq
      have x_r5 := x_r4a.below hb_r5
      have y_r5 := y_r4a.below hb_r5
      have z_r5 := z_r4a.below hb_r5
      have s_r5 := s_r4a.below hb_r5
      have p_r5 := p_r4a.below hb_r5
      have q_r5 := q_r4a.below hb_r5
      have r_r5 := r_r4a.below hb_r5
      have V_r5 := Lib.hid (V_r4a.out.trans (hb_r5.mono V_r4a.out.size))
      clear hb_r5 V_r4a x_r4a y_r4a z_r4a s_r4a p_r4a q_r4a r_r4a he
      have Fc_x := x_r5.c
      have Fl_x := x_r5.l
      have Fc_y := y_r5.c
      have Fl_y := y_r5.l
      have Fc_z := z_r5.c
      have Fl_z := z_r5.l
      have Fc_s := s_r5.c
      have Fl_s := s_r5.l
      have Fc_p := p_r5.c
      have Fl_p := p_r5.l
      have Fc_q := q_r5.c
      have Fl_q := q_r5.l
      have Fc_r := r_r5.c
      have Fl_r := r_r5.l
      have z1 := numE_size (b + c)
      have z2 := oE_size (fits (b + c)) (a * (b + c))
      have z3 := numE_size (a * b)
      have z4 := numE_size (a * c)
      have z5 := oE_size (fits (a * b) && fits (a * c)) (a * b + a * c)
      have AS := distr_eq (m := (b + c)) (u := a * (b + c)) (v := a * b + a * c) (p := a * b) (q := a * c) (Int.mul_add a b c)
      by_cases hn : (numE (b + c) ++ oE (fits (b + c)) (a * (b + c)) ++ numE (a * b) ++ numE (a * c) ++ oE (fits (a * b) && fits (a * c)) (a * b + a * c)).toList = []
      all_goals
        first | have AQ := AS hn | skip
        clear AS
        go_wp2_with fail
        go_ret
        exact ⟨rfl, V_r5.out.alloc V_r5.out.size _⟩
set_option maxRecDepth 100000 in
set_option maxHeartbeats 1000000 in
theorem ring_no1 (a b c : Int) (w : World) (ht : Tab w) (ha : fits a = false) :
    Calls Tryd.prog 3 #[.int .i64 a, .int .i64 b, .int .i64 c] w fun e w' => e = .returned (.bool true) ∧ Below w.heap.size w w' := by
  have HT := Lib.hid ht
  have HA := Lib.hid ha
  clear ht ha
  go_enter Tryd.func3, Tryd.ntmps3
  go_wp2_with fail
  refine (num_any _ _).mono ?_
  rintro e w1 ⟨rfl, hb1⟩
  go_wp2_with fail
  refine (num_any _ _).mono ?_
  rintro e w2 ⟨rfl, hb2⟩
  go_wp2_with fail
  refine (num_any _ _).mono ?_
  rintro e w3 ⟨rfl, hb3⟩
  have U3 := Lib.hid ((hb1.trans (hb2.mono hb1.size)).trans (hb3.mono (Nat.le_trans hb1.size hb2.size)))
  clear hb1 hb2 hb3
  go_wp2_with fail
  have x0 := ((Box.new w3 2 a ⟨#[]⟩).alloc (.cells #[.int .i64 2, .int .i64 b, .string ⟨#[]⟩] 23)).alloc (.cells #[.int .i64 2, .int .i64 c, .string ⟨#[]⟩] 23)
  have y0 := (Box.new (w3.alloc (.cells #[.int .i64 2, .int .i64 a, .string ⟨#[]⟩] 23)) 2 b ⟨#[]⟩).alloc (.cells #[.int .i64 2, .int .i64 c, .string ⟨#[]⟩] 23)
  have z0 := Box.new ((w3.alloc (.cells #[.int .i64 2, .int .i64 a, .string ⟨#[]⟩] 23)).alloc (.cells #[.int .i64 2, .int .i64 b, .string ⟨#[]⟩] 23)) 2 c ⟨#[]⟩
  have V0 := Lib.hid (((U3.out.alloc U3.out.size (.cells #[.int .i64 2, .int .i64 a, .string ⟨#[]⟩] 23)).alloc (Nat.le_trans U3.out.size (by simp)) (.cells #[.int .i64 2, .int .i64 b, .string ⟨#[]⟩] 23)).alloc (Nat.le_trans U3.out.size (by simp; omega)) (.cells #[.int .i64 2, .int .i64 c, .string ⟨#[]⟩] 23))
  rw [show (w3.alloc (.cells #[.int .i64 2, .int .i64 a, .string ⟨#[]⟩] 23)).heap.size = w3.heap.size + 1 by simp] at y0
  rw [show ((w3.alloc (.cells #[.int .i64 2, .int .i64 a, .string ⟨#[]⟩] 23)).alloc (.cells #[.int .i64 2, .int .i64 b, .string ⟨#[]⟩] 23)).heap.size = w3.heap.size + 1 + 1 by simp] at z0
  clear U3
  refine (lives_any _ (HT.out.below V0.out)).mono ?_
  rintro e w4 ⟨rfl, hb_w4⟩
  have x_w4 := x0.below hb_w4
  have y_w4 := y0.below hb_w4
  have z_w4 := z0.below hb_w4
  have V_w4 := Lib.hid (V0.out.trans (hb_w4.mono V0.out.size))
  clear hb_w4 V0 x0 y0 z0
  have Fc_x := x_w4.c
  have Fl_x := x_w4.l
  have Fc_y := y_w4.c
  have Fl_y := y_w4.l
  have Fc_z := z_w4.c
  have Fl_z := z_w4.l
  go_wp2_with fail
  clear Fc_x Fl_x Fc_y Fl_y Fc_z Fl_z
  refine (check_num HA.out _).mono ?_
  rintro e w5 ⟨rfl, hb_w5⟩
  have x_w5 := x_w4.below hb_w5
  have y_w5 := y_w4.below hb_w5
  have z_w5 := z_w4.below hb_w5
  have V_w5 := Lib.hid (V_w4.out.trans (hb_w5.mono V_w4.out.size))
  clear hb_w5 V_w4 x_w4 y_w4 z_w4
  have Fc_x := x_w5.c
  have Fl_x := x_w5.l
  have Fc_y := y_w5.c
  have Fl_y := y_w5.l
  have Fc_z := z_w5.c
  have Fl_z := z_w5.l
  go_wp2_with fail
  clear Fc_x Fl_x Fc_y Fl_y Fc_z Fl_z
  refine (lives_any _ (HT.out.below V_w5.out)).mono ?_
  rintro e w9 ⟨rfl, hb_w9⟩
  have x_w9 := x_w5.below hb_w9
  have y_w9 := y_w5.below hb_w9
  have z_w9 := z_w5.below hb_w9
  have V_w9 := Lib.hid (V_w5.out.trans (hb_w9.mono V_w5.out.size))
  clear hb_w9 V_w5 x_w5 y_w5 z_w5
  have Fc_x := x_w9.c
  have Fl_x := x_w9.l
  have Fc_y := y_w9.c
  have Fl_y := y_w9.l
  have Fc_z := z_w9.c
  have Fl_z := z_w9.l
  go_wp2_with fail
  clear Fc_x Fl_x Fc_y Fl_y Fc_z Fl_z
  go_ret
  exact ⟨rfl, V_w9.out⟩
set_option maxRecDepth 100000 in
set_option maxHeartbeats 1000000 in
theorem ring_no2 (a b c : Int) (w : World) (ht : Tab w) (ha : fits a = true) (hb : fits b = false) :
    Calls Tryd.prog 3 #[.int .i64 a, .int .i64 b, .int .i64 c] w fun e w' => e = .returned (.bool true) ∧ Below w.heap.size w w' := by
  have HT := Lib.hid ht
  have HA := Lib.hid ha
  have HB := Lib.hid hb
  clear ht ha hb
  go_enter Tryd.func3, Tryd.ntmps3
  go_wp2_with fail
  refine (num_any _ _).mono ?_
  rintro e w1 ⟨rfl, hb1⟩
  go_wp2_with fail
  refine (num_any _ _).mono ?_
  rintro e w2 ⟨rfl, hb2⟩
  go_wp2_with fail
  refine (num_any _ _).mono ?_
  rintro e w3 ⟨rfl, hb3⟩
  have U3 := Lib.hid ((hb1.trans (hb2.mono hb1.size)).trans (hb3.mono (Nat.le_trans hb1.size hb2.size)))
  clear hb1 hb2 hb3
  go_wp2_with fail
  have x0 := ((Box.new w3 2 a ⟨#[]⟩).alloc (.cells #[.int .i64 2, .int .i64 b, .string ⟨#[]⟩] 23)).alloc (.cells #[.int .i64 2, .int .i64 c, .string ⟨#[]⟩] 23)
  have y0 := (Box.new (w3.alloc (.cells #[.int .i64 2, .int .i64 a, .string ⟨#[]⟩] 23)) 2 b ⟨#[]⟩).alloc (.cells #[.int .i64 2, .int .i64 c, .string ⟨#[]⟩] 23)
  have z0 := Box.new ((w3.alloc (.cells #[.int .i64 2, .int .i64 a, .string ⟨#[]⟩] 23)).alloc (.cells #[.int .i64 2, .int .i64 b, .string ⟨#[]⟩] 23)) 2 c ⟨#[]⟩
  have V0 := Lib.hid (((U3.out.alloc U3.out.size (.cells #[.int .i64 2, .int .i64 a, .string ⟨#[]⟩] 23)).alloc (Nat.le_trans U3.out.size (by simp)) (.cells #[.int .i64 2, .int .i64 b, .string ⟨#[]⟩] 23)).alloc (Nat.le_trans U3.out.size (by simp; omega)) (.cells #[.int .i64 2, .int .i64 c, .string ⟨#[]⟩] 23))
  rw [show (w3.alloc (.cells #[.int .i64 2, .int .i64 a, .string ⟨#[]⟩] 23)).heap.size = w3.heap.size + 1 by simp] at y0
  rw [show ((w3.alloc (.cells #[.int .i64 2, .int .i64 a, .string ⟨#[]⟩] 23)).alloc (.cells #[.int .i64 2, .int .i64 b, .string ⟨#[]⟩] 23)).heap.size = w3.heap.size + 1 + 1 by simp] at z0
  clear U3
  refine (lives_any _ (HT.out.below V0.out)).mono ?_
  rintro e w4 ⟨rfl, hb_w4⟩
  have x_w4 := x0.below hb_w4
  have y_w4 := y0.below hb_w4
  have z_w4 := z0.below hb_w4
  have V_w4 := Lib.hid (V0.out.trans (hb_w4.mono V0.out.size))
  clear hb_w4 V0 x0 y0 z0
  have Fc_x := x_w4.c
  have Fl_x := x_w4.l
  have Fc_y := y_w4.c
  have Fl_y := y_w4.l
  have Fc_z := z_w4.c
  have Fl_z := z_w4.l
  go_wp2_with fail
  clear Fc_x Fl_x Fc_y Fl_y Fc_z Fl_z
  refine (check_num HA.out _).mono ?_
  rintro e w5 ⟨rfl, hb_w5⟩
  have x_w5 := x_w4.below hb_w5
  have y_w5 := y_w4.below hb_w5
  have z_w5 := z_w4.below hb_w5
  have V_w5 := Lib.hid (V_w4.out.trans (hb_w5.mono V_w4.out.size))
  clear hb_w5 V_w4 x_w4 y_w4 z_w4
  have Fc_x := x_w5.c
  have Fl_x := x_w5.l
  have Fc_y := y_w5.c
  have Fl_y := y_w5.l
  have Fc_z := z_w5.c
  have Fl_z := z_w5.l
  go_wp2_with fail
  clear Fc_x Fl_x Fc_y Fl_y Fc_z Fl_z
  refine (check_num HB.out _).mono ?_
  rintro e w6 ⟨rfl, hb_w6⟩
  have x_w6 := x_w5.below hb_w6
  have y_w6 := y_w5.below hb_w6
  have z_w6 := z_w5.below hb_w6
  have V_w6 := Lib.hid (V_w5.out.trans (hb_w6.mono V_w5.out.size))
  clear hb_w6 V_w5 x_w5 y_w5 z_w5
  have Fc_x := x_w6.c
  have Fl_x := x_w6.l
  have Fc_y := y_w6.c
  have Fl_y := y_w6.l
  have Fc_z := z_w6.c
  have Fl_z := z_w6.l
  go_wp2_with fail
  clear Fc_x Fl_x Fc_y Fl_y Fc_z Fl_z
  refine (lives_any _ (HT.out.below V_w6.out)).mono ?_
  rintro e w9 ⟨rfl, hb_w9⟩
  have x_w9 := x_w6.below hb_w9
  have y_w9 := y_w6.below hb_w9
  have z_w9 := z_w6.below hb_w9
  have V_w9 := Lib.hid (V_w6.out.trans (hb_w9.mono V_w6.out.size))
  clear hb_w9 V_w6 x_w6 y_w6 z_w6
  have Fc_x := x_w9.c
  have Fl_x := x_w9.l
  have Fc_y := y_w9.c
  have Fl_y := y_w9.l
  have Fc_z := z_w9.c
  have Fl_z := z_w9.l
  go_wp2_with fail
  clear Fc_x Fl_x Fc_y Fl_y Fc_z Fl_z
  go_ret
  exact ⟨rfl, V_w9.out⟩
set_option maxRecDepth 100000 in
set_option maxHeartbeats 1000000 in
theorem ring_no3 (a b c : Int) (w : World) (ht : Tab w) (ha : fits a = true) (hb : fits b = true) (hc : fits c = false) :
    Calls Tryd.prog 3 #[.int .i64 a, .int .i64 b, .int .i64 c] w fun e w' => e = .returned (.bool true) ∧ Below w.heap.size w w' := by
  have HT := Lib.hid ht
  have HA := Lib.hid ha
  have HB := Lib.hid hb
  have HC := Lib.hid hc
  clear ht ha hb hc
  go_enter Tryd.func3, Tryd.ntmps3
  go_wp2_with fail
  refine (num_any _ _).mono ?_
  rintro e w1 ⟨rfl, hb1⟩
  go_wp2_with fail
  refine (num_any _ _).mono ?_
  rintro e w2 ⟨rfl, hb2⟩
  go_wp2_with fail
  refine (num_any _ _).mono ?_
  rintro e w3 ⟨rfl, hb3⟩
  have U3 := Lib.hid ((hb1.trans (hb2.mono hb1.size)).trans (hb3.mono (Nat.le_trans hb1.size hb2.size)))
  clear hb1 hb2 hb3
  go_wp2_with fail
  have x0 := ((Box.new w3 2 a ⟨#[]⟩).alloc (.cells #[.int .i64 2, .int .i64 b, .string ⟨#[]⟩] 23)).alloc (.cells #[.int .i64 2, .int .i64 c, .string ⟨#[]⟩] 23)
  have y0 := (Box.new (w3.alloc (.cells #[.int .i64 2, .int .i64 a, .string ⟨#[]⟩] 23)) 2 b ⟨#[]⟩).alloc (.cells #[.int .i64 2, .int .i64 c, .string ⟨#[]⟩] 23)
  have z0 := Box.new ((w3.alloc (.cells #[.int .i64 2, .int .i64 a, .string ⟨#[]⟩] 23)).alloc (.cells #[.int .i64 2, .int .i64 b, .string ⟨#[]⟩] 23)) 2 c ⟨#[]⟩
  have V0 := Lib.hid (((U3.out.alloc U3.out.size (.cells #[.int .i64 2, .int .i64 a, .string ⟨#[]⟩] 23)).alloc (Nat.le_trans U3.out.size (by simp)) (.cells #[.int .i64 2, .int .i64 b, .string ⟨#[]⟩] 23)).alloc (Nat.le_trans U3.out.size (by simp; omega)) (.cells #[.int .i64 2, .int .i64 c, .string ⟨#[]⟩] 23))
  rw [show (w3.alloc (.cells #[.int .i64 2, .int .i64 a, .string ⟨#[]⟩] 23)).heap.size = w3.heap.size + 1 by simp] at y0
  rw [show ((w3.alloc (.cells #[.int .i64 2, .int .i64 a, .string ⟨#[]⟩] 23)).alloc (.cells #[.int .i64 2, .int .i64 b, .string ⟨#[]⟩] 23)).heap.size = w3.heap.size + 1 + 1 by simp] at z0
  clear U3
  refine (lives_any _ (HT.out.below V0.out)).mono ?_
  rintro e w4 ⟨rfl, hb_w4⟩
  have x_w4 := x0.below hb_w4
  have y_w4 := y0.below hb_w4
  have z_w4 := z0.below hb_w4
  have V_w4 := Lib.hid (V0.out.trans (hb_w4.mono V0.out.size))
  clear hb_w4 V0 x0 y0 z0
  have Fc_x := x_w4.c
  have Fl_x := x_w4.l
  have Fc_y := y_w4.c
  have Fl_y := y_w4.l
  have Fc_z := z_w4.c
  have Fl_z := z_w4.l
  go_wp2_with fail
  clear Fc_x Fl_x Fc_y Fl_y Fc_z Fl_z
  refine (check_num HA.out _).mono ?_
  rintro e w5 ⟨rfl, hb_w5⟩
  have x_w5 := x_w4.below hb_w5
  have y_w5 := y_w4.below hb_w5
  have z_w5 := z_w4.below hb_w5
  have V_w5 := Lib.hid (V_w4.out.trans (hb_w5.mono V_w4.out.size))
  clear hb_w5 V_w4 x_w4 y_w4 z_w4
  have Fc_x := x_w5.c
  have Fl_x := x_w5.l
  have Fc_y := y_w5.c
  have Fl_y := y_w5.l
  have Fc_z := z_w5.c
  have Fl_z := z_w5.l
  go_wp2_with fail
  clear Fc_x Fl_x Fc_y Fl_y Fc_z Fl_z
  refine (check_num HB.out _).mono ?_
  rintro e w6 ⟨rfl, hb_w6⟩
  have x_w6 := x_w5.below hb_w6
  have y_w6 := y_w5.below hb_w6
  have z_w6 := z_w5.below hb_w6
  have V_w6 := Lib.hid (V_w5.out.trans (hb_w6.mono V_w5.out.size))
  clear hb_w6 V_w5 x_w5 y_w5 z_w5
  have Fc_x := x_w6.c
  have Fl_x := x_w6.l
  have Fc_y := y_w6.c
  have Fl_y := y_w6.l
  have Fc_z := z_w6.c
  have Fl_z := z_w6.l
  go_wp2_with fail
  clear Fc_x Fl_x Fc_y Fl_y Fc_z Fl_z
  refine (check_num HC.out _).mono ?_
  rintro e w7 ⟨rfl, hb_w7⟩
  have x_w7 := x_w6.below hb_w7
  have y_w7 := y_w6.below hb_w7
  have z_w7 := z_w6.below hb_w7
  have V_w7 := Lib.hid (V_w6.out.trans (hb_w7.mono V_w6.out.size))
  clear hb_w7 V_w6 x_w6 y_w6 z_w6
  have Fc_x := x_w7.c
  have Fl_x := x_w7.l
  have Fc_y := y_w7.c
  have Fl_y := y_w7.l
  have Fc_z := z_w7.c
  have Fl_z := z_w7.l
  go_wp2_with fail
  clear Fc_x Fl_x Fc_y Fl_y Fc_z Fl_z
  refine (lives_any _ (HT.out.below V_w7.out)).mono ?_
  rintro e w9 ⟨rfl, hb_w9⟩
  have x_w9 := x_w7.below hb_w9
  have y_w9 := y_w7.below hb_w9
  have z_w9 := z_w7.below hb_w9
  have V_w9 := Lib.hid (V_w7.out.trans (hb_w9.mono V_w7.out.size))
  clear hb_w9 V_w7 x_w7 y_w7 z_w7
  have Fc_x := x_w9.c
  have Fl_x := x_w9.l
  have Fc_y := y_w9.c
  have Fl_y := y_w9.l
  have Fc_z := z_w9.c
  have Fl_z := z_w9.l
  go_wp2_with fail
  clear Fc_x Fl_x Fc_y Fl_y Fc_z Fl_z
  go_ret
  exact ⟨rfl, V_w9.out⟩
theorem ring_any (a b c : Int) (w : World) (ht : Tab w) :
    Calls Tryd.prog 3 #[.int .i64 a, .int .i64 b, .int .i64 c] w fun e w' => e = .returned (.bool true) ∧ Below w.heap.size w w' := by
  cases ha : fits a
  · exact ring_no1 a b c w ht ha
  · cases hb : fits b
    · exact ring_no2 a b c w ht ha hb
    · cases hc : fits c
      · exact ring_no3 a b c w ht ha hb hc
      · exact ring_yes a b c w ht ha hb hc
end Go.Proofs.YtdabikbeoanhpaaDoor
