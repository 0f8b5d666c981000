/- The law ValueOrder, a part of its cases. -/
import Derived.Test.YtdabikbeoanhpaaDoorV14
namespace Go.Proofs.YtdabikbeoanhpaaDoor
open Go.RowKit
attribute [local go_sem ↓] Go.wp_at_zero Go.wp_at_succ
set_option maxRecDepth 100000 in
set_option maxHeartbeats 8000000 in
theorem order_yes2_tt (k1 n1 : Int) (s1 : ByteArray) (k2 n2 : Int) (s2 : ByteArray) (k3 n3 : Int) (s3 : ByteArray) (w : World) (ht : Tab w) (M S : Bool) 
    (H1 : BinAt ⟨#[60]⟩ k1 n1 s1 k2 n2 s2 1 (b2i true) ⟨#[]⟩) (H2 : BinAt ⟨#[62]⟩ k1 n1 s1 k2 n2 s2 1 (b2i M) ⟨#[]⟩) (H3 : BinAt ⟨#[61, 61]⟩ k1 n1 s1 k2 n2 s2 1 (b2i S) ⟨#[]⟩)
    (H4 : BinAt ⟨#[60]⟩ k2 n2 s2 k3 n3 s3 1 (b2i true) ⟨#[]⟩) (H5 : BinAt ⟨#[60]⟩ k1 n1 s1 k3 n3 s3 1 (b2i true) ⟨#[]⟩) (H6 : BinAt ⟨#[62, 61]⟩ k1 n1 s1 k2 n2 s2 1 (b2i (!true)) ⟨#[]⟩)
    (hx : cnt true M S 3 = 1) :
    Calls Tryd.prog 5 #[.agg #[.int .i64 k1, .int .i64 n1, .string s1], .agg #[.int .i64 k2, .int .i64 n2, .string s2], .agg #[.int .i64 k3, .int .i64 n3, .string s3]] w fun e w' => e = .returned (.bool true) ∧ Below w.heap.size w w' := by
  have HX := Lib.hid hx
  clear hx
  have HT := Lib.hid ht
  clear ht
  have a0 := ((Box.new w k1 n1 s1).alloc (.cells #[.int .i64 k2, .int .i64 n2, .string s2] 23)).alloc (.cells #[.int .i64 k3, .int .i64 n3, .string s3] 23)
  have b0 := (Box.new (w.alloc (.cells #[.int .i64 k1, .int .i64 n1, .string s1] 23)) k2 n2 s2).alloc (.cells #[.int .i64 k3, .int .i64 n3, .string s3] 23)
  have c0 := Box.new ((w.alloc (.cells #[.int .i64 k1, .int .i64 n1, .string s1] 23)).alloc (.cells #[.int .i64 k2, .int .i64 n2, .string s2] 23)) k3 n3 s3
  have V0 := Lib.hid ((((Below.refl w.heap.size w).alloc (Nat.le_refl _) (.cells #[.int .i64 k1, .int .i64 n1, .string s1] 23)).alloc (by simp) (.cells #[.int .i64 k2, .int .i64 n2, .string s2] 23)).alloc (by simp; omega) (.cells #[.int .i64 k3, .int .i64 n3, .string s3] 23))
  rw [show (w.alloc (.cells #[.int .i64 k1, .int .i64 n1, .string s1] 23)).heap.size = w.heap.size + 1 by simp] at b0
  rw [show ((w.alloc (.cells #[.int .i64 k1, .int .i64 n1, .string s1] 23)).alloc (.cells #[.int .i64 k2, .int .i64 n2, .string s2] 23)).heap.size = w.heap.size + 1 + 1 by simp] at c0
  go_enter Tryd.func5, Tryd.ntmps5
  go_wp2_with fail
  refine (H1.at (HT.out.below V0.out)).mono ?_
  rintro e u1 he
  obtain ⟨rfl, hb_u1⟩ := he.eq
  have a_u1 := a0.below hb_u1
  have b_u1 := b0.below hb_u1
  have c_u1 := c0.below hb_u1
  have V_u1 := Lib.hid (V0.out.trans (hb_u1.mono V0.out.size))
  clear hb_u1 V0 a0 b0 c0 he
  have Fc_a := a_u1.c
  have Fl_a := a_u1.l
  have Fc_b := b_u1.c
  have Fl_b := b_u1.l
  have Fc_c := c_u1.c
  have Fl_c := c_u1.l
  go_wp2_with fail
  clear Fc_a Fl_a Fc_b Fl_b Fc_c Fl_c
  have a_u1a := a_u1.alloc (.cells #[.int .i64 1, .int .i64 (b2i true), .string ⟨#[]⟩] 23)
  have b_u1a := b_u1.alloc (.cells #[.int .i64 1, .int .i64 (b2i true), .string ⟨#[]⟩] 23)
  have c_u1a := c_u1.alloc (.cells #[.int .i64 1, .int .i64 (b2i true), .string ⟨#[]⟩] 23)
  have l_u1a := Box.new u1 1 (b2i true) ⟨#[]⟩
  have V_u1a := Lib.hid (V_u1.out.alloc V_u1.out.size (.cells #[.int .i64 1, .int .i64 (b2i true), .string ⟨#[]⟩] 23))
  clear V_u1 a_u1 b_u1 c_u1
  refine (H2.at (HT.out.below V_u1a.out)).mono ?_
  rintro e u2 he
  obtain ⟨rfl, hb_u2⟩ := he.eq
  have a_u2 := a_u1a.below hb_u2
  have b_u2 := b_u1a.below hb_u2
  have c_u2 := c_u1a.below hb_u2
  have l_u2 := l_u1a.below hb_u2
  have V_u2 := Lib.hid (V_u1a.out.trans (hb_u2.mono V_u1a.out.size))
  clear hb_u2 V_u1a a_u1a b_u1a c_u1a l_u1a he
  have Fc_a := a_u2.c
  have Fl_a := a_u2.l
  have Fc_b := b_u2.c
  have Fl_b := b_u2.l
  have Fc_c := c_u2.c
  have Fl_c := c_u2.l
  have Fc_l := l_u2.c
  have Fl_l := l_u2.l
  go_wp2_with fail
  clear Fc_a Fl_a Fc_b Fl_b Fc_c Fl_c Fc_l Fl_l
  have a_u2a := a_u2.alloc (.cells #[.int .i64 1, .int .i64 (b2i M), .string ⟨#[]⟩] 23)
  have b_u2a := b_u2.alloc (.cells #[.int .i64 1, .int .i64 (b2i M), .string ⟨#[]⟩] 23)
  have c_u2a := c_u2.alloc (.cells #[.int .i64 1, .int .i64 (b2i M), .string ⟨#[]⟩] 23)
  have l_u2a := l_u2.alloc (.cells #[.int .i64 1, .int .i64 (b2i M), .string ⟨#[]⟩] 23)
  have m_u2a := Box.new u2 1 (b2i M) ⟨#[]⟩
  have V_u2a := Lib.hid (V_u2.out.alloc V_u2.out.size (.cells #[.int .i64 1, .int .i64 (b2i M), .string ⟨#[]⟩] 23))
  clear V_u2 a_u2 b_u2 c_u2 l_u2
  refine (H3.at (HT.out.below V_u2a.out)).mono ?_
  rintro e u3 he
  obtain ⟨rfl, hb_u3⟩ := he.eq
  have a_u3 := a_u2a.below hb_u3
  have b_u3 := b_u2a.below hb_u3
  have c_u3 := c_u2a.below hb_u3
  have l_u3 := l_u2a.below hb_u3
  have m_u3 := m_u2a.below hb_u3
  have V_u3 := Lib.hid (V_u2a.out.trans (hb_u3.mono V_u2a.out.size))
  clear hb_u3 V_u2a a_u2a b_u2a c_u2a l_u2a m_u2a he
  have Fc_a := a_u3.c
  have Fl_a := a_u3.l
  have Fc_b := b_u3.c
  have Fl_b := b_u3.l
  have Fc_c := c_u3.c
  have Fl_c := c_u3.l
  have Fc_l := l_u3.c
  have Fl_l := l_u3.l
  have Fc_m := m_u3.c
  have Fl_m := m_u3.l
  go_wp2_with fail
  clear Fc_a Fl_a Fc_b Fl_b Fc_c Fl_c Fc_l Fl_l Fc_m Fl_m
  have a_u3a := a_u3.alloc (.cells #[.int .i64 1, .int .i64 (b2i S), .string ⟨#[]⟩] 23)
  have b_u3a := b_u3.alloc (.cells #[.int .i64 1, .int .i64 (b2i S), .string ⟨#[]⟩] 23)
  have c_u3a := c_u3.alloc (.cells #[.int .i64 1, .int .i64 (b2i S), .string ⟨#[]⟩] 23)
  have l_u3a := l_u3.alloc (.cells #[.int .i64 1, .int .i64 (b2i S), .string ⟨#[]⟩] 23)
  have m_u3a := m_u3.alloc (.cells #[.int .i64 1, .int .i64 (b2i S), .string ⟨#[]⟩] 23)
  have s_u3a := Box.new u3 1 (b2i S) ⟨#[]⟩
  have V_u3a := Lib.hid (V_u3.out.alloc V_u3.out.size (.cells #[.int .i64 1, .int .i64 (b2i S), .string ⟨#[]⟩] 23))
  clear V_u3 a_u3 b_u3 c_u3 l_u3 m_u3
  refine (H4.at (HT.out.below V_u3a.out)).mono ?_
  rintro e u4 he
  obtain ⟨rfl, hb_u4⟩ := he.eq
  have a_u4 := a_u3a.below hb_u4
  have b_u4 := b_u3a.below hb_u4
  have c_u4 := c_u3a.below hb_u4
  have l_u4 := l_u3a.below hb_u4
  have m_u4 := m_u3a.below hb_u4
  have s_u4 := s_u3a.below hb_u4
  have V_u4 := Lib.hid (V_u3a.out.trans (hb_u4.mono V_u3a.out.size))
  clear hb_u4 V_u3a a_u3a b_u3a c_u3a l_u3a m_u3a s_u3a he
  have Fc_a := a_u4.c
  have Fl_a := a_u4.l
  have Fc_b := b_u4.c
  have Fl_b := b_u4.l
  have Fc_c := c_u4.c
  have Fl_c := c_u4.l
  have Fc_l := l_u4.c
  have Fl_l := l_u4.l
  have Fc_m := m_u4.c
  have Fl_m := m_u4.l
  have Fc_s := s_u4.c
  have Fl_s := s_u4.l
  go_wp2_with fail
  clear Fc_a Fl_a Fc_b Fl_b Fc_c Fl_c Fc_l Fl_l Fc_m Fl_m Fc_s Fl_s
  have a_u4a := a_u4.alloc (.cells #[.int .i64 1, .int .i64 (b2i true), .string ⟨#[]⟩] 23)
  have b_u4a := b_u4.alloc (.cells #[.int .i64 1, .int .i64 (b2i true), .string ⟨#[]⟩] 23)
  have c_u4a := c_u4.alloc (.cells #[.int .i64 1, .int .i64 (b2i true), .string ⟨#[]⟩] 23)
  have l_u4a := l_u4.alloc (.cells #[.int .i64 1, .int .i64 (b2i true), .string ⟨#[]⟩] 23)
  have m_u4a := m_u4.alloc (.cells #[.int .i64 1, .int .i64 (b2i true), .string ⟨#[]⟩] 23)
  have s_u4a := s_u4.alloc (.cells #[.int .i64 1, .int .i64 (b2i true), .string ⟨#[]⟩] 23)
  have x_u4a := Box.new u4 1 (b2i true) ⟨#[]⟩
  have V_u4a := Lib.hid (V_u4.out.alloc V_u4.out.size (.cells #[.int .i64 1, .int .i64 (b2i true), .string ⟨#[]⟩] 23))
  clear V_u4 a_u4 b_u4 c_u4 l_u4 m_u4 s_u4
  refine (H5.at (HT.out.below V_u4a.out)).mono ?_
  rintro e u5 he
  obtain ⟨rfl, hb_u5⟩ := he.eq
  have a_u5 := a_u4a.below hb_u5
  have b_u5 := b_u4a.below hb_u5
  have c_u5 := c_u4a.below hb_u5
  have l_u5 := l_u4a.below hb_u5
  have m_u5 := m_u4a.below hb_u5
  have s_u5 := s_u4a.below hb_u5
  have x_u5 := x_u4a.below hb_u5
  have V_u5 := Lib.hid (V_u4a.out.trans (hb_u5.mono V_u4a.out.size))
  clear hb_u5 V_u4a a_u4a b_u4a c_u4a l_u4a m_u4a s_u4a x_u4a he
  have Fc_a := a_u5.c
  have Fl_a := a_u5.l
  have Fc_b := b_u5.c
  have Fl_b := b_u5.l
  have Fc_c := c_u5.c
  have Fl_c := c_u5.l
  have Fc_l := l_u5.c
  have Fl_l := l_u5.l
  have Fc_m := m_u5.c
  have Fl_m := m_u5.l
  have Fc_s := s_u5.c
  have Fl_s := s_u5.l
  have Fc_x := x_u5.c
  have Fl_x := x_u5.l
  go_wp2_with fail
  clear Fc_a Fl_a Fc_b Fl_b Fc_c Fl_c Fc_l Fl_l Fc_m Fl_m Fc_s Fl_s Fc_x Fl_x
  have a_u5a := a_u5.alloc (.cells #[.int .i64 1, .int .i64 (b2i true), .string ⟨#[]⟩] 23)
  have b_u5a := b_u5.alloc (.cells #[.int .i64 1, .int .i64 (b2i true), .string ⟨#[]⟩] 23)
  have c_u5a := c_u5.alloc (.cells #[.int .i64 1, .int .i64 (b2i true), .string ⟨#[]⟩] 23)
  have l_u5a := l_u5.alloc (.cells #[.int .i64 1, .int .i64 (b2i true), .string ⟨#[]⟩] 23)
  have m_u5a := m_u5.alloc (.cells #[.int .i64 1, .int .i64 (b2i true), .string ⟨#[]⟩] 23)
  have s_u5a := s_u5.alloc (.cells #[.int .i64 1, .int .i64 (b2i true), .string ⟨#[]⟩] 23)
  have x_u5a := x_u5.alloc (.cells #[.int .i64 1, .int .i64 (b2i true), .string ⟨#[]⟩] 23)
  have f_u5a := Box.new u5 1 (b2i true) ⟨#[]⟩
  have V_u5a := Lib.hid (V_u5.out.alloc V_u5.out.size (.cells #[.int .i64 1, .int .i64 (b2i true), .string ⟨#[]⟩] 23))
  clear V_u5 a_u5 b_u5 c_u5 l_u5 m_u5 s_u5 x_u5
  refine (H6.at (HT.out.below V_u5a.out)).mono ?_
  rintro e u6 he
  obtain ⟨rfl, hb_u6⟩ := he.eq
  have a_u6 := a_u5a.below hb_u6
  have b_u6 := b_u5a.below hb_u6
  have c_u6 := c_u5a.below hb_u6
  have l_u6 := l_u5a.below hb_u6
  have m_u6 := m_u5a.below hb_u6
  have s_u6 := s_u5a.below hb_u6
  have x_u6 := x_u5a.below hb_u6
  have f_u6 := f_u5a.below hb_u6
  have V_u6 := Lib.hid (V_u5a.out.trans (hb_u6.mono V_u5a.out.size))
  clear hb_u6 V_u5a a_u5a b_u5a c_u5a l_u5a m_u5a s_u5a x_u5a f_u5a he
  have Fc_a := a_u6.c
  have Fl_a := a_u6.l
  have Fc_b := b_u6.c
  have Fl_b := b_u6.l
  have Fc_c := c_u6.c
  have Fl_c := c_u6.l
  have Fc_l := l_u6.c
  have Fl_l := l_u6.l
  have Fc_m := m_u6.c
  have Fl_m := m_u6.l
  have Fc_s := s_u6.c
  have Fl_s := s_u6.l
  have Fc_x := x_u6.c
  have Fl_x := x_u6.l
  have Fc_f := f_u6.c
  have Fl_f := f_u6.l
  go_wp2_with fail
  clear Fc_a Fl_a Fc_b Fl_b Fc_c Fl_c Fc_l Fl_l Fc_m Fl_m Fc_s Fl_s Fc_x Fl_x Fc_f Fl_f
  have a_u6a := a_u6.alloc (.cells #[.int .i64 1, .int .i64 (b2i (!true)), .string ⟨#[]⟩] 23)
  have b_u6a := b_u6.alloc (.cells #[.int .i64 1, .int .i64 (b2i (!true)), .string ⟨#[]⟩] 23)
  have c_u6a := c_u6.alloc (.cells #[.int .i64 1, .int .i64 (b2i (!true)), .string ⟨#[]⟩] 23)
  have l_u6a := l_u6.alloc (.cells #[.int .i64 1, .int .i64 (b2i (!true)), .string ⟨#[]⟩] 23)
  have m_u6a := m_u6.alloc (.cells #[.int .i64 1, .int .i64 (b2i (!true)), .string ⟨#[]⟩] 23)
  have s_u6a := s_u6.alloc (.cells #[.int .i64 1, .int .i64 (b2i (!true)), .string ⟨#[]⟩] 23)
  have x_u6a := x_u6.alloc (.cells #[.int .i64 1, .int .i64 (b2i (!true)), .string ⟨#[]⟩] 23)
  have f_u6a := f_u6.alloc (.cells #[.int .i64 1, .int .i64 (b2i (!true)), .string ⟨#[]⟩] 23)
  have o_u6a := Box.new u6 1 (b2i (!true)) ⟨#[]⟩
  have V_u6a := Lib.hid (V_u6.out.alloc V_u6.out.size (.cells #[.int .i64 1, .int .i64 (b2i (!true)), .string ⟨#[]⟩] 23))
  clear V_u6 a_u6 b_u6 c_u6 l_u6 m_u6 s_u6 x_u6 f_u6
  refine (lives_any _ (HT.out.below V_u6a.out)).mono ?_
  rintro e u7 ⟨rfl, hb_u7⟩
  have a_u7 := a_u6a.below hb_u7
  have b_u7 := b_u6a.below hb_u7
  have c_u7 := c_u6a.below hb_u7
  have l_u7 := l_u6a.below hb_u7
  have m_u7 := m_u6a.below hb_u7
  have s_u7 := s_u6a.below hb_u7
  have x_u7 := x_u6a.below hb_u7
  have f_u7 := f_u6a.below hb_u7
  have o_u7 := o_u6a.below hb_u7
  have V_u7 := Lib.hid (V_u6a.out.trans (hb_u7.mono V_u6a.out.size))
  clear hb_u7 V_u6a a_u6a b_u6a c_u6a l_u6a m_u6a s_u6a x_u6a f_u6a o_u6a
  have Fc_a := a_u7.c
  have Fl_a := a_u7.l
  have Fc_b := b_u7.c
  have Fl_b := b_u7.l
  have Fc_c := c_u7.c
  have Fl_c := c_u7.l
  have Fc_l := l_u7.c
  have Fl_l := l_u7.l
  have Fc_m := m_u7.c
  have Fl_m := m_u7.l
  have Fc_s := s_u7.c
  have Fl_s := s_u7.l
  have Fc_x := x_u7.c
  have Fl_x := x_u7.l
  have Fc_f := f_u7.c
  have Fl_f := f_u7.l
  have Fc_o := o_u7.c
  have Fl_o := o_u7.l
  have kp : Keep4 w u7 u1.heap.size u4.heap.size u5.heap.size u6.heap.size 1 (b2i true) 1 (b2i true) 1 (b2i true) 1 (b2i (!true)) := ⟨l_u7, x_u7, f_u7, o_u7, V_u7.out⟩
  have i0 := pick_0
  have i1 := pick_1
  have i2 := pick_2
  go_wp2_with fail
  clear V_u7 a_u7 b_u7 c_u7 l_u7 m_u7 s_u7 x_u7 f_u7 o_u7 HT H1 H2 H3 H4 H5 H6 Fc_a Fc_b Fc_c Fc_l Fc_m Fc_s Fc_x Fc_f Fc_o Fl_a Fl_b Fl_c Fl_l Fl_m Fl_s Fl_x Fl_f Fl_o
  generalize u1.heap.size = U1 at *
  generalize u4.heap.size = U4 at *
  generalize u5.heap.size = U5 at *
  generalize u6.heap.size = U6 at *
  go_loopw [19, 77] (fun q i wr => ∃ k : Nat, k ≤ 3 ∧ i = .int .i64 k ∧ ∃ c : Int, q = .int .i64 c ∧ c = cnt true M S k ∧ 0 ≤ c ∧ c ≤ k ∧ Keep4 w wr U1 U4 U5 U6 1 (b2i true) 1 (b2i true) 1 (b2i true) 1 (b2i (!true))) (fun _ i _ => 3 - (intOf i).toNat)
  case atStart => exact ⟨0, by omega, rfl, 0, rfl, rfl, by omega, by omega, kp⟩
  case round =>
    obtain ⟨k, hk, rfl, c, rfl, hcq, hc0, hck, kp'⟩ := hrel
    have cq := Lib.hid hcq
    have hk3 : k = 0 ∨ k = 1 ∨ k = 2 ∨ k = 3 := by omega
    clear hk kp hcq
    have kp := kp'
    clear kp'
    rcases hk3 with rfl | rfl | rfl | rfl
    · skip
      go_wp2_with fail
      refine (tru_at true _).mono ?_
      rintro e wt ⟨rfl, hbt⟩
      have kt := (kp.below ((Below.refl _ _).alloc (Nat.le_refl _) (.cells #[.int .i64 1, .int .i64 (b2i true), .string ⟨#[]⟩] 23))).below hbt
      clear hbt kp
      go_wp2_with fail
      all_goals
        go_roundw
        case rel => exact ⟨1, by omega, by go_num, _, rfl, by have := cq.out; simp_all [cnt, b2i], by omega, by omega, kt⟩
        case measure => simp [intOf]
    · skip
      go_wp2_with fail
      refine (tru_at M _).mono ?_
      rintro e wt ⟨rfl, hbt⟩
      have kt := (kp.below ((Below.refl _ _).alloc (Nat.le_refl _) (.cells #[.int .i64 1, .int .i64 (b2i M), .string ⟨#[]⟩] 23))).below hbt
      clear hbt kp
      go_wp2_with fail
      all_goals
        go_roundw
        case rel => exact ⟨2, by omega, by go_num, _, rfl, by have := cq.out; simp_all [cnt, b2i], by omega, by omega, kt⟩
        case measure => simp [intOf]
    · skip
      go_wp2_with fail
      refine (tru_at S _).mono ?_
      rintro e wt ⟨rfl, hbt⟩
      have kt := (kp.below ((Below.refl _ _).alloc (Nat.le_refl _) (.cells #[.int .i64 1, .int .i64 (b2i S), .string ⟨#[]⟩] 23))).below hbt
      clear hbt kp
      go_wp2_with fail
      all_goals
        go_roundw
        case rel => exact ⟨3, by omega, by go_num, _, rfl, by have := cq.out; simp_all [cnt, b2i], by omega, by omega, kt⟩
        case measure => simp [intOf]
    · have cq1 := cq.out.trans HX.out
      subst cq1
      clear cq HX i0 i1 i2 hc0 hck
      go_wp2_with fail
      · skip
        have F := keep4 ⟨kp, kp.l.c, kp.x.c, kp.f.c, kp.o.c⟩ (Below.drew (Below.refl _ _))
        clear kp
        go_region_held3 (fun w' => Keep4 w w' U1 U4 U5 U6 1 (b2i true) 1 (b2i true) 1 (b2i true) 1 (b2i (!true)) ∧ (w'.cell? ⟨U1, 0, none⟩ = some (.int .i64 1) ∧ w'.cell? ⟨U1, 1, none⟩ = some (.int .i64 (b2i true)) ∧ w'.cell? ⟨U1, 2, none⟩ = some (.string ⟨#[]⟩)) ∧ (w'.cell? ⟨U4, 0, none⟩ = some (.int .i64 1) ∧ w'.cell? ⟨U4, 1, none⟩ = some (.int .i64 (b2i true)) ∧ w'.cell? ⟨U4, 2, none⟩ = some (.string ⟨#[]⟩)) ∧ (w'.cell? ⟨U5, 0, none⟩ = some (.int .i64 1) ∧ w'.cell? ⟨U5, 1, none⟩ = some (.int .i64 (b2i true)) ∧ w'.cell? ⟨U5, 2, none⟩ = some (.string ⟨#[]⟩)) ∧ (w'.cell? ⟨U6, 0, none⟩ = some (.int .i64 1) ∧ w'.cell? ⟨U6, 1, none⟩ = some (.int .i64 (b2i (!true))) ∧ w'.cell? ⟨U6, 2, none⟩ = some (.string ⟨#[]⟩)))
          (first | assumption | exact keep4 (by assumption) (by assumption))
          (first
            | (go_at_call 11; with_reducible refine (tru_at true _).mono ?_; rintro e w' ⟨rfl, hb⟩)
            | (go_at_call 11; with_reducible refine (tru_at false _).mono ?_; rintro e w' ⟨rfl, hb⟩))
        go_wp2_with fail
        go_ret
        exact ⟨rfl, keep4_below (by assumption)⟩
end Go.Proofs.YtdabikbeoanhpaaDoor
