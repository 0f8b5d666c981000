/- The law ValueOrder: true. -/
import Derived.Test.YtdabikbeoanhpaaDoorV13
import Derived.Lib.QuietBelow
namespace Go.Proofs.YtdabikbeoanhpaaDoor
open Go.RowKit
attribute [local go_sem ↓] Go.wp_at_zero Go.wp_at_succ

/-- Binary at a sign, at two values: what it gives, in whatever world that has the table. -/
def BinAt (sg : ByteArray) (k n : Int) (s : ByteArray) (k' n' : Int) (s' : ByteArray) (K N : Int) (e : ByteArray) : Prop :=
  ∀ w, Tab w → Calls Tryd.prog 10 #[.string sg, .agg #[.int .i64 k, .int .i64 n, .string s], .agg #[.int .i64 k', .int .i64 n', .string s']] w (Gives K N ⟨#[]⟩ e w)
theorem BinAt.at {sg : ByteArray} {k n : Int} {s : ByteArray} {k' n' : Int} {s' : ByteArray} {K N : Int} {e : ByteArray} (h : BinAt sg k n s k' n' s' K N e) {w : World} (ht : Tab w) :
    Calls Tryd.prog 10 #[.string sg, .agg #[.int .i64 k, .int .i64 n, .string s], .agg #[.int .i64 k', .int .i64 n', .string s']] w (Gives K N ⟨#[]⟩ e w) := h w ht

theorem Box.grown {w : World} {b : Nat} {k n : Int} {s : ByteArray} (h : Box w b k n s) (d : Nat) (os : Array Obj) :
    (Sort.grow (redrawn w d) os).cell? ⟨b, 0, none⟩ = some (.int .i64 k) ∧ (Sort.grow (redrawn w d) os).cell? ⟨b, 1, none⟩ = some (.int .i64 n) ∧ (Sort.grow (redrawn w d) os).cell? ⟨b, 2, none⟩ = some (.string s) :=
  (h.below (below_regrown w d os)).c
/-- Four boxes that are only read. -/
structure Keep4 (w0 w : World) (bl bx bf bo : Nat) (kl nl kx nx kf nf ko no : Int) : Prop where
  l : Box w bl kl nl ⟨#[]⟩
  x : Box w bx kx nx ⟨#[]⟩
  f : Box w bf kf nf ⟨#[]⟩
  o : Box w bo ko no ⟨#[]⟩
  u : Below w0.heap.size w0 w
theorem Keep4.below {w0 w w1 : World} {bl bx bf bo : Nat} {kl nl kx nx kf nf ko no : Int} (h : Keep4 w0 w bl bx bf bo kl nl kx nx kf nf ko no) (hb : Below w.heap.size w w1) : Keep4 w0 w1 bl bx bf bo kl nl kx nx kf nf ko no :=
  ⟨h.l.below hb, h.x.below hb, h.f.below hb, h.o.below hb, h.u.trans (hb.mono h.u.size)⟩
theorem keep4 {w0 w w1 : World} {bl bx bf bo : Nat} {kl nl kx nx kf nf ko no : Int} (h : Keep4 w0 w bl bx bf bo kl nl kx nx kf nf ko no ∧ (w.cell? ⟨bl, 0, none⟩ = some (.int .i64 kl) ∧ w.cell? ⟨bl, 1, none⟩ = some (.int .i64 nl) ∧ w.cell? ⟨bl, 2, none⟩ = some (.string ⟨#[]⟩)) ∧ (w.cell? ⟨bx, 0, none⟩ = some (.int .i64 kx) ∧ w.cell? ⟨bx, 1, none⟩ = some (.int .i64 nx) ∧ w.cell? ⟨bx, 2, none⟩ = some (.string ⟨#[]⟩)) ∧ (w.cell? ⟨bf, 0, none⟩ = some (.int .i64 kf) ∧ w.cell? ⟨bf, 1, none⟩ = some (.int .i64 nf) ∧ w.cell? ⟨bf, 2, none⟩ = some (.string ⟨#[]⟩)) ∧ (w.cell? ⟨bo, 0, none⟩ = some (.int .i64 ko) ∧ w.cell? ⟨bo, 1, none⟩ = some (.int .i64 no) ∧ w.cell? ⟨bo, 2, none⟩ = some (.string ⟨#[]⟩))) (hb : Below w.heap.size w w1) :
    Keep4 w0 w1 bl bx bf bo kl nl kx nx kf nf ko no ∧ (w1.cell? ⟨bl, 0, none⟩ = some (.int .i64 kl) ∧ w1.cell? ⟨bl, 1, none⟩ = some (.int .i64 nl) ∧ w1.cell? ⟨bl, 2, none⟩ = some (.string ⟨#[]⟩)) ∧ (w1.cell? ⟨bx, 0, none⟩ = some (.int .i64 kx) ∧ w1.cell? ⟨bx, 1, none⟩ = some (.int .i64 nx) ∧ w1.cell? ⟨bx, 2, none⟩ = some (.string ⟨#[]⟩)) ∧ (w1.cell? ⟨bf, 0, none⟩ = some (.int .i64 kf) ∧ w1.cell? ⟨bf, 1, none⟩ = some (.int .i64 nf) ∧ w1.cell? ⟨bf, 2, none⟩ = some (.string ⟨#[]⟩)) ∧ (w1.cell? ⟨bo, 0, none⟩ = some (.int .i64 ko) ∧ w1.cell? ⟨bo, 1, none⟩ = some (.int .i64 no) ∧ w1.cell? ⟨bo, 2, none⟩ = some (.string ⟨#[]⟩)) :=
  have k := h.1.below hb
  ⟨k, k.l.c, k.x.c, k.f.c, k.o.c⟩
theorem keep4_below {w0 w : World} {bl bx bf bo : Nat} {kl nl kx nx kf nf ko no : Int} (h : Keep4 w0 w bl bx bf bo kl nl kx nx kf nf ko no ∧ (w.cell? ⟨bl, 0, none⟩ = some (.int .i64 kl) ∧ w.cell? ⟨bl, 1, none⟩ = some (.int .i64 nl) ∧ w.cell? ⟨bl, 2, none⟩ = some (.string ⟨#[]⟩)) ∧ (w.cell? ⟨bx, 0, none⟩ = some (.int .i64 kx) ∧ w.cell? ⟨bx, 1, none⟩ = some (.int .i64 nx) ∧ w.cell? ⟨bx, 2, none⟩ = some (.string ⟨#[]⟩)) ∧ (w.cell? ⟨bf, 0, none⟩ = some (.int .i64 kf) ∧ w.cell? ⟨bf, 1, none⟩ = some (.int .i64 nf) ∧ w.cell? ⟨bf, 2, none⟩ = some (.string ⟨#[]⟩)) ∧ (w.cell? ⟨bo, 0, none⟩ = some (.int .i64 ko) ∧ w.cell? ⟨bo, 1, none⟩ = some (.int .i64 no) ∧ w.cell? ⟨bo, 2, none⟩ = some (.string ⟨#[]⟩))) : Below w0.heap.size w0 w := h.1.u

def cnt (L M S : Bool) : Nat → Int
  | 0 => 0
  | 1 => b2i L
  | 2 => b2i L + b2i M
  | _ => b2i L + b2i M + b2i S
theorem tru_b (t : Bool) : tru 1 (b2i t) ⟨#[]⟩ = t := by cases t <;> decide +kernel
theorem tru_at (t : Bool) (w : World) : Calls Tryd.prog 11 #[.agg #[.int .i64 1, .int .i64 (b2i t), .string ⟨#[]⟩]] w fun e w' => e = .returned (.bool t) ∧ Below w.heap.size w w' := by
  have h := tru_any 1 (b2i t) ⟨#[]⟩ w maxLen_0
  rw [tru_b] at h
  exact h
theorem pick_0 (w : World) (x0 x1 x2 y0 y1 y2 z0 z1 z2 : Value) : (Instr.index 32 (.agg #[x0, x1, x2, y0, y1, y2, z0, z1, z2]) (.int .i64 0)).run Tryd.prog w = .ok (.agg #[x0, x1, x2]) w := by kernel_rfl
theorem pick_1 (w : World) (x0 x1 x2 y0 y1 y2 z0 z1 z2 : Value) : (Instr.index 32 (.agg #[x0, x1, x2, y0, y1, y2, z0, z1, z2]) (.int .i64 1)).run Tryd.prog w = .ok (.agg #[y0, y1, y2]) w := by kernel_rfl
theorem pick_2 (w : World) (x0 x1 x2 y0 y1 y2 z0 z1 z2 : Value) : (Instr.index 32 (.agg #[x0, x1, x2, y0, y1, y2, z0, z1, z2]) (.int .i64 2)).run Tryd.prog w = .ok (.agg #[z0, z1, z2]) w := by kernel_rfl

set_option maxRecDepth 100000 in
set_option maxHeartbeats 1000000 in
theorem order_kind (k1 n1 : Int) (s1 : ByteArray) (k2 n2 : Int) (s2 : ByteArray) (k3 n3 : Int) (s3 : ByteArray) (w : World) (ht : Tab w) (K3 N3 K4 N4 K5 N5 K6 N6 : Int) (e3 e4 e5 e6 : ByteArray)
    (H1 : BinAt ⟨#[60]⟩ k1 n1 s1 k2 n2 s2 0 0 sKind) (H2 : BinAt ⟨#[62]⟩ k1 n1 s1 k2 n2 s2 0 0 sKind) (H3 : BinAt ⟨#[61, 61]⟩ k1 n1 s1 k2 n2 s2 K3 N3 e3)
    (H4 : BinAt ⟨#[60]⟩ k2 n2 s2 k3 n3 s3 K4 N4 e4) (H5 : BinAt ⟨#[60]⟩ k1 n1 s1 k3 n3 s3 K5 N5 e5) (H6 : BinAt ⟨#[62, 61]⟩ k1 n1 s1 k2 n2 s2 K6 N6 e6) :
    Calls Tryd.prog 5 #[.agg #[.int .i64 k1, .int .i64 n1, .string s1], .agg #[.int .i64 k2, .int .i64 n2, .string s2], .agg #[.int .i64 k3, .int .i64 n3, .string s3]] w fun e w' => e = .returned (.bool true) ∧ Below w.heap.size w w' := by
  have hK : sKind = ⟨#[107, 105, 110, 100]⟩ := rfl
  have HT := Lib.hid ht
  clear ht
  have a0 := ((Box.new w k1 n1 s1).alloc (.cells #[.int .i64 k2, .int .i64 n2, .string s2] 23)).alloc (.cells #[.int .i64 k3, .int .i64 n3, .string s3] 23)
  have b0 := (Box.new (w.alloc (.cells #[.int .i64 k1, .int .i64 n1, .string s1] 23)) k2 n2 s2).alloc (.cells #[.int .i64 k3, .int .i64 n3, .string s3] 23)
  have c0 := Box.new ((w.alloc (.cells #[.int .i64 k1, .int .i64 n1, .string s1] 23)).alloc (.cells #[.int .i64 k2, .int .i64 n2, .string s2] 23)) k3 n3 s3
  have V0 := Lib.hid ((((Below.refl w.heap.size w).alloc (Nat.le_refl _) (.cells #[.int .i64 k1, .int .i64 n1, .string s1] 23)).alloc (by simp) (.cells #[.int .i64 k2, .int .i64 n2, .string s2] 23)).alloc (by simp; omega) (.cells #[.int .i64 k3, .int .i64 n3, .string s3] 23))
  rw [show (w.alloc (.cells #[.int .i64 k1, .int .i64 n1, .string s1] 23)).heap.size = w.heap.size + 1 by simp] at b0
  rw [show ((w.alloc (.cells #[.int .i64 k1, .int .i64 n1, .string s1] 23)).alloc (.cells #[.int .i64 k2, .int .i64 n2, .string s2] 23)).heap.size = w.heap.size + 1 + 1 by simp] at c0
  go_enter Tryd.func5, Tryd.ntmps5
  go_wp2_with fail
  refine (H1.at (HT.out.below V0.out)).mono ?_
  rintro e u1 he
  obtain ⟨rfl, hb_u1⟩ := he.eq
  have a_u1 := a0.below hb_u1
  have b_u1 := b0.below hb_u1
  have c_u1 := c0.below hb_u1
  have V_u1 := Lib.hid (V0.out.trans (hb_u1.mono V0.out.size))
  clear hb_u1 V0 a0 b0 c0 he
  have Fc_a := a_u1.c
  have Fl_a := a_u1.l
  have Fc_b := b_u1.c
  have Fl_b := b_u1.l
  have Fc_c := c_u1.c
  have Fl_c := c_u1.l
  go_wp2_with fail
  clear Fc_a Fl_a Fc_b Fl_b Fc_c Fl_c
  have a_u1a := a_u1.alloc (.cells #[.int .i64 0, .int .i64 0, .string ⟨#[]⟩] 23)
  have b_u1a := b_u1.alloc (.cells #[.int .i64 0, .int .i64 0, .string ⟨#[]⟩] 23)
  have c_u1a := c_u1.alloc (.cells #[.int .i64 0, .int .i64 0, .string ⟨#[]⟩] 23)
  have l_u1a := Box.new u1 0 0 ⟨#[]⟩
  have V_u1a := Lib.hid (V_u1.out.alloc V_u1.out.size (.cells #[.int .i64 0, .int .i64 0, .string ⟨#[]⟩] 23))
  clear V_u1 a_u1 b_u1 c_u1
  refine (H2.at (HT.out.below V_u1a.out)).mono ?_
  rintro e u2 he
  obtain ⟨rfl, hb_u2⟩ := he.eq
  have a_u2 := a_u1a.below hb_u2
  have b_u2 := b_u1a.below hb_u2
  have c_u2 := c_u1a.below hb_u2
  have l_u2 := l_u1a.below hb_u2
  have V_u2 := Lib.hid (V_u1a.out.trans (hb_u2.mono V_u1a.out.size))
  clear hb_u2 V_u1a a_u1a b_u1a c_u1a l_u1a he
  have Fc_a := a_u2.c
  have Fl_a := a_u2.l
  have Fc_b := b_u2.c
  have Fl_b := b_u2.l
  have Fc_c := c_u2.c
  have Fl_c := c_u2.l
  have Fc_l := l_u2.c
  have Fl_l := l_u2.l
  go_wp2_with fail
  clear Fc_a Fl_a Fc_b Fl_b Fc_c Fl_c Fc_l Fl_l
  have a_u2a := a_u2.alloc (.cells #[.int .i64 0, .int .i64 0, .string ⟨#[]⟩] 23)
  have b_u2a := b_u2.alloc (.cells #[.int .i64 0, .int .i64 0, .string ⟨#[]⟩] 23)
  have c_u2a := c_u2.alloc (.cells #[.int .i64 0, .int .i64 0, .string ⟨#[]⟩] 23)
  have l_u2a := l_u2.alloc (.cells #[.int .i64 0, .int .i64 0, .string ⟨#[]⟩] 23)
  have m_u2a := Box.new u2 0 0 ⟨#[]⟩
  have V_u2a := Lib.hid (V_u2.out.alloc V_u2.out.size (.cells #[.int .i64 0, .int .i64 0, .string ⟨#[]⟩] 23))
  clear V_u2 a_u2 b_u2 c_u2 l_u2
  refine (H3.at (HT.out.below V_u2a.out)).mono ?_
  rintro e u3 he
  obtain ⟨rfl, hb_u3⟩ := he.eq
  have a_u3 := a_u2a.below hb_u3
  have b_u3 := b_u2a.below hb_u3
  have c_u3 := c_u2a.below hb_u3
  have l_u3 := l_u2a.below hb_u3
  have m_u3 := m_u2a.below hb_u3
  have V_u3 := Lib.hid (V_u2a.out.trans (hb_u3.mono V_u2a.out.size))
  clear hb_u3 V_u2a a_u2a b_u2a c_u2a l_u2a m_u2a he
  have Fc_a := a_u3.c
  have Fl_a := a_u3.l
  have Fc_b := b_u3.c
  have Fl_b := b_u3.l
  have Fc_c := c_u3.c
  have Fl_c := c_u3.l
  have Fc_l := l_u3.c
  have Fl_l := l_u3.l
  have Fc_m := m_u3.c
  have Fl_m := m_u3.l
  go_wp2_with fail
  clear Fc_a Fl_a Fc_b Fl_b Fc_c Fl_c Fc_l Fl_l Fc_m Fl_m
  have a_u3a := a_u3.alloc (.cells #[.int .i64 K3, .int .i64 N3, .string ⟨#[]⟩] 23)
  have b_u3a := b_u3.alloc (.cells #[.int .i64 K3, .int .i64 N3, .string ⟨#[]⟩] 23)
  have c_u3a := c_u3.alloc (.cells #[.int .i64 K3, .int .i64 N3, .string ⟨#[]⟩] 23)
  have l_u3a := l_u3.alloc (.cells #[.int .i64 K3, .int .i64 N3, .string ⟨#[]⟩] 23)
  have m_u3a := m_u3.alloc (.cells #[.int .i64 K3, .int .i64 N3, .string ⟨#[]⟩] 23)
  have s_u3a := Box.new u3 K3 N3 ⟨#[]⟩
  have V_u3a := Lib.hid (V_u3.out.alloc V_u3.out.size (.cells #[.int .i64 K3, .int .i64 N3, .string ⟨#[]⟩] 23))
  clear V_u3 a_u3 b_u3 c_u3 l_u3 m_u3
  refine (H4.at (HT.out.below V_u3a.out)).mono ?_
  rintro e u4 he
  obtain ⟨rfl, hb_u4⟩ := he.eq
  have a_u4 := a_u3a.below hb_u4
  have b_u4 := b_u3a.below hb_u4
  have c_u4 := c_u3a.below hb_u4
  have l_u4 := l_u3a.below hb_u4
  have m_u4 := m_u3a.below hb_u4
  have s_u4 := s_u3a.below hb_u4
  have V_u4 := Lib.hid (V_u3a.out.trans (hb_u4.mono V_u3a.out.size))
  clear hb_u4 V_u3a a_u3a b_u3a c_u3a l_u3a m_u3a s_u3a he
  have Fc_a := a_u4.c
  have Fl_a := a_u4.l
  have Fc_b := b_u4.c
  have Fl_b := b_u4.l
  have Fc_c := c_u4.c
  have Fl_c := c_u4.l
  have Fc_l := l_u4.c
  have Fl_l := l_u4.l
  have Fc_m := m_u4.c
  have Fl_m := m_u4.l
  have Fc_s := s_u4.c
  have Fl_s := s_u4.l
  go_wp2_with fail
  clear Fc_a Fl_a Fc_b Fl_b Fc_c Fl_c Fc_l Fl_l Fc_m Fl_m Fc_s Fl_s
  have a_u4a := a_u4.alloc (.cells #[.int .i64 K4, .int .i64 N4, .string ⟨#[]⟩] 23)
  have b_u4a := b_u4.alloc (.cells #[.int .i64 K4, .int .i64 N4, .string ⟨#[]⟩] 23)
  have c_u4a := c_u4.alloc (.cells #[.int .i64 K4, .int .i64 N4, .string ⟨#[]⟩] 23)
  have l_u4a := l_u4.alloc (.cells #[.int .i64 K4, .int .i64 N4, .string ⟨#[]⟩] 23)
  have m_u4a := m_u4.alloc (.cells #[.int .i64 K4, .int .i64 N4, .string ⟨#[]⟩] 23)
  have s_u4a := s_u4.alloc (.cells #[.int .i64 K4, .int .i64 N4, .string ⟨#[]⟩] 23)
  have x_u4a := Box.new u4 K4 N4 ⟨#[]⟩
  have V_u4a := Lib.hid (V_u4.out.alloc V_u4.out.size (.cells #[.int .i64 K4, .int .i64 N4, .string ⟨#[]⟩] 23))
  clear V_u4 a_u4 b_u4 c_u4 l_u4 m_u4 s_u4
  refine (H5.at (HT.out.below V_u4a.out)).mono ?_
  rintro e u5 he
  obtain ⟨rfl, hb_u5⟩ := he.eq
  have a_u5 := a_u4a.below hb_u5
  have b_u5 := b_u4a.below hb_u5
  have c_u5 := c_u4a.below hb_u5
  have l_u5 := l_u4a.below hb_u5
  have m_u5 := m_u4a.below hb_u5
  have s_u5 := s_u4a.below hb_u5
  have x_u5 := x_u4a.below hb_u5
  have V_u5 := Lib.hid (V_u4a.out.trans (hb_u5.mono V_u4a.out.size))
  clear hb_u5 V_u4a a_u4a b_u4a c_u4a l_u4a m_u4a s_u4a x_u4a he
  have Fc_a := a_u5.c
  have Fl_a := a_u5.l
  have Fc_b := b_u5.c
  have Fl_b := b_u5.l
  have Fc_c := c_u5.c
  have Fl_c := c_u5.l
  have Fc_l := l_u5.c
  have Fl_l := l_u5.l
  have Fc_m := m_u5.c
  have Fl_m := m_u5.l
  have Fc_s := s_u5.c
  have Fl_s := s_u5.l
  have Fc_x := x_u5.c
  have Fl_x := x_u5.l
  go_wp2_with fail
  clear Fc_a Fl_a Fc_b Fl_b Fc_c Fl_c Fc_l Fl_l Fc_m Fl_m Fc_s Fl_s Fc_x Fl_x
  have a_u5a := a_u5.alloc (.cells #[.int .i64 K5, .int .i64 N5, .string ⟨#[]⟩] 23)
  have b_u5a := b_u5.alloc (.cells #[.int .i64 K5, .int .i64 N5, .string ⟨#[]⟩] 23)
  have c_u5a := c_u5.alloc (.cells #[.int .i64 K5, .int .i64 N5, .string ⟨#[]⟩] 23)
  have l_u5a := l_u5.alloc (.cells #[.int .i64 K5, .int .i64 N5, .string ⟨#[]⟩] 23)
  have m_u5a := m_u5.alloc (.cells #[.int .i64 K5, .int .i64 N5, .string ⟨#[]⟩] 23)
  have s_u5a := s_u5.alloc (.cells #[.int .i64 K5, .int .i64 N5, .string ⟨#[]⟩] 23)
  have x_u5a := x_u5.alloc (.cells #[.int .i64 K5, .int .i64 N5, .string ⟨#[]⟩] 23)
  have f_u5a := Box.new u5 K5 N5 ⟨#[]⟩
  have V_u5a := Lib.hid (V_u5.out.alloc V_u5.out.size (.cells #[.int .i64 K5, .int .i64 N5, .string ⟨#[]⟩] 23))
  clear V_u5 a_u5 b_u5 c_u5 l_u5 m_u5 s_u5 x_u5
  refine (H6.at (HT.out.below V_u5a.out)).mono ?_
  rintro e u6 he
  obtain ⟨rfl, hb_u6⟩ := he.eq
  have a_u6 := a_u5a.below hb_u6
  have b_u6 := b_u5a.below hb_u6
  have c_u6 := c_u5a.below hb_u6
  have l_u6 := l_u5a.below hb_u6
  have m_u6 := m_u5a.below hb_u6
  have s_u6 := s_u5a.below hb_u6
  have x_u6 := x_u5a.below hb_u6
  have f_u6 := f_u5a.below hb_u6
  have V_u6 := Lib.hid (V_u5a.out.trans (hb_u6.mono V_u5a.out.size))
  clear hb_u6 V_u5a a_u5a b_u5a c_u5a l_u5a m_u5a s_u5a x_u5a f_u5a he
  have Fc_a := a_u6.c
  have Fl_a := a_u6.l
  have Fc_b := b_u6.c
  have Fl_b := b_u6.l
  have Fc_c := c_u6.c
  have Fl_c := c_u6.l
  have Fc_l := l_u6.c
  have Fl_l := l_u6.l
  have Fc_m := m_u6.c
  have Fl_m := m_u6.l
  have Fc_s := s_u6.c
  have Fl_s := s_u6.l
  have Fc_x := x_u6.c
  have Fl_x := x_u6.l
  have Fc_f := f_u6.c
  have Fl_f := f_u6.l
  go_wp2_with fail
  clear Fc_a Fl_a Fc_b Fl_b Fc_c Fl_c Fc_l Fl_l Fc_m Fl_m Fc_s Fl_s Fc_x Fl_x Fc_f Fl_f
  have a_u6a := a_u6.alloc (.cells #[.int .i64 K6, .int .i64 N6, .string ⟨#[]⟩] 23)
  have b_u6a := b_u6.alloc (.cells #[.int .i64 K6, .int .i64 N6, .string ⟨#[]⟩] 23)
  have c_u6a := c_u6.alloc (.cells #[.int .i64 K6, .int .i64 N6, .string ⟨#[]⟩] 23)
  have l_u6a := l_u6.alloc (.cells #[.int .i64 K6, .int .i64 N6, .string ⟨#[]⟩] 23)
  have m_u6a := m_u6.alloc (.cells #[.int .i64 K6, .int .i64 N6, .string ⟨#[]⟩] 23)
  have s_u6a := s_u6.alloc (.cells #[.int .i64 K6, .int .i64 N6, .string ⟨#[]⟩] 23)
  have x_u6a := x_u6.alloc (.cells #[.int .i64 K6, .int .i64 N6, .string ⟨#[]⟩] 23)
  have f_u6a := f_u6.alloc (.cells #[.int .i64 K6, .int .i64 N6, .string ⟨#[]⟩] 23)
  have o_u6a := Box.new u6 K6 N6 ⟨#[]⟩
  have V_u6a := Lib.hid (V_u6.out.alloc V_u6.out.size (.cells #[.int .i64 K6, .int .i64 N6, .string ⟨#[]⟩] 23))
  clear V_u6 a_u6 b_u6 c_u6 l_u6 m_u6 s_u6 x_u6 f_u6
  refine (lives_any _ (HT.out.below V_u6a.out)).mono ?_
  rintro e u7 ⟨rfl, hb_u7⟩
  have a_u7 := a_u6a.below hb_u7
  have b_u7 := b_u6a.below hb_u7
  have c_u7 := c_u6a.below hb_u7
  have l_u7 := l_u6a.below hb_u7
  have m_u7 := m_u6a.below hb_u7
  have s_u7 := s_u6a.below hb_u7
  have x_u7 := x_u6a.below hb_u7
  have f_u7 := f_u6a.below hb_u7
  have o_u7 := o_u6a.below hb_u7
  have V_u7 := Lib.hid (V_u6a.out.trans (hb_u7.mono V_u6a.out.size))
  clear hb_u7 V_u6a a_u6a b_u6a c_u6a l_u6a m_u6a s_u6a x_u6a f_u6a o_u6a
  have Fc_a := a_u7.c
  have Fl_a := a_u7.l
  have Fc_b := b_u7.c
  have Fl_b := b_u7.l
  have Fc_c := c_u7.c
  have Fl_c := c_u7.l
  have Fc_l := l_u7.c
  have Fl_l := l_u7.l
  have Fc_m := m_u7.c
  have Fl_m := m_u7.l
  have Fc_s := s_u7.c
  have Fl_s := s_u7.l
  have Fc_x := x_u7.c
  have Fl_x := x_u7.l
  have Fc_f := f_u7.c
  have Fl_f := f_u7.l
  have Fc_o := o_u7.c
  have Fl_o := o_u7.l
  go_wp2_with fail
  clear Fc_a Fl_a Fc_b Fl_b Fc_c Fl_c Fc_l Fl_l Fc_m Fl_m Fc_s Fl_s Fc_x Fl_x Fc_f Fl_f Fc_o Fl_o
  refine (lives_any _ (HT.out.below V_u7.out)).mono ?_
  rintro e u8 ⟨rfl, hb_u8⟩
  have a_u8 := a_u7.below hb_u8
  have b_u8 := b_u7.below hb_u8
  have c_u8 := c_u7.below hb_u8
  have l_u8 := l_u7.below hb_u8
  have m_u8 := m_u7.below hb_u8
  have s_u8 := s_u7.below hb_u8
  have x_u8 := x_u7.below hb_u8
  have f_u8 := f_u7.below hb_u8
  have o_u8 := o_u7.below hb_u8
  have V_u8 := Lib.hid (V_u7.out.trans (hb_u8.mono V_u7.out.size))
  clear hb_u8 V_u7 a_u7 b_u7 c_u7 l_u7 m_u7 s_u7 x_u7 f_u7 o_u7
  have Fc_a := a_u8.c
  have Fl_a := a_u8.l
  have Fc_b := b_u8.c
  have Fl_b := b_u8.l
  have Fc_c := c_u8.c
  have Fl_c := c_u8.l
  have Fc_l := l_u8.c
  have Fl_l := l_u8.l
  have Fc_m := m_u8.c
  have Fl_m := m_u8.l
  have Fc_s := s_u8.c
  have Fl_s := s_u8.l
  have Fc_x := x_u8.c
  have Fl_x := x_u8.l
  have Fc_f := f_u8.c
  have Fl_f := f_u8.l
  have Fc_o := o_u8.c
  have Fl_o := o_u8.l
  go_wp2_with fail
  clear Fc_a Fl_a Fc_b Fl_b Fc_c Fl_c Fc_l Fl_l Fc_m Fl_m Fc_s Fl_s Fc_x Fl_x Fc_f Fl_f Fc_o Fl_o
  go_ret
  exact ⟨rfl, V_u8.out⟩
end Go.Proofs.YtdabikbeoanhpaaDoor
