/- The law ValueSame, a part of its cases. -/
import Derived.Test.YtdabikbeoanhpaaDoorV15
namespace Go.Proofs.YtdabikbeoanhpaaDoor
open Go.RowKit
attribute [local go_sem ↓] Go.wp_at_zero Go.wp_at_succ
set_option maxRecDepth 100000 in
set_option maxHeartbeats 4000000 in
theorem same_true_false (k1 n1 : Int) (s1 : ByteArray) (k2 n2 : Int) (s2 : ByteArray) (w : World) (ht : Tab w)
    (H0 : Says 12 #[.string ⟨#[33]⟩, .agg #[.int .i64 k1, .int .i64 n1, .string s1]] (.tuple #[.agg #[.int .i64 1, .int .i64 (b2i false), .string ⟨#[]⟩], .string ⟨#[]⟩]))
    (H1 : Says 13 #[.agg #[.int .i64 k1, .int .i64 n1, .string s1], .agg #[.int .i64 k1, .int .i64 n1, .string s1]] (.bool true)) (H2 : Says 13 #[.agg #[.int .i64 k1, .int .i64 n1, .string s1], .agg #[.int .i64 k2, .int .i64 n2, .string s2]] (.bool false)) (H3 : Says 13 #[.agg #[.int .i64 k2, .int .i64 n2, .string s2], .agg #[.int .i64 k1, .int .i64 n1, .string s1]] (.bool false)) (H4 : Says 11 #[.agg #[.int .i64 k1, .int .i64 n1, .string s1]] (.bool true)) :
    Calls Tryd.prog 6 #[.agg #[.int .i64 k1, .int .i64 n1, .string s1], .agg #[.int .i64 k2, .int .i64 n2, .string s2]] w fun e w' => e = .returned (.bool true) ∧ Below w.heap.size w w' := by
  have HT := Lib.hid ht
  clear ht
  have a0 := (Box.new w k1 n1 s1).alloc (.cells #[.int .i64 k2, .int .i64 n2, .string s2] 23)
  have b0 := Box.new (w.alloc (.cells #[.int .i64 k1, .int .i64 n1, .string s1] 23)) k2 n2 s2
  have V0 := Lib.hid (((Below.refl w.heap.size w).alloc (Nat.le_refl _) (.cells #[.int .i64 k1, .int .i64 n1, .string s1] 23)).alloc (by simp) (.cells #[.int .i64 k2, .int .i64 n2, .string s2] 23))
  rw [show (w.alloc (.cells #[.int .i64 k1, .int .i64 n1, .string s1] 23)).heap.size = w.heap.size + 1 by simp] at b0
  go_enter Tryd.func6, Tryd.ntmps6
  go_wp2_with fail
  refine (H0.at (HT.out.below V0.out)).mono ?_
  rintro e u1 ⟨rfl, hb_u1⟩
  have a_u1 := a0.below hb_u1
  have b_u1 := b0.below hb_u1
  have V_u1 := Lib.hid (V0.out.trans (hb_u1.mono V0.out.size))
  clear hb_u1 V0 a0 b0
  have Fc_a := a_u1.c
  have Fl_a := a_u1.l
  have Fc_b := b_u1.c
  have Fl_b := b_u1.l
  go_wp2_with fail
  clear Fc_a Fl_a Fc_b Fl_b
  have a_u1a := a_u1.alloc (.cells #[.int .i64 1, .int .i64 (b2i false), .string ⟨#[]⟩] 23)
  have b_u1a := b_u1.alloc (.cells #[.int .i64 1, .int .i64 (b2i false), .string ⟨#[]⟩] 23)
  have n_u1a := Box.new u1 1 (b2i false) ⟨#[]⟩
  have V_u1a := Lib.hid (V_u1.out.alloc V_u1.out.size (.cells #[.int .i64 1, .int .i64 (b2i false), .string ⟨#[]⟩] 23))
  clear V_u1 a_u1 b_u1
  refine (not_at false _).mono ?_
  rintro e u2 ⟨rfl, hb_u2⟩
  have a_u2 := a_u1a.below hb_u2
  have b_u2 := b_u1a.below hb_u2
  have n_u2 := n_u1a.below hb_u2
  have V_u2 := Lib.hid (V_u1a.out.trans (hb_u2.mono V_u1a.out.size))
  clear hb_u2 V_u1a a_u1a b_u1a n_u1a
  have Fc_a := a_u2.c
  have Fl_a := a_u2.l
  have Fc_b := b_u2.c
  have Fl_b := b_u2.l
  have Fc_n := n_u2.c
  have Fl_n := n_u2.l
  go_wp2_with fail
  clear Fc_a Fl_a Fc_b Fl_b Fc_n Fl_n
  have a_u2a := a_u2.alloc (.cells #[.int .i64 1, .int .i64 (b2i true), .string ⟨#[]⟩] 23)
  have b_u2a := b_u2.alloc (.cells #[.int .i64 1, .int .i64 (b2i true), .string ⟨#[]⟩] 23)
  have n_u2a := n_u2.alloc (.cells #[.int .i64 1, .int .i64 (b2i true), .string ⟨#[]⟩] 23)
  have m_u2a := Box.new u2 1 (b2i true) ⟨#[]⟩
  have V_u2a := Lib.hid (V_u2.out.alloc V_u2.out.size (.cells #[.int .i64 1, .int .i64 (b2i true), .string ⟨#[]⟩] 23))
  clear V_u2 a_u2 b_u2 n_u2
  have he := empties
  have kp : KeepS w _ w.heap.size (w.heap.size + 1) u1.heap.size u2.heap.size k1 n1 s1 k2 n2 s2 (b2i false) (b2i true) := ⟨a_u2a, b_u2a, n_u2a, m_u2a, V_u2a.out⟩
  clear a_u2a b_u2a n_u2a m_u2a V_u2a
  generalize u1.heap.size = U1 at *
  generalize u2.heap.size = U2 at *
  generalize u2.alloc (.cells #[.int .i64 1, .int .i64 (b2i true), .string ⟨#[]⟩] 23) = W at *
  have F0 := keepS ⟨kp, kp.a.c, kp.b.c, kp.n.c, kp.m.c⟩ (Below.drew (Below.refl _ _))
  clear kp u1 u2
  go_region_held3 (fun w' => KeepS w w' w.heap.size (w.heap.size + 1) U1 U2 k1 n1 s1 k2 n2 s2 (b2i false) (b2i true) ∧ (w'.cell? ⟨w.heap.size, 0, none⟩ = some (.int .i64 k1) ∧ w'.cell? ⟨w.heap.size, 1, none⟩ = some (.int .i64 n1) ∧ w'.cell? ⟨w.heap.size, 2, none⟩ = some (.string s1)) ∧ (w'.cell? ⟨w.heap.size + 1, 0, none⟩ = some (.int .i64 k2) ∧ w'.cell? ⟨w.heap.size + 1, 1, none⟩ = some (.int .i64 n2) ∧ w'.cell? ⟨w.heap.size + 1, 2, none⟩ = some (.string s2)) ∧ (w'.cell? ⟨U1, 0, none⟩ = some (.int .i64 1) ∧ w'.cell? ⟨U1, 1, none⟩ = some (.int .i64 (b2i false)) ∧ w'.cell? ⟨U1, 2, none⟩ = some (.string ⟨#[]⟩)) ∧ (w'.cell? ⟨U2, 0, none⟩ = some (.int .i64 1) ∧ w'.cell? ⟨U2, 1, none⟩ = some (.int .i64 (b2i true)) ∧ w'.cell? ⟨U2, 2, none⟩ = some (.string ⟨#[]⟩)))
    (first | assumption | exact keepS (by assumption) (by assumption) | exact keepS (by assumption) (Below.drew (Below.refl _ _)))
    (first
        | (go_at_call 8; refine (lives_any _ (HT.out.below (keepS_below (by assumption)))).mono ?_; rintro e w' ⟨rfl, hb⟩)
        | (go_at_call 13; (first | (with_reducible refine (H1.at (HT.out.below (keepS_below (by assumption)))).mono ?_) | (with_reducible refine (H2.at (HT.out.below (keepS_below (by assumption)))).mono ?_) | (with_reducible refine (H3.at (HT.out.below (keepS_below (by assumption)))).mono ?_)); rintro e w' ⟨rfl, hb⟩)
        | (go_at_call 11; with_reducible refine (tru_atS true _).mono ?_; rintro e w' ⟨rfl, hb⟩)
        | (go_at_call 11; with_reducible refine (tru_atS false _).mono ?_; rintro e w' ⟨rfl, hb⟩)
        | (go_at_call 11; with_reducible refine (H4.at (HT.out.below (keepS_below (by assumption)))).mono ?_; rintro e w' ⟨rfl, hb⟩))
  go_wp2_with fail
  have K9 := keepS_at (by assumption)
  have KU := Lib.hid K9.u
  have ga := K9.a.regrown
  have gb := K9.b.regrown
  clear K9 F0
  refine wp_region_quiet_below (by kernel_rfl) (by kernel_rfl) ?_
  repeat (first
    | go_big_quiet_step (exact Calls.regrown_of (H2.at (HT.out.below (KU.out.trans ((below_regrown _ _ _).mono KU.out.size)))))
    | quiet_step (exact Calls.regrown_of (H2.at (HT.out.below (KU.out.trans ((below_regrown _ _ _).mono KU.out.size))))))
  refine wpQuiet_nil ?_
  intro _ hw'
  obtain ⟨⟨dq, osq⟩, hw''⟩ := hw'
  subst hw''
  go_wp2_with fail
  go_ret
  exact ⟨rfl, KU.out.trans ((below_regrown _ _ _).mono KU.out.size)⟩
end Go.Proofs.YtdabikbeoanhpaaDoor
