/- The contract of trail.own. -/
import Derived.Test.YtjcejijdeohkgaaGreatDoorT6
namespace Go.Proofs.YtjcejijdeohkgaaGreatDoor
open Go.RowKit

/-- Two blocks of the call's own. -/
structure BX (w wy : World) (A : Nat) (o0 o1 : Obj) : Prop where
  bl : Below w.heap.size w wy
  a : wy.heap[A]? = some o0
  b : wy.heap[A + 1]? = some o1
theorem BX.call {w wy w' : World} {A : Nat} {o0 o1 : Obj} (h : BX w wy A o0 o1) (hb : Below wy.heap.size wy w') : BX w w' A o0 o1 := ⟨h.bl.trans (Below.le hb h.bl.size), (hb.block _ (lt_of_heap h.a)).trans h.a, (hb.block _ (lt_of_heap h.b)).trans h.b⟩
theorem BX.drew {w wy : World} {A : Nat} {o0 o1 : Obj} (h : BX w wy A o0 o1) : BX w wy.drew A o0 o1 := h.call ⟨rfl, rfl, rfl, Nat.le_refl _, fun _ _ => rfl⟩
theorem BX.drewN {w wy : World} {A : Nat} {o0 o1 : Obj} (h : BX w wy A o0 o1) (n : Nat) : BX w (wy.drewN n) A o0 o1 := h.call ⟨rfl, rfl, rfl, Nat.le_refl _, fun _ _ => rfl⟩
theorem BX.alloc {w wy : World} {A : Nat} {o0 o1 : Obj} (h : BX w wy A o0 o1) (o : Obj) : BX w (wy.alloc o) A o0 o1 := h.call ((Below.refl _ _).alloc (Nat.le_refl _) _)
theorem BX.start {w : World} {A : Nat} (hA : w.heap.size = A) (o0 o1 : Obj) : BX w ((w.alloc o0).alloc o1) A o0 o1 := by
  have L := Loc.start2 (w := w) o0 o1
  have k0 := L.k0
  have k1 := L.k1
  rw [hA] at k0 k1
  exact ⟨L.bl, k0, k1⟩
theorem call77 (args : Array Value) (w : World) : Sem.run Tryz.prog (callFunc 77 args) w = .ok (.enter 77 args) w := by go_simp
set_option maxRecDepth 100000 in
set_option maxHeartbeats 16000000 in
theorem town_any (a : Option Addr) (c : Nat) (t : Tr) (ref state : Bs) (w : World) (h : SlR w EnB 3 (.slice a t.l.length c) t.l) (hT : TB w) : Calls Tryz.prog 77 #[.agg #[.slice a t.l.length c, .int .i64 t.pos], .string (bs ref), .string (bs state)] w fun e w' => e = .returned (.tuple #[(ownT t ref state).1.v, .int .i64 (ownT t ref state).2]) ∧ Below w.heap.size w w' := by
  have p73 := call73
  have p74 := call74
  have p111 := call111
  have pfu := field_url
  have pfd := field_doc
  have HTB := Lib.hid hT
  obtain ⟨R, hR⟩ : ∃ R, ownT t ref state = R := ⟨_, rfl⟩
  rw [hR]
  have HOK := Lib.hid (fun h0 => (resolved_ok (t := t) (ref := ref) h0).1)
  unfold ownT at hR
  have HR := Lib.hid hR
  have HRV := Lib.hid (fun (w9 : World) (hb : Below w.heap.size w w9) => resolved_any a c t ref w9 (slE_below h hb) (hT.below hb))
  have HH := Lib.hid (fun (hc : Right t) (w9 : World) (hb : Below w.heap.size w w9) => here_any a c t w9 (slE_below h hb) hc.p)
  have HO := Lib.hid (fun (s : Bs) (w9 : World) (hb : Below w.heap.size w w9) => orgT_any s w9 (hT.below hb))
  clear h hT hR
  generalize hereE t = HE at *
  generalize resolvedT t ref = RV at *
  obtain ⟨s, er⟩ := RV
  simp only [En.v] at HH ⊢
  have hsz : (bs state).size = state.length := bs_size state
  obtain ⟨l, pos⟩ := t
  simp only at *
  obtain ⟨A, hA⟩ : ∃ A, w.heap.size = A := ⟨_, rfl⟩
  go_enter Tryz.func77, Tryz.ntmps77
  go_upto_region 1 with fail
  refine code_gen (Φ := fun wy => Hid (BX w wy A (.cells #[.slice a l.length c, .int .i64 pos] 60) (.cells #[.string ⟨#[]⟩, .string ⟨#[]⟩, .int .i64 0] 67))) (Lib.hid (BX.start hA _ _)) ?_
  intro w1 X1
  have HA := Lib.hid (show w.heap.size ≤ A + 1 by omega)
  clear hA
  obtain ⟨c0, c1⟩ := cells2 X1.out.a
  go_wp2_with fail
  refine (HRV.out _ X1.out.bl).mono ?_
  rintro e w2 ⟨rfl, hb2⟩
  have X2 := Lib.hid (X1.out.call hb2)
  clear hb2 X1 c0 c1 HRV
  by_cases h0 : er = 0
  case neg =>
    have heb : (er == 0) = false := by simpa using h0
    have hr : R = (zE, er) := by rw [← HR.out, if_neg h0]
    subst hr
    show _
    clear HR HOK HH HO h0 hsz
    obtain ⟨e0, e1, e2⟩ := cells3 X2.out.b
    have f0 := Lib.frozen_of_heap X2.out.b 0
    have f1 := Lib.frozen_of_heap X2.out.b 1
    have f2 := Lib.frozen_of_heap X2.out.b 2
    go_wp2_with fail
    have EB := Lib.hid (set_heap (set_heap (set_heap X2.out.b 0 (.string ⟨#[]⟩) (by simp)) 1 (.string ⟨#[]⟩) (by simp)) 2 (.int .i64 0) (by simp))
    have XB := Lib.hid (((X2.out.bl.setCell (p := ⟨A + 1, 0, none⟩) HA.out (.string ⟨#[]⟩)).setCell (p := ⟨A + 1, 1, none⟩) HA.out (.string ⟨#[]⟩)).setCell (p := ⟨A + 1, 2, none⟩) HA.out (.int .i64 0))
    obtain ⟨g0, g1, g2⟩ := cells3 EB.out
    refine bodyPost_ret (v := .tuple #[.agg #[.string ⟨#[]⟩, .string ⟨#[]⟩, .int .i64 0], .int .i64 er]) (by simp [results, Tryz.results77, go_sem, g0, g1, g2]) rfl ?_
    exact ⟨rfl, XB.out⟩
  have HOK2 := Lib.hid (HOK.out h0)
  have HR2 := Lib.hid HR.out
  rw [if_pos h0] at HR2
  subst h0
  clear HR HOK
  by_cases hs : 2000 < state.length
  · have hsi : (2000 : Int) < ((bs state).size : Int) := by omega
    have hr : R = (zE, 2) := by rw [← HR2.out, if_pos hs]
    subst hr
    clear HR2 HH HO hs hsz HOK2
    obtain ⟨e0, e1, e2⟩ := cells3 X2.out.b
    have f0 := Lib.frozen_of_heap X2.out.b 0
    have f1 := Lib.frozen_of_heap X2.out.b 1
    have f2 := Lib.frozen_of_heap X2.out.b 2
    go_wp2_with fail
    have EB := Lib.hid (set_heap (set_heap (set_heap X2.out.b 0 (.string ⟨#[]⟩) (by simp)) 1 (.string ⟨#[]⟩) (by simp)) 2 (.int .i64 0) (by simp))
    have XB := Lib.hid (((X2.out.bl.setCell (p := ⟨A + 1, 0, none⟩) HA.out (.string ⟨#[]⟩)).setCell (p := ⟨A + 1, 1, none⟩) HA.out (.string ⟨#[]⟩)).setCell (p := ⟨A + 1, 2, none⟩) HA.out (.int .i64 0))
    obtain ⟨g0, g1, g2⟩ := cells3 EB.out
    refine bodyPost_ret (v := .tuple #[.agg #[.string ⟨#[]⟩, .string ⟨#[]⟩, .int .i64 0], .int .i64 2]) (by simp [results, Tryz.results77, go_sem, g0, g1, g2]) rfl ?_
    exact ⟨rfl, XB.out⟩
  have hsi : ¬ ((2000 : Int) < ((bs state).size : Int)) := by omega
  have HR3 := Lib.hid HR2.out
  rw [if_neg hs] at HR3
  have HOS := Lib.hid (HO.out s)
  have HOH := Lib.hid (HO.out HE.url)
  have HHE := Lib.hid (HH.out HOK2.out)
  clear HR2 HO hs hsz HH
  generalize orgT s = OS at *
  generalize orgT HE.url = OH at *
  obtain ⟨c0, c1⟩ := cells2 X2.out.a
  by_cases ho : OS = OH
  · subst ho
    have hr := Lib.hid (show R = (⟨s, state, HE.doc⟩, 0) by rw [← HR3.out, if_pos rfl])
    clear HR3
    go_upto_region 6 with fail
    go_region_with ((first | (go_at_call 111; refine calls_gen (Φ := fun wy => Hid (BX w wy A (.cells #[.slice a l.length c, .int .i64 pos] 60) (.cells #[.string ⟨#[]⟩, .string ⟨#[]⟩, .int .i64 0] 67))) (by first | exact X2 | exact Lib.hid X2.out.drew | exact Lib.hid (X2.out.drewN 1)) ?_; clear X2 c0 c1; rintro w8 Z8; (first | (with_reducible refine (HOS.out _ Z8.out.bl).mono ?_) | (with_reducible refine (HOH.out _ Z8.out.bl).mono ?_)); rintro e w9 ⟨rfl, hb9⟩; have X2 := Lib.hid (Z8.out.call hb9); clear hb9 Z8; obtain ⟨c0, c1⟩ := cells2 X2.out.a) | (go_at_call 74; refine calls_gen (Φ := fun wy => Hid (BX w wy A (.cells #[.slice a l.length c, .int .i64 pos] 60) (.cells #[.string ⟨#[]⟩, .string ⟨#[]⟩, .int .i64 0] 67))) (by first | exact X2 | exact Lib.hid X2.out.drew | exact Lib.hid (X2.out.drewN 1)) ?_; clear X2 c0 c1; rintro w8 Z8; refine (HHE.out _ Z8.out.bl).mono ?_; rintro e w9 ⟨rfl, hb9⟩; have X2 := Lib.hid (Z8.out.call hb9); clear hb9 Z8; obtain ⟨c0, c1⟩ := cells2 X2.out.a)))
    all_goals
      have X3 : Hid (BX w w9 A (.cells #[.slice a l.length c, .int .i64 pos] 60) (.cells #[.string ⟨#[]⟩, .string ⟨#[]⟩, .int .i64 0] 67)) := X2
      clear X2 c0 c1
      go_upto_region 8 with fail
      refine code_gen (Φ := fun wy => Hid (BX w wy A (.cells #[.slice a l.length c, .int .i64 pos] 60) (.cells #[.string ⟨#[]⟩, .string ⟨#[]⟩, .int .i64 0] 67))) (by first | exact X3 | exact Lib.hid X3.out.drew | exact Lib.hid (X3.out.drewN 1)) ?_
      clear X3
      intro w10 X10
      obtain ⟨c0, c1⟩ := cells2 X10.out.a
      go_wp2_with fail
      refine (HHE.out _ X10.out.bl).mono ?_
      rintro e w11 ⟨rfl, hb11⟩
      have X11 := Lib.hid (X10.out.call hb11)
      clear hb11 X10 c0 c1
      obtain ⟨e0, e1, e2⟩ := cells3 X11.out.b
      have f0 := Lib.frozen_of_heap X11.out.b 0
      have f1 := Lib.frozen_of_heap X11.out.b 1
      have f2 := Lib.frozen_of_heap X11.out.b 2
      go_wp2_with fail
      have EB := Lib.hid (set_heap (set_heap (set_heap X11.out.b 0 (.string (bs s)) (by simp)) 1 (.string (bs state)) (by simp)) 2 (.int .i64 HE.doc) (by simp))
      have XB := Lib.hid (((X11.out.bl.setCell (p := ⟨A + 1, 0, none⟩) HA.out (.string (bs s))).setCell (p := ⟨A + 1, 1, none⟩) HA.out (.string (bs state))).setCell (p := ⟨A + 1, 2, none⟩) HA.out (.int .i64 HE.doc))
      obtain ⟨g0, g1, g2⟩ := cells3 EB.out
      refine bodyPost_ret (v := .tuple #[.agg #[.string (bs s), .string (bs state), .int .i64 HE.doc], .int .i64 0]) (by simp [results, Tryz.results77, go_sem, g0, g1, g2]) rfl ?_
      rw [hr.out]
      exact ⟨rfl, XB.out⟩
  · have hob := bs_neq ho
    have hr : R = (zE, 12) := by rw [← HR3.out, if_neg ho]
    subst hr
    clear HR3 ho
    go_upto_region 6 with fail
    go_region_with ((first | (go_at_call 111; refine calls_gen (Φ := fun wy => Hid (BX w wy A (.cells #[.slice a l.length c, .int .i64 pos] 60) (.cells #[.string ⟨#[]⟩, .string ⟨#[]⟩, .int .i64 0] 67))) (by first | exact X2 | exact Lib.hid X2.out.drew | exact Lib.hid (X2.out.drewN 1)) ?_; clear X2 c0 c1; rintro w8 Z8; (first | (with_reducible refine (HOS.out _ Z8.out.bl).mono ?_) | (with_reducible refine (HOH.out _ Z8.out.bl).mono ?_)); rintro e w9 ⟨rfl, hb9⟩; have X2 := Lib.hid (Z8.out.call hb9); clear hb9 Z8; obtain ⟨c0, c1⟩ := cells2 X2.out.a) | (go_at_call 74; refine calls_gen (Φ := fun wy => Hid (BX w wy A (.cells #[.slice a l.length c, .int .i64 pos] 60) (.cells #[.string ⟨#[]⟩, .string ⟨#[]⟩, .int .i64 0] 67))) (by first | exact X2 | exact Lib.hid X2.out.drew | exact Lib.hid (X2.out.drewN 1)) ?_; clear X2 c0 c1; rintro w8 Z8; refine (HHE.out _ Z8.out.bl).mono ?_; rintro e w9 ⟨rfl, hb9⟩; have X2 := Lib.hid (Z8.out.call hb9); clear hb9 Z8; obtain ⟨c0, c1⟩ := cells2 X2.out.a)))
    all_goals
      have X3 : Hid (BX w w9 A (.cells #[.slice a l.length c, .int .i64 pos] 60) (.cells #[.string ⟨#[]⟩, .string ⟨#[]⟩, .int .i64 0] 67)) := X2
      clear X2 c0 c1
      go_upto_region 7 with fail
      refine code_gen (Φ := fun wy => Hid (BX w wy A (.cells #[.slice a l.length c, .int .i64 pos] 60) (.cells #[.string ⟨#[]⟩, .string ⟨#[]⟩, .int .i64 0] 67))) (by first | exact X3 | exact Lib.hid X3.out.drew | exact Lib.hid (X3.out.drewN 1)) ?_
      clear X3
      intro w10 X10
      obtain ⟨e0, e1, e2⟩ := cells3 X10.out.b
      have f0 := Lib.frozen_of_heap X10.out.b 0
      have f1 := Lib.frozen_of_heap X10.out.b 1
      have f2 := Lib.frozen_of_heap X10.out.b 2
      go_wp2_with fail
      have EB := Lib.hid (set_heap (set_heap (set_heap X10.out.b 0 (.string ⟨#[]⟩) (by simp)) 1 (.string ⟨#[]⟩) (by simp)) 2 (.int .i64 0) (by simp))
      have XB := Lib.hid (((X10.out.bl.setCell (p := ⟨A + 1, 0, none⟩) HA.out (.string ⟨#[]⟩)).setCell (p := ⟨A + 1, 1, none⟩) HA.out (.string ⟨#[]⟩)).setCell (p := ⟨A + 1, 2, none⟩) HA.out (.int .i64 0))
      obtain ⟨g0, g1, g2⟩ := cells3 EB.out
      refine bodyPost_ret (v := .tuple #[.agg #[.string ⟨#[]⟩, .string ⟨#[]⟩, .int .i64 0], .int .i64 12]) (by simp [results, Tryz.results77, go_sem, g0, g1, g2]) rfl ?_
      exact ⟨rfl, XB.out⟩
end Go.Proofs.YtjcejijdeohkgaaGreatDoor
