/- The contracts of trail.Push, Start. -/
import Derived.Test.YtjcejijdeohkgaaGreatDoorT8
namespace Go.Proofs.YtjcejijdeohkgaaGreatDoor
open Go.RowKit

theorem call37 (args : Array Value) (w : World) : Sem.run Tryz.prog (callFunc 37 args) w = .ok (.enter 37 args) w := by go_simp
theorem call78 (args : Array Value) (w : World) : Sem.run Tryz.prog (callFunc 78 args) w = .ok (.enter 78 args) w := by go_simp
set_option maxRecDepth 100000 in
set_option maxHeartbeats 8000000 in
theorem push_any (a : Option Addr) (c : Nat) (t : Tr) (ref state : Bs) (w : World) (h : SlR w EnB 3 (.slice a t.l.length c) t.l) (hT : TB w) : Calls Tryz.prog 37 #[.agg #[.slice a t.l.length c, .int .i64 t.pos], .string (bs ref), .string (bs state)] w fun e w' => ∃ v, e = .returned (.tuple #[.agg #[v, .int .i64 (pushT t ref state).1.pos], .int .i64 (pushT t ref state).2]) ∧ w'.ownsRow w.heap.size 67 3 v (pushT t ref state).1.l.length ((pushT t ref state).1.l.flatMap En.c) ∧ Below w.heap.size w w' := by
  have p77 := call77
  have p76 := call76
  have HW := Lib.hid (fun (w9 : World) (hb : Below w.heap.size w w9) => town_any a c t ref state w9 (slE_below h hb) (hT.below hb))
  have HB := Lib.hid (fun (h0 : (ownT t ref state).2 = 0) (E : En) (w9 : World) (hb : Below w.heap.size w w9) => behind_any a c t E w9 (slE_below h hb) (own_ok h0).1)
  obtain ⟨R, hR⟩ : ∃ R, pushT t ref state = R := ⟨_, rfl⟩
  rw [hR]
  unfold pushT at hR
  have HR := Lib.hid hR
  clear h hT hR
  generalize ownT t ref state = OT at *
  obtain ⟨oe, er⟩ := OT
  simp only at HW HB HR
  have HBT := Lib.hid (fun h0 => HB.out h0 oe)
  obtain ⟨BT, hBT⟩ : ∃ BT, behindT t oe = BT := ⟨_, rfl⟩
  rw [hBT] at HBT HR
  obtain ⟨bl, bp⟩ := BT
  simp only [En.v] at HW HBT
  clear hBT HB
  obtain ⟨l, pos⟩ := t
  simp only at *
  obtain ⟨A, hA⟩ : ∃ A, w.heap.size = A := ⟨_, rfl⟩
  go_enter Tryz.func37, Tryz.ntmps37
  go_upto_region 1 with fail
  refine code_gen (Φ := fun wy => Hid (BX w wy A (.cells #[.slice a l.length c, .int .i64 pos] 60) (.cells #[.slice none 0 0, .int .i64 0] 60))) (Lib.hid (BX.start hA _ _)) ?_
  intro w1 X1
  have HA := Lib.hid (show w.heap.size ≤ A + 1 by omega)
  clear hA
  obtain ⟨c0, c1⟩ := cells2 X1.out.a
  go_wp2_with fail
  refine (HW.out _ X1.out.bl).mono ?_
  rintro e w2 ⟨rfl, hb2⟩
  have X2 := Lib.hid (X1.out.call hb2)
  clear hb2 X1 c0 c1 HW
  obtain ⟨C, hC⟩ : ∃ C, w2.heap.size = C := ⟨_, rfl⟩
  go_upto_region 2 with fail
  refine code_gen (Φ := fun wy => Hid (BX w wy A (.cells #[.slice a l.length c, .int .i64 pos] 60) (.cells #[.slice none 0 0, .int .i64 0] 60)) ∧ Hid (wy.heap[C]? = some (.cells #[.string (bs oe.url), .string (bs oe.state), .int .i64 oe.doc] 67 (0, 0)))) ⟨Lib.hid (X2.out.alloc _), Lib.hid (alloc_at hC _)⟩ ?_
  clear X2 hC
  rintro w3 ⟨X3, C3⟩
  by_cases h0 : er = 0
  · have hr := Lib.hid (show R = (⟨bl, bp⟩, 0) by rw [← HR.out, if_pos h0])
    have HB2 := Lib.hid (HBT.out h0)
    subst h0
    clear HR HBT
    obtain ⟨c0, c1⟩ := cells2 X3.out.a
    obtain ⟨d0, d1, d2⟩ := cells3 C3.out
    go_wp2_with fail
    refine (HB2.out _ X3.out.bl).mono ?_
    rintro e w4 ⟨bv, rfl, hbv, hb4⟩
    have X4 := Lib.hid (X3.out.call hb4)
    have O4 := Lib.hid (own_lower hbv X3.out.bl.size)
    clear hb4 hbv X3 C3 c0 c1 d0 d1 d2 HB2
    obtain ⟨ba, bc, rfl⟩ := own_shape O4.out
    obtain ⟨e0, e1⟩ := cells2 X4.out.b
    have f0 := Lib.frozen_of_heap X4.out.b 0
    have f1 := Lib.frozen_of_heap X4.out.b 1
    go_wp2_with fail
    have EB := Lib.hid (set_heap (set_heap X4.out.b 0 (.slice ba bl.length bc) (by simp)) 1 (.int .i64 bp) (by simp))
    have XB := Lib.hid ((X4.out.bl.setCell (p := ⟨A + 1, 0, none⟩) HA.out (.slice ba bl.length bc)).setCell (p := ⟨A + 1, 1, none⟩) HA.out (.int .i64 bp))
    have OB := Lib.hid (O4.out.kept (Lib.grownBy_setB (Lib.grownBy_setB (gr_refl w4 (some (A + 1))) 0 (.slice ba bl.length bc)) 1 (.int .i64 bp)) (.inr (row_block O4.out X4.out.b (by decide))))
    obtain ⟨g0, g1⟩ := cells2 EB.out
    refine bodyPost_ret (v := .tuple #[.agg #[.slice ba bl.length bc, .int .i64 bp], .int .i64 0]) (by simp [results, Tryz.results37, go_sem, g0, g1]) rfl ?_
    rw [hr.out]
    exact ⟨_, rfl, OB.out, XB.out⟩
  · have heb : (er == 0) = false := by simpa using h0
    have hr := Lib.hid (show R = (zT, er) by rw [← HR.out, if_neg h0])
    clear HR HBT h0
    obtain ⟨e0, e1⟩ := cells2 X3.out.b
    have f0 := Lib.frozen_of_heap X3.out.b 0
    have f1 := Lib.frozen_of_heap X3.out.b 1
    go_wp2_with fail
    have EB := Lib.hid (set_heap (set_heap X3.out.b 0 (.slice none 0 0) (by simp)) 1 (.int .i64 0) (by simp))
    have XB := Lib.hid ((X3.out.bl.setCell (p := ⟨A + 1, 0, none⟩) HA.out (.slice none 0 0)).setCell (p := ⟨A + 1, 1, none⟩) HA.out (.int .i64 0))
    obtain ⟨g0, g1⟩ := cells2 EB.out
    refine bodyPost_ret (v := .tuple #[.agg #[.slice none 0 0, .int .i64 0], .int .i64 er]) (by simp [results, Tryz.results37, go_sem, g0, g1]) rfl ?_
    rw [hr.out]
    exact ⟨_, rfl, World.ownsRow_nil _ _ _ _, XB.out⟩
set_option maxRecDepth 100000 in
set_option maxHeartbeats 8000000 in
theorem start_any (s : Bs) (w : World) (hT : TB w) : Calls Tryz.prog 78 #[.string (bs s)] w fun e w' => ∃ v, e = .returned (.tuple #[.agg #[v, .int .i64 (startT s).1.pos], .int .i64 (startT s).2]) ∧ w'.ownsRow w.heap.size 67 3 v (startT s).1.l.length ((startT s).1.l.flatMap En.c) ∧ Below w.heap.size w w' := by
  have p19 := call19
  have HW := Lib.hid (fun (w9 : World) (hb : Below w.heap.size w w9) => res_any s s w9 (hT.below hb))
  obtain ⟨R, hR⟩ : ∃ R, startT s = R := ⟨_, rfl⟩
  rw [hR]
  unfold startT at hR
  have HR := Lib.hid hR
  clear hT hR
  generalize resR s s = RS at *
  obtain ⟨rs, er⟩ := RS
  simp only at *
  obtain ⟨A0, hA⟩ : ∃ A, w.heap.size = A := ⟨_, rfl⟩
  go_enter Tryz.func78, Tryz.ntmps78
  go_upto_region 1 with fail
  refine code_gen (Φ := fun wy => Hid (Below w.heap.size w wy) ∧ Hid (wy.heap[A0]? = some (.cells #[.slice none 0 0, .int .i64 0] 60 (0, 0)))) ⟨Lib.hid ((Below.refl _ _).alloc (Nat.le_refl _) _), Lib.hid (alloc_at hA _)⟩ ?_
  rintro w1 ⟨X1, A1⟩
  have HA := Lib.hid (show w.heap.size ≤ A0 by omega)
  clear hA
  go_wp2_with fail
  refine (HW.out _ X1.out).mono ?_
  rintro e w2 ⟨rfl, hb2⟩
  have X2 := Lib.hid (X1.out.trans (Below.le hb2 X1.out.size))
  have A2 := Lib.hid ((hb2.block A0 (lt_of_heap A1.out)).trans A1.out)
  clear hb2 X1 A1 HW
  by_cases h0 : er = 0
  · have hr := Lib.hid (show R = (⟨[⟨rs, [], 0⟩], 0⟩, 0) by rw [← HR.out, if_pos h0])
    subst h0
    clear HR
    have A3 := Lib.hid (show (w2.alloc (.cells #[.string (bs rs), .string ⟨#[]⟩, .int .i64 0] 67)).heap[A0]? = some (.cells #[.slice none 0 0, .int .i64 0] 60 (0, 0)) from (((Below.refl _ _).alloc (Nat.le_refl _) _).block A0 (lt_of_heap A2.out)).trans A2.out)
    have X3 := Lib.hid (X2.out.alloc X2.out.size (.cells #[.string (bs rs), .string ⟨#[]⟩, .int .i64 0] 67))
    have O3 : Hid ((w2.alloc (.cells #[.string (bs rs), .string ⟨#[]⟩, .int .i64 0] 67)).ownsRow w.heap.size 67 3 (.slice (some ⟨w2.heap.size, 0, none⟩) 1 1) 1 ([⟨rs, [], 0⟩].flatMap En.c)) := Lib.hid (own_blockB' (alloc_at rfl _) X2.out.size (by decide) rfl rfl)
    obtain ⟨e0, e1⟩ := cells2 A3.out
    have f0 := Lib.frozen_of_heap A3.out 0
    have f1 := Lib.frozen_of_heap A3.out 1
    go_wp2_with fail
    have EB := Lib.hid (set_heap (set_heap A3.out 0 (.slice (some ⟨w2.heap.size, 0, none⟩) 1 1) (by simp)) 1 (.int .i64 0) (by simp))
    have XB := Lib.hid ((X3.out.setCell (p := ⟨A0, 0, none⟩) HA.out (.slice (some ⟨w2.heap.size, 0, none⟩) 1 1)).setCell (p := ⟨A0, 1, none⟩) HA.out (.int .i64 0))
    have OB := Lib.hid (O3.out.kept (Lib.grownBy_setB (Lib.grownBy_setB (gr_refl _ (some A0)) 0 (.slice (some ⟨w2.heap.size, 0, none⟩) 1 1)) 1 (.int .i64 0)) (.inr (row_block O3.out A3.out (by decide))))
    obtain ⟨g0, g1⟩ := cells2 EB.out
    refine bodyPost_ret (v := .tuple #[.agg #[.slice (some ⟨w2.heap.size, 0, none⟩) 1 1, .int .i64 0], .int .i64 0]) (by simp [results, Tryz.results78, go_sem, g0, g1]) rfl ?_
    rw [hr.out]
    exact ⟨_, rfl, OB.out, XB.out⟩
  · have heb : (er == 0) = false := by simpa using h0
    have hr := Lib.hid (show R = (zT, er) by rw [← HR.out, if_neg h0])
    clear HR h0
    obtain ⟨e0, e1⟩ := cells2 A2.out
    have f0 := Lib.frozen_of_heap A2.out 0
    have f1 := Lib.frozen_of_heap A2.out 1
    go_wp2_with fail
    have EB := Lib.hid (set_heap (set_heap A2.out 0 (.slice none 0 0) (by simp)) 1 (.int .i64 0) (by simp))
    have XB := Lib.hid ((X2.out.setCell (p := ⟨A0, 0, none⟩) HA.out (.slice none 0 0)).setCell (p := ⟨A0, 1, none⟩) HA.out (.int .i64 0))
    obtain ⟨g0, g1⟩ := cells2 EB.out
    refine bodyPost_ret (v := .tuple #[.agg #[.slice none 0 0, .int .i64 0], .int .i64 er]) (by simp [results, Tryz.results78, go_sem, g0, g1]) rfl ?_
    rw [hr.out]
    exact ⟨_, rfl, World.ownsRow_nil _ _ _ _, XB.out⟩
end Go.Proofs.YtjcejijdeohkgaaGreatDoor
