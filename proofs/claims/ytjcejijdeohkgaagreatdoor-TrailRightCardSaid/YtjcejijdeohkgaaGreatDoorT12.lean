/- The contract of trail.Replace. -/
import Derived.Test.YtjcejijdeohkgaaGreatDoorT14
namespace Go.Proofs.YtjcejijdeohkgaaGreatDoor
open Go.RowKit

theorem flat_set3 (e : En) : ∀ (l : List En) (k : Nat), k < l.length → (((l.flatMap En.c).set (k * 3) (.string (bs e.url))).set (k * 3 + 1) (.string (bs e.state))).set (k * 3 + 2) (.int .i64 e.doc) = (l.set k e).flatMap En.c
  | [], k, h => by simp at h
  | a :: r, 0, _ => by simp [En.c]
  | a :: r, k + 1, h => by
    have ih := flat_set3 e r k (by simpa using h)
    have e1 : (k + 1) * 3 = k * 3 + 3 := by omega
    rw [List.flatMap_cons, List.set_cons_succ, List.flatMap_cons, ← ih, e1]
    rfl
theorem row_write {w wy : World} {A g cc : Nat} {o0 : Array Value} {o1 : Array Value} {l : List En} {k : Nat} (X : BX w wy A (.cells o0 60 (0, 0)) (.cells o1 60 (0, 0))) (O : wy.ownsRow w.heap.size 67 3 (.slice (some ⟨g, 0, none⟩) l.length cc) l.length (l.flatMap En.c)) (hk : k < l.length) (e : En) :
    BX w (((wy.setCell ⟨g, k * 3, none⟩ (.string (bs e.url))).setCell ⟨g, k * 3 + 1, none⟩ (.string (bs e.state))).setCell ⟨g, k * 3 + 2, none⟩ (.int .i64 e.doc)) A (.cells o0 60 (0, 0)) (.cells o1 60 (0, 0)) ∧ (((wy.setCell ⟨g, k * 3, none⟩ (.string (bs e.url))).setCell ⟨g, k * 3 + 1, none⟩ (.string (bs e.state))).setCell ⟨g, k * 3 + 2, none⟩ (.int .i64 e.doc)).ownsRow w.heap.size 67 3 (.slice (some ⟨g, 0, none⟩) l.length cc) l.length ((l.set k e).flatMap En.c) := by
  have hg := Lib.grownBy_setB (Lib.grownBy_setB (Lib.grownBy_setB (gr_refl wy (some g)) (k * 3) (.string (bs e.url))) (k * 3 + 1) (.string (bs e.state))) (k * 3 + 2) (.int .i64 e.doc)
  have hlt := (O.lt g rfl).1
  have n0 : some A ≠ some g := fun h => row_block O X.a (by decide) h.symm
  have n1 : some (A + 1) ≠ some g := fun h => row_block O X.b (by decide) h.symm
  refine ⟨⟨((X.bl.setCell (p := ⟨g, k * 3, none⟩) hlt _).setCell (p := ⟨g, k * 3 + 1, none⟩) hlt _).setCell (p := ⟨g, k * 3 + 2, none⟩) hlt _, (hg.block A (lt_of_heap X.a) n0).trans X.a, (hg.block (A + 1) (lt_of_heap X.b) n1).trans X.b⟩, ?_⟩
  rw [← flat_set3 e l k hk]
  exact own_at (own_at (own_at O _ _) _ _) _ _
theorem call40 (args : Array Value) (w : World) : Sem.run Tryz.prog (callFunc 40 args) w = .ok (.enter 40 args) w := by go_simp
set_option maxRecDepth 100000 in
set_option maxHeartbeats 8000000 in
theorem replace_any (a : Option Addr) (c : Nat) (t : Tr) (ref state : Bs) (w : World) (h : SlR w EnB 3 (.slice a t.l.length c) t.l) (hT : TB w) : Calls Tryz.prog 40 #[.agg #[.slice a t.l.length c, .int .i64 t.pos], .string (bs ref), .string (bs state)] w fun e w' => ∃ v, e = .returned (.tuple #[.agg #[v, .int .i64 (replaceT t ref state).1.pos], .int .i64 (replaceT t ref state).2]) ∧ w'.ownsRow w.heap.size 67 3 v (replaceT t ref state).1.l.length ((replaceT t ref state).1.l.flatMap En.c) ∧ Below w.heap.size w w' := by
  have p77 := call77
  have p79 := call79
  have HW := Lib.hid (fun (w9 : World) (hb : Below w.heap.size w w9) => town_any a c t ref state w9 (slE_below h hb) (hT.below hb))
  have HCL := Lib.hid (fun (w9 : World) (hb : Below w.heap.size w w9) (hl : t.l.length ≤ 1048576) => cloneE_any a c t.l w9 (slE_below h hb) hl)
  have HR0 := Lib.hid (fun (h0 : (ownT t ref state).2 = 0) => (own_ok h0).1)
  obtain ⟨R, hR⟩ : ∃ R, replaceT t ref state = R := ⟨_, rfl⟩
  rw [hR]
  unfold replaceT at hR
  have HR := Lib.hid hR
  clear h hT hR
  generalize ownT t ref state = OT at *
  obtain ⟨oe, er⟩ := OT
  simp only [En.v] at HW HR HR0
  obtain ⟨l, pos⟩ := t
  simp only at *
  obtain ⟨A, hA⟩ : ∃ A, w.heap.size = A := ⟨_, rfl⟩
  go_enter Tryz.func40, Tryz.ntmps40
  go_upto_region 1 with fail
  refine code_gen (Φ := fun wy => Hid (BX w wy A (.cells #[.slice a l.length c, .int .i64 pos] 60 (0, 0)) (.cells #[.slice none 0 0, .int .i64 0] 60 (0, 0)))) (Lib.hid (BX.start hA _ _)) ?_
  intro w1 X1
  have HA := Lib.hid (show w.heap.size ≤ A + 1 by omega)
  clear hA
  obtain ⟨c0, c1⟩ := cells2 X1.out.a
  go_wp2_with fail
  refine (HW.out _ X1.out.bl).mono ?_
  rintro e w2 ⟨rfl, hb2⟩
  have X2 := Lib.hid (X1.out.call hb2)
  clear hb2 X1 c0 c1 HW
  obtain ⟨C, hC⟩ : ∃ C, w2.heap.size = C := ⟨_, rfl⟩
  go_upto_region 2 with fail
  refine code_gen (Φ := fun wy => Hid (BX w wy A (.cells #[.slice a l.length c, .int .i64 pos] 60 (0, 0)) (.cells #[.slice none 0 0, .int .i64 0] 60 (0, 0))) ∧ Hid (wy.heap[C]? = some (.cells #[.string (bs oe.url), .string (bs oe.state), .int .i64 oe.doc] 67 (0, 0)))) ⟨Lib.hid (X2.out.alloc _), Lib.hid (alloc_at hC _)⟩ ?_
  clear X2 hC
  rintro w3 ⟨X3, C3⟩
  by_cases h0 : er = 0
  case neg =>
    have heb : (er == 0) = false := by simpa using h0
    have hr := Lib.hid (show R = (zT, er) by rw [← HR.out, if_neg h0])
    clear HR HR0 h0 HCL
    obtain ⟨e0, e1⟩ := cells2 X3.out.b
    have f0 := Lib.frozen_of_heap X3.out.b 0
    have f1 := Lib.frozen_of_heap X3.out.b 1
    go_wp2_with fail
    have EB := Lib.hid (set_heap (set_heap X3.out.b 0 (.slice none 0 0) (by simp)) 1 (.int .i64 0) (by simp))
    have XB := Lib.hid ((X3.out.bl.setCell (p := ⟨A + 1, 0, none⟩) HA.out (.slice none 0 0)).setCell (p := ⟨A + 1, 1, none⟩) HA.out (.int .i64 0))
    obtain ⟨g0, g1⟩ := cells2 EB.out
    refine bodyPost_ret (v := .tuple #[.agg #[.slice none 0 0, .int .i64 0], .int .i64 er]) (by simp [results, Tryz.results40, go_sem, g0, g1]) rfl ?_
    rw [hr.out]
    exact ⟨_, rfl, World.ownsRow_nil _ _ _ _, XB.out⟩
  have HRT := Lib.hid (HR0.out h0)
  obtain ⟨kt, rfl⟩ : ∃ kt : Nat, pos = (kt : Int) := ⟨pos.toNat, by have := HRT.out.p.1; simp only at this; omega⟩
  have hk : kt < l.length := by have := HRT.out.p.2; simp only at this; omega
  have hr := Lib.hid (show R = (⟨l.set kt oe, (kt : Int)⟩, 0) by rw [← HR.out, if_pos h0]; rfl)
  have hn : l.length ≤ 1048576 := by have := HRT.out.n; simp only at this; omega
  subst h0
  clear HR HR0
  have hki : (kt : Int) < (l.length : Int) := by omega
  obtain ⟨c0, c1⟩ := cells2 X3.out.a
  have HN := Lib.hid hn
  clear hn
  go_wp2_with fail
  refine (HCL.out _ X3.out.bl HN.out).mono ?_
  rintro e w4 ⟨cv, rfl, hcv, hb4⟩
  have X4 := Lib.hid (X3.out.call hb4)
  have C4 := Lib.hid ((hb4.block _ (lt_of_heap C3.out)).trans C3.out)
  have O4 := Lib.hid (own_lower hcv X3.out.bl.size)
  clear hcv hb4 X3 C3 c0 c1 HCL
  obtain ⟨ca, cc, rfl⟩ := own_shape O4.out
  obtain ⟨g, rfl⟩ := own_some O4.out (by omega)
  go_upto_region 5 with fail
  refine code_gen (Φ := fun wy => Hid (BX w wy A (.cells #[.slice a l.length c, .int .i64 (kt : Int)] 60 (0, 0)) (.cells #[.slice none 0 0, .int .i64 0] 60 (0, 0))) ∧ Hid (wy.heap[C]? = some (.cells #[.string (bs oe.url), .string (bs oe.state), .int .i64 oe.doc] 67 (0, 0))) ∧ Hid (wy.ownsRow w.heap.size 67 3 (.slice (some ⟨g, 0, none⟩) l.length cc) l.length (l.flatMap En.c))) ⟨X4, C4, O4⟩ ?_
  clear X4 C4 O4
  rintro w5 ⟨X5, C5, O5⟩
  obtain ⟨c0, c1⟩ := cells2 X5.out.a
  obtain ⟨d0, d1, d2⟩ := cells3 C5.out
  obtain ⟨x0, x1, x2⟩ := here_cells (t := ⟨l, (kt : Int)⟩) (own_lower O5.out (Nat.zero_le _)) hk rfl
  have hcap := (SlR.cap (own_slE O5.out)).2.1
  have f0 := (own_room O5.out (kt * 3) (by omega)).2
  have f1 := (own_room O5.out (kt * 3 + 1) (by omega)).2
  have f2 := (own_room O5.out (kt * 3 + 2) (by omega)).2
  have WR := Lib.hid (row_write X5.out O5.out hk oe)
  have hlt : (l.set kt oe).length = l.length := List.length_set
  have HLT := Lib.hid hlt
  clear hcap hlt
  go_upto_region 6 with fail
  refine code_gen (Φ := fun wy => Hid (BX w wy A (.cells #[.slice a l.length c, .int .i64 (kt : Int)] 60 (0, 0)) (.cells #[.slice none 0 0, .int .i64 0] 60 (0, 0))) ∧ Hid (wy.ownsRow w.heap.size 67 3 (.slice (some ⟨g, 0, none⟩) l.length cc) l.length ((l.set kt oe).flatMap En.c))) ⟨Lib.hid WR.out.1, Lib.hid WR.out.2⟩ ?_
  clear WR X5 C5 O5 c0 c1 d0 d1 d2 x0 x1 x2 f0 f1 f2
  rintro w6 ⟨X6, O6⟩
  obtain ⟨c0, c1⟩ := cells2 X6.out.a
  obtain ⟨e0, e1⟩ := cells2 X6.out.b
  have f0 := Lib.frozen_of_heap X6.out.b 0
  have f1 := Lib.frozen_of_heap X6.out.b 1
  go_wp2_with fail
  have EB := Lib.hid (set_heap (set_heap X6.out.b 0 (.slice (some ⟨g, 0, none⟩) l.length cc) (by simp)) 1 (.int .i64 (kt : Int)) (by simp))
  have XB := Lib.hid ((X6.out.bl.setCell (p := ⟨A + 1, 0, none⟩) HA.out (.slice (some ⟨g, 0, none⟩) l.length cc)).setCell (p := ⟨A + 1, 1, none⟩) HA.out (.int .i64 (kt : Int)))
  have OB := Lib.hid (O6.out.kept (Lib.grownBy_setB (Lib.grownBy_setB (gr_refl w6 (some (A + 1))) 0 (.slice (some ⟨g, 0, none⟩) l.length cc)) 1 (.int .i64 (kt : Int))) (.inr (row_block O6.out X6.out.b (by decide))))
  have OL : ∀ W : World, W.ownsRow w.heap.size 67 3 (.slice (some ⟨g, 0, none⟩) l.length cc) l.length ((l.set kt oe).flatMap En.c) → W.ownsRow w.heap.size 67 3 (.slice (some ⟨g, 0, none⟩) l.length cc) (l.set kt oe).length ((l.set kt oe).flatMap En.c) := fun W h => by rw [HLT.out]; exact h
  obtain ⟨g0, g1⟩ := cells2 EB.out
  refine bodyPost_ret (v := .tuple #[.agg #[.slice (some ⟨g, 0, none⟩) l.length cc, .int .i64 (kt : Int)], .int .i64 0]) (by simp [results, Tryz.results40, go_sem, g0, g1]) rfl ?_
  rw [hr.out]
  exact ⟨_, rfl, OL _ OB.out, XB.out⟩
end Go.Proofs.YtjcejijdeohkgaaGreatDoor
