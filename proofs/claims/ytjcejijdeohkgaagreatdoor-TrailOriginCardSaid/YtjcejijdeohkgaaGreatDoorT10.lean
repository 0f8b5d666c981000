/- The contract of trail.Go. -/
import Derived.Test.YtjcejijdeohkgaaGreatDoorT9
namespace Go.Proofs.YtjcejijdeohkgaaGreatDoor
open Go.RowKit

theorem go_pack {w wy : World} {A D : Nat} {o0 o1 : Obj} {ca : Option Addr} {cc : Nat} {l : List En} (X : BX w wy A o0 o1) (Z : wy.heap[D]? = some (.cells #[.slice none 0 0, .int .i64 0] 60 (0, 0))) (hD : A + 1 < D) (hA : w.heap.size ≤ A + 1) (O : wy.ownsRow w.heap.size 67 3 (.slice ca l.length cc) l.length (l.flatMap En.c)) (p : Int) :
    BX w ((wy.setCell ⟨D, 0, none⟩ (.slice ca l.length cc)).setCell ⟨D, 1, none⟩ (.int .i64 p)) A o0 o1 ∧ ((wy.setCell ⟨D, 0, none⟩ (.slice ca l.length cc)).setCell ⟨D, 1, none⟩ (.int .i64 p)).heap[D]? = some (.cells #[.slice ca l.length cc, .int .i64 p] 60 (0, 0)) ∧ ((wy.setCell ⟨D, 0, none⟩ (.slice ca l.length cc)).setCell ⟨D, 1, none⟩ (.int .i64 p)).ownsRow w.heap.size 67 3 (.slice ca l.length cc) l.length (l.flatMap En.c) := by
  have hB : w.heap.size ≤ D := by omega
  have hg := Lib.grownBy_setB (Lib.grownBy_setB (gr_refl wy (some D)) 0 (.slice ca l.length cc)) 1 (.int .i64 p)
  refine ⟨⟨(X.bl.setCell (p := ⟨D, 0, none⟩) hB _).setCell (p := ⟨D, 1, none⟩) hB _, (hg.block A (lt_of_heap X.a) (by intro e; injection e with e; omega)).trans X.a, (hg.block (A + 1) (lt_of_heap X.b) (by intro e; injection e with e; omega)).trans X.b⟩, set_heap (set_heap Z 0 _ (by simp)) 1 _ (by simp), O.kept hg (.inr (row_block O Z (by decide)))⟩
/-- The two blocks, the block of the new trail, its row. -/
structure DX5 (w wy : World) (A D : Nat) (o0 o1 od : Obj) (v : Value) (l : List En) : Prop where
  x : BX w wy A o0 o1
  d : wy.heap[D]? = some od
  o : wy.ownsRow w.heap.size 67 3 v l.length (l.flatMap En.c)
theorem DX5.call {w wy w' : World} {A D : Nat} {o0 o1 od : Obj} {v : Value} {l : List En} (h : DX5 w wy A D o0 o1 od v l) (hb : Below wy.heap.size wy w') : DX5 w w' A D o0 o1 od v l := ⟨h.x.call hb, (hb.block _ (lt_of_heap h.d)).trans h.d, own_below h.o hb (Nat.le_refl _)⟩
theorem DX5.drew {w wy : World} {A D : Nat} {o0 o1 od : Obj} {v : Value} {l : List En} (h : DX5 w wy A D o0 o1 od v l) : DX5 w wy.drew A D o0 o1 od v l := h.call ⟨rfl, rfl, rfl, Nat.le_refl _, fun _ _ => rfl⟩
theorem call39 (args : Array Value) (w : World) : Sem.run Tryz.prog (callFunc 39 args) w = .ok (.enter 39 args) w := by go_simp
set_option maxRecDepth 100000 in
set_option maxHeartbeats 16000000 in
theorem go_any (a : Option Addr) (c : Nat) (t : Tr) (n : Int) (w : World) (h : SlR w EnB 3 (.slice a t.l.length c) t.l) (hT : TB w) : Calls Tryz.prog 39 #[.agg #[.slice a t.l.length c, .int .i64 t.pos], .int .i64 n] w fun e w' => ∃ v, e = .returned (.tuple #[.agg #[v, .int .i64 (goT t n).1.pos], .bool (goT t n).2.1, .int .i64 (goT t n).2.2]) ∧ w'.ownsRow w.heap.size 67 3 v (goT t n).1.l.length ((goT t n).1.l.flatMap En.c) ∧ Below w.heap.size w w' := by
  have p41 := call41
  have p79 := call79
  have p74 := call74
  have pfd := field_doc
  obtain ⟨q1, q2, q3⟩ := SlR.cap h
  have HC := Lib.hid (fun (w9 : World) (hb : Below w.heap.size w w9) => tcheck_any a c t w9 (slE_below h hb) (hT.below hb))
  have HCL := Lib.hid (fun (w9 : World) (hb : Below w.heap.size w w9) (hl : t.l.length ≤ 1048576) => cloneE_any a c t.l w9 (slE_below h hb) hl)
  have HH := Lib.hid (fun (hp : 0 ≤ t.pos ∧ t.pos < t.l.length) (w9 : World) (hb : Below w.heap.size w w9) => here_any a c t w9 (slE_below h hb) hp)
  have HG := Lib.hid (fun (ca : Option Addr) (cc : Nat) (w9 : World) (hs : SlR w9 EnB 3 (.slice ca t.l.length cc) t.l) (hp : 0 ≤ t.pos + n ∧ t.pos + n < t.l.length) => here_any ca cc ⟨t.l, t.pos + n⟩ w9 hs hp)
  have HCI := Lib.hid (fun hc => (check_iff t).1 hc)
  obtain ⟨R, hR⟩ : ∃ R, goT t n = R := ⟨_, rfl⟩
  rw [hR]
  unfold goT at hR
  have HR := Lib.hid hR
  clear h hT hR
  generalize hereE t = HE at *
  obtain ⟨l, pos⟩ := t
  simp only at *
  obtain ⟨HO, hHO⟩ : ∃ HO, hereE ⟨l, pos + n⟩ = HO := ⟨_, rfl⟩
  rw [hHO] at HG HR
  clear hHO
  simp only [En.v] at HH HG
  obtain ⟨CK, hCK⟩ : ∃ CK, checkT ⟨l, pos⟩ = CK := ⟨_, rfl⟩
  rw [hCK] at HC HR HCI
  clear hCK
  obtain ⟨A, hA⟩ : ∃ A, w.heap.size = A := ⟨_, rfl⟩
  go_enter Tryz.func39, Tryz.ntmps39
  go_upto_region 1 with fail
  refine code_gen (Φ := fun wy => Hid (BX w wy A (.cells #[.slice a l.length c, .int .i64 pos] 60) (.cells #[.slice none 0 0, .int .i64 0] 60))) (Lib.hid (BX.start hA _ _)) ?_
  intro w1 X1
  have HA := Lib.hid (show w.heap.size ≤ A + 1 by omega)
  clear hA
  obtain ⟨c0, c1⟩ := cells2 X1.out.a
  go_wp2_with fail
  refine (HC.out _ X1.out.bl).mono ?_
  rintro e w2 ⟨rfl, hb2⟩
  have X2 := Lib.hid (X1.out.call hb2)
  clear hb2 X1 c0 c1 HC
  by_cases h0 : CK = 0
  case neg =>
    have heb : (CK == 0) = false := by simpa using h0
    have hr := Lib.hid (show R = (zT, false, CK) by rw [← HR.out, if_neg h0])
    clear HR HCI h0 HH HG HCL
    obtain ⟨e0, e1⟩ := cells2 X2.out.b
    have f0 := Lib.frozen_of_heap X2.out.b 0
    have f1 := Lib.frozen_of_heap X2.out.b 1
    go_wp2_with fail
    have EB := Lib.hid (set_heap (set_heap X2.out.b 0 (.slice none 0 0) (by simp)) 1 (.int .i64 0) (by simp))
    have XB := Lib.hid ((X2.out.bl.setCell (p := ⟨A + 1, 0, none⟩) HA.out (.slice none 0 0)).setCell (p := ⟨A + 1, 1, none⟩) HA.out (.int .i64 0))
    obtain ⟨g0, g1⟩ := cells2 EB.out
    refine bodyPost_ret (v := .tuple #[.agg #[.slice none 0 0, .int .i64 0], .bool (false), .int .i64 CK]) (by simp [results, Tryz.results39, go_sem, g0, g1]) rfl ?_
    rw [hr.out]
    exact ⟨_, rfl, World.ownsRow_nil _ _ _ _, XB.out⟩
  have HRI := Lib.hid (HCI.out h0)
  have HR2 := Lib.hid HR.out
  rw [if_pos h0] at HR2
  subst h0
  clear HR HCI
  have hp0 := HRI.out.p.1
  have hp1 := HRI.out.p.2
  have hn := HRI.out.n
  simp only at hp0 hp1 hn
  have hw1 : IntKind.i64.wrap (-pos) = -pos := by rw [IntKind.wrap_i64]; omega
  have hw2 : IntKind.i64.wrap ((l.length : Int) - pos) = (l.length : Int) - pos := by rw [IntKind.wrap_i64]; omega
  obtain ⟨c0, c1⟩ := cells2 X2.out.a
  by_cases hn1 : n < -pos
  · have hr := Lib.hid (show R = (zT, false, 5) by rw [← HR2.out, if_pos (.inl hn1)])
    clear HR2 HH HG HCL hp0 hp1 hn
    obtain ⟨e0, e1⟩ := cells2 X2.out.b
    have f0 := Lib.frozen_of_heap X2.out.b 0
    have f1 := Lib.frozen_of_heap X2.out.b 1
    go_wp2_with fail
    have EB := Lib.hid (set_heap (set_heap X2.out.b 0 (.slice none 0 0) (by simp)) 1 (.int .i64 0) (by simp))
    have XB := Lib.hid ((X2.out.bl.setCell (p := ⟨A + 1, 0, none⟩) HA.out (.slice none 0 0)).setCell (p := ⟨A + 1, 1, none⟩) HA.out (.int .i64 0))
    obtain ⟨g0, g1⟩ := cells2 EB.out
    refine bodyPost_ret (v := .tuple #[.agg #[.slice none 0 0, .int .i64 0], .bool (false), .int .i64 5]) (by simp [results, Tryz.results39, go_sem, g0, g1]) rfl ?_
    rw [hr.out]
    exact ⟨_, rfl, World.ownsRow_nil _ _ _ _, XB.out⟩
  by_cases hn2 : (l.length : Int) - pos ≤ n
  · have hr := Lib.hid (show R = (zT, false, 5) by rw [← HR2.out, if_pos (.inr hn2)])
    clear HR2 HH HG HCL hp0 hp1 hn
    obtain ⟨e0, e1⟩ := cells2 X2.out.b
    have f0 := Lib.frozen_of_heap X2.out.b 0
    have f1 := Lib.frozen_of_heap X2.out.b 1
    go_wp2_with fail
    have EB := Lib.hid (set_heap (set_heap X2.out.b 0 (.slice none 0 0) (by simp)) 1 (.int .i64 0) (by simp))
    have XB := Lib.hid ((X2.out.bl.setCell (p := ⟨A + 1, 0, none⟩) HA.out (.slice none 0 0)).setCell (p := ⟨A + 1, 1, none⟩) HA.out (.int .i64 0))
    obtain ⟨g0, g1⟩ := cells2 EB.out
    refine bodyPost_ret (v := .tuple #[.agg #[.slice none 0 0, .int .i64 0], .bool (false), .int .i64 5]) (by simp [results, Tryz.results39, go_sem, g0, g1]) rfl ?_
    rw [hr.out]
    exact ⟨_, rfl, World.ownsRow_nil _ _ _ _, XB.out⟩
  have HR3 := Lib.hid HR2.out
  rw [if_neg (by rw [not_or]; exact ⟨hn1, hn2⟩)] at HR3
  have hw3 : IntKind.i64.wrap (pos + n) = pos + n := by rw [IntKind.wrap_i64]; omega
  have HP := Lib.hid (show 0 ≤ pos + n ∧ pos + n < (l.length : Int) by omega)
  have HPP := Lib.hid (show 0 ≤ pos ∧ pos < (l.length : Int) by omega)
  have HN := Lib.hid (show l.length ≤ 1048576 by omega)
  clear HR2 hp0 hp1 hn
  go_upto_region 6 with fail
  clear hn1 hn2 hw1 hw2
  go_cut [8] (fun v8 wx => ∃ (D : Nat) (ca : Option Addr) (cc : Nat), v8 = .pointer (some ⟨D, 0, none⟩) ∧ Hid (BX w wx A (.cells #[.slice a l.length c, .int .i64 pos] 60) (.cells #[.slice none 0 0, .int .i64 0] 60)) ∧ Hid (wx.heap[D]? = some (.cells #[.slice ca l.length cc, .int .i64 (pos + n)] 60 (0, 0))) ∧ Hid (wx.ownsRow w.heap.size 67 3 (.slice ca l.length cc) l.length (l.flatMap En.c)))
  case first =>
    obtain ⟨b0, b1⟩ := cells2 (X2.out.alloc (.cells #[.slice none 0 0, .int .i64 0] 60)).a
    go_region_law (first
      | (go_simp
         go_at_call 79
         refine calls_gen (Φ := fun wy => Hid (BX w wy A (.cells #[.slice a l.length c, .int .i64 pos] 60) (.cells #[.slice none 0 0, .int .i64 0] 60))) (by first | exact X2 | exact Lib.hid X2.out.drew | exact Lib.hid (X2.out.drewN 1)) ?_
         clear c0 c1 b0 b1
         rintro w3 X3
         refine (HCL.out _ X3.out.bl HN.out).mono ?_
         rintro e w4 ⟨cv, rfl, hcv, hb4⟩
         have X4 := Lib.hid (X3.out.call hb4)
         have O4 := Lib.hid (own_lower hcv X3.out.bl.size)
         clear hb4 hcv X3
         obtain ⟨ca, cc, rfl⟩ := own_shape O4.out
         obtain ⟨c0, c1⟩ := cells2 X4.out.a
         have XF := Lib.hid (X4.out.alloc (.cells #[.slice none 0 0, .int .i64 0] 60))
         have ZF := Lib.hid (alloc_at (w := w4) rfl (.cells #[.slice none 0 0, .int .i64 0] 60))
         have OF := Lib.hid (own_below O4.out ((Below.refl _ _).alloc (Nat.le_refl _) (.cells #[.slice none 0 0, .int .i64 0] 60)) (Nat.le_refl _))
         have HD := Lib.hid (lt_of_heap X4.out.b)
         obtain ⟨b0, b1⟩ := cells2 XF.out.a
         obtain ⟨z0, z1⟩ := cells2 ZF.out
         have zf0 := Lib.frozen_of_heap ZF.out 0
         have zf1 := Lib.frozen_of_heap ZF.out 1)
      | (go_simp
         go_at_call 79
         refine calls_gen (Φ := fun wy => Hid (BX w wy A (.cells #[.slice a l.length c, .int .i64 pos] 60) (.cells #[.slice none 0 0, .int .i64 0] 60)) ∧ Hid (wy.heap[w2.heap.size]? = some (.cells #[.slice none 0 0, .int .i64 0] 60 (0, 0)))) (by first | exact ⟨Lib.hid (X2.out.alloc _), Lib.hid (alloc_at rfl _)⟩ | exact ⟨Lib.hid (X2.out.alloc _).drew, Lib.hid (alloc_at rfl _)⟩ | exact ⟨Lib.hid (X2.out.drew.alloc _), Lib.hid (alloc_at rfl _)⟩) ?_
         clear c0 c1 b0 b1
         rintro w3 ⟨X3, Z3⟩
         refine (HCL.out _ X3.out.bl HN.out).mono ?_
         rintro e w4 ⟨cv, rfl, hcv, hb4⟩
         have XF := Lib.hid (X3.out.call hb4)
         have ZF := Lib.hid ((hb4.block _ (lt_of_heap Z3.out)).trans Z3.out)
         have OF := Lib.hid (own_lower hcv X3.out.bl.size)
         have HD := Lib.hid (lt_of_heap X2.out.b)
         clear hb4 hcv X3 Z3
         obtain ⟨ca, cc, rfl⟩ := own_shape OF.out
         obtain ⟨c0, c1⟩ := cells2 XF.out.a
         obtain ⟨z0, z1⟩ := cells2 ZF.out
         have zf0 := Lib.frozen_of_heap ZF.out 0
         have zf1 := Lib.frozen_of_heap ZF.out 1)
      | (trace_state; fail))
    all_goals
      obtain ⟨P1, P2, P3⟩ := go_pack XF.out ZF.out HD.out HA.out OF.out (pos + n)
      clear XF ZF OF
      go_wp2_with fail
      go_meet
      first | exact ⟨_, _, _, rfl, Lib.hid P1, Lib.hid P2, Lib.hid P3⟩ | exact ⟨_, _, _, rfl, Lib.hid P1.drew, Lib.hid P2, Lib.hid P3⟩ | exact ⟨_, _, _, rfl, Lib.hid (X4.out.alloc _), Lib.hid (alloc_at rfl _), Lib.hid (own_below O4.out ((Below.refl _ _).alloc (Nat.le_refl _) _) (Nat.le_refl _))⟩
  case rest =>
    obtain ⟨D, ca, cc, rfl, X5, D5, O5⟩ := hcut
    clear X2 c0 c1
    obtain ⟨c0, c1⟩ := cells2 X5.out.a
    obtain ⟨d0, d1⟩ := cells2 D5.out
    have HGO := Lib.hid (fun (w9 : World) (ho : w9.ownsRow w.heap.size 67 3 (.slice ca l.length cc) l.length (l.flatMap En.c)) => HG.out ca cc w9 (own_slE ho) HP.out)
    have HHE := Lib.hid (HH.out HPP.out)
    have Y5 := Lib.hid (show DX5 w wc A D (.cells #[.slice a l.length c, .int .i64 pos] 60) (.cells #[.slice none 0 0, .int .i64 0] 60) (.cells #[.slice ca l.length cc, .int .i64 (pos + n)] 60 (0, 0)) (.slice ca l.length cc) l from ⟨X5.out, D5.out, O5.out⟩)
    clear X5 D5 O5 HG HH HCL
    have hr := Lib.hid (show R = (⟨l, pos + n⟩, HO.doc != HE.doc, 0) by rw [← HR3.out, show (HO.doc != HE.doc) = !decide (HO.doc = HE.doc) from by by_cases h : HO.doc = HE.doc <;> simp [h, bne]])
    clear HR3
    obtain ⟨e0, e1⟩ := cells2 Y5.out.x.b
    have f0 := Lib.frozen_of_heap Y5.out.x.b 0
    have f1 := Lib.frozen_of_heap Y5.out.x.b 1
    go_upto_region 7 with fail
    go_region_law (first
      | (go_simp
         go_at_call 74
         refine calls_gen (Φ := fun wy => Hid (DX5 w wy A D (.cells #[.slice a l.length c, .int .i64 pos] 60) (.cells #[.slice none 0 0, .int .i64 0] 60) (.cells #[.slice ca l.length cc, .int .i64 (pos + n)] 60 (0, 0)) (.slice ca l.length cc) l)) (by first | exact Y5 | exact Lib.hid Y5.out.drew) ?_
         clear Y5 c0 c1 d0 d1 e0 e1 f0 f1
         rintro w6 Y6
         (first | (with_reducible refine (HGO.out _ Y6.out.o).mono ?_) | (with_reducible refine (HHE.out _ Y6.out.x.bl).mono ?_))
         rintro e w7 ⟨rfl, hb7⟩
         have Y5 := Lib.hid (Y6.out.call hb7)
         clear hb7 Y6
         obtain ⟨c0, c1⟩ := cells2 Y5.out.x.a
         obtain ⟨d0, d1⟩ := cells2 Y5.out.d
         obtain ⟨e0, e1⟩ := cells2 Y5.out.x.b
         have f0 := Lib.frozen_of_heap Y5.out.x.b 0
         have f1 := Lib.frozen_of_heap Y5.out.x.b 1)
      | (trace_state; fail))
    all_goals
      go_wp2_with fail
      have EB := Lib.hid (set_heap (set_heap Y5.out.x.b 0 (.slice ca l.length cc) (by simp)) 1 (.int .i64 (pos + n)) (by simp))
      have XB := Lib.hid ((Y5.out.x.bl.setCell (p := ⟨A + 1, 0, none⟩) HA.out (.slice ca l.length cc)).setCell (p := ⟨A + 1, 1, none⟩) HA.out (.int .i64 (pos + n)))
      have OB := Lib.hid (Y5.out.o.kept (Lib.grownBy_setB (Lib.grownBy_setB (gr_refl w7 (some (A + 1))) 0 (.slice ca l.length cc)) 1 (.int .i64 (pos + n))) (.inr (row_block Y5.out.o Y5.out.x.b (by decide))))
      obtain ⟨g0, g1⟩ := cells2 EB.out
      refine bodyPost_ret (v := .tuple #[.agg #[.slice ca l.length cc, .int .i64 (pos + n)], .bool (HO.doc != HE.doc), .int .i64 0]) (by simp [results, Tryz.results39, go_sem, g0, g1]) rfl ?_
      rw [hr.out]
      exact ⟨_, rfl, OB.out, XB.out⟩
end Go.Proofs.YtjcejijdeohkgaaGreatDoor
