/- The contract of trail.behind. -/
import Derived.Deep.AppendLies
import Derived.Test.YtjcejijdeohkgaaGreatDoorT7
namespace Go.Proofs.YtjcejijdeohkgaaGreatDoor
open Go.RowKit

/-- Three blocks of the call's own. -/
structure CX (w wy : World) (A : Nat) (o0 o1 o2 : Obj) : Prop where
  bl : Below w.heap.size w wy
  a : wy.heap[A]? = some o0
  b : wy.heap[A + 1]? = some o1
  c : wy.heap[A + 1 + 1]? = some o2
theorem CX.call {w wy w' : World} {A : Nat} {o0 o1 o2 : Obj} (h : CX w wy A o0 o1 o2) (hb : Below wy.heap.size wy w') : CX w w' A o0 o1 o2 := ⟨h.bl.trans (Below.le hb h.bl.size), (hb.block _ (lt_of_heap h.a)).trans h.a, (hb.block _ (lt_of_heap h.b)).trans h.b, (hb.block _ (lt_of_heap h.c)).trans h.c⟩
theorem CX.drew {w wy : World} {A : Nat} {o0 o1 o2 : Obj} (h : CX w wy A o0 o1 o2) : CX w wy.drew A o0 o1 o2 := h.call ⟨rfl, rfl, rfl, Nat.le_refl _, fun _ _ => rfl⟩
theorem CX.drewN {w wy : World} {A : Nat} {o0 o1 o2 : Obj} (h : CX w wy A o0 o1 o2) (n : Nat) : CX w (wy.drewN n) A o0 o1 o2 := h.call ⟨rfl, rfl, rfl, Nat.le_refl _, fun _ _ => rfl⟩
theorem CX.alloc {w wy : World} {A : Nat} {o0 o1 o2 : Obj} (h : CX w wy A o0 o1 o2) (o : Obj) : CX w (wy.alloc o) A o0 o1 o2 := h.call ((Below.refl _ _).alloc (Nat.le_refl _) _)
theorem CX.start {w : World} {A : Nat} (hA : w.heap.size = A) (o0 o1 o2 : Obj) : CX w (((w.alloc o0).alloc o1).alloc o2) A o0 o1 o2 := by
  have L := Loc.start3 (w := w) o0 o1 o2
  have k0 := L.k0
  have k1 := L.k1
  have k2 := L.k2
  rw [hA] at k0 k1 k2
  exact ⟨L.bl, k0, k1, k2⟩
/-- A call's own row is written: the blocks stay. -/
theorem CX.grown {w wy w' : World} {A : Nat} {o0 o1 o2 : Obj} (h : CX w wy A o0 o1 o2) {r : Option Nat} (hg : wy.grownBy w' r) (hr : ∀ k, r = some k → w.heap.size ≤ k ∧ k ≠ A ∧ k ≠ A + 1 ∧ k ≠ A + 1 + 1) : CX w w' A o0 o1 o2 :=
  ⟨h.bl.grown hg h.bl.size (fun k hk => (hr k hk).1), (hg.block _ (lt_of_heap h.a) (fun e => (hr _ e.symm).2.1 rfl)).trans h.a, (hg.block _ (lt_of_heap h.b) (fun e => (hr _ e.symm).2.2.1 rfl)).trans h.b, (hg.block _ (lt_of_heap h.c) (fun e => (hr _ e.symm).2.2.2 rfl)).trans h.c⟩
theorem take_slE {w : World} {a : Addr} {c : Nat} {l : List En} (n : Nat) (h : SlR w EnB 3 (.slice (some a) l.length c) l) : SlR w EnB 3 (.slice (some a) (l.take n).length c) (l.take n) := by
  have hc := SlR.cap h
  have hl : (l.take n).length ≤ l.length := by rw [List.length_take]; omega
  refine ⟨some a, c, rfl, by omega, by unfold maxLen; omega, fun h0 => ?_⟩
  obtain ⟨b, o, e, _⟩ := h.item 0 (by omega)
  refine ⟨b, o, e, fun k hk => ?_⟩
  obtain ⟨b', o', e', hi⟩ := h.item k (by omega)
  rw [e] at e'
  injection e' with e'
  injection e' with e1 e2
  subst e1 e2
  rw [List.getElem_take]
  exact hi
theorem drop_slE {w : World} {g c : Nat} {l : List En} (h : SlR w EnB 3 (.slice (some ⟨g, 0, none⟩) l.length c) l) : SlR w EnB 3 (.slice (some ⟨g, 3, none⟩) (l.drop 1).length (c - 1)) (l.drop 1) := by
  have hc := SlR.cap h
  have hl : (l.drop 1).length = l.length - 1 := List.length_drop
  refine ⟨some ⟨g, 3, none⟩, c - 1, rfl, by omega, by unfold maxLen; omega, fun h0 => ⟨g, 3, rfl, fun k hk => ?_⟩⟩
  obtain ⟨b', o', e', hi⟩ := h.item (k + 1) (by omega)
  injection e' with e'
  injection e' with e1 e2
  subst e1 e2
  rw [List.getElem_drop]
  have e3 : 0 + (k + 1) * 3 = 3 + k * 3 := by omega
  rw [e3] at hi
  have e4 : l[1 + k]'(by omega) = l[k + 1]'(by omega) := by congr 1; omega
  rw [e4]
  exact hi
theorem call79 (args : Array Value) (w : World) : Sem.run Tryz.prog (callFunc 79 args) w = .ok (.enter 79 args) w := by go_simp
theorem call76 (args : Array Value) (w : World) : Sem.run Tryz.prog (callFunc 76 args) w = .ok (.enter 76 args) w := by go_simp
set_option maxRecDepth 100000 in
set_option maxHeartbeats 16000000 in
theorem behind_any (a : Option Addr) (c : Nat) (t : Tr) (E : En) (w : World) (h : SlR w EnB 3 (.slice a t.l.length c) t.l) (hR : Right t) : Calls Tryz.prog 76 #[.agg #[.slice a t.l.length c, .int .i64 t.pos], E.v] w fun e w' => ∃ v, e = .returned (.agg #[v, .int .i64 (behindT t E).pos]) ∧ w'.ownsRow w.heap.size 67 3 v (behindT t E).l.length ((behindT t E).l.flatMap En.c) ∧ Below w.heap.size w w' := by
  obtain ⟨i0, gi0, gi1, gi2, gi3⟩ := info_parts en_info
  have p79 := call79
  have HRT := Lib.hid hR
  have hp := hR.p
  have hn := hR.n
  obtain ⟨q1, q2, q3⟩ := SlR.cap h
  obtain ⟨RT, hRT⟩ : ∃ RT, behindT t E = RT := ⟨_, rfl⟩
  rw [hRT]
  unfold behindT behindL at hRT
  have HRR := Lib.hid hRT
  clear hRT
  obtain ⟨l, pos⟩ := t
  simp only at *
  obtain ⟨k, rfl⟩ : ∃ k : Nat, pos = (k : Int) := ⟨pos.toNat, by omega⟩
  have hk : k < l.length := by omega
  obtain ⟨b, o, rfl, -⟩ := h.item 0 (by omega)
  have HTK := Lib.hid (take_slE (k + 1) h)
  have htl : (l.take (k + 1)).length = k + 1 := by rw [List.length_take]; omega
  obtain ⟨TK, hTK⟩ : ∃ TK, l.take (k + 1) = TK := ⟨_, rfl⟩
  rw [show ((k : Int)).toNat = k from Int.toNat_natCast k] at HRR
  rw [hTK] at HTK htl HRR
  have hw : IntKind.i64.wrap ((k : Int) + 1) = (TK.length : Int) := by rw [IntKind.wrap_i64]; omega
  have hle : TK.length ≤ c := by omega
  have hlei : (TK.length : Int) ≤ (c : Int) := by omega
  have HTL := Lib.hid (show TK.length ≤ 50 by omega)
  clear hR hp hn h hk hTK htl q1 q2 q3
  obtain ⟨A, hA⟩ : ∃ A, w.heap.size = A := ⟨_, rfl⟩
  simp only [En.v]
  go_enter Tryz.func76, Tryz.ntmps76
  go_upto_region 1 with fail
  refine code_gen (Φ := fun wy => Hid (CX w wy A (.cells #[.slice (some ⟨b, o, none⟩) l.length c, .int .i64 (k : Int)] 60) (.cells #[.string (bs E.url), .string (bs E.state), .int .i64 E.doc] 67) (.cells #[.slice none 0 0, .int .i64 0] 60))) (Lib.hid (CX.start hA _ _ _)) ?_
  intro w1 X1
  have HA := Lib.hid (show w.heap.size ≤ A by omega)
  have HAW := Lib.hid hA
  clear hA
  obtain ⟨c0, c1⟩ := cells2 X1.out.a
  obtain ⟨d0, d1, d2⟩ := cells3 X1.out.b
  obtain ⟨BL, hBL⟩ : ∃ BL, TK ++ [E] = BL := ⟨_, rfl⟩
  rw [hBL] at HRR
  have HBL := Lib.hid (show BL.length = TK.length + 1 ∧ TK.flatMap En.c ++ En.c E = BL.flatMap En.c by rw [← hBL]; exact ⟨by simp, by simp⟩)
  clear hBL
  obtain ⟨a0, a1⟩ := cells2 (X1.out.alloc (.cells #[.string (bs E.url), .string (bs E.state), .int .i64 E.doc] 67)).a
  go_cut [5] (fun v5 wx => ∃ (g cap : Nat), v5 = .slice (some ⟨g, 0, none⟩) BL.length cap ∧ Hid (CX w wx A (.cells #[.slice (some ⟨b, o, none⟩) l.length c, .int .i64 (k : Int)] 60) (.cells #[.string (bs E.url), .string (bs E.state), .int .i64 E.doc] 67) (.cells #[.slice none 0 0, .int .i64 0] 60)) ∧ Hid (wx.ownsRow w.heap.size 67 3 (.slice (some ⟨g, 0, none⟩) BL.length cap) BL.length (BL.flatMap En.c)))
  case first =>
    go_region_law (first
      | (refine step_append_lies _ (by rfl) (.tmp 12) (.tmp 14) 58 (by rfl) w.heap.size 67 i0 zEn 3 40 Tryz.underlying58 gi0 gi1 gi2 gi3 (by rfl) (by decide) (.slice ca TK.length cc) TK.length (TK.flatMap En.c) (by rfl) (own_below O3.out ((Below.refl _ _).alloc (Nat.le_refl _) _) (Nat.le_refl _)) ⟨w3.heap.size, 0, none⟩ 1 1 (En.c E) (by rfl) (by rfl) (World.news_of_block (alloc_at (w := w3) rfl (.cells #[.string (bs E.url), .string (bs E.state), .int .i64 E.doc] 67))) (fun u hu => one_ens [E] u (by simpa using hu)) (by decide) (by unfold maxLen; have := HTL.out; omega) (by have := HTL.out; omega) (Nat.le_trans X3.out.bl.size (World.grownBy_alloc _ _ none).size) _ (by rfl) ?_
         intro g cap w4 hown hgrow hat _
         have X4 := Lib.hid ((X3.out.alloc _).grown hgrow (fun k hk => by have h1 := HG3.out k hk; have h2 := HS2.out; exact ⟨by omega, by omega, by omega, by omega⟩))
         rw [← HBL.out.1, HBL.out.2] at hown
         rw [← HBL.out.1]
         have O4 := Lib.hid hown
         clear hown hgrow hat X3 O3)
      | (go_simp
         go_at_call 79
         refine calls_gen (Φ := fun wy => Hid (CX w wy A (.cells #[.slice (some ⟨b, o, none⟩) l.length c, .int .i64 (k : Int)] 60) (.cells #[.string (bs E.url), .string (bs E.state), .int .i64 E.doc] 67) (.cells #[.slice none 0 0, .int .i64 0] 60))) (by first | exact X1 | exact Lib.hid X1.out.drew | exact Lib.hid (X1.out.drewN 1)) ?_
         intro w2 X2
         refine (cloneE_any _ _ TK w2 (slE_below HTK.out X2.out.bl) (by have := HTL.out; omega)).mono ?_
         rintro e w3 ⟨cv, rfl, hcv, hb3⟩
         have O3 := Lib.hid (own_lower hcv X2.out.bl.size)
         have HG3 := Lib.hid (fun k hk => (hcv.lt k hk).1)
         have HS2 := Lib.hid (show w.heap.size ≤ w2.heap.size ∧ A + 1 + 1 < w2.heap.size from ⟨X2.out.bl.size, lt_of_heap X2.out.c⟩)
         obtain ⟨ca, cc, rfl⟩ := own_shape hcv
         have X3 := Lib.hid (X2.out.call hb3)
         clear hcv hb3 X2 d0 d1 d2
         obtain ⟨d0, d1, d2⟩ := cells3 X3.out.b)
      | (go_simp
         go_at_call 79
         refine calls_gen (Φ := fun wy => Hid (CX w wy A (.cells #[.slice (some ⟨b, o, none⟩) l.length c, .int .i64 (k : Int)] 60) (.cells #[.string (bs E.url), .string (bs E.state), .int .i64 E.doc] 67) (.cells #[.slice none 0 0, .int .i64 0] 60)) ∧ Hid (wy.heap[w1.heap.size]? = some (.cells #[.string (bs E.url), .string (bs E.state), .int .i64 E.doc] 67 (0, 0)))) (by first | exact ⟨Lib.hid (X1.out.alloc _).drew, Lib.hid (alloc_at rfl _)⟩ | exact ⟨Lib.hid (X1.out.drew.alloc _), Lib.hid (alloc_at rfl _)⟩ | exact ⟨Lib.hid (X1.out.alloc _), Lib.hid (alloc_at rfl _)⟩) ?_
         rintro w2 ⟨X2, RW⟩
         refine (cloneE_any _ _ TK w2 (slE_below HTK.out X2.out.bl) (by have := HTL.out; omega)).mono ?_
         rintro e w3 ⟨cv, rfl, hcv, hb3⟩
         have O3 := Lib.hid (own_lower hcv X2.out.bl.size)
         have HG3 := Lib.hid (fun k hk => (hcv.lt k hk).1)
         have HS2 := Lib.hid (show w.heap.size ≤ w2.heap.size ∧ A + 1 + 1 < w2.heap.size from ⟨X2.out.bl.size, lt_of_heap X2.out.c⟩)
         obtain ⟨ca, cc, rfl⟩ := own_shape hcv
         have X3 := Lib.hid (X2.out.call hb3)
         have RW3 := Lib.hid ((hb3.block _ (lt_of_heap RW.out)).trans RW.out)
         clear hcv hb3 X2 RW d0 d1 d2
         obtain ⟨d0, d1, d2⟩ := cells3 X3.out.b)
      | (refine step_append_lies _ (by rfl) (.tmp 12) (.tmp 14) 58 (by rfl) w.heap.size 67 i0 zEn 3 40 Tryz.underlying58 gi0 gi1 gi2 gi3 (by rfl) (by decide) (.slice ca TK.length cc) TK.length (TK.flatMap En.c) (by rfl) O3.out ⟨w1.heap.size, 0, none⟩ 1 1 (En.c E) (by rfl) (by rfl) (World.news_of_block RW3.out) (fun u hu => one_ens [E] u (by simpa using hu)) (by decide) (by unfold maxLen; have := HTL.out; omega) (by have := HTL.out; omega) X3.out.bl.size _ (by rfl) ?_
         intro g cap w4 hown hgrow hat _
         have X4 := Lib.hid (X3.out.grown hgrow (fun k hk => by have h1 := HG3.out k hk; have h2 := HS2.out; exact ⟨by omega, by omega, by omega, by omega⟩))
         rw [← HBL.out.1, HBL.out.2] at hown
         rw [← HBL.out.1]
         have O4 := Lib.hid hown
         clear hown hgrow hat X3 O3)
      | (trace_state; fail))
    all_goals
      go_wp2_with fail
      go_meet
      exact ⟨_, _, rfl, X4, O4⟩
  case rest =>
    obtain ⟨g, cap, rfl, X4, O4⟩ := hcut
    clear c0 c1 d0 d1 d2 a0 a1 X1 HTK hw hle hlei p79
    have p79 := call79
    obtain ⟨r1, r2, r3⟩ := SlR.cap (own_slE O4.out)
    have HN := Lib.hid (show BL.length ≤ 51 by have h1 := HBL.out.1; have h2 := HTL.out; omega)
    by_cases h50 : 50 < BL.length
    · have hb1 : (1 : Int) ≤ (BL.length : Int) := by omega
      have hb2 : 1 ≤ BL.length := by omega
      have hb3 : (50 : Int) < (BL.length : Int) := by omega
      have hb4 : (BL.length : Int) ≤ (cap : Int) := by omega
      obtain ⟨CL, hCL⟩ : ∃ CL, BL.drop 1 = CL := ⟨_, rfl⟩
      have hcll : CL.length = BL.length - 1 := by rw [← hCL, List.length_drop]
      have hrr := HRR.out
      rw [show cutL BL = CL by rw [← hCL]; unfold cutL; rw [if_pos h50]] at hrr
      subst hrr
      clear HRR
      have HCL := Lib.hid (show Calls Tryz.prog 79 #[.slice (some ⟨g, 3, none⟩) (BL.length - 1) (cap - 1)] wc fun e w' => ∃ v', e = .returned v' ∧ w'.ownsRow wc.heap.size 67 3 v' (BL.length - 1) (CL.flatMap En.c) ∧ Below wc.heap.size wc w' by have h := cloneE_any (some ⟨g, 3, none⟩) (cap - 1) (BL.drop 1) _ (drop_slE (own_slE O4.out)) (by rw [List.length_drop]; have := HN.out; omega); rw [hCL, hcll] at h; exact h)
      have hw : IntKind.i64.wrap (((BL.length - 1 : Nat) : Int) - 1) = (CL.length : Int) - 1 := by rw [IntKind.wrap_i64]; omega
      have HLEN := Lib.hid hcll
      clear hcll hCL
      go_wp2_with fail
      refine HCL.out.mono ?_
      rintro e w5 ⟨cv, rfl, hcv, hb5⟩
      have X5 := Lib.hid (X4.out.call hb5)
      have O5 := Lib.hid (own_lower hcv X4.out.bl.size)
      obtain ⟨ca, cc, rfl⟩ := own_shape hcv
      clear hcv hb5 X4 O4 HCL
      obtain ⟨e0, e1⟩ := cells2 X5.out.c
      have f0 := Lib.frozen_of_heap X5.out.c 0
      have f1 := Lib.frozen_of_heap X5.out.c 1
      have hA2 : w.heap.size ≤ A + 1 + 1 := by have := HA.out; omega
      have HA2 := Lib.hid hA2
      clear hA2
      go_wp2_with fail
      have EB := Lib.hid (set_heap (set_heap X5.out.c 0 (.slice ca (BL.length - 1) cc) (by simp)) 1 (.int .i64 ((CL.length : Int) - 1)) (by simp))
      have XB := Lib.hid ((X5.out.bl.setCell (p := ⟨A + 1 + 1, 0, none⟩) HA2.out (.slice ca (BL.length - 1) cc)).setCell (p := ⟨A + 1 + 1, 1, none⟩) HA2.out (.int .i64 ((CL.length : Int) - 1)))
      have OB := Lib.hid (O5.out.kept (Lib.grownBy_setB (Lib.grownBy_setB (gr_refl w5 (some (A + 1 + 1))) 0 (.slice ca (BL.length - 1) cc)) 1 (.int .i64 ((CL.length : Int) - 1))) (.inr (row_block O5.out X5.out.c (by decide))))
      have OL : ∀ W : World, W.ownsRow w.heap.size 67 3 (.slice ca (BL.length - 1) cc) (BL.length - 1) (CL.flatMap En.c) → W.ownsRow w.heap.size 67 3 (.slice ca (BL.length - 1) cc) CL.length (CL.flatMap En.c) := fun W h => by rw [HLEN.out]; exact h
      obtain ⟨g0, g1⟩ := cells2 EB.out
      refine bodyPost_ret (v := .agg #[.slice ca (BL.length - 1) cc, .int .i64 ((CL.length : Int) - 1)]) (by simp [results, Tryz.results76, go_sem, g0, g1]) rfl ?_
      exact ⟨_, rfl, OL _ OB.out, XB.out⟩
    · have hb3 : ¬ ((50 : Int) < (BL.length : Int)) := by omega
      obtain ⟨CL, hCL⟩ : ∃ CL, BL = CL := ⟨_, rfl⟩
      have hcll : CL.length = BL.length := by rw [← hCL]
      have hrr := HRR.out
      rw [show cutL BL = CL by rw [← hCL]; unfold cutL; rw [if_neg h50]] at hrr
      subst hrr
      clear HRR
      have HCL := Lib.hid (show Calls Tryz.prog 79 #[.slice (some ⟨g, 0, none⟩) BL.length cap] wc fun e w' => ∃ v', e = .returned v' ∧ w'.ownsRow wc.heap.size 67 3 v' BL.length (CL.flatMap En.c) ∧ Below wc.heap.size wc w' by rw [← hCL]; exact cloneE_any (some ⟨g, 0, none⟩) cap BL wc (own_slE O4.out) (by have := HN.out; omega))
      have hw : IntKind.i64.wrap (((BL.length : Nat) : Int) - 1) = (CL.length : Int) - 1 := by rw [IntKind.wrap_i64]; omega
      have HLEN := Lib.hid hcll
      clear hcll hCL
      go_wp2_with fail
      refine HCL.out.mono ?_
      rintro e w5 ⟨cv, rfl, hcv, hb5⟩
      have X5 := Lib.hid (X4.out.call hb5)
      have O5 := Lib.hid (own_lower hcv X4.out.bl.size)
      obtain ⟨ca, cc, rfl⟩ := own_shape hcv
      clear hcv hb5 X4 O4 HCL
      obtain ⟨e0, e1⟩ := cells2 X5.out.c
      have f0 := Lib.frozen_of_heap X5.out.c 0
      have f1 := Lib.frozen_of_heap X5.out.c 1
      have hA2 : w.heap.size ≤ A + 1 + 1 := by have := HA.out; omega
      have HA2 := Lib.hid hA2
      clear hA2
      go_wp2_with fail
      have EB := Lib.hid (set_heap (set_heap X5.out.c 0 (.slice ca (BL.length) cc) (by simp)) 1 (.int .i64 ((CL.length : Int) - 1)) (by simp))
      have XB := Lib.hid ((X5.out.bl.setCell (p := ⟨A + 1 + 1, 0, none⟩) HA2.out (.slice ca (BL.length) cc)).setCell (p := ⟨A + 1 + 1, 1, none⟩) HA2.out (.int .i64 ((CL.length : Int) - 1)))
      have OB := Lib.hid (O5.out.kept (Lib.grownBy_setB (Lib.grownBy_setB (gr_refl w5 (some (A + 1 + 1))) 0 (.slice ca (BL.length) cc)) 1 (.int .i64 ((CL.length : Int) - 1))) (.inr (row_block O5.out X5.out.c (by decide))))
      have OL : ∀ W : World, W.ownsRow w.heap.size 67 3 (.slice ca (BL.length) cc) (BL.length) (CL.flatMap En.c) → W.ownsRow w.heap.size 67 3 (.slice ca (BL.length) cc) CL.length (CL.flatMap En.c) := fun W h => by rw [HLEN.out]; exact h
      obtain ⟨g0, g1⟩ := cells2 EB.out
      refine bodyPost_ret (v := .agg #[.slice ca (BL.length) cc, .int .i64 ((CL.length : Int) - 1)]) (by simp [results, Tryz.results76, go_sem, g0, g1]) rfl ?_
      exact ⟨_, rfl, OL _ OB.out, XB.out⟩
end Go.Proofs.YtjcejijdeohkgaaGreatDoor
