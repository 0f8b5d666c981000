/- The law TrailCuts over the walk. -/
import Derived.Test.YtjcejijdeohkgaaGreatDoorT14
namespace Go.Proofs.YtjcejijdeohkgaaGreatDoor
open Go.RowKit

theorem eqlE_same (k n : Bs) (s : Int) (w : World) : (binOp .eql 67 (.agg #[.string (bs k), .string (bs n), .int .i64 s]) (.agg #[.string (bs k), .string (bs n), .int .i64 s])).run Tryz.prog w = .ok (.bool true) w := by go_simp
theorem tx_store {w wy : World} {A C : Nat} {oA : Obj} {v v2 : Value} {t t2 : Tr} (X : AX w wy A oA) (Y : TX w wy C v t) (O : wy.ownsRow 0 67 3 v2 t2.l.length (t2.l.flatMap En.c)) (hC : A < C) (hA : w.heap.size ≤ A) :
    AX w ((wy.setCell ⟨C, 0, none⟩ v2).setCell ⟨C, 1, none⟩ (.int .i64 t2.pos)) A oA ∧ TX w ((wy.setCell ⟨C, 0, none⟩ v2).setCell ⟨C, 1, none⟩ (.int .i64 t2.pos)) C v2 t2 := by
  have hg := Lib.grownBy_setB (Lib.grownBy_setB (gr_refl wy (some C)) 0 v2) 1 (.int .i64 t2.pos)
  have hB : w.heap.size ≤ C := by omega
  have hb := (X.bl.setCell (p := ⟨C, 0, none⟩) hB v2).setCell (p := ⟨C, 1, none⟩) hB (.int .i64 t2.pos)
  refine ⟨⟨hb, (hg.block A (lt_of_heap X.a) (by intro e; injection e with e; omega)).trans X.a⟩, ⟨hb, set_heap (set_heap Y.c 0 v2 (by simp)) 1 (.int .i64 t2.pos) (by simp), O.kept hg (.inr (row_block O Y.c (by decide)))⟩⟩
set_option maxRecDepth 100000 in
set_option maxHeartbeats 16000000 in
theorem law_cuts11 (a : Option Addr) (c : Nat) (t : Tr) (ref state : Bs) (push : Bool) (w : World) (hT : TB w) (h : SlR w EnB 3 (.slice a t.l.length c) t.l) : Calls Tryz.prog 11 #[.agg #[.slice a t.l.length c, .int .i64 t.pos], .string (bs ref), .string (bs state), .bool push] w fun e w' => e = .returned (.bool true) ∧ Below w.heap.size w w' := by
  have p36 := call36
  have p37 := call37
  have p38 := call38
  have p39 := call39
  have HTB := Lib.hid hT
  have HS := Lib.hid (fun (w9 : World) (hb : Below w.heap.size w w9) => slE_below h hb)
  have H1 := Lib.hid (fun (w9 : World) (hb : Below w.heap.size w w9) => load_any a c t ref w9 (slE_below h hb) (hT.below hb))
  have H2 := Lib.hid (fun (w9 : World) (hb : Below w.heap.size w w9) => push_any a c t ref state w9 (slE_below h hb) (hT.below hb))
  have HL1 := Lib.hid (fun h0 => load_bad (t := t) (ref := ref) h0)
  have HL2 := Lib.hid (fun h0 => show Right t ∧ _ from ⟨(ask_load (t := t) (ref := ref) h0).1, (ask_load h0).2.2.elim fun e he => ask_cuts (ask_load h0).1 (ask_load h0).2.1 he⟩)
  have HP1 := Lib.hid (fun h0 => push_bad (t := t) (ref := ref) (state := state) h0)
  have HP2 := Lib.hid (fun h0 => show Right t ∧ _ from ⟨(ask_push (t := t) (ref := ref) (state := state) h0).1, ask_cuts (ask_push h0).1 (ask_push h0).2.1 (ask_push h0).2.2.1⟩)
  clear h hT
  generalize loadT t ref = G1 at *
  generalize pushT t ref state = G2 at *
  obtain ⟨L1, f1⟩ := G1
  obtain ⟨L2, f2⟩ := G2
  obtain ⟨l, pos⟩ := t
  simp only at *
  obtain ⟨A, hA⟩ : ∃ A, w.heap.size = A := ⟨_, rfl⟩
  go_enter Tryz.func11, Tryz.ntmps11
  go_upto_region 1 with fail
  refine code_gen (Φ := fun wy => Hid (AX w wy A (.cells #[.slice a l.length c, .int .i64 pos] 60 (0, 0)))) (Lib.hid (AX.start hA _)) ?_
  have HAW := Lib.hid hA
  clear hA
  intro w1 X1
  obtain ⟨c0, c1⟩ := cells2 X1.out.a
  go_wp2_with fail
  refine (H1.out _ X1.out.bl).mono ?_
  rintro e w2 ⟨v2, rfl, ho2, hb2⟩
  obtain ⟨la, lc, rfl⟩ := own_shape ho2
  have X2 := Lib.hid (X1.out.call hb2)
  have Y2 := Lib.hid (TX.new X2.out.bl ho2)
  have X3 := Lib.hid (X2.out.alloc (.cells #[.slice la L1.l.length lc, .int .i64 L1.pos] 60))
  have HC0 := Lib.hid (show A < w2.heap.size from lt_of_heap X2.out.a)
  clear ho2 hb2 X1 c0 c1 X2 H1
  obtain ⟨C1, hC⟩ : ∃ C, w2.heap.size = C := ⟨_, rfl⟩
  rw [hC] at Y2 HC0
  go_upto_region 2 with fail
  refine code_gen (Φ := fun wy => Hid (AX w wy A (.cells #[.slice a l.length c, .int .i64 pos] 60 (0, 0))) ∧ Hid (TX w wy C1 (.slice la L1.l.length lc) L1)) ⟨X3, Y2⟩ ?_
  clear X3 Y2 hC
  rintro w3 ⟨X3, Y3⟩
  cases push with
  | false =>
    have HBD := HL1
    have HCU := HL2
    have HGO := Lib.hid (fun (la : Option Addr) (lc : Nat) (k : Int) (w9 : World) (hb : Below w.heap.size w w9) (hs : SlR w9 EnB 3 (.slice la L1.l.length lc) L1.l) => go_any la lc L1 k w9 hs (HTB.out.below hb))
    clear HL1 HL2 HP1 HP2 H2
    obtain ⟨L, hL⟩ : ∃ L, L1 = L := ⟨_, rfl⟩
    subst hL
    obtain ⟨L, hL⟩ : ∃ L, L = L1 := ⟨_, rfl⟩
    subst hL
    obtain ⟨e0, hE0⟩ : ∃ e0, e0 = f1 := ⟨_, rfl⟩
    subst hE0
    have X9 := X3
    have Y9 := Y3
    clear X3 Y3
    go_wp2_with fail
    refine (tlives_any _ (HTB.out.below X9.out.bl)).mono ?_
    rintro e w10 ⟨rfl, hb10⟩
    have X10 := Lib.hid (X9.out.call hb10)
    have Y10 := Lib.hid (Y9.out.call hb10)
    clear hb10 X9 Y9
    by_cases he : e0 = 0
    case neg =>
      have heb : (e0 == 0) = false := by simpa using he
      have hz : L = zT := HBD.out he
      subst hz
      have HCZ : Hid (∀ wy : World, wy.heap[C1]? = some (.cells #[.slice la zT.l.length lc, .int .i64 zT.pos] 60 (0, 0)) → wy.heap[C1]? = some (.cells #[.slice la 0 lc, .int .i64 0] 60 (0, 0))) := Lib.hid (fun _ h => h)
      clear HBD HCU he HGO
      go_wp2_with fail
      refine (tlives_any _ (HTB.out.below X10.out.bl)).mono ?_
      rintro e w11 ⟨rfl, hb11⟩
      have X11 := Lib.hid (X10.out.call hb11)
      have Y11 := Lib.hid (Y10.out.call hb11)
      clear hb11 X10 Y10
      obtain ⟨d0, d1⟩ := cells2 (HCZ.out _ Y11.out.c)
      go_wp2_with fail
      go_ret
      exact ⟨rfl, X11.out.bl⟩
    obtain ⟨hR, u1, u2, u3, u4, u5, u6, u7⟩ := HCU.out he
    subst he
    have hp := hR.p
    have HU5 := Lib.hid u5
    have HU4 := Lib.hid u4
    have HU6 := Lib.hid (And.intro u6 u7)
    have HU3 := Lib.hid u3
    have HR := Lib.hid hp
    have HG1 := Lib.hid (fun (w9 : World) (hb : Below w.heap.size w w9) (hs : SlR w9 EnB 3 (.slice la L.l.length lc) L.l) => HGO.out la lc 1 w9 hb hs)
    have HG2 := Lib.hid (fun (w9 : World) (hb : Below w.heap.size w w9) (hs : SlR w9 EnB 3 (.slice la L.l.length lc) L.l) => HGO.out la lc (-1) w9 hb hs)
    rw [u1] at HG1
    rw [u2, u3] at HG2
    generalize (goT L 1).1 = B1 at *
    generalize (goT L 1).2.1 = B2 at *
    generalize (goT L (-1)).2.1 = B3 at *
    clear HCU HBD u1 u2 u3 u4 u5 u6 u7 hp hR HGO
    obtain ⟨d0, d1⟩ := cells2 Y10.out.c
    go_wp2_with fail
    refine (HG1.out _ X10.out.bl Y10.out.s).mono ?_
    rintro e w11 ⟨v11, rfl, ho11, hb11⟩
    have X11 := Lib.hid (X10.out.call hb11)
    have Y11 := Lib.hid (Y10.out.call hb11)
    have X12 := Lib.hid (X11.out.alloc (.cells #[v11, .int .i64 B1.pos] 60))
    have Y12 := Lib.hid (Y11.out.alloc (.cells #[v11, .int .i64 B1.pos] 60))
    obtain ⟨ba, bc, rfl⟩ := own_shape ho11
    clear ho11 hb11 X10 Y10 d0 d1 X11 Y11 HG1
    go_upto_region 7 with fail
    refine code_gen (Φ := fun wy => Hid (AX w wy A (.cells #[.slice a l.length c, .int .i64 pos] 60 (0, 0))) ∧ Hid (TX w wy C1 (.slice la L.l.length lc) L)) ⟨X12, Y12⟩ ?_
    clear X12 Y12
    rintro w12 ⟨X12, Y12⟩
    obtain ⟨d0, d1⟩ := cells2 Y12.out.c
    go_wp2_with fail
    refine (HG2.out _ X12.out.bl Y12.out.s).mono ?_
    rintro e w13 ⟨v13, rfl, ho13, hb13⟩
    obtain ⟨qa, qc, rfl⟩ := own_shape ho13
    have X13 := Lib.hid (X12.out.call hb13)
    have Z13 := Lib.hid (TX.new (t := ⟨L.l, L.pos + -1⟩) X13.out.bl ho13)
    have X14 := Lib.hid (X13.out.alloc (.cells #[.slice qa L.l.length qc, .int .i64 (L.pos + -1)] 60))
    clear ho13 hb13 X12 Y12 d0 d1 X13 HG2
    obtain ⟨C2, hC⟩ : ∃ C, w13.heap.size = C := ⟨_, rfl⟩
    rw [hC] at Z13
    go_upto_region 10 with fail
    refine code_gen (Φ := fun wy => Hid (AX w wy A (.cells #[.slice a l.length c, .int .i64 pos] 60 (0, 0))) ∧ Hid (TX w wy C2 (.slice qa L.l.length qc) ⟨L.l, L.pos + -1⟩)) ⟨X14, Z13⟩ ?_
    clear X14 Z13 hC
    rintro w14 ⟨X14, Z14⟩
    obtain ⟨kq, hkq⟩ : ∃ kq : Nat, L.pos + -1 = (kq : Int) := ⟨(L.pos + -1).toNat, by have := HU6.out; omega⟩
    obtain ⟨kt, rfl⟩ : ∃ kt : Nat, pos = (kt : Int) := ⟨pos.toNat, by have := HR.out; omega⟩
    have hkt : kt < l.length := by have := HR.out; omega
    have hq1 : kq < L.l.length := by have := HU6.out; omega
    obtain ⟨gq, rfl⟩ := own_some Z14.out.o (show 0 < L.l.length by omega)
    obtain ⟨x0, x1, x2⟩ := here_cells (t := ⟨L.l, L.pos + -1⟩) Z14.out.o hq1 hkq
    rw [HU5.out] at x0 x1 x2
    obtain ⟨b, o, rfl, hi⟩ := (HS.out _ X14.out.bl).item kt hkt
    rw [← here_get (t := ⟨l, (kt : Int)⟩) hkt rfl] at hi
    obtain ⟨y0, y1, y2⟩ := hi
    generalize hereE ⟨l, (kt : Int)⟩ = HE at *
    have hz := Z14.out.c
    rw [show (⟨L.l, L.pos + -1⟩ : Tr).pos = (kq : Int) from hkq] at hz
    obtain ⟨e0, e1⟩ := cells2 hz
    obtain ⟨k0, k1⟩ := cells2 X14.out.a
    have hq2 : (kq : Int) < (L.l.length : Int) := by omega
    have ht2 : (kt : Int) < (l.length : Int) := by omega
    have hl50 : (L.l.length : Int) ≤ 50 := by have := HU4.out; omega
    have HZ := Lib.hid hz
    clear hz hkq HU4 HU5 HU6 HU3 HR
    have heq := eqlE_same HE.url HE.state HE.doc
    go_quiet (fail)
    all_goals
      go_wp2_with fail
      go_ret
      exact ⟨rfl, below_drewN X14.out.bl _⟩
  | true =>
    have HBD := HP1
    have HCU := HP2
    clear HL1 HL2 HP1 HP2
    obtain ⟨c0, c1⟩ := cells2 X3.out.a
    go_wp2_with fail
    refine (H2.out _ X3.out.bl).mono ?_
    rintro e w5 ⟨v5, rfl, ho5, hb5⟩
    obtain ⟨ma, mc, rfl⟩ := own_shape ho5
    have X5 := Lib.hid (X3.out.call hb5)
    have Y5 := Lib.hid (Y3.out.call hb5)
    have O5 := Lib.hid (own_lower ho5 (Nat.zero_le _))
    clear ho5 hb5 X3 Y3 c0 c1 H2
    have S5 := Lib.hid (tx_store X5.out Y5.out O5.out HC0.out (by have := HAW.out; omega))
    obtain ⟨d0, d1⟩ := cells2 Y5.out.c
    have f0 := Lib.frozen_of_heap Y5.out.c 0
    have f1' := Lib.frozen_of_heap Y5.out.c 1
    go_upto_region 4 with fail
    refine code_gen (Φ := fun wy => Hid (AX w wy A (.cells #[.slice a l.length c, .int .i64 pos] 60 (0, 0))) ∧ Hid (TX w wy C1 (.slice ma L2.l.length mc) L2)) ⟨Lib.hid S5.out.1, Lib.hid S5.out.2⟩ ?_
    clear S5 X5 Y5 O5 d0 d1 f0 f1'
    rintro w9 ⟨X9, Y9⟩
    have HGO := Lib.hid (fun (la : Option Addr) (lc : Nat) (k : Int) (w9 : World) (hb : Below w.heap.size w w9) (hs : SlR w9 EnB 3 (.slice la L2.l.length lc) L2.l) => go_any la lc L2 k w9 hs (HTB.out.below hb))
    obtain ⟨L, hL⟩ : ∃ L, L = L2 := ⟨_, rfl⟩
    subst hL
    obtain ⟨e0, hE0⟩ : ∃ e0, e0 = f2 := ⟨_, rfl⟩
    subst hE0
    go_wp2_with fail
    refine (tlives_any _ (HTB.out.below X9.out.bl)).mono ?_
    rintro e w10 ⟨rfl, hb10⟩
    have X10 := Lib.hid (X9.out.call hb10)
    have Y10 := Lib.hid (Y9.out.call hb10)
    clear hb10 X9 Y9
    by_cases he : e0 = 0
    case neg =>
      have heb : (e0 == 0) = false := by simpa using he
      have hz : L = zT := HBD.out he
      subst hz
      have HCZ : Hid (∀ wy : World, wy.heap[C1]? = some (.cells #[.slice ma zT.l.length mc, .int .i64 zT.pos] 60 (0, 0)) → wy.heap[C1]? = some (.cells #[.slice ma 0 mc, .int .i64 0] 60 (0, 0))) := Lib.hid (fun _ h => h)
      clear HBD HCU he HGO
      go_wp2_with fail
      refine (tlives_any _ (HTB.out.below X10.out.bl)).mono ?_
      rintro e w11 ⟨rfl, hb11⟩
      have X11 := Lib.hid (X10.out.call hb11)
      have Y11 := Lib.hid (Y10.out.call hb11)
      clear hb11 X10 Y10
      obtain ⟨d0, d1⟩ := cells2 (HCZ.out _ Y11.out.c)
      go_wp2_with fail
      go_ret
      exact ⟨rfl, X11.out.bl⟩
    obtain ⟨hR, u1, u2, u3, u4, u5, u6, u7⟩ := HCU.out he
    subst he
    have hp := hR.p
    have HU5 := Lib.hid u5
    have HU4 := Lib.hid u4
    have HU6 := Lib.hid (And.intro u6 u7)
    have HU3 := Lib.hid u3
    have HR := Lib.hid hp
    have HG1 := Lib.hid (fun (w9 : World) (hb : Below w.heap.size w w9) (hs : SlR w9 EnB 3 (.slice ma L.l.length mc) L.l) => HGO.out ma mc 1 w9 hb hs)
    have HG2 := Lib.hid (fun (w9 : World) (hb : Below w.heap.size w w9) (hs : SlR w9 EnB 3 (.slice ma L.l.length mc) L.l) => HGO.out ma mc (-1) w9 hb hs)
    rw [u1] at HG1
    rw [u2, u3] at HG2
    generalize (goT L 1).1 = B1 at *
    generalize (goT L 1).2.1 = B2 at *
    generalize (goT L (-1)).2.1 = B3 at *
    clear HCU HBD u1 u2 u3 u4 u5 u6 u7 hp hR HGO
    obtain ⟨d0, d1⟩ := cells2 Y10.out.c
    go_wp2_with fail
    refine (HG1.out _ X10.out.bl Y10.out.s).mono ?_
    rintro e w11 ⟨v11, rfl, ho11, hb11⟩
    have X11 := Lib.hid (X10.out.call hb11)
    have Y11 := Lib.hid (Y10.out.call hb11)
    have X12 := Lib.hid (X11.out.alloc (.cells #[v11, .int .i64 B1.pos] 60))
    have Y12 := Lib.hid (Y11.out.alloc (.cells #[v11, .int .i64 B1.pos] 60))
    obtain ⟨ba, bc, rfl⟩ := own_shape ho11
    clear ho11 hb11 X10 Y10 d0 d1 X11 Y11 HG1
    go_upto_region 7 with fail
    refine code_gen (Φ := fun wy => Hid (AX w wy A (.cells #[.slice a l.length c, .int .i64 pos] 60 (0, 0))) ∧ Hid (TX w wy C1 (.slice ma L.l.length mc) L)) ⟨X12, Y12⟩ ?_
    clear X12 Y12
    rintro w12 ⟨X12, Y12⟩
    obtain ⟨d0, d1⟩ := cells2 Y12.out.c
    go_wp2_with fail
    refine (HG2.out _ X12.out.bl Y12.out.s).mono ?_
    rintro e w13 ⟨v13, rfl, ho13, hb13⟩
    obtain ⟨qa, qc, rfl⟩ := own_shape ho13
    have X13 := Lib.hid (X12.out.call hb13)
    have Z13 := Lib.hid (TX.new (t := ⟨L.l, L.pos + -1⟩) X13.out.bl ho13)
    have X14 := Lib.hid (X13.out.alloc (.cells #[.slice qa L.l.length qc, .int .i64 (L.pos + -1)] 60))
    clear ho13 hb13 X12 Y12 d0 d1 X13 HG2
    obtain ⟨C2, hC⟩ : ∃ C, w13.heap.size = C := ⟨_, rfl⟩
    rw [hC] at Z13
    go_upto_region 10 with fail
    refine code_gen (Φ := fun wy => Hid (AX w wy A (.cells #[.slice a l.length c, .int .i64 pos] 60 (0, 0))) ∧ Hid (TX w wy C2 (.slice qa L.l.length qc) ⟨L.l, L.pos + -1⟩)) ⟨X14, Z13⟩ ?_
    clear X14 Z13 hC
    rintro w14 ⟨X14, Z14⟩
    obtain ⟨kq, hkq⟩ : ∃ kq : Nat, L.pos + -1 = (kq : Int) := ⟨(L.pos + -1).toNat, by have := HU6.out; omega⟩
    obtain ⟨kt, rfl⟩ : ∃ kt : Nat, pos = (kt : Int) := ⟨pos.toNat, by have := HR.out; omega⟩
    have hkt : kt < l.length := by have := HR.out; omega
    have hq1 : kq < L.l.length := by have := HU6.out; omega
    obtain ⟨gq, rfl⟩ := own_some Z14.out.o (show 0 < L.l.length by omega)
    obtain ⟨x0, x1, x2⟩ := here_cells (t := ⟨L.l, L.pos + -1⟩) Z14.out.o hq1 hkq
    rw [HU5.out] at x0 x1 x2
    obtain ⟨b, o, rfl, hi⟩ := (HS.out _ X14.out.bl).item kt hkt
    rw [← here_get (t := ⟨l, (kt : Int)⟩) hkt rfl] at hi
    obtain ⟨y0, y1, y2⟩ := hi
    generalize hereE ⟨l, (kt : Int)⟩ = HE at *
    have hz := Z14.out.c
    rw [show (⟨L.l, L.pos + -1⟩ : Tr).pos = (kq : Int) from hkq] at hz
    obtain ⟨e0, e1⟩ := cells2 hz
    obtain ⟨k0, k1⟩ := cells2 X14.out.a
    have hq2 : (kq : Int) < (L.l.length : Int) := by omega
    have ht2 : (kt : Int) < (l.length : Int) := by omega
    have hl50 : (L.l.length : Int) ≤ 50 := by have := HU4.out; omega
    have HZ := Lib.hid hz
    clear hz hkq HU4 HU5 HU6 HU3 HR
    have heq := eqlE_same HE.url HE.state HE.doc
    go_quiet (fail)
    all_goals
      go_wp2_with fail
      go_ret
      exact ⟨rfl, below_drewN X14.out.bl _⟩
end Go.Proofs.YtjcejijdeohkgaaGreatDoor
