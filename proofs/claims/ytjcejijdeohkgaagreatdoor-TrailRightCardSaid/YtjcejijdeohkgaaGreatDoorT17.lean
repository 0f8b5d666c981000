/- The law TrailRight over the walk. -/
import Derived.Test.YtjcejijdeohkgaaGreatDoorT12
namespace Go.Proofs.YtjcejijdeohkgaaGreatDoor
open Go.RowKit

theorem check0_any (a : Option Addr) (c : Nat) (t : Tr) (w : World) (h : SlR w EnB 3 (.slice a t.l.length c) t.l) (hT : TB w) (hR : Right t) : Calls Tryz.prog 41 #[.agg #[.slice a t.l.length c, .int .i64 t.pos]] w fun e w' => e = .returned (.int .i64 0) ∧ Below w.heap.size w w' := by
  have h9 := tcheck_any a c t w h hT
  rw [(check_iff t).2 hR] at h9
  exact h9
set_option maxRecDepth 100000 in
set_option maxHeartbeats 16000000 in
theorem law_right13 (a : Option Addr) (c : Nat) (t : Tr) (ref state : Bs) (n : Int) (w : World) (hT : TB w) (h : SlR w EnB 3 (.slice a t.l.length c) t.l) : Calls Tryz.prog 13 #[.agg #[.slice a t.l.length c, .int .i64 t.pos], .string (bs ref), .string (bs state), .int .i64 n] w fun e w' => e = .returned (.bool true) ∧ Below w.heap.size w w' := by
  have p36 := call36
  have p37 := call37
  have p40 := call40
  have p39 := call39
  have p38 := call38
  have p41 := call41
  have HTB := Lib.hid hT
  have H1 := Lib.hid (fun (w9 : World) (hb : Below w.heap.size w w9) => load_any a c t ref w9 (slE_below h hb) (hT.below hb))
  have H2 := Lib.hid (fun (w9 : World) (hb : Below w.heap.size w w9) => push_any a c t ref state w9 (slE_below h hb) (hT.below hb))
  have H3 := Lib.hid (fun (w9 : World) (hb : Below w.heap.size w w9) => replace_any a c t ref state w9 (slE_below h hb) (hT.below hb))
  have H4 := Lib.hid (fun (w9 : World) (hb : Below w.heap.size w w9) => go_any a c t n w9 (slE_below h hb) (hT.below hb))
  have R1 := Lib.hid (fun h0 => (ask_load (t := t) (ref := ref) h0).2.1)
  have R2 := Lib.hid (fun h0 => (ask_push (t := t) (ref := ref) (state := state) h0).2.1)
  have R3 := Lib.hid (fun h0 => ask_replace (t := t) (ref := ref) (state := state) h0)
  have R4 := Lib.hid (fun h0 => (ask_go (t := t) (n := n) h0).2.2.2.2.2)
  have HK := Lib.hid (fun (L : Tr) (hR : Right L) (la : Option Addr) (lc : Nat) (w9 : World) (hb : Below w.heap.size w w9) (hs : SlR w9 EnB 3 (.slice la L.l.length lc) L.l) => check0_any la lc L w9 hs (hT.below hb) hR)
  clear h hT
  generalize loadT t ref = G1 at *
  generalize pushT t ref state = G2 at *
  generalize replaceT t ref state = G3 at *
  generalize goT t n = G4 at *
  obtain ⟨L1, f1⟩ := G1
  obtain ⟨L2, f2⟩ := G2
  obtain ⟨L3, f3⟩ := G3
  obtain ⟨L4, b4, f4⟩ := G4
  obtain ⟨l, pos⟩ := t
  simp only at *
  obtain ⟨A, hA⟩ : ∃ A, w.heap.size = A := ⟨_, rfl⟩
  go_enter Tryz.func13, Tryz.ntmps13
  go_upto_region 1 with fail
  refine code_gen (Φ := fun wy => Hid (AX w wy A (.cells #[.slice a l.length c, .int .i64 pos] 60 (0, 0)))) (Lib.hid (AX.start hA _)) ?_
  clear hA
  intro wa XA
  obtain ⟨c0, c1⟩ := cells2 XA.out.a
  go_wp2_with fail
  refine (H1.out _ XA.out.bl).mono ?_
  rintro e wb ⟨vb, rfl, hob, hbb⟩
  obtain ⟨a1, c1', rfl⟩ := own_shape hob
  have XB := Lib.hid (XA.out.call hbb)
  have Z1 := Lib.hid (TX.new (t := L1) XB.out.bl hob)
  have XC := Lib.hid (XB.out.alloc (.cells #[.slice a1 L1.l.length c1', .int .i64 L1.pos] 60))
  obtain ⟨C1, hC⟩ : ∃ C, wb.heap.size = C := ⟨_, rfl⟩
  rw [hC] at Z1
  clear hob hbb c0 c1 H1 XA XB
  go_upto_region 2 with fail
  refine code_gen (Φ := fun wy => Hid (AX w wy A (.cells #[.slice a l.length c, .int .i64 pos] 60 (0, 0))) ∧ Hid (TX w wy C1 (.slice a1 L1.l.length c1') L1)) ⟨XC, Z1⟩ ?_
  clear XC Z1 hC
  rintro wa ⟨XA, Y1⟩
  obtain ⟨c0, c1⟩ := cells2 XA.out.a
  go_wp2_with fail
  refine (H2.out _ XA.out.bl).mono ?_
  rintro e wb ⟨vb, rfl, hob, hbb⟩
  obtain ⟨a2, c2', rfl⟩ := own_shape hob
  have XB := Lib.hid (XA.out.call hbb)
  have YB1 := Lib.hid (Y1.out.call hbb)
  have Z2 := Lib.hid (TX.new (t := L2) XB.out.bl hob)
  have XC := Lib.hid (XB.out.alloc (.cells #[.slice a2 L2.l.length c2', .int .i64 L2.pos] 60))
  have YC1 := Lib.hid (YB1.out.alloc (.cells #[.slice a2 L2.l.length c2', .int .i64 L2.pos] 60))
  obtain ⟨C2, hC⟩ : ∃ C, wb.heap.size = C := ⟨_, rfl⟩
  rw [hC] at Z2
  clear hob hbb c0 c1 H2 XA XB Y1 YB1
  go_upto_region 3 with fail
  refine code_gen (Φ := fun wy => Hid (AX w wy A (.cells #[.slice a l.length c, .int .i64 pos] 60 (0, 0))) ∧ Hid (TX w wy C1 (.slice a1 L1.l.length c1') L1) ∧ Hid (TX w wy C2 (.slice a2 L2.l.length c2') L2)) ⟨XC, YC1, Z2⟩ ?_
  clear XC YC1 Z2 hC
  rintro wa ⟨XA, Y1, Y2⟩
  obtain ⟨c0, c1⟩ := cells2 XA.out.a
  go_wp2_with fail
  refine (H3.out _ XA.out.bl).mono ?_
  rintro e wb ⟨vb, rfl, hob, hbb⟩
  obtain ⟨a3, c3', rfl⟩ := own_shape hob
  have XB := Lib.hid (XA.out.call hbb)
  have YB1 := Lib.hid (Y1.out.call hbb)
  have YB2 := Lib.hid (Y2.out.call hbb)
  have Z3 := Lib.hid (TX.new (t := L3) XB.out.bl hob)
  have XC := Lib.hid (XB.out.alloc (.cells #[.slice a3 L3.l.length c3', .int .i64 L3.pos] 60))
  have YC1 := Lib.hid (YB1.out.alloc (.cells #[.slice a3 L3.l.length c3', .int .i64 L3.pos] 60))
  have YC2 := Lib.hid (YB2.out.alloc (.cells #[.slice a3 L3.l.length c3', .int .i64 L3.pos] 60))
  obtain ⟨C3, hC⟩ : ∃ C, wb.heap.size = C := ⟨_, rfl⟩
  rw [hC] at Z3
  clear hob hbb c0 c1 H3 XA XB Y1 YB1 Y2 YB2
  go_upto_region 4 with fail
  refine code_gen (Φ := fun wy => Hid (AX w wy A (.cells #[.slice a l.length c, .int .i64 pos] 60 (0, 0))) ∧ Hid (TX w wy C1 (.slice a1 L1.l.length c1') L1) ∧ Hid (TX w wy C2 (.slice a2 L2.l.length c2') L2) ∧ Hid (TX w wy C3 (.slice a3 L3.l.length c3') L3)) ⟨XC, YC1, YC2, Z3⟩ ?_
  clear XC YC1 YC2 Z3 hC
  rintro wa ⟨XA, Y1, Y2, Y3⟩
  obtain ⟨c0, c1⟩ := cells2 XA.out.a
  go_wp2_with fail
  refine (H4.out _ XA.out.bl).mono ?_
  rintro e wb ⟨vb, rfl, hob, hbb⟩
  obtain ⟨a4, c4', rfl⟩ := own_shape hob
  have XB := Lib.hid (XA.out.call hbb)
  have YB1 := Lib.hid (Y1.out.call hbb)
  have YB2 := Lib.hid (Y2.out.call hbb)
  have YB3 := Lib.hid (Y3.out.call hbb)
  have Z4 := Lib.hid (TX.new (t := L4) XB.out.bl hob)
  have XC := Lib.hid (XB.out.alloc (.cells #[.slice a4 L4.l.length c4', .int .i64 L4.pos] 60))
  have YC1 := Lib.hid (YB1.out.alloc (.cells #[.slice a4 L4.l.length c4', .int .i64 L4.pos] 60))
  have YC2 := Lib.hid (YB2.out.alloc (.cells #[.slice a4 L4.l.length c4', .int .i64 L4.pos] 60))
  have YC3 := Lib.hid (YB3.out.alloc (.cells #[.slice a4 L4.l.length c4', .int .i64 L4.pos] 60))
  obtain ⟨C4, hC⟩ : ∃ C, wb.heap.size = C := ⟨_, rfl⟩
  rw [hC] at Z4
  clear hob hbb c0 c1 H4 XA XB Y1 YB1 Y2 YB2 Y3 YB3
  go_upto_region 5 with fail
  refine code_gen (Φ := fun wy => Hid (AX w wy A (.cells #[.slice a l.length c, .int .i64 pos] 60 (0, 0))) ∧ Hid (TX w wy C1 (.slice a1 L1.l.length c1') L1) ∧ Hid (TX w wy C2 (.slice a2 L2.l.length c2') L2) ∧ Hid (TX w wy C3 (.slice a3 L3.l.length c3') L3) ∧ Hid (TX w wy C4 (.slice a4 L4.l.length c4') L4)) ⟨XC, YC1, YC2, YC3, Z4⟩ ?_
  clear XC YC1 YC2 YC3 Z4 hC
  rintro wa ⟨XA, Y1, Y2, Y3, Y4⟩
  go_wp2_with fail
  refine (tlives_any _ (HTB.out.below XA.out.bl)).mono ?_
  rintro e wb ⟨rfl, hbb⟩
  have XB := Lib.hid (XA.out.call hbb)
  have YB1 := Lib.hid (Y1.out.call hbb)
  have YB2 := Lib.hid (Y2.out.call hbb)
  have YB3 := Lib.hid (Y3.out.call hbb)
  have YB4 := Lib.hid (Y4.out.call hbb)
  clear hbb XA Y1 Y2 Y3 Y4
  by_cases e1 : f1 = 0
  · have HRJ := Lib.hid (R1.out e1)
    subst e1
    obtain ⟨d0, d1⟩ := cells2 YB1.out.c
    go_wp2_with fail
    refine (HK.out L1 HRJ.out _ _ _ XB.out.bl YB1.out.s).mono ?_
    rintro e wx5 ⟨rfl, hbx⟩
    have X5 := Lib.hid (XB.out.call hbx)
    have Y52 := Lib.hid (YB2.out.call hbx)
    have Y53 := Lib.hid (YB3.out.call hbx)
    have Y54 := Lib.hid (YB4.out.call hbx)
    clear hbx d0 d1 HRJ
    by_cases e2 : f2 = 0
    · have HRJ := Lib.hid (R2.out e2)
      subst e2
      obtain ⟨d0, d1⟩ := cells2 Y52.out.c
      go_wp2_with fail
      refine (HK.out L2 HRJ.out _ _ _ X5.out.bl Y52.out.s).mono ?_
      rintro e wx6 ⟨rfl, hbx⟩
      have X6 := Lib.hid (X5.out.call hbx)
      have Y63 := Lib.hid (Y53.out.call hbx)
      have Y64 := Lib.hid (Y54.out.call hbx)
      clear hbx d0 d1 HRJ
      by_cases e3 : f3 = 0
      · have HRJ := Lib.hid (R3.out e3)
        subst e3
        obtain ⟨d0, d1⟩ := cells2 Y63.out.c
        go_wp2_with fail
        refine (HK.out L3 HRJ.out _ _ _ X6.out.bl Y63.out.s).mono ?_
        rintro e wx7 ⟨rfl, hbx⟩
        have X7 := Lib.hid (X6.out.call hbx)
        have Y74 := Lib.hid (Y64.out.call hbx)
        clear hbx d0 d1 HRJ
        by_cases e4 : f4 = 0
        · have HRJ := Lib.hid (R4.out e4)
          subst e4
          obtain ⟨d0, d1⟩ := cells2 Y74.out.c
          go_wp2_with fail
          refine (HK.out L4 HRJ.out _ _ _ X7.out.bl Y74.out.s).mono ?_
          rintro e wx8 ⟨rfl, hbx⟩
          have X8 := Lib.hid (X7.out.call hbx)
          clear hbx d0 d1 HRJ
          go_wp2_with fail
          go_ret
          exact ⟨rfl, X8.out.bl⟩
        · have e4b : (f4 == 0) = false := by simpa using e4
          go_wp2_with fail
          go_ret
          exact ⟨rfl, X7.out.bl⟩
      · have e3b : (f3 == 0) = false := by simpa using e3
        by_cases e4 : f4 = 0
        · have HRJ := Lib.hid (R4.out e4)
          subst e4
          obtain ⟨d0, d1⟩ := cells2 Y64.out.c
          go_wp2_with fail
          refine (HK.out L4 HRJ.out _ _ _ X6.out.bl Y64.out.s).mono ?_
          rintro e wx8 ⟨rfl, hbx⟩
          have X8 := Lib.hid (X6.out.call hbx)
          clear hbx d0 d1 HRJ
          go_wp2_with fail
          go_ret
          exact ⟨rfl, X8.out.bl⟩
        · have e4b : (f4 == 0) = false := by simpa using e4
          go_wp2_with fail
          go_ret
          exact ⟨rfl, X6.out.bl⟩
    · have e2b : (f2 == 0) = false := by simpa using e2
      by_cases e3 : f3 = 0
      · have HRJ := Lib.hid (R3.out e3)
        subst e3
        obtain ⟨d0, d1⟩ := cells2 Y53.out.c
        go_wp2_with fail
        refine (HK.out L3 HRJ.out _ _ _ X5.out.bl Y53.out.s).mono ?_
        rintro e wx7 ⟨rfl, hbx⟩
        have X7 := Lib.hid (X5.out.call hbx)
        have Y74 := Lib.hid (Y54.out.call hbx)
        clear hbx d0 d1 HRJ
        by_cases e4 : f4 = 0
        · have HRJ := Lib.hid (R4.out e4)
          subst e4
          obtain ⟨d0, d1⟩ := cells2 Y74.out.c
          go_wp2_with fail
          refine (HK.out L4 HRJ.out _ _ _ X7.out.bl Y74.out.s).mono ?_
          rintro e wx8 ⟨rfl, hbx⟩
          have X8 := Lib.hid (X7.out.call hbx)
          clear hbx d0 d1 HRJ
          go_wp2_with fail
          go_ret
          exact ⟨rfl, X8.out.bl⟩
        · have e4b : (f4 == 0) = false := by simpa using e4
          go_wp2_with fail
          go_ret
          exact ⟨rfl, X7.out.bl⟩
      · have e3b : (f3 == 0) = false := by simpa using e3
        by_cases e4 : f4 = 0
        · have HRJ := Lib.hid (R4.out e4)
          subst e4
          obtain ⟨d0, d1⟩ := cells2 Y54.out.c
          go_wp2_with fail
          refine (HK.out L4 HRJ.out _ _ _ X5.out.bl Y54.out.s).mono ?_
          rintro e wx8 ⟨rfl, hbx⟩
          have X8 := Lib.hid (X5.out.call hbx)
          clear hbx d0 d1 HRJ
          go_wp2_with fail
          go_ret
          exact ⟨rfl, X8.out.bl⟩
        · have e4b : (f4 == 0) = false := by simpa using e4
          go_wp2_with fail
          go_ret
          exact ⟨rfl, X5.out.bl⟩
  · have e1b : (f1 == 0) = false := by simpa using e1
    by_cases e2 : f2 = 0
    · have HRJ := Lib.hid (R2.out e2)
      subst e2
      obtain ⟨d0, d1⟩ := cells2 YB2.out.c
      go_wp2_with fail
      refine (HK.out L2 HRJ.out _ _ _ XB.out.bl YB2.out.s).mono ?_
      rintro e wx6 ⟨rfl, hbx⟩
      have X6 := Lib.hid (XB.out.call hbx)
      have Y63 := Lib.hid (YB3.out.call hbx)
      have Y64 := Lib.hid (YB4.out.call hbx)
      clear hbx d0 d1 HRJ
      by_cases e3 : f3 = 0
      · have HRJ := Lib.hid (R3.out e3)
        subst e3
        obtain ⟨d0, d1⟩ := cells2 Y63.out.c
        go_wp2_with fail
        refine (HK.out L3 HRJ.out _ _ _ X6.out.bl Y63.out.s).mono ?_
        rintro e wx7 ⟨rfl, hbx⟩
        have X7 := Lib.hid (X6.out.call hbx)
        have Y74 := Lib.hid (Y64.out.call hbx)
        clear hbx d0 d1 HRJ
        by_cases e4 : f4 = 0
        · have HRJ := Lib.hid (R4.out e4)
          subst e4
          obtain ⟨d0, d1⟩ := cells2 Y74.out.c
          go_wp2_with fail
          refine (HK.out L4 HRJ.out _ _ _ X7.out.bl Y74.out.s).mono ?_
          rintro e wx8 ⟨rfl, hbx⟩
          have X8 := Lib.hid (X7.out.call hbx)
          clear hbx d0 d1 HRJ
          go_wp2_with fail
          go_ret
          exact ⟨rfl, X8.out.bl⟩
        · have e4b : (f4 == 0) = false := by simpa using e4
          go_wp2_with fail
          go_ret
          exact ⟨rfl, X7.out.bl⟩
      · have e3b : (f3 == 0) = false := by simpa using e3
        by_cases e4 : f4 = 0
        · have HRJ := Lib.hid (R4.out e4)
          subst e4
          obtain ⟨d0, d1⟩ := cells2 Y64.out.c
          go_wp2_with fail
          refine (HK.out L4 HRJ.out _ _ _ X6.out.bl Y64.out.s).mono ?_
          rintro e wx8 ⟨rfl, hbx⟩
          have X8 := Lib.hid (X6.out.call hbx)
          clear hbx d0 d1 HRJ
          go_wp2_with fail
          go_ret
          exact ⟨rfl, X8.out.bl⟩
        · have e4b : (f4 == 0) = false := by simpa using e4
          go_wp2_with fail
          go_ret
          exact ⟨rfl, X6.out.bl⟩
    · have e2b : (f2 == 0) = false := by simpa using e2
      by_cases e3 : f3 = 0
      · have HRJ := Lib.hid (R3.out e3)
        subst e3
        obtain ⟨d0, d1⟩ := cells2 YB3.out.c
        go_wp2_with fail
        refine (HK.out L3 HRJ.out _ _ _ XB.out.bl YB3.out.s).mono ?_
        rintro e wx7 ⟨rfl, hbx⟩
        have X7 := Lib.hid (XB.out.call hbx)
        have Y74 := Lib.hid (YB4.out.call hbx)
        clear hbx d0 d1 HRJ
        by_cases e4 : f4 = 0
        · have HRJ := Lib.hid (R4.out e4)
          subst e4
          obtain ⟨d0, d1⟩ := cells2 Y74.out.c
          go_wp2_with fail
          refine (HK.out L4 HRJ.out _ _ _ X7.out.bl Y74.out.s).mono ?_
          rintro e wx8 ⟨rfl, hbx⟩
          have X8 := Lib.hid (X7.out.call hbx)
          clear hbx d0 d1 HRJ
          go_wp2_with fail
          go_ret
          exact ⟨rfl, X8.out.bl⟩
        · have e4b : (f4 == 0) = false := by simpa using e4
          go_wp2_with fail
          go_ret
          exact ⟨rfl, X7.out.bl⟩
      · have e3b : (f3 == 0) = false := by simpa using e3
        by_cases e4 : f4 = 0
        · have HRJ := Lib.hid (R4.out e4)
          subst e4
          obtain ⟨d0, d1⟩ := cells2 YB4.out.c
          go_wp2_with fail
          refine (HK.out L4 HRJ.out _ _ _ XB.out.bl YB4.out.s).mono ?_
          rintro e wx8 ⟨rfl, hbx⟩
          have X8 := Lib.hid (XB.out.call hbx)
          clear hbx d0 d1 HRJ
          go_wp2_with fail
          go_ret
          exact ⟨rfl, X8.out.bl⟩
        · have e4b : (f4 == 0) = false := by simpa using e4
          go_wp2_with fail
          go_ret
          exact ⟨rfl, XB.out.bl⟩
end Go.Proofs.YtjcejijdeohkgaaGreatDoor
