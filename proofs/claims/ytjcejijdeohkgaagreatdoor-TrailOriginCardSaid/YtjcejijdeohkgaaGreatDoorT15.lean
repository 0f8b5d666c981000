/- The law TrailOrigin over the walk. -/
import Derived.Test.YtjcejijdeohkgaaGreatDoorT14
namespace Go.Proofs.YtjcejijdeohkgaaGreatDoor
open Go.RowKit

set_option maxRecDepth 100000 in
set_option maxHeartbeats 16000000 in
theorem law_origin12 (a : Option Addr) (c : Nat) (t : Tr) (ref state : Bs) (w : World) (hT : TB w) (h : SlR w EnB 3 (.slice a t.l.length c) t.l) : Calls Tryz.prog 12 #[.agg #[.slice a t.l.length c, .int .i64 t.pos], .string (bs ref), .string (bs state)] w fun e w' => e = .returned (.bool true) ∧ Below w.heap.size w w' := by
  have p37 := call37
  have p38 := call38
  have p25 := call25
  have HTB := Lib.hid hT
  have HA := Lib.hid (fun h0 => ask_origin (t := t) (ref := ref) (state := state) h0)
  have H1 := Lib.hid (fun (w9 : World) (hb : Below w.heap.size w w9) => push_any a c t ref state w9 (slE_below h hb) (hT.below hb))
  have H3 : Hid (∀ w9, Below w.heap.size w w9 → Calls Tryz.prog 37 #[.agg #[.slice a t.l.length c, .int .i64 t.pos], .string ⟨#[47]⟩, .string ⟨#[]⟩] w9 fun e w' => ∃ v, e = .returned (.tuple #[.agg #[v, .int .i64 (pushT t [47] []).1.pos], .int .i64 (pushT t [47] []).2]) ∧ w'.ownsRow w9.heap.size 67 3 v (pushT t [47] []).1.l.length ((pushT t [47] []).1.l.flatMap En.c) ∧ Below w9.heap.size w9 w') := Lib.hid (fun w9 hb => push_any a c t [47] [] w9 (slE_below h hb) (hT.below hb))
  clear h hT
  generalize pushT t [47] [] = G3 at *
  generalize pushT t ref state = G at *
  obtain ⟨P, e0⟩ := G
  have H2 : Hid (∀ (pa : Option Addr) (pc : Nat) (w9 : World), Below w.heap.size w w9 → SlR w9 EnB 3 (.slice pa P.l.length pc) P.l → Calls Tryz.prog 37 #[.agg #[.slice pa P.l.length pc, .int .i64 P.pos], .string ⟨#[47]⟩, .string ⟨#[]⟩] w9 fun e w' => ∃ v, e = .returned (.tuple #[.agg #[v, .int .i64 (pushT P [47] []).1.pos], .int .i64 (pushT P [47] []).2]) ∧ w'.ownsRow w9.heap.size 67 3 v (pushT P [47] []).1.l.length ((pushT P [47] []).1.l.flatMap En.c) ∧ Below w9.heap.size w9 w') := Lib.hid (fun pa pc w9 hb hs => push_any pa pc P [47] [] w9 hs (HTB.out.below hb))
  simp only at HA H1
  generalize pushT P [47] [] = G2 at *
  obtain ⟨Q, f⟩ := G2
  obtain ⟨R, g⟩ := G3
  obtain ⟨l, pos⟩ := t
  simp only at *
  obtain ⟨A, hA⟩ : ∃ A, w.heap.size = A := ⟨_, rfl⟩
  go_enter Tryz.func12, Tryz.ntmps12
  go_upto_region 1 with fail
  refine code_gen (Φ := fun wy => Hid (AX w wy A (.cells #[.slice a l.length c, .int .i64 pos] 60 (0, 0)))) (Lib.hid (AX.start hA _)) ?_
  clear hA
  intro w1 X1
  obtain ⟨c0, c1⟩ := cells2 X1.out.a
  go_wp2_with fail
  refine (H1.out _ X1.out.bl).mono ?_
  rintro e w2 ⟨v2, rfl, ho2, hb2⟩
  obtain ⟨pa, pc, rfl⟩ := own_shape ho2
  have X2 := Lib.hid (X1.out.call hb2)
  have Y2 := Lib.hid (TX.new X2.out.bl ho2)
  have X3 := Lib.hid (X2.out.alloc (.cells #[.slice pa P.l.length pc, .int .i64 P.pos] 60))
  clear ho2 hb2 X1 c0 c1 X2 H1
  obtain ⟨C1, hC⟩ : ∃ C, w2.heap.size = C := ⟨_, rfl⟩
  rw [hC] at Y2
  go_upto_region 2 with fail
  refine code_gen (Φ := fun wy => Hid (AX w wy A (.cells #[.slice a l.length c, .int .i64 pos] 60 (0, 0))) ∧ Hid (TX w wy C1 (.slice pa P.l.length pc) P)) ⟨X3, Y2⟩ ?_
  clear X3 Y2 hC
  rintro w3 ⟨X3, Y3⟩
  go_wp2_with fail
  refine (tlives_any _ (HTB.out.below X3.out.bl)).mono ?_
  rintro e w4 ⟨rfl, hb4⟩
  have X4 := Lib.hid (X3.out.call hb4)
  have Y4 := Lib.hid (Y3.out.call hb4)
  clear hb4 X3 Y3
  by_cases he : e0 = 0
  case neg =>
    have heb : (e0 == 0) = false := by simpa using he
    clear HA he
    go_wp2_with fail
    refine (tlives_any _ (HTB.out.below X4.out.bl)).mono ?_
    rintro e w5 ⟨rfl, hb5⟩
    have X5 := Lib.hid (X4.out.call hb5)
    clear hb5 X4 Y4
    go_wp2_with fail
    go_ret
    exact ⟨rfl, X5.out.bl⟩
  obtain ⟨hf, hg, hu, hRQ, hRR⟩ := HA.out he
  subst he
  subst hf hg
  have HU := Lib.hid hu
  have HQ := Lib.hid hRQ
  have HR := Lib.hid hRR
  clear HA hu hRQ hRR
  obtain ⟨d0, d1⟩ := cells2 Y4.out.c
  go_wp2_with fail
  refine (H2.out _ _ _ X4.out.bl Y4.out.s).mono ?_
  rintro e w5 ⟨v5, rfl, ho5, hb5⟩
  obtain ⟨qa, qc, rfl⟩ := own_shape ho5
  have X5 := Lib.hid (X4.out.call hb5)
  have Z5 := Lib.hid (TX.new X5.out.bl ho5)
  have X6 := Lib.hid (X5.out.alloc (.cells #[.slice qa Q.l.length qc, .int .i64 Q.pos] 60))
  clear ho5 hb5 X4 Y4 d0 d1 X5 H2
  obtain ⟨C2, hC⟩ : ∃ C, w5.heap.size = C := ⟨_, rfl⟩
  rw [hC] at Z5
  go_upto_region 5 with fail
  refine code_gen (Φ := fun wy => Hid (AX w wy A (.cells #[.slice a l.length c, .int .i64 pos] 60 (0, 0))) ∧ Hid (TX w wy C2 (.slice qa Q.l.length qc) Q)) ⟨X6, Z5⟩ ?_
  clear X6 Z5 hC
  rintro w6 ⟨X6, Z6⟩
  obtain ⟨c0, c1⟩ := cells2 X6.out.a
  go_wp2_with fail
  refine (H3.out _ X6.out.bl).mono ?_
  rintro e w7 ⟨v7, rfl, ho7, hb7⟩
  obtain ⟨ra, rc, rfl⟩ := own_shape ho7
  have X7 := Lib.hid (X6.out.call hb7)
  have Z7 := Lib.hid (Z6.out.call hb7)
  have V7 := Lib.hid (TX.new X7.out.bl ho7)
  have Z8 := Lib.hid (Z7.out.alloc (.cells #[.slice ra R.l.length rc, .int .i64 R.pos] 60))
  clear ho7 hb7 X6 Z6 c0 c1 X7 Z7 H3
  obtain ⟨C3, hC⟩ : ∃ C, w7.heap.size = C := ⟨_, rfl⟩
  rw [hC] at V7
  go_upto_region 6 with fail
  refine code_gen (Φ := fun wy => Hid (TX w wy C2 (.slice qa Q.l.length qc) Q) ∧ Hid (TX w wy C3 (.slice ra R.l.length rc) R)) ⟨Z8, V7⟩ ?_
  clear Z8 V7 hC
  rintro w8 ⟨Z8, V8⟩
  obtain ⟨kq, hkq⟩ : ∃ kq : Nat, Q.pos = (kq : Int) := ⟨Q.pos.toNat, by have := HQ.out.p; omega⟩
  obtain ⟨kr, hkr⟩ : ∃ kr : Nat, R.pos = (kr : Int) := ⟨R.pos.toNat, by have := HR.out.p; omega⟩
  have hq1 : kq < Q.l.length := by have := HQ.out.p; omega
  have hr1 : kr < R.l.length := by have := HR.out.p; omega
  obtain ⟨gq, rfl⟩ := own_some Z8.out.o (by omega)
  obtain ⟨gr, rfl⟩ := own_some V8.out.o (by omega)
  have HCQ := Lib.hid (fun (w9 : World) (ho : w9.ownsRow 0 67 3 (.slice (some ⟨gq, 0, none⟩) Q.l.length qc) Q.l.length (Q.l.flatMap En.c)) => (here_cells ho hq1 hkq).1)
  have HCR := Lib.hid (fun (w9 : World) (ho : w9.ownsRow 0 67 3 (.slice (some ⟨gr, 0, none⟩) R.l.length rc) R.l.length (R.l.flatMap En.c)) => (here_cells ho hr1 hkr).1)
  rw [HU.out] at HCQ
  generalize (hereE R).url = UU at *
  have hq2 : (kq : Int) < (Q.l.length : Int) := by omega
  have hr2 : (kr : Int) < (R.l.length : Int) := by omega
  have HQP := Lib.hid hkq
  have HRP := Lib.hid hkr
  clear hkq hkr HU
  go_region_law (first
    | (go_simp
       go_at_call 25
       refine calls_gen (Φ := fun wy => Hid (TX w wy C2 (.slice (some ⟨gq, 0, none⟩) Q.l.length qc) Q) ∧ Hid (TX w wy C3 (.slice (some ⟨gr, 0, none⟩) R.l.length rc) R) ∧ Hid (wy.heap[w8.heap.size]? = some (.cells #[.int .i64 0, .int .i64 0] 23 (0, 0)))) (by first | exact ⟨Lib.hid (Z8.out.alloc _), Lib.hid (V8.out.alloc _), Lib.hid (alloc_at rfl _)⟩ | exact ⟨Lib.hid (Z8.out.alloc _).drew, Lib.hid (V8.out.alloc _).drew, Lib.hid (alloc_at rfl _)⟩ | exact ⟨Lib.hid (Z8.out.drew.alloc _), Lib.hid (V8.out.drew.alloc _), Lib.hid (alloc_at rfl _)⟩) ?_
       rintro w9 ⟨Z9, V9, K9⟩
       refine (ok_any (some ⟨w8.heap.size, 0, none⟩) 2 [0, 0] w9 (ints_block (l := [0, 0]) K9.out rfl (by decide))).mono ?_
       rintro e w10 ⟨rfl, hb10⟩
       have Z10 := Lib.hid (Z9.out.call hb10)
       have V10 := Lib.hid (V9.out.call hb10)
       clear hb10 Z9 V9 K9
       have hz := Z10.out.c
       have hv := V10.out.c
       rw [HQP.out] at hz
       rw [HRP.out] at hv
       obtain ⟨e0, e1⟩ := cells2 hz
       obtain ⟨k0, k1⟩ := cells2 hv
       have HZ := Lib.hid hz
       have HV := Lib.hid hv
       clear hz hv
       have xq := HCQ.out _ Z10.out.o
       have xr := HCR.out _ V10.out.o)
    | (trace_state; fail))
  all_goals
    go_wp2_with fail
    go_ret
    exact ⟨rfl, by first | exact Z10.out.bl | exact below_drew Z10.out.bl | exact below_drewN Z10.out.bl _⟩
end Go.Proofs.YtjcejijdeohkgaaGreatDoor
