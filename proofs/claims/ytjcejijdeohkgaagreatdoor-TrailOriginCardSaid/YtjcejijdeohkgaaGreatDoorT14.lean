/- The law TrailBack over the walk. -/
import Derived.Test.YtjcejijdeohkgaaGreatDoorT13
namespace Go.Proofs.YtjcejijdeohkgaaGreatDoor
open Go.RowKit

/-- The argument's block. -/
structure AX (w wy : World) (A : Nat) (o : Obj) : Prop where
  bl : Below w.heap.size w wy
  a : wy.heap[A]? = some o
theorem AX.call {w wy w' : World} {A : Nat} {o : Obj} (h : AX w wy A o) (hb : Below wy.heap.size wy w') : AX w w' A o := ⟨h.bl.trans (Below.le hb h.bl.size), (hb.block _ (lt_of_heap h.a)).trans h.a⟩
theorem AX.alloc {w wy : World} {A : Nat} {o : Obj} (h : AX w wy A o) (p : Obj) : AX w (wy.alloc p) A o := h.call ((Below.refl _ _).alloc (Nat.le_refl _) _)
theorem AX.start {w : World} {A : Nat} (hA : w.heap.size = A) (o : Obj) : AX w (w.alloc o) A o := ⟨(Below.refl _ _).alloc (Nat.le_refl _) _, alloc_at hA _⟩
theorem TX.drew {w wy : World} {C : Nat} {v : Value} {t : Tr} (h : TX w wy C v t) : TX w wy.drew C v t := h.call ⟨rfl, rfl, rfl, Nat.le_refl _, fun _ _ => rfl⟩
/-- The entry where a trail is, cell by cell. -/
theorem here_cells {w : World} {g cap : Nat} {t : Tr} {k : Nat} (ho : w.ownsRow 0 67 3 (.slice (some ⟨g, 0, none⟩) t.l.length cap) t.l.length (t.l.flatMap En.c)) (hk : k < t.l.length) (hp : t.pos = k) : w.cell? ⟨g, k * 3, none⟩ = some (.string (bs (hereE t).url)) ∧ w.cell? ⟨g, k * 3 + 1, none⟩ = some (.string (bs (hereE t).state)) ∧ w.cell? ⟨g, k * 3 + 2, none⟩ = some (.int .i64 (hereE t).doc) := by
  obtain ⟨b', o', e, hi⟩ := (own_slE ho).item k hk
  injection e with e
  injection e with e1 e2
  subst e1 e2
  rw [here_get hk hp]
  obtain ⟨c0, c1, c2⟩ := hi
  rw [Nat.zero_add] at c0 c1 c2
  exact ⟨c0, c1, c2⟩
theorem sameT_true (a a2 : Option Addr) (c c2 : Nat) (t : Tr) (w : World) (h : SlR w EnB 3 (.slice a t.l.length c) t.l) (h2 : SlR w EnB 3 (.slice a2 t.l.length c2) t.l) : Calls Tryz.prog 42 #[.agg #[.slice a t.l.length c, .int .i64 t.pos], .agg #[.slice a2 t.l.length c2, .int .i64 t.pos]] w fun e w' => e = .returned (.bool true) ∧ Below w.heap.size w w' := by
  have h9 := sameT_any a a2 c c2 t t w h h2
  rw [decide_eq_true rfl] at h9
  exact h9
theorem TX.alloc {w wy : World} {C : Nat} {v : Value} {t : Tr} (h : TX w wy C v t) (p : Obj) : TX w (wy.alloc p) C v t := h.call ((Below.refl _ _).alloc (Nat.le_refl _) _)
set_option maxRecDepth 100000 in
set_option maxHeartbeats 16000000 in
theorem law_back14 (a : Option Addr) (c : Nat) (t : Tr) (n m : Int) (w : World) (hT : TB w) (h : SlR w EnB 3 (.slice a t.l.length c) t.l) : Calls Tryz.prog 14 #[.agg #[.slice a t.l.length c, .int .i64 t.pos], .int .i64 n, .int .i64 m] w fun e w' => e = .returned (.bool true) ∧ Below w.heap.size w w' := by
  have p39 := call39
  have p38 := call38
  have p42 := call42
  have HTB := Lib.hid hT
  have HA1 := Lib.hid (fun h0 => ask_back (t := t) (n := n) h0)
  have HBD := Lib.hid (fun h0 => go_bad (t := t) (n := n) h0)
  have HRG := Lib.hid (fun h0 => ask_go (t := t) (n := n) h0)
  have H1 := Lib.hid (fun (k : Int) (w9 : World) (hb : Below w.heap.size w w9) => go_any a c t k w9 (slE_below h hb) (hT.below hb))
  have HS := Lib.hid (fun (a2 : Option Addr) (c2 : Nat) (w9 : World) (hb : Below w.heap.size w w9) (h2 : SlR w9 EnB 3 (.slice a2 t.l.length c2) t.l) => sameT_true a2 a c2 c t w9 h2 (slE_below h hb))
  have H1n := Lib.hid (H1.out n)
  clear h hT
  obtain ⟨GA, hGA⟩ : ∃ GA, (fun k => goT t k) = GA := ⟨_, rfl⟩
  have HGA := Lib.hid (fun k => (congrFun hGA k : goT t k = GA k))
  clear hGA
  generalize goT t n = G at *
  obtain ⟨O, is, e0⟩ := G
  obtain ⟨l, pos⟩ := t
  simp only at *
  obtain ⟨A, hA⟩ : ∃ A, w.heap.size = A := ⟨_, rfl⟩
  go_enter Tryz.func14, Tryz.ntmps14
  go_upto_region 1 with fail
  refine code_gen (Φ := fun wy => Hid (AX w wy A (.cells #[.slice a l.length c, .int .i64 pos] 60 (0, 0)))) (Lib.hid (AX.start hA _)) ?_
  clear hA
  intro w1 X1
  obtain ⟨c0, c1⟩ := cells2 X1.out.a
  go_wp2_with fail
  refine (H1n.out _ X1.out.bl).mono ?_
  rintro e w2 ⟨v2, rfl, ho2, hb2⟩
  obtain ⟨oa, oc, rfl⟩ := own_shape ho2
  have X2 := Lib.hid (X1.out.call hb2)
  have Y2 := Lib.hid (TX.new X2.out.bl ho2)
  have X3 := Lib.hid (X2.out.alloc (.cells #[.slice oa O.l.length oc, .int .i64 O.pos] 60))
  clear ho2 hb2 X1 c0 c1 X2 H1n
  obtain ⟨C1, hC⟩ : ∃ C, w2.heap.size = C := ⟨_, rfl⟩
  rw [hC] at Y2
  go_upto_region 2 with fail
  refine code_gen (Φ := fun wy => Hid (AX w wy A (.cells #[.slice a l.length c, .int .i64 pos] 60 (0, 0))) ∧ Hid (TX w wy C1 (.slice oa O.l.length oc) O)) ⟨X3, Y2⟩ ?_
  clear X3 Y2 hC
  rintro w3 ⟨X3, Y3⟩
  go_wp2_with fail
  refine (tlives_any _ (HTB.out.below X3.out.bl)).mono ?_
  rintro e w4 ⟨rfl, hb4⟩
  have X4 := Lib.hid (X3.out.call hb4)
  have Y4 := Lib.hid (Y3.out.call hb4)
  clear hb4 X3 Y3
  by_cases he : e0 = 0
  case neg =>
    have heb : (e0 == 0) = false := by simpa using he
    have hz : O = zT := HBD.out he
    subst hz
    have HC : Hid (∀ wy : World, wy.heap[C1]? = some (.cells #[.slice oa zT.l.length oc, .int .i64 zT.pos] 60 (0, 0)) → wy.heap[C1]? = some (.cells #[.slice oa 0 oc, .int .i64 0] 60 (0, 0))) := Lib.hid (fun _ h => h)
    clear HBD HA1 HRG he
    go_wp2_with fail
    refine (tlives_any _ (HTB.out.below X4.out.bl)).mono ?_
    rintro e w5 ⟨rfl, hb5⟩
    have X5 := Lib.hid (X4.out.call hb5)
    have Y5 := Lib.hid (Y4.out.call hb5)
    clear hb5 X4 Y4
    obtain ⟨d0, d1⟩ := cells2 (HC.out _ Y5.out.c)
    go_wp2_with fail
    go_ret
    exact ⟨rfl, X5.out.bl⟩
  have HB1 := Lib.hid (HA1.out he)
  have HR1 := Lib.hid (HRG.out he)
  subst he
  clear HA1 HRG HBD
  obtain ⟨hR, hn1, hn2, hO, -, hRO⟩ := HR1.out
  have hp := hR.p
  have hll := hR.n
  simp only at hn1 hn2 hp hll
  have hw1 : IntKind.i64.wrap (-n) = -n := by rw [IntKind.wrap_i64]; omega
  have H2 := Lib.hid (fun (w9 : World) (hb : Below w.heap.size w w9) (hs : SlR w9 EnB 3 (.slice oa O.l.length oc) O.l) => go_any oa oc O (-n) w9 hs (HTB.out.below hb))
  rw [HB1.out.1] at H2
  have HM := Lib.hid (HB1.out.2 m)
  have H3 := Lib.hid (fun (w9 : World) (hb : Below w.heap.size w w9) (hs : SlR w9 EnB 3 (.slice oa O.l.length oc) O.l) => go_any oa oc O m w9 hs (HTB.out.below hb))
  have HRM := Lib.hid (fun h0 => ask_go (t := O) (n := m) h0)
  have HOP := Lib.hid (show O.pos = pos + n ∧ O.l.length = l.length by rw [hO]; exact ⟨rfl, rfl⟩)
  have HNN := Lib.hid (show -50 ≤ n ∧ n ≤ 50 ∧ 0 ≤ pos ∧ pos ≤ 50 ∧ l.length ≤ 50 by omega)
  clear HB1 HR1 hR hO hRO hn1 hn2 hp hll
  simp only at H2
  obtain ⟨d0, d1⟩ := cells2 Y4.out.c
  go_wp2_with fail
  refine (H2.out _ X4.out.bl Y4.out.s).mono ?_
  rintro e w5 ⟨v5, rfl, ho5, hb5⟩
  obtain ⟨ba, bc, rfl⟩ := own_shape ho5
  have X5 := Lib.hid (X4.out.call hb5)
  have Y5 := Lib.hid (Y4.out.call hb5)
  have Z5 := Lib.hid (TX.new (t := ⟨l, pos⟩) X5.out.bl ho5)
  have X6 := Lib.hid (X5.out.alloc (.cells #[.slice ba l.length bc, .int .i64 pos] 60))
  have Y6 := Lib.hid (Y5.out.alloc (.cells #[.slice ba l.length bc, .int .i64 pos] 60))
  clear ho5 hb5 X4 Y4 d0 d1 X5 Y5 H2
  obtain ⟨C2, hC⟩ : ∃ C, w5.heap.size = C := ⟨_, rfl⟩
  rw [hC] at Z5
  go_upto_region 5 with fail
  refine code_gen (Φ := fun wy => Hid (AX w wy A (.cells #[.slice a l.length c, .int .i64 pos] 60 (0, 0))) ∧ Hid (TX w wy C1 (.slice oa O.l.length oc) O) ∧ Hid (TX w wy C2 (.slice ba l.length bc) ⟨l, pos⟩)) ⟨X6, Y6, Z5⟩ ?_
  clear X6 Y6 Z5 hC hw1
  rintro w6 ⟨X6, Y6, Z6⟩
  obtain ⟨c0, c1⟩ := cells2 X6.out.a
  obtain ⟨e0, e1⟩ := cells2 Z6.out.c
  simp only at e1
  go_wp2_with fail
  refine (HS.out ba bc _ X6.out.bl Z6.out.s).mono ?_
  rintro e w7 ⟨rfl, hb7⟩
  have X7 := Lib.hid (X6.out.call hb7)
  have Y7 := Lib.hid (Y6.out.call hb7)
  clear hb7 X6 Y6 Z6 c0 c1 e0 e1 HS
  obtain ⟨d0, d1⟩ := cells2 Y7.out.c
  generalize goT O m = P at *
  obtain ⟨P, ps, g⟩ := P
  simp only at H3 HM HRM
  have ISS : (is != is) = false := by cases is <;> rfl
  have ISE : (is == is) = true := by cases is <;> rfl
  go_wp2_with fail
  refine (H3.out _ X7.out.bl Y7.out.s).mono ?_
  rintro e w8 ⟨v8, rfl, ho8, hb8⟩
  obtain ⟨pa, pc, rfl⟩ := own_shape ho8
  have X8 := Lib.hid (X7.out.call hb8)
  have Z8 := Lib.hid (TX.new X8.out.bl ho8)
  have X9 := Lib.hid (X8.out.alloc (.cells #[.slice pa P.l.length pc, .int .i64 P.pos] 60))
  clear ho8 hb8 X7 Y7 d0 d1 X8 H3 ISS ISE
  obtain ⟨C3, hC⟩ : ∃ C, w8.heap.size = C := ⟨_, rfl⟩
  rw [hC] at Z8
  go_upto_region 8 with fail
  refine code_gen (Φ := fun wy => Hid (AX w wy A (.cells #[.slice a l.length c, .int .i64 pos] 60 (0, 0))) ∧ Hid (TX w wy C3 (.slice pa P.l.length pc) P)) ⟨X9, Z8⟩ ?_
  clear X9 Z8 hC
  rintro w9 ⟨X9, Z9⟩
  by_cases hg : g = 0
  case neg =>
    have hgb : (g == 0) = false := by simpa using hg
    clear HM HRM hg
    go_wp2_with fail
    go_ret
    exact ⟨rfl, X9.out.bl⟩
  obtain ⟨hq1, hq2⟩ := HM.out hg
  obtain ⟨-, hm1, hm2, -, -, -⟩ := HRM.out hg
  have hop := HOP.out
  have hnn := HNN.out
  have hw2 : IntKind.i64.wrap (n + m) = n + m := by rw [IntKind.wrap_i64]; omega
  have H4 := Lib.hid (H1.out (n + m))
  generalize goT ⟨l, pos⟩ (n + m) = Q at *
  obtain ⟨Q, qs, h⟩ := Q
  simp only at hq1 hq2 H4
  subst hq1 hq2 hg
  have HSP := Lib.hid (fun (a1 a2 : Option Addr) (c1 c2 : Nat) (w9 : World) (h1 : SlR w9 EnB 3 (.slice a1 Q.l.length c1) Q.l) (h2 : SlR w9 EnB 3 (.slice a2 Q.l.length c2) Q.l) => sameT_true a1 a2 c1 c2 Q w9 h1 h2)
  clear HM HRM H1 hm1 hm2 hop hnn HOP HNN
  obtain ⟨c0, c1⟩ := cells2 X9.out.a
  go_wp2_with fail
  refine (H4.out _ X9.out.bl).mono ?_
  rintro e w10 ⟨v10, rfl, ho10, hb10⟩
  obtain ⟨qa, qc, rfl⟩ := own_shape ho10
  have X10 := Lib.hid (X9.out.call hb10)
  have Z10 := Lib.hid (Z9.out.call hb10)
  have V10 := Lib.hid (TX.new X10.out.bl ho10)
  have Z11 := Lib.hid (Z10.out.alloc (.cells #[.slice qa Q.l.length qc, .int .i64 Q.pos] 60))
  clear ho10 hb10 X9 Z9 c0 c1 X10 Z10 H4
  obtain ⟨C4, hC⟩ : ∃ C, w10.heap.size = C := ⟨_, rfl⟩
  rw [hC] at V10
  go_upto_region 11 with fail
  refine code_gen (Φ := fun wy => Hid (TX w wy C3 (.slice pa Q.l.length pc) Q) ∧ Hid (TX w wy C4 (.slice qa Q.l.length qc) Q)) ⟨Z11, V10⟩ ?_
  clear Z11 V10 hC hw2
  rintro w11 ⟨Z11, V11⟩
  obtain ⟨c0, c1⟩ := cells2 Z11.out.c
  obtain ⟨e0, e1⟩ := cells2 V11.out.c
  go_wp2_with fail
  refine (HSP.out pa qa pc qc _ Z11.out.s V11.out.s).mono ?_
  rintro e w12 ⟨rfl, hb12⟩
  have Z12 := Lib.hid (Z11.out.call hb12)
  clear hb12 Z11 V11 c0 c1 e0 e1 HSP
  go_wp2_with fail
  go_ret
  exact ⟨rfl, Z12.out.bl⟩
end Go.Proofs.YtjcejijdeohkgaaGreatDoor
