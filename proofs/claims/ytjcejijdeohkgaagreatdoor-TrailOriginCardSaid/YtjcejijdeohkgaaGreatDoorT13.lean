/- The contract of trailLives. -/
import Derived.Test.YtjcejijdeohkgaaGreatDoorT10
import Derived.Test.YtjcejijdeohkgaaGreatDoorT11
import Derived.Test.YtjcejijdeohkgaaGreatDoorW29
namespace Go.Proofs.YtjcejijdeohkgaaGreatDoor
open Go.RowKit

/-- A trail in a block of the call's own. -/
structure TX (w wy : World) (C : Nat) (v : Value) (t : Tr) : Prop where
  bl : Below w.heap.size w wy
  c : wy.heap[C]? = some (.cells #[v, .int .i64 t.pos] 60 (0, 0))
  o : wy.ownsRow 0 67 3 v t.l.length (t.l.flatMap En.c)
theorem TX.call {w wy w' : World} {C : Nat} {v : Value} {t : Tr} (h : TX w wy C v t) (hb : Below wy.heap.size wy w') : TX w w' C v t := ⟨h.bl.trans (Below.le hb h.bl.size), (hb.block _ (lt_of_heap h.c)).trans h.c, own_below h.o hb (Nat.le_refl 0)⟩
theorem TX.new {w w2 : World} {B : Nat} {v : Value} {t : Tr} (hb : Below w.heap.size w w2) (ho : w2.ownsRow B 67 3 v t.l.length (t.l.flatMap En.c)) : TX w (w2.alloc (.cells #[v, .int .i64 t.pos] 60)) w2.heap.size v t :=
  ⟨hb.alloc hb.size _, alloc_at rfl _, own_below (own_lower ho (Nat.zero_le _)) ((Below.refl _ _).alloc (Nat.le_refl _) _) (Nat.le_refl 0)⟩
theorem TX.s {w wy : World} {C : Nat} {v : Value} {t : Tr} (h : TX w wy C v t) : SlR wy EnB 3 v t.l := own_slE h.o
theorem call38 (args : Array Value) (w : World) : Sem.run Tryz.prog (callFunc 38 args) w = .ok (.enter 38 args) w := by go_simp
theorem live_len : liveT3.l.length = 3 := rfl
set_option maxRecDepth 100000 in
set_option maxHeartbeats 8000000 in
theorem tlives_any (w : World) (hT : TB w) : Calls Tryz.prog 38 #[] w fun e w' => e = .returned (.bool true) ∧ Below w.heap.size w w' := by
  have p78 := call78
  have p36 := call36
  have p37 := call37
  have p39 := call39
  have p25 := call25
  have HTB := Lib.hid hT
  have H1 : Hid (Calls Tryz.prog 78 #[.string ⟨#[104, 116, 116, 112, 58, 47, 47, 65, 47, 120]⟩] w fun e w' => ∃ v, e = .returned (.tuple #[.agg #[v, .int .i64 liveT1.pos], .int .i64 0]) ∧ w'.ownsRow w.heap.size 67 3 v liveT1.l.length (liveT1.l.flatMap En.c) ∧ Below w.heap.size w w') := Lib.hid (by
    have h := start_any [104, 116, 116, 112, 58, 47, 47, 65, 47, 120] w hT
    rw [live_t1] at h
    exact h)
  have H2 : Hid (∀ (a : Option Addr) (c : Nat) (w9 : World), TB w9 → SlR w9 EnB 3 (.slice a liveT1.l.length c) liveT1.l → Calls Tryz.prog 36 #[.agg #[.slice a liveT1.l.length c, .int .i64 liveT1.pos], .string ⟨#[121]⟩] w9 fun e w' => ∃ v, e = .returned (.tuple #[.agg #[v, .int .i64 liveT2.pos], .int .i64 0]) ∧ w'.ownsRow w9.heap.size 67 3 v liveT2.l.length (liveT2.l.flatMap En.c) ∧ Below w9.heap.size w9 w') := Lib.hid (fun a c w9 hT9 hs => by
    have h := load_any a c liveT1 [121] w9 hs hT9
    rw [live_t2] at h
    exact h)
  have H3 : Hid (∀ (a : Option Addr) (c : Nat) (w9 : World), TB w9 → SlR w9 EnB 3 (.slice a liveT2.l.length c) liveT2.l → Calls Tryz.prog 37 #[.agg #[.slice a liveT2.l.length c, .int .i64 liveT2.pos], .string ⟨#[35, 122]⟩, .string ⟨#[115]⟩] w9 fun e w' => ∃ v, e = .returned (.tuple #[.agg #[v, .int .i64 liveT3.pos], .int .i64 0]) ∧ w'.ownsRow w9.heap.size 67 3 v liveT3.l.length (liveT3.l.flatMap En.c) ∧ Below w9.heap.size w9 w') := Lib.hid (fun a c w9 hT9 hs => by
    have h := push_any a c liveT2 [35, 122] [115] w9 hs hT9
    rw [live_t3] at h
    exact h)
  have H4 : Hid (∀ (a : Option Addr) (c : Nat) (w9 : World), TB w9 → SlR w9 EnB 3 (.slice a liveT3.l.length c) liveT3.l → Calls Tryz.prog 39 #[.agg #[.slice a liveT3.l.length c, .int .i64 liveT3.pos], .int .i64 (-2)] w9 fun e w' => ∃ v, e = .returned (.tuple #[.agg #[v, .int .i64 liveT4.pos], .bool true, .int .i64 0]) ∧ w'.ownsRow w9.heap.size 67 3 v liveT4.l.length (liveT4.l.flatMap En.c) ∧ Below w9.heap.size w9 w') := Lib.hid (fun a c w9 hT9 hs => by
    have h := go_any a c liveT3 (-2) w9 hs hT9
    rw [live_t4] at h
    exact h)
  have HE : Hid (∀ (w9 : World) (g cap : Nat), w9.ownsRow 0 67 3 (.slice (some ⟨g, 0, none⟩) liveT3.l.length cap) liveT3.l.length (liveT3.l.flatMap En.c) → w9.cell? ⟨g, 6, none⟩ = some (.string ⟨#[104, 116, 116, 112, 58, 47, 47, 97, 47, 121, 35, 122]⟩) ∧ w9.cell? ⟨g, 8, none⟩ = some (.int .i64 1)) := Lib.hid (fun w9 g cap ho => by
    obtain ⟨b', o', e, hi⟩ := (own_slE ho).item 2 (by decide)
    injection e with e
    injection e with e1 e2
    subst e1 e2
    exact ⟨hi.c0, hi.c2⟩)
  have HP4 : Hid (liveT4.pos = 0) := Lib.hid rfl
  have HL3 := Lib.hid live_len
  generalize liveT1 = T1 at *
  generalize liveT2 = T2 at *
  generalize liveT3 = T3 at *
  generalize liveT4 = T4 at *
  clear hT
  go_enter Tryz.func38, Tryz.ntmps38
  go_wp2_with fail
  refine H1.out.mono ?_
  rintro e w1 ⟨v1, rfl, ho1, hb1⟩
  obtain ⟨a1, c1, rfl⟩ := own_shape ho1
  have Y1 := Lib.hid (TX.new hb1 ho1)
  clear ho1 hb1 H1
  obtain ⟨C1, hC1⟩ : ∃ C, w1.heap.size = C := ⟨_, rfl⟩
  rw [hC1] at Y1
  go_upto_region 2 with fail
  refine code_gen (Φ := fun wy => Hid (TX w wy C1 (.slice a1 T1.l.length c1) T1)) Y1 ?_
  clear Y1 hC1
  intro w2 Y2
  obtain ⟨d0, d1⟩ := cells2 Y2.out.c
  go_wp2_with fail
  refine (H2.out _ _ _ (HTB.out.below Y2.out.bl) Y2.out.s).mono ?_
  rintro e w3 ⟨v3, rfl, ho3, hb3⟩
  obtain ⟨a3, c3, rfl⟩ := own_shape ho3
  have Y3 := Lib.hid (TX.new (Y2.out.bl.trans (Below.le hb3 Y2.out.bl.size)) ho3)
  clear ho3 hb3 H2 Y2 d0 d1
  obtain ⟨C2, hC2⟩ : ∃ C, w3.heap.size = C := ⟨_, rfl⟩
  rw [hC2] at Y3
  go_upto_region 3 with fail
  refine code_gen (Φ := fun wy => Hid (TX w wy C2 (.slice a3 T2.l.length c3) T2)) Y3 ?_
  clear Y3 hC2
  intro w4 Y4
  obtain ⟨d0, d1⟩ := cells2 Y4.out.c
  go_wp2_with fail
  refine (H3.out _ _ _ (HTB.out.below Y4.out.bl) Y4.out.s).mono ?_
  rintro e w5 ⟨v5, rfl, ho5, hb5⟩
  obtain ⟨a5, c5, rfl⟩ := own_shape ho5
  obtain ⟨g5, rfl⟩ := own_some ho5 (by have := HL3.out; omega)
  have Y5 := Lib.hid (TX.new (Y4.out.bl.trans (Below.le hb5 Y4.out.bl.size)) ho5)
  clear ho5 hb5 H3 Y4 d0 d1
  obtain ⟨C3, hC3⟩ : ∃ C, w5.heap.size = C := ⟨_, rfl⟩
  rw [hC3] at Y5
  go_upto_region 4 with fail
  refine code_gen (Φ := fun wy => Hid (TX w wy C3 (.slice (some ⟨g5, 0, none⟩) T3.l.length c5) T3)) Y5 ?_
  clear Y5 hC3
  intro w6 Y6
  obtain ⟨d0, d1⟩ := cells2 Y6.out.c
  go_wp2_with fail
  refine (H4.out _ _ _ (HTB.out.below Y6.out.bl) Y6.out.s).mono ?_
  rintro e w7 ⟨v7, rfl, ho7, hb7⟩
  obtain ⟨a7, c7, rfl⟩ := own_shape ho7
  have Y7 := Lib.hid (Y6.out.call hb7)
  have Z7 := Lib.hid (TX.new Y7.out.bl ho7)
  have Y8 := Lib.hid (Y7.out.call ((Below.refl _ _).alloc (Nat.le_refl _) (.cells #[.slice a7 T4.l.length c7, .int .i64 T4.pos] 60)))
  clear ho7 hb7 H4 Y6 d0 d1 Y7
  obtain ⟨C4, hC4⟩ : ∃ C, w7.heap.size = C := ⟨_, rfl⟩
  rw [hC4] at Z7
  rw [HP4.out] at Z7 Y8 ⊢
  go_upto_region 5 with fail
  refine code_gen (Φ := fun wy => Hid (TX w wy C3 (.slice (some ⟨g5, 0, none⟩) T3.l.length c5) T3) ∧ Hid (wy.heap[C4]? = some (.cells #[.slice a7 T4.l.length c7, .int .i64 0] 60 (0, 0)))) ⟨Y8, Lib.hid (by have := Z7.out.c; rw [HP4.out] at this; exact this)⟩ ?_
  clear Y8 Z7 hC4
  rintro w8 ⟨X8, D8⟩
  go_wp2_with fail
  refine (ok_any (some ⟨w8.heap.size, 0, none⟩) 4 [0, 0, 0, 0] _ (ints_block (l := [0, 0, 0, 0]) (alloc_at rfl _) rfl (by decide))).mono ?_
  rintro e w9 ⟨rfl, hb9⟩
  have ha : ∀ o, Below w8.heap.size w8 (w8.alloc o) := fun o => (Below.refl _ _).alloc (Nat.le_refl _) _
  have Q9 := Lib.hid ((ha _).trans (Below.le hb9 (ha _).size))
  have X9 := Lib.hid (X8.out.call Q9.out)
  have D9 := Lib.hid ((Q9.out.block _ (lt_of_heap D8.out)).trans D8.out)
  clear ha hb9 Q9 X8 D8
  obtain ⟨x6, x8⟩ := HE.out _ _ _ X9.out.o
  have HC := X9.out.c
  rw [HL3.out] at HC
  obtain ⟨d0, d1⟩ := cells2 HC
  obtain ⟨k0, k1⟩ := cells2 D9.out
  have HC9 := Lib.hid HC
  clear HC HL3 HE
  go_wp2_with fail
  go_ret
  exact ⟨rfl, X9.out.bl⟩
end Go.Proofs.YtjcejijdeohkgaaGreatDoor
