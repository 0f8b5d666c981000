/- The contract of url.tail. -/
import Derived.Test.YtjcejijdeohkgaaGreatDoorW15
namespace Go.Proofs.YtjcejijdeohkgaaGreatDoor
open Go.RowKit

/-- A world that has grown, and the block of an address that was written. -/
structure UB (w w' : World) (A : Nat) (cs : Array Value) : Prop where
  g : w.grownBy w' (some A)
  c : w'.heap[A]? = some (.cells cs 47 (0, 0))
theorem UB.start {w : World} {A : Nat} {cs : Array Value} (h : w.heap[A]? = some (.cells cs 47 (0, 0))) : UB w w A cs := ⟨gr_refl _ _, h⟩
theorem UB.call {w w1 w2 : World} {A : Nat} {cs : Array Value} (h : UB w w1 A cs) (hb : Below w1.heap.size w1 w2) : UB w w2 A cs :=
  ⟨⟨hb.os.trans h.g.os, hb.tape.trans h.g.tape, hb.output.trans h.g.output, Nat.le_trans h.g.size hb.size, fun k hk hne => (hb.block k (Nat.lt_of_lt_of_le hk h.g.size)).trans (h.g.block k hk hne)⟩, (hb.block A (lt_of_heap h.c)).trans h.c⟩
theorem UB.drewN {w w1 : World} {A : Nat} {cs : Array Value} (h : UB w w1 A cs) (n : Nat) : UB w (w1.drewN n) A cs := h.call ⟨rfl, rfl, rfl, Nat.le_refl _, fun _ _ => rfl⟩
theorem UB.set {w w1 : World} {A : Nat} {cs : Array Value} (h : UB w w1 A cs) (i : Nat) (v : Value) (hi : i < cs.size) : UB w (w1.setCell ⟨A, i, none⟩ v) A (cs.set i v) :=
  ⟨Lib.grownBy_setB h.g _ _, set_heap h.c i v hi⟩
theorem UB.tb {w w1 : World} {A : Nat} {cs : Array Value} (h : UB w w1 A cs) (hT : TB w) (h3 : A ≠ 0 ∧ A ≠ 1 ∧ A ≠ 2 ∧ A ≠ 5) : TB w1 := by
  have key : ∀ k, k < w.heap.size → k ≠ A → w1.heap[k]? = w.heap[k]? := fun k hk hne => h.g.block k hk (by simpa using hne)
  have cell : ∀ {b x : Nat} {v : Value}, b ≠ A → w.cell? ⟨b, x, none⟩ = some v → w1.cell? ⟨b, x, none⟩ = some v := by
    intro b x v hne hc
    have hlt := cell_lt hc
    unfold World.cell? at hc ⊢
    rw [key b hlt hne]
    exact hc
  refine ⟨⟨fun c hc => cell (by omega) (hT.u.1 c hc), fun i hi => ⟨cell (by omega) (hT.u.2 i hi).1, cell (by omega) (hT.u.2 i hi).2⟩⟩, ?_, ?_⟩
  · have h5 := hT.p
    have hg : Tryz.prog.globalNamed "internal/strconv.uint64pow10" = some 5 := by kernel_rfl
    unfold Lib.TabIs World.var? at h5 ⊢
    rw [hg] at h5 ⊢
    simp only [Option.bind_some] at h5 ⊢
    have hlt : 5 < w.heap.size := by
      rcases Nat.lt_or_ge 5 w.heap.size with h' | h'
      · exact h'
      · rw [Array.getElem?_eq_none h'] at h5; cases h5
    rw [key 5 hlt (by omega)]
    exact h5
  · obtain ⟨m, hm⟩ := hT.m
    exact ⟨m, cell (by omega) hm⟩
theorem call24 (args : Array Value) (w : World) : Sem.run Tryz.prog (callFunc 24 args) w = .ok (.enter 24 args) w := by go_simp
theorem call108 (args : Array Value) (w : World) : Sem.run Tryz.prog (callFunc 108 args) w = .ok (.enter 108 args) w := by go_simp
theorem call67 (args : Array Value) (w : World) : Sem.run Tryz.prog (callFunc 67 args) w = .ok (.enter 67 args) w := by go_simp
theorem front_len (c : UInt8) (l : Bs) : (frontC c l).length ≤ l.length := by unfold frontC; exact (List.takeWhile_sublist _).length_le
theorem back_len (c : UInt8) (l : Bs) : (backC c l).length ≤ l.length := by
  unfold backC
  rw [List.length_drop]
  have := (List.dropWhile_sublist (l := l) (fun b => b != c)).length_le
  omega
set_option maxRecDepth 100000 in
set_option maxHeartbeats 4000000 in
theorem tail_any (A : Nat) (v0 v1 v2 v3 v4 v5 v6 v7 : Value) (l : Bs) (w : World) (hA : w.heap[A]? = some (.cells #[v0, v1, v2, v3, v4, v5, v6, v7] 47 (0, 0))) (hl : l.length ≤ 1048576) :
    Calls Tryz.prog 67 #[.pointer (some ⟨A, 0, none⟩), .string (bs l)] w fun e w' => e = .returned (.tuple #[.string (bs (pathT l)), .bool ((cleanR (backC 63 (frontC 35 l))).2 && (cleanR (backC 35 l)).2)]) ∧ UB w w' A #[v0, v1, v2, v3, .string (bs (cleanR (backC 63 (frontC 35 l))).1), .bool (asksT l), .string (bs (cleanR (backC 35 l)).1), .bool (pointsT l)] := by
  have p24 := call24
  have p108 := call108
  have HC1 := Lib.hid (cut_any 35 l w (by omega))
  have HC2 := Lib.hid (fun w9 => cut_any 63 (frontC 35 l) w9 (by have := front_len 35 l; omega))
  have HK1 := Lib.hid (fun w9 => clean_any (backC 63 (frontC 35 l)) w9 (by have := front_len 35 l; have := back_len 63 (frontC 35 l); omega))
  have HK2 := Lib.hid (fun w9 => clean_any (backC 35 l) w9 (by have := back_len 35 l; omega))
  have U0 := Lib.hid (UB.start hA)
  clear hA hl
  unfold pathT asksT pointsT
  generalize cleanR (backC 63 (frontC 35 l)) = Q at *
  generalize cleanR (backC 35 l) = F at *
  generalize List.contains l 35 = PT at *
  generalize List.contains (frontC 35 l) 63 = AK at *
  generalize backC 35 l = B1 at *
  generalize frontC 63 (frontC 35 l) = PA at *
  generalize backC 63 (frontC 35 l) = B2 at *
  generalize frontC 35 l = F1 at *
  obtain ⟨Q1, Q2⟩ := Q
  obtain ⟨F1', F2⟩ := F
  go_enter Tryz.func67, Tryz.ntmps67
  go_wp2_with fail
  refine HC1.out.mono ?_
  rintro e w1 ⟨rfl, q1, rfl⟩
  have U1 := Lib.hid (U0.out.drewN q1)
  clear HC1 U0
  generalize w.drewN q1 = w1 at *
  go_wp2_with fail
  refine (HC2.out _).mono ?_
  rintro e w2 ⟨rfl, q2, rfl⟩
  have U2 := Lib.hid (U1.out.drewN q2)
  clear HC2 U1
  generalize w1.drewN q2 = w2 at *
  obtain ⟨c0, c1, c2, c3, c4, c5, c6, c7⟩ := cells8 U2.out.c
  have f5 := Lib.frozen_of_heap U2.out.c 5
  have f7 := Lib.frozen_of_heap U2.out.c 7
  have U3 := Lib.hid ((U2.out.set 5 (.bool AK) (by simp)).set 7 (.bool PT) (by simp))
  go_upto_region 5 with fail
  refine code_gen (Φ := fun wy => Hid (UB w wy A #[v0, v1, v2, v3, v4, .bool AK, v6, .bool PT])) U3 ?_
  clear U3 U2 c0 c1 c2 c3 c4 c5 c6 c7 f5 f7
  intro w3 U3
  go_wp2_with fail
  refine (HK1.out _).mono ?_
  rintro e w4 ⟨rfl, hb4⟩
  have U4 := Lib.hid (U3.out.call hb4)
  clear hb4 HK1 U3
  obtain ⟨c0, c1, c2, c3, c4, c5, c6, c7⟩ := cells8 U4.out.c
  have f4 := Lib.frozen_of_heap U4.out.c 4
  have U5 := Lib.hid (U4.out.set 4 (.string (bs Q1)) (by simp))
  go_upto_region 6 with fail
  refine code_gen (Φ := fun wy => Hid (UB w wy A #[v0, v1, v2, v3, .string (bs Q1), .bool AK, v6, .bool PT])) U5 ?_
  clear U5 U4 c0 c1 c2 c3 c4 c5 c6 c7 f4
  intro w5 U5
  go_wp2_with fail
  refine (HK2.out _).mono ?_
  rintro e w6 ⟨rfl, hb6⟩
  have U6 := Lib.hid (U5.out.call hb6)
  clear hb6 HK2 U5
  obtain ⟨c0, c1, c2, c3, c4, c5, c6, c7⟩ := cells8 U6.out.c
  have f6 := Lib.frozen_of_heap U6.out.c 6
  have U7 := Lib.hid (U6.out.set 6 (.string (bs F1')) (by simp))
  go_upto_region 7 with fail
  refine code_gen (Φ := fun wy => Hid (UB w wy A #[v0, v1, v2, v3, .string (bs Q1), .bool AK, .string (bs F1'), .bool PT])) U7 ?_
  clear U7 U6 c0 c1 c2 c3 c4 c5 c6 c7 f6
  intro w7 U7
  cases Q2 with
  | true =>
    go_wp2_with fail
    go_ret2
    exact ⟨rfl, U7.out⟩
  | false =>
    go_wp2_with fail
    go_ret2
    exact ⟨rfl, U7.out⟩
end Go.Proofs.YtjcejijdeohkgaaGreatDoor
