/- The contract of strings.IndexAny at slash, question mark, number sign: for any bytes. -/
import Derived.Test.YtjcejijdeohkgaaGreatDoorW17
import Derived.Laws.RangeAny
import Derived.Laws.Runes
import Derived.WalkMore
namespace Go.Proofs.YtjcejijdeohkgaaGreatDoor
open Go.RowKit

def endB : ByteArray := ⟨#[47, 63, 35]⟩
theorem call113 (args : Array Value) (w : World) : Sem.run Tryz.prog (callFunc 113 args) w = .ok (.enter 113 args) w := by go_simp
theorem call127 (args : Array Value) (w : World) : Sem.run Tryz.prog (callFunc 127 args) w = .ok (.enter 127 args) w := by go_simp
theorem call103 (args : Array Value) (w : World) : Sem.run Tryz.prog (callFunc 103 args) w = .ok (.enter 103 args) w := by go_simp
set_option maxRecDepth 100000 in
set_option maxHeartbeats 4000000 in
theorem irune_high (R : Nat) (w : World) (h1 : 128 ≤ R) (h2 : R ≤ 1114111) : Calls Tryz.prog 103 #[.string endB, .int .i32 (R : Int)] w fun e w' => e = .returned (.int .i64 (-1)) ∧ Below w.heap.size w w' := by
  have p113 := call113
  have p127 := call127
  have hz : endB.size = 3 := rfl
  have i1 : (0 : Int) ≤ (R : Int) := by omega
  have i2 : (128 : Int) ≤ (R : Int) := by omega
  have HB : Hid (endB = ⟨#[47, 63, 35]⟩) := Lib.hid rfl
  have hnx0 : ∀ (W : World) (ty : TypeId), (Instr.next (.pointer (some ⟨W.heap.size, 0, none⟩)) true ty).run Tryz.prog (W.iter endB 0) = .ok (.tuple #[.bool true, .int .i64 0, .int .i32 47]) (W.iter endB 1) := fun W ty => run_next_ascii W endB 0 ty (by decide) (by decide)
  have hnx1 : ∀ (W : World) (ty : TypeId), (Instr.next (.pointer (some ⟨W.heap.size, 0, none⟩)) true ty).run Tryz.prog (W.iter endB 1) = .ok (.tuple #[.bool true, .int .i64 1, .int .i32 63]) (W.iter endB 2) := fun W ty => run_next_ascii W endB 1 ty (by decide) (by decide)
  have hnx2 : ∀ (W : World) (ty : TypeId), (Instr.next (.pointer (some ⟨W.heap.size, 0, none⟩)) true ty).run Tryz.prog (W.iter endB 2) = .ok (.tuple #[.bool true, .int .i64 2, .int .i32 35]) (W.iter endB 3) := fun W ty => run_next_ascii W endB 2 ty (by decide) (by decide)
  have hnx3 : ∀ (W : World) (ty : TypeId), (Instr.next (.pointer (some ⟨W.heap.size, 0, none⟩)) true ty).run Tryz.prog (W.iter endB 3) = .ok (.tuple #[.bool false]) (W.iter endB 3) := fun W ty => run_next_end W endB 3 ty (by decide)
  have HN0 := Lib.hid hnx0
  have HN1 := Lib.hid hnx1
  have HN2 := Lib.hid hnx2
  have HN3 := Lib.hid hnx3
  clear hnx0 hnx1 hnx2 hnx3
  have q1 : 1 < endB.size := by decide
  have q2 : 2 < endB.size := by decide
  have g1 : endB[1]'q1 = 63 := rfl
  have g2 : endB[2]'q2 = 35 := rfl
  have X2 : Hid (endB.extract 2 3 = bs [35]) := Lib.hid rfl
  have X3 : Hid (endB.extract 3 3 = bs []) := Lib.hid rfl
  generalize endB = S at *
  go_enter Tryz.func103, Tryz.ntmps103
  by_cases he : R = 65533
  · have hb : ((R : Int) == 65533) = true := by rw [beq_iff_eq]; omega
    have hi : (R : Int) = 65533 := by omega
    clear i1 i2 h1 h2 he
    go_wp2_with fail
    go_loopg [5, 6] 3 (fun g _ _ wx => ∃ i : Nat, i + g = 3 ∧ wx = w.iter S i)
    case atStart => exact ⟨0, rfl, rfl⟩
    case round =>
      obtain ⟨i, hg, rfl⟩ := hrel
      rcases (show i = 0 ∨ i = 1 ∨ i = 2 ∨ i = 3 by omega) with rfl | rfl | rfl | rfl
      · have hnx := HN0.out w
        have G := Lib.hid hg
        clear hg
        go_wp2_with fail
        go_roundg 2
        case measure => have := G.out; omega
        case rel => exact ⟨1, rfl, rfl⟩
      · have hnx := HN1.out w
        have G := Lib.hid hg
        clear hg
        go_wp2_with fail
        go_roundg 1
        case measure => have := G.out; omega
        case rel => exact ⟨2, rfl, rfl⟩
      · have hnx := HN2.out w
        have G := Lib.hid hg
        clear hg
        go_wp2_with fail
        go_roundg 0
        case measure => have := G.out; omega
        case rel => exact ⟨3, rfl, rfl⟩
      · have hnx := HN3.out w
        clear hg
        go_wp2_with fail
        go_ret
        exact ⟨rfl, (Below.refl _ _).alloc (Nat.le_refl _) _⟩
  · have hb : ((R : Int) == 65533) = false := by rw [beq_eq_false_iff_ne]; omega
    have hi : ¬ (R : Int) = 65533 := by omega
    go_wp2_with fail
    refine (Tryz.utf8_ValidRune _ _).mono ?_
    rintro e w' ⟨rfl, rfl⟩
    have HV : Hid (Lib.validRune (R : Int) = decide ((0 ≤ (R : Int) ∧ (R : Int) < 0xD800) ∨ (0xDFFF < (R : Int) ∧ (R : Int) ≤ 0x10FFFF))) := Lib.hid rfl
    generalize Lib.validRune (R : Int) = V at *
    cases V with
    | false =>
      clear HV
      go_wp2_with fail
      go_ret
      exact ⟨rfl, Below.refl _ _⟩
    | true =>
      have hv : Utf8.valid (R : Int) = true := by
        have h := HV.out
        have h' := of_decide_eq_true h.symm
        unfold Utf8.valid
        simp
        omega
      obtain ⟨n2, n4, hlast⟩ := encode_facts (R : Int) hv i2
      have HL := Lib.hid hlast
      clear hlast hv HV
      have HC : ∀ W : World, (convert 21 9 (.int .i32 (R : Int))).run Tryz.prog W = .ok (.string (Utf8.encode (R : Int))) W := fun W => run_convert_int_string W 21 9 .i32 _ (by rw [Tryz.underlying21]; rfl) Tryz.underlying9
      generalize Utf8.encode (R : Int) = E at *
      rcases (show E.size = 2 ∨ E.size = 3 ∨ E.size = 4 by omega) with e | e | e
      · have h1 : 1 < E.size := by omega
        obtain ⟨b, hb1⟩ : ∃ b, E[1]'h1 = b := ⟨_, rfl⟩
        have hb2 : 128 ≤ b.toNat := by
          have := HL.out (by omega)
          simp only [e] at this
          rw [← hb1]
          exact this
        have HIB : Hid (∀ W : World, Calls Tryz.prog 113 #[.string (S.extract 2 3), .int .u8 (b.toNat : Int)] W fun e w' => e = .returned (.int .i64 (-1)) ∧ w' = W) := Lib.hid (fun W => by
          have h := Tryz.strings_IndexByte (S.extract 2 3) (b.toNat : Int) W
          rw [X2.out, bs_list, byte_of] at h
          have hm : Lib.indexByte ([35] : Bs) b = -1 := by
            rcases Int.lt_or_le (Lib.indexByte ([35] : Bs) b) 0 with h0 | h0
            · have := Lib.indexByte_ge ([35] : Bs) b
              omega
            · exfalso
              have h9 := ib_iff ([35] : Bs) b
              rw [decide_eq_true h0] at h9
              have h8 : b ∈ (([35] : Bs) : Bs) := by simpa using h9.symm
              simp only [List.mem_cons, List.not_mem_nil, or_false] at h8
              subst h8; revert hb2; decide
          rw [hm] at h
          rw [X2.out]
          exact h)
        clear HL n2 n4
        have hwr : IntKind.i64.wrap 2 = 2 := by decide
        have hc1 : (63 == (b.toNat : Int)) = false := by rw [beq_eq_false_iff_ne]; omega
        have hc2 : ¬ 63 = (b.toNat : Int) := by omega
        clear HN0 HN1 HN2 HN3 p127
        go_wp2_with fail
        go_step3
        go_wp2_with fail
        go_loopg [9] 1 (fun _ v9 wx => v9 = .int .i64 1 ∧ Hid (wx = w'))
        case atStart => exact ⟨rfl, Lib.hid rfl⟩
        case round =>
          obtain ⟨rfl, hw⟩ := hrel
          have hw' := hw.out
          subst hw'
          clear hw
          go_wp2_with fail
          go_step3
          go_upto_region 6 with fail
          go_quiet (fail)
          go_upto_region 7 with fail
          have HBW := Lib.hid (below_drewN (Below.refl wr.heap.size wr) nq)
          generalize wr.drewN nq = wq at *
          go_quiet ((with_reducible exact Calls.quiet_of_same (HIB.out _)))
          go_wp2_with fail
          rw [Exit.noGoto_ret]
          go_wp2_with fail
          rw [Exit.noGoto_ret]
          go_ret
          exact ⟨rfl, below_drewN HBW.out _⟩
      · have h1 : 2 < E.size := by omega
        obtain ⟨b, hb1⟩ : ∃ b, E[2]'h1 = b := ⟨_, rfl⟩
        have hb2 : 128 ≤ b.toNat := by
          have := HL.out (by omega)
          simp only [e] at this
          rw [← hb1]
          exact this
        have HIB : Hid (∀ W : World, Calls Tryz.prog 113 #[.string ByteArray.empty, .int .u8 (b.toNat : Int)] W fun e w' => e = .returned (.int .i64 (-1)) ∧ w' = W) := Lib.hid (fun W => Tryz.strings_IndexByte ByteArray.empty (b.toNat : Int) W)
        clear HL n2 n4
        have hwr : IntKind.i64.wrap 3 = 3 := by decide
        have hc1 : (35 == (b.toNat : Int)) = false := by rw [beq_eq_false_iff_ne]; omega
        have hc2 : ¬ 35 = (b.toNat : Int) := by omega
        clear HN0 HN1 HN2 HN3 p127
        go_wp2_with fail
        go_step3
        go_wp2_with fail
        go_loopg [9] 1 (fun _ v9 wx => v9 = .int .i64 2 ∧ Hid (wx = w'))
        case atStart => exact ⟨rfl, Lib.hid rfl⟩
        case round =>
          obtain ⟨rfl, hw⟩ := hrel
          have hw' := hw.out
          subst hw'
          clear hw
          go_wp2_with fail
          go_step3
          go_upto_region 6 with fail
          go_quiet (fail)
          go_upto_region 7 with fail
          have HBW := Lib.hid (below_drewN (Below.refl wr.heap.size wr) nq)
          generalize wr.drewN nq = wq at *
          go_quiet ((with_reducible exact Calls.quiet_of_same (HIB.out _)))
          go_wp2_with fail
          rw [Exit.noGoto_ret]
          go_wp2_with fail
          rw [Exit.noGoto_ret]
          go_ret
          exact ⟨rfl, below_drewN HBW.out _⟩
      · clear HN0 HN1 HN2 HN3 p127 HL
        go_wp2_with fail
        go_step3
        go_wp2_with fail
        go_loopg [9] 1 (fun _ v9 wx => v9 = .int .i64 3 ∧ Hid (wx = w'))
        case atStart => exact ⟨rfl, Lib.hid rfl⟩
        case round =>
          obtain ⟨rfl, hw⟩ := hrel
          have hw' := hw.out
          subst hw'
          clear hw
          go_wp2_with fail
          rw [Exit.noGoto_ret]
          go_ret
          exact ⟨rfl, Below.refl _ _⟩
end Go.Proofs.YtjcejijdeohkgaaGreatDoor
