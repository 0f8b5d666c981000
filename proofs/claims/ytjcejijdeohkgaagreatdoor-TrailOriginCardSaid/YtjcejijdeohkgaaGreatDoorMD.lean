/- Several texts in one: W18, W19, W20. -/
import Derived.Test.YtjcejijdeohkgaaGreatDoorMC
import Derived.Laws.RangeAny
import Derived.Laws.Runes
import Derived.WalkMore
import Derived.Lib.OthersKept
/- W18. -/
namespace Go.Proofs.YtjcejijdeohkgaaGreatDoor
open Go.RowKit

def endB : ByteArray := ⟨#[47, 63, 35]⟩
theorem call113 (args : Array Value) (w : World) : Sem.run Tryz.prog (callFunc 113 args) w = .ok (.enter 113 args) w := by go_simp
theorem call127 (args : Array Value) (w : World) : Sem.run Tryz.prog (callFunc 127 args) w = .ok (.enter 127 args) w := by go_simp
theorem call103 (args : Array Value) (w : World) : Sem.run Tryz.prog (callFunc 103 args) w = .ok (.enter 103 args) w := by go_simp
set_option maxRecDepth 100000 in
set_option maxHeartbeats 4000000 in
theorem irune_high (R : Nat) (w : World) (h1 : 128 ≤ R) (h2 : R ≤ 1114111) : Calls Tryz.prog 103 #[.string endB, .int .i32 (R : Int)] w fun e w' => e = .returned (.int .i64 (-1)) ∧ Below w.heap.size w w' := by
  have p113 := call113
  have p127 := call127
  have hz : endB.size = 3 := rfl
  have i1 : (0 : Int) ≤ (R : Int) := by omega
  have i2 : (128 : Int) ≤ (R : Int) := by omega
  have HB : Hid (endB = ⟨#[47, 63, 35]⟩) := Lib.hid rfl
  have hnx0 : ∀ (W : World) (ty : TypeId), (Instr.next (.pointer (some ⟨W.heap.size, 0, none⟩)) true ty).run Tryz.prog (W.iter endB 0) = .ok (.tuple #[.bool true, .int .i64 0, .int .i32 47]) (W.iter endB 1) := fun W ty => run_next_ascii W endB 0 ty (by decide) (by decide)
  have hnx1 : ∀ (W : World) (ty : TypeId), (Instr.next (.pointer (some ⟨W.heap.size, 0, none⟩)) true ty).run Tryz.prog (W.iter endB 1) = .ok (.tuple #[.bool true, .int .i64 1, .int .i32 63]) (W.iter endB 2) := fun W ty => run_next_ascii W endB 1 ty (by decide) (by decide)
  have hnx2 : ∀ (W : World) (ty : TypeId), (Instr.next (.pointer (some ⟨W.heap.size, 0, none⟩)) true ty).run Tryz.prog (W.iter endB 2) = .ok (.tuple #[.bool true, .int .i64 2, .int .i32 35]) (W.iter endB 3) := fun W ty => run_next_ascii W endB 2 ty (by decide) (by decide)
  have hnx3 : ∀ (W : World) (ty : TypeId), (Instr.next (.pointer (some ⟨W.heap.size, 0, none⟩)) true ty).run Tryz.prog (W.iter endB 3) = .ok (.tuple #[.bool false]) (W.iter endB 3) := fun W ty => run_next_end W endB 3 ty (by decide)
  have HN0 := Lib.hid hnx0
  have HN1 := Lib.hid hnx1
  have HN2 := Lib.hid hnx2
  have HN3 := Lib.hid hnx3
  clear hnx0 hnx1 hnx2 hnx3
  have q1 : 1 < endB.size := by decide
  have q2 : 2 < endB.size := by decide
  have g1 : endB[1]'q1 = 63 := rfl
  have g2 : endB[2]'q2 = 35 := rfl
  have X2 : Hid (endB.extract 2 3 = bs [35]) := Lib.hid rfl
  have X3 : Hid (endB.extract 3 3 = bs []) := Lib.hid rfl
  generalize endB = S at *
  go_enter Tryz.func103, Tryz.ntmps103
  by_cases he : R = 65533
  · have hb : ((R : Int) == 65533) = true := by rw [beq_iff_eq]; omega
    have hi : (R : Int) = 65533 := by omega
    clear i1 i2 h1 h2 he
    go_wp2_with fail
    go_loopg [5, 6] 3 (fun g _ _ wx => ∃ i : Nat, i + g = 3 ∧ wx = w.iter S i)
    case atStart => exact ⟨0, rfl, rfl⟩
    case round =>
      obtain ⟨i, hg, rfl⟩ := hrel
      rcases (show i = 0 ∨ i = 1 ∨ i = 2 ∨ i = 3 by omega) with rfl | rfl | rfl | rfl
      · have hnx := HN0.out w
        have G := Lib.hid hg
        clear hg
        go_wp2_with fail
        go_roundg 2
        case measure => have := G.out; omega
        case rel => exact ⟨1, rfl, rfl⟩
      · have hnx := HN1.out w
        have G := Lib.hid hg
        clear hg
        go_wp2_with fail
        go_roundg 1
        case measure => have := G.out; omega
        case rel => exact ⟨2, rfl, rfl⟩
      · have hnx := HN2.out w
        have G := Lib.hid hg
        clear hg
        go_wp2_with fail
        go_roundg 0
        case measure => have := G.out; omega
        case rel => exact ⟨3, rfl, rfl⟩
      · have hnx := HN3.out w
        clear hg
        go_wp2_with fail
        go_ret
        exact ⟨rfl, (Below.refl _ _).alloc (Nat.le_refl _) _⟩
  · have hb : ((R : Int) == 65533) = false := by rw [beq_eq_false_iff_ne]; omega
    have hi : ¬ (R : Int) = 65533 := by omega
    go_wp2_with fail
    refine (Tryz.utf8_ValidRune _ _).mono ?_
    rintro e w' ⟨rfl, rfl⟩
    have HV : Hid (Lib.validRune (R : Int) = decide ((0 ≤ (R : Int) ∧ (R : Int) < 0xD800) ∨ (0xDFFF < (R : Int) ∧ (R : Int) ≤ 0x10FFFF))) := Lib.hid rfl
    generalize Lib.validRune (R : Int) = V at *
    cases V with
    | false =>
      clear HV
      go_wp2_with fail
      go_ret
      exact ⟨rfl, Below.refl _ _⟩
    | true =>
      have hv : Utf8.valid (R : Int) = true := by
        have h := HV.out
        have h' := of_decide_eq_true h.symm
        unfold Utf8.valid
        simp
        omega
      obtain ⟨n2, n4, hlast⟩ := encode_facts (R : Int) hv i2
      have HL := Lib.hid hlast
      clear hlast hv HV
      have HC : ∀ W : World, (convert 21 9 (.int .i32 (R : Int))).run Tryz.prog W = .ok (.string (Utf8.encode (R : Int))) W := fun W => run_convert_int_string W 21 9 .i32 _ (by rw [Tryz.underlying21]; rfl) Tryz.underlying9
      generalize Utf8.encode (R : Int) = E at *
      rcases (show E.size = 2 ∨ E.size = 3 ∨ E.size = 4 by omega) with e | e | e
      · have h1 : 1 < E.size := by omega
        obtain ⟨b, hb1⟩ : ∃ b, E[1]'h1 = b := ⟨_, rfl⟩
        have hb2 : 128 ≤ b.toNat := by
          have := HL.out (by omega)
          simp only [e] at this
          rw [← hb1]
          exact this
        have HIB : Hid (∀ W : World, Calls Tryz.prog 113 #[.string (S.extract 2 3), .int .u8 (b.toNat : Int)] W fun e w' => e = .returned (.int .i64 (-1)) ∧ w' = W) := Lib.hid (fun W => by
          have h := Tryz.strings_IndexByte (S.extract 2 3) (b.toNat : Int) W
          rw [X2.out, bs_list, byte_of] at h
          have hm : Lib.indexByte ([35] : Bs) b = -1 := by
            rcases Int.lt_or_le (Lib.indexByte ([35] : Bs) b) 0 with h0 | h0
            · have := Lib.indexByte_ge ([35] : Bs) b
              omega
            · exfalso
              have h9 := ib_iff ([35] : Bs) b
              rw [decide_eq_true h0] at h9
              have h8 : b ∈ (([35] : Bs) : Bs) := by simpa using h9.symm
              simp only [List.mem_cons, List.not_mem_nil, or_false] at h8
              subst h8; revert hb2; decide
          rw [hm] at h
          rw [X2.out]
          exact h)
        clear HL n2 n4
        have hwr : IntKind.i64.wrap 2 = 2 := by decide
        have hc1 : (63 == (b.toNat : Int)) = false := by rw [beq_eq_false_iff_ne]; omega
        have hc2 : ¬ 63 = (b.toNat : Int) := by omega
        clear HN0 HN1 HN2 HN3 p127
        go_wp2_with fail
        go_step3
        go_wp2_with fail
        go_loopg [9] 1 (fun _ v9 wx => v9 = .int .i64 1 ∧ Hid (wx = w'))
        case atStart => exact ⟨rfl, Lib.hid rfl⟩
        case round =>
          obtain ⟨rfl, hw⟩ := hrel
          have hw' := hw.out
          subst hw'
          clear hw
          go_wp2_with fail
          go_step3
          go_upto_region 6 with fail
          go_quiet (fail)
          go_upto_region 7 with fail
          have HBW := Lib.hid (below_drewN (Below.refl wr.heap.size wr) nq)
          generalize wr.drewN nq = wq at *
          go_quiet ((with_reducible exact Calls.quiet_of_same (HIB.out _)))
          go_wp2_with fail
          rw [Exit.noGoto_ret]
          go_wp2_with fail
          rw [Exit.noGoto_ret]
          go_ret
          exact ⟨rfl, below_drewN HBW.out _⟩
      · have h1 : 2 < E.size := by omega
        obtain ⟨b, hb1⟩ : ∃ b, E[2]'h1 = b := ⟨_, rfl⟩
        have hb2 : 128 ≤ b.toNat := by
          have := HL.out (by omega)
          simp only [e] at this
          rw [← hb1]
          exact this
        have HIB : Hid (∀ W : World, Calls Tryz.prog 113 #[.string ByteArray.empty, .int .u8 (b.toNat : Int)] W fun e w' => e = .returned (.int .i64 (-1)) ∧ w' = W) := Lib.hid (fun W => Tryz.strings_IndexByte ByteArray.empty (b.toNat : Int) W)
        clear HL n2 n4
        have hwr : IntKind.i64.wrap 3 = 3 := by decide
        have hc1 : (35 == (b.toNat : Int)) = false := by rw [beq_eq_false_iff_ne]; omega
        have hc2 : ¬ 35 = (b.toNat : Int) := by omega
        clear HN0 HN1 HN2 HN3 p127
        go_wp2_with fail
        go_step3
        go_wp2_with fail
        go_loopg [9] 1 (fun _ v9 wx => v9 = .int .i64 2 ∧ Hid (wx = w'))
        case atStart => exact ⟨rfl, Lib.hid rfl⟩
        case round =>
          obtain ⟨rfl, hw⟩ := hrel
          have hw' := hw.out
          subst hw'
          clear hw
          go_wp2_with fail
          go_step3
          go_upto_region 6 with fail
          go_quiet (fail)
          go_upto_region 7 with fail
          have HBW := Lib.hid (below_drewN (Below.refl wr.heap.size wr) nq)
          generalize wr.drewN nq = wq at *
          go_quiet ((with_reducible exact Calls.quiet_of_same (HIB.out _)))
          go_wp2_with fail
          rw [Exit.noGoto_ret]
          go_wp2_with fail
          rw [Exit.noGoto_ret]
          go_ret
          exact ⟨rfl, below_drewN HBW.out _⟩
      · clear HN0 HN1 HN2 HN3 p127 HL
        go_wp2_with fail
        go_step3
        go_wp2_with fail
        go_loopg [9] 1 (fun _ v9 wx => v9 = .int .i64 3 ∧ Hid (wx = w'))
        case atStart => exact ⟨rfl, Lib.hid rfl⟩
        case round =>
          obtain ⟨rfl, hw⟩ := hrel
          have hw' := hw.out
          subst hw'
          clear hw
          go_wp2_with fail
          rw [Exit.noGoto_ret]
          go_ret
          exact ⟨rfl, Below.refl _ _⟩
end Go.Proofs.YtjcejijdeohkgaaGreatDoor
/- W19. -/
namespace Go.Proofs.YtjcejijdeohkgaaGreatDoor
open Go.RowKit

theorem high (l : Bs) (hne : l ≠ []) (h : 128 ≤ (l.getD 0 0).toNat) : 128 ≤ (Lib.decodeL l).1 ∧ ∀ x ∈ l.take (Lib.decodeL l).2, 128 ≤ x.toNat := by
  have hlen : 0 < l.length := List.length_pos_iff.2 hne
  rw [Lib.decodeL_N]
  rcases Lib.decodeN_shape l.length (l.getD 0 0).toNat (l.getD 1 0).toNat (l.getD 2 0).toNat (l.getD 3 0).toNat with h1 | h1 | h1 | h1 | h1
  · omega
  · obtain ⟨a, b, c, d, e⟩ := h1
    rw [e]
    refine ⟨d, fun x hx => ?_⟩
    rw [Lib.takeB l b] at hx
    simp only [List.mem_cons, List.not_mem_nil, or_false] at hx
    rcases hx with rfl | rfl
    · exact h
    · omega
  · obtain ⟨a, b, c, d, e, f, g⟩ := h1
    rw [g]
    refine ⟨by omega, fun x hx => ?_⟩
    rw [Lib.takeC l b] at hx
    simp only [List.mem_cons, List.not_mem_nil, or_false] at hx
    rcases hx with rfl | rfl | rfl
    · exact h
    · omega
    · omega
  · obtain ⟨a, b, c, d, e, f, g, i⟩ := h1
    rw [i]
    refine ⟨by omega, fun x hx => ?_⟩
    rw [Lib.takeD l b] at hx
    simp only [List.mem_cons, List.not_mem_nil, or_false] at hx
    rcases hx with rfl | rfl | rfl | rfl
    · exact h
    · omega
    · omega
    · omega
  · rw [h1]
    refine ⟨by decide, fun x hx => ?_⟩
    rw [Lib.takeA l hlen, List.mem_singleton] at hx
    subst hx
    exact h
theorem noany_step {l : Bs} {pos K : Nat} (h : Lib.NoAny l endSet pos) (hk : ∀ x ∈ (l.drop pos).take K, endSet.contains x = false) : Lib.NoAny l endSet (pos + K) := by
  intro j b hj hb
  by_cases hp : j < pos
  · exact h j b hp hb
  · refine hk b ?_
    refine List.mem_of_getElem? (i := j - pos) ?_
    rw [List.getElem?_take, if_pos (by omega), List.getElem?_drop]
    rw [show pos + (j - pos) = j by omega]
    exact hb
theorem end_low {x : UInt8} (h : 128 ≤ x.toNat) : endSet.contains x = false := by
  cases hc : endSet.contains x with
  | false => rfl
  | true =>
    have hm : x ∈ endSet := by simpa using hc
    have : ∀ y ∈ endSet, y.toNat < 128 := by decide
    have := this x hm
    omega
theorem call65 (args : Array Value) (w : World) : Sem.run Tryz.prog (callFunc 65 args) w = .ok (.enter 65 args) w := by go_simp
theorem call104 (args : Array Value) (w : World) : Sem.run Tryz.prog (callFunc 104 args) w = .ok (.enter 104 args) w := by go_simp
set_option maxRecDepth 100000 in
set_option maxHeartbeats 4000000 in
theorem iany_any (l : Bs) (w : World) (hl : l.length ≤ 1048576) : Calls Tryz.prog 65 #[.string (bs l), .string endB] w fun e w' => e = .returned (.int .i64 (Lib.indexAny l endSet)) ∧ Below w.heap.size w w' := by
  by_cases h8 : 8 < l.length
  · have h := Tryz.strings_IndexAny_long (fun w => by kernel_rfl) (bs l) endB w (by decide) (by rw [bs_size]; exact h8) (by rw [bs_size]; omega) (by decide) (fun j b hb => by
      have : ∀ y ∈ endB.data.toList, y.toNat < 128 := by decide
      exact this b (List.mem_of_getElem? hb))
    rw [bs_list] at h
    refine h.mono ?_
    rintro e w' ⟨rfl, rfl⟩
    exact ⟨rfl, ((Below.refl _ _).alloc (Nat.le_refl _) _).alloc (al_le (Nat.le_refl _) _) _⟩
  · have p103 := call103
    have p104 := call104
    have hemp : endB.toList.isEmpty = false := by rw [Lib.toList_data]; rfl
    have hz3 : endB.size = 3 := rfl
    have hsz : (bs l).size = l.length := bs_size l
    have h8z : ¬ (8 : Int) < ((bs l).size : Int) := by omega
    have HG : Hid (∀ i (h1 : i < l.length) (h : i < (bs l).size), (bs l)[i]'h = l[i]'h1) := Lib.hid (fun i _ h => bs_get l i h)
    obtain ⟨R, hR⟩ : ∃ R, Lib.indexAny l endSet = R := ⟨_, rfl⟩
    rw [hR]
    have HR := Lib.hid hR
    have HDD := Lib.hid (fun pos => Lib.decodeL_drop (bs l) pos)
    rw [bs_list] at HDD
    have HIA := Lib.hid (fun (c : UInt8) (hc : c.toNat < 128) (w9 : World) => Tryz.strings_IndexRune_ascii endB (c.toNat : Int) w9 (by omega) (by omega))
    have HIH := Lib.hid (fun (r : Nat) (h1 : 128 ≤ r) (h2 : r ≤ 1114111) (w9 : World) => irune_high r w9 h1 h2)
    have HE : Hid (endB.data.toList = endSet) := Lib.hid rfl
    rw [HE.out] at HIA
    have HRL := Lib.hid (fun pos => Lib.rune_le (bs l) pos)
    have HWP := Lib.hid (fun pos => Lib.width_pos (bs l) pos)
    generalize bs l = S at *
    generalize endB = EB at *
    have HZ := Lib.hid hsz
    clear hR hl h8 hsz HE
    go_enter Tryz.func65, Tryz.ntmps65
    go_wp2_with fail
    refine (Tryz.strings_shouldUseASCIISet _ _).mono ?_
    rintro e w' ⟨rfl, rfl⟩
    rw [decide_eq_false (show ¬ (8 : Int) < (S.size : Int) by omega)]
    have hi0 := Lib.hid (World.iter_heap w' S 0)
    have hb0 := Lib.hid (show Below w'.heap.size w' (w'.iter S 0) from (Below.refl _ _).alloc (Nat.le_refl _) _)
    go_wp2_with fail
    go_loopg [9, 10] l.length (fun g _ _ wx => ∃ pos : Nat, g = l.length - pos ∧ pos ≤ l.length ∧ wx.heap[w'.heap.size]? = some (.stringIter S pos) ∧ Below w'.heap.size w' wx ∧ Lib.NoAny l endSet pos)
    case atStart => exact ⟨0, rfl, Nat.zero_le _, hi0.out, hb0.out, Lib.NoAny.zero _ _⟩
    case round =>
      clear hi0 hb0
      obtain ⟨pos, hg, hp, hit, hb, hno⟩ := hrel
      have G := Lib.hid hg
      have HIT := Lib.hid hit
      have X := Lib.hid hb
      have NO := Lib.hid hno
      clear hg hit hb hno
      generalize hK : w'.heap.size = K at *
      by_cases hlt : pos < l.length
      · have h0 : pos < S.size := by have := HZ.out; omega
        have gk' : S[pos]'h0 = l[pos] := HG.out pos hlt h0
        by_cases hc : l[pos].toNat < 128
        · have hnx := fun ty => Lib.run_next_ascii_at (P := Tryz.prog) wr K S pos ty HIT.out h0 (by rw [gk']; exact hc)
          rw [gk'] at hnx
          have hit2 := Lib.hid (Lib.iterAt_heap wr K S pos (pos + 1) HIT.out)
          have X2 := Lib.hid (Lib.below_iterAt X.out (k := K) (Nat.le_refl _) S (pos + 1))
          generalize wr.iterAt K S (pos + 1) = W at *
          have HA := Lib.hid (HIA.out l[pos] hc W)
          rw [byte_of] at HA
          have HX := Lib.hid (List.getElem?_eq_getElem hlt)
          generalize l[pos] = c at *
          have HCI := Lib.hid (ib_iff endSet c)
          generalize Lib.indexByte endSet c = o at *
          clear HG HRL HWP HDD HIH gk' HIA hc
          by_cases ho : 0 ≤ o
          · rw [decide_eq_true ho] at HCI
            have hr : R = pos := by rw [← HR.out]; exact Lib.indexAny_hit NO.out HX.out HCI.out.symm
            subst hr
            go_wp2_with fail
            refine HA.out.mono ?_
            rintro e w2 ⟨rfl, rfl⟩
            go_wp2_with fail
            go_ret
            exact ⟨rfl, by rw [hK]; exact X2.out⟩
          · rw [decide_eq_false ho] at HCI
            have NO2 := Lib.hid (NO.out.succ HX.out HCI.out.symm)
            go_wp2_with fail
            refine HA.out.mono ?_
            rintro e w2 ⟨rfl, rfl⟩
            go_wp2_with fail
            go_roundg (l.length - (pos + 1))
            case measure => rw [G.out]; omega
            case rel => exact ⟨pos + 1, rfl, by omega, hit2.out, X2.out, NO2.out⟩
        · have hnx := fun ty => Lib.run_next_any_at (P := Tryz.prog) wr K S pos ty HIT.out h0
          have hne : l.drop pos ≠ [] := by
            intro e
            have := congrArg List.length e
            rw [List.length_drop] at this
            simp at this
            omega
          have hh := high (l.drop pos) hne (by
            rw [List.getD_eq_getElem?_getD, List.getElem?_drop, Nat.add_zero, List.getElem?_eq_getElem hlt]
            show 128 ≤ l[pos].toNat
            omega)
          have hle := Lib.decodeL_le (l.drop pos) hne
          rw [HDD.out, List.length_drop] at hle
          rw [HDD.out] at hh
          have hr1 := HRL.out pos
          have hw1 := HWP.out pos
          have hit2 := Lib.hid (Lib.iterAt_heap wr K S pos (pos + (Utf8.decode S pos).2) HIT.out)
          have X2 := Lib.hid (Lib.below_iterAt X.out (k := K) (Nat.le_refl _) S (pos + (Utf8.decode S pos).2))
          generalize wr.iterAt K S (pos + (Utf8.decode S pos).2) = W at *
          have HH := Lib.hid (HIH.out _ hh.1 hr1 W)
          have NO2 := Lib.hid (noany_step NO.out (fun x hx => end_low (hh.2 x hx)))
          have HW := Lib.hid (And.intro hle hw1)
          clear hh hle hr1 hw1 HG HRL HWP HDD HIH HIA gk' hc hne
          generalize (Utf8.decode S pos).1 = RR at *
          generalize (Utf8.decode S pos).2 = KK at *
          go_wp2_with fail
          refine HH.out.mono ?_
          rintro e w2 ⟨rfl, hb2⟩
          have X3 := Lib.hid (X2.out.trans (Below.le hb2 (by rw [← hK]; have := X2.out.size; omega)))
          have hit3 := Lib.hid ((hb2.block K (lt_of_heap hit2.out)).trans hit2.out)
          clear hb2
          go_wp2_with fail
          go_roundg (l.length - (pos + KK))
          case measure => rw [G.out]; have := HW.out; omega
          case rel => exact ⟨pos + KK, rfl, by have := HW.out; omega, hit3.out, X3.out, NO2.out⟩
      · have hpe : pos = l.length := by omega
        have hnx := fun ty => Lib.run_next_end_at (P := Tryz.prog) wr K S pos ty HIT.out (by have := HZ.out; omega)
        have hr : R = -1 := by rw [← HR.out]; exact Lib.indexAny_none (by rw [← hpe]; exact NO.out)
        subst hr
        clear hpe hlt HG HRL HWP HDD HIH HIA
        go_wp2_with fail
        go_ret
        exact ⟨rfl, by rw [hK]; exact X.out⟩
end Go.Proofs.YtjcejijdeohkgaaGreatDoor
/- W20. -/
namespace Go.Proofs.YtjcejijdeohkgaaGreatDoor
open Go.RowKit

theorem TB.lt {w : World} (h : TB w) : 5 < w.heap.size := by
  have h5 := h.p
  unfold Lib.TabIs World.var? at h5
  rw [show Tryz.prog.globalNamed "internal/strconv.uint64pow10" = some 5 by kernel_rfl] at h5
  simp only [Option.bind_some] at h5
  rcases Nat.lt_or_ge 5 w.heap.size with h' | h'
  · exact h'
  · rw [Array.getElem?_eq_none h'] at h5; cases h5
theorem ia_auth : ∀ (r : Bs), (Lib.indexAny r endSet = -1 → authP r = r ∧ restP r = []) ∧ ∀ o : Nat, Lib.indexAny r endSet = o → o ≤ r.length ∧ authP r = r.take o ∧ restP r = r.drop o
  | [] => ⟨fun _ => ⟨rfl, rfl⟩, fun o h => by rw [show Lib.indexAny [] endSet = -1 from rfl] at h; omega⟩
  | b :: r => by
    obtain ⟨i1, i2⟩ := ia_auth r
    have hge := Lib.indexAny_ge endSet r
    have e : Lib.indexAny (b :: r) endSet = if endSet.contains b then 0 else if Lib.indexAny r endSet == -1 then -1 else Lib.indexAny r endSet + 1 := by rw [Lib.indexAny]
    cases hb : endSet.contains b with
    | true =>
      have a1 : authP (b :: r) = [] := by unfold authP; rw [List.takeWhile_cons, hb]; rfl
      have a2 : restP (b :: r) = b :: r := by unfold restP; rw [List.dropWhile_cons, hb]; rfl
      rw [hb, if_pos rfl] at e
      refine ⟨fun h => by omega, fun o h => ?_⟩
      have : o = 0 := by omega
      subst this
      exact ⟨Nat.zero_le _, a1, a2⟩
    | false =>
      have a1 : authP (b :: r) = b :: authP r := by unfold authP; rw [List.takeWhile_cons, hb]; rfl
      have a2 : restP (b :: r) = restP r := by unfold restP; rw [List.dropWhile_cons, hb]; rfl
      rw [hb, if_neg (by simp)] at e
      by_cases hm : Lib.indexAny r endSet = -1
      · rw [hm] at e
        obtain ⟨j1, j2⟩ := i1 hm
        refine ⟨fun _ => ⟨by rw [a1, j1], by rw [a2, j2]⟩, fun o h => ?_⟩
        rw [e] at h
        simp at h
      · rw [if_neg (by simpa using hm)] at e
        obtain ⟨p, hp⟩ : ∃ p : Nat, Lib.indexAny r endSet = p := ⟨(Lib.indexAny r endSet).toNat, by omega⟩
        obtain ⟨j0, j1, j2⟩ := i2 p hp
        refine ⟨fun h => by omega, fun o h => ?_⟩
        have : o = p + 1 := by omega
        subst this
        exact ⟨by rw [List.length_cons]; omega, by rw [a1, j1, List.take_succ_cons], by rw [a2, j2]; rfl⟩
/-- Where the host ends. -/
def endN (r : Bs) : Nat := if Lib.indexAny r endSet = -1 then r.length else (Lib.indexAny r endSet).toNat
theorem endN_le (r : Bs) : endN r ≤ r.length ∧ authP r = r.take (endN r) ∧ restP r = r.drop (endN r) := by
  obtain ⟨i1, i2⟩ := ia_auth r
  have hge := Lib.indexAny_ge endSet r
  unfold endN
  by_cases h : Lib.indexAny r endSet = -1
  · rw [if_pos h, (i1 h).1, (i1 h).2]
    exact ⟨Nat.le_refl _, by simp, by simp⟩
  · rw [if_neg h]
    exact i2 _ (by omega)
theorem pre_two (r : Bs) : Lib.hasPrefix r [47, 47] = decide (r.take 2 = [47, 47]) ∧ (r.take 2 = [47, 47] → Lib.trimPrefix r [47, 47] = r.drop 2) := by
  have h : Lib.hasPrefix r [47, 47] = decide (r.take 2 = [47, 47]) := by
    unfold Lib.hasPrefix
    rw [Bool.eq_iff_iff]
    simp only [decide_eq_true_eq, List.isPrefixOf_iff_prefix, List.prefix_iff_eq_take]
    exact eq_comm
  refine ⟨h, fun h2 => ?_⟩
  unfold Lib.trimPrefix
  rw [h, decide_eq_true h2]
  rfl
theorem pre_one (p : Bs) : Lib.trimPrefix p [47] = noSl p := by
  unfold Lib.trimPrefix noSl Lib.hasPrefix
  cases p with
  | nil => rfl
  | cons c r =>
    by_cases hc : c = 47
    · subst hc; rfl
    · have h1 : ¬ ((c :: r).head? = some 47) := by simpa using hc
      rw [if_neg h1]
      have h2 : (List.isPrefixOf [47] (c :: r)) = false := by
        simp [List.isPrefixOf]
        exact fun e => hc e.symm
      rw [h2]
      rfl
end Go.Proofs.YtjcejijdeohkgaaGreatDoor
