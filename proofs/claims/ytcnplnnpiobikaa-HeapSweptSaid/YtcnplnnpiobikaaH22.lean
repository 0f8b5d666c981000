/- HeapSwept, walked. -/
import Derived.Test.YtcnplnnpiobikaaP4
namespace Go.Proofs.Ytcnplnnpiobikaa
open Go.RowKit

theorem call15 (args : Array Value) (w : World) : Sem.run Try.prog (callFunc 15 args) w = .ok (.enter 15 args) w := by go_simp
theorem call17 (args : Array Value) (w : World) : Sem.run Try.prog (callFunc 17 args) w = .ok (.enter 17 args) w := by go_simp
theorem call18 (args : Array Value) (w : World) : Sem.run Try.prog (callFunc 18 args) w = .ok (.enter 18 args) w := by go_simp
theorem bs_any (a : Option Addr) (c : Nat) (l : List Int) (x : Int) (w : World) (h : SlR w IntAt 1 (.slice a l.length c) l) (hs : l.Pairwise (fun x y => x ≤ y)) (hb : l.length ≤ 300) :
    Calls Try.prog 17 #[.slice a l.length c, .int .i64 x] w fun e w' => ∃ n, e = .returned (.tuple #[.int .i64 n, .bool (l.contains x)]) ∧ Below w.heap.size w w' := by
  by_cases hl : l.length = 0
  · have e := List.eq_nil_of_length_eq_zero hl
    subst e
    refine (Try.slices_BinarySearch_int_empty a c x w).mono ?_
    rintro e w' ⟨rfl, rfl⟩
    exact ⟨0, rfl, Below.refl _ _⟩
  · obtain ⟨b, o, rfl, _⟩ := h.item 0 (by omega)
    refine (Try.slices_BinarySearch_int b o l.length c l x w (Nat.le_refl _) (by omega) (fun j hj => ?_) (by rw [List.take_length]; exact hs)).mono ?_
    · obtain ⟨b', o', e, hi⟩ := h.item j hj
      injection e with e
      injection e with e1 e2
      subst e1 e2
      have hi' : w.cell? ⟨b, o + j * 1, none⟩ = _ := hi
      rw [Nat.mul_one] at hi'
      rw [hi', List.getD_eq_getElem?_getD, List.getElem?_eq_getElem hj]
      rfl
    · rintro e w' ⟨rfl, q, rfl⟩
      rw [List.take_length]
      exact ⟨_, rfl, below_drewN (Below.refl _ _) _⟩
/-- One cell of a heap, as a heap. -/
theorem heap_one {w : World} {b o : Nat} {x : Cl} (h : ClAt w b o x) {c : Nat} (hc : 1 ≤ c) (hc2 : c ≤ maxLen) : HeapAt w (.slice (some ⟨b, o, none⟩) [x].length c) [x] := by
  refine ⟨_, c, rfl, hc, hc2, fun _ => ⟨b, o, rfl, fun k hk => ?_⟩⟩
  have : k = 0 := by simp at hk; omega
  subst this
  rw [Nat.zero_mul, Nat.add_zero]
  exact h
theorem cl_block {w : World} {g : Nat} {kd : Int} {nms : List ByteArray} {vls : List JV} {na va : Option Addr} {nc vc : Nat} (h : w.heap[g]? = some (.cells #[.int .i64 kd, .slice na nms.length nc, .slice va vls.length vc] 46 (0, 0))) (hn : SlR w StrAt 1 (.slice na nms.length nc) nms) (hv : SlR w JvAt 3 (.slice va vls.length vc) vls) : ClAt w g 0 ⟨kd, nms, vls⟩ := by
  obtain ⟨c0, c1, c2⟩ := cells3 h
  exact ⟨na, nc, va, vc, c0, c1, c2, hn, hv⟩
set_option maxRecDepth 100000 in
set_option maxHeartbeats 16000000 in
theorem law_swept (a : Option Addr) (c : Nat) (h : List Cl) (ra : Option Addr) (rc : Nat) (roots : List JV) (w : World) (hh : HeapAt w (.slice a h.length c) h) (hr : SlR w JvAt 3 (.slice ra roots.length rc) roots) :
    Calls Try.prog 7 #[.slice a h.length c, .slice ra roots.length rc] w fun e w' => e = .returned (.bool true) ∧ Below w.heap.size w w' := by
  have HH := Lib.hid hh
  have HRS := Lib.hid hr
  have HRE := Lib.hid (reach_any a c h ra rc roots w hh hr)
  have HSW := Lib.hid (fun (w1 : World) (hb : Below w.heap.size w w1) => sweep_any a c h ra rc roots w1 (hh.below hb) (hr.mono (fun _ _ _ h => h.below hb)))
  obtain ⟨q1, q2, q3⟩ := SlR.cap hh
  obtain ⟨r1, r2, r3⟩ := SlR.cap hr
  clear hh hr
  have p8 := call8
  have p9 := call9
  have p11 := call11
  have p12 := call12
  have p15 := call15
  have p17 := call17
  have p18 := call18
  by_cases hE0 : askErr h roots = 0
  · have HW := (ask_ok hE0).1.len
    have F1 := Lib.hid (swept_again hE0)
    have F2 := Lib.hid (swept_check hE0)
    have F3 := Lib.hid (fun k hk hk2 => swept_cell (h := h) (walkF h roots) k hk hk2)
    have F4 := Lib.hid (sweptL_len h (walkF h roots))
    have F5 := Lib.hid (sort_sorted (walkF h roots))
    have F6 := Lib.hid (sort_contains (walkF h roots))
    have F7 := Lib.hid (show (sortI (walkF h roots)).length ≤ 300 by
      rw [sort_len]
      obtain ⟨hk, hr⟩ := ask_ok hE0
      exact Nat.le_trans (walk_went hk.fit roots (fun x hx => fits_fit (hr x hx))).st.len hk.len)
    unfold reachV at HRE
    rw [if_pos hE0] at HRE
    unfold sweepV at HSW
    simp only [if_pos hE0] at HSW
    clear hE0
    generalize sweptL h (walkF h roots) = S at *
    generalize sortI (walkF h roots) = L at *
    generalize walkF h roots = W at *
    go_enter Try.func7, Try.ntmps7
    go_wp2_with fail
    refine HRE.out.mono ?_
    rintro e w1 ⟨lv, rfl, ol1, hb⟩
    have L1 := Lib.hid (own_int ol1)
    obtain ⟨la, lc, rfl⟩ := own_shape ol1
    have X1 := Lib.hid hb
    clear hb ol1 HRE
    go_wp2_with fail
    refine (HSW.out w1 X1.out).mono ?_
    rintro e w2 ⟨sv, rfl, hm2⟩
    have X2 := Lib.hid (X1.out.trans (Below.le hm2.bl X1.out.size))
    have L2 := Lib.hid (L1.out.mono (fun _ _ _ h => kc hm2.bl h))
    have M2 := Lib.hid hm2.heap
    obtain ⟨sa, sc, rfl, _⟩ := id hm2.heap
    obtain ⟨s1, s2, s3⟩ := SlR.cap hm2.heap
    clear hm2 X1 L1 HSW
    simp only
    go_wp2_with fail
    refine (lives_any w2).mono ?_
    rintro e w3 ⟨rfl, hb⟩
    have X3 := Lib.hid (X2.out.trans (Below.le hb X2.out.size))
    have M3 := Lib.hid (M2.out.below hb)
    have L3 := Lib.hid (L2.out.mono (fun _ _ _ h => kc hb h))
    clear hb X2 M2 L2
    go_wp2_with fail
    have HOK := ok_any (some ⟨w3.heap.size, 0, none⟩) 2 [0, 0] (w3.alloc (.cells #[.int .i64 0, .int .i64 0] 25)) (ints_block (alloc_at rfl _) rfl (by simp [maxLen]))
    refine HOK.mono ?_
    clear HOK
    rintro e w4 ⟨rfl, hb⟩
    have B4 := (((Below.refl w3.heap.size w3).alloc (Nat.le_refl _) (.cells #[.int .i64 0, .int .i64 0] 25)).trans (Below.le hb (al_le (Nat.le_refl _) _)))
    have X4 := Lib.hid (X3.out.trans (Below.le B4 X3.out.size))
    have M4 := Lib.hid (M3.out.below B4)
    have L4 := Lib.hid (L3.out.mono (fun _ _ _ h => kc B4 h))
    clear hb B4 X3 M3 L3
    have hsl := F4.out
    rw [hsl] at s1 s2 M4 ⊢
    clear hsl s1
    go_wp2_with fail
    go_loopg [49] h.length (fun n vk wr => ∃ k : Nat, n = h.length - k ∧ k ≤ h.length ∧ vk = .int .i64 (k : Int) ∧ Below w4.heap.size w4 wr)
    case atStart => exact ⟨0, rfl, Nat.zero_le _, rfl, Below.refl _ _⟩
    case round =>
      obtain ⟨k, hg, hk, rfl, hb⟩ := hrel
      have G := Lib.hid hg
      have Y := Lib.hid hb
      have X5 := Lib.hid (X4.out.trans (Below.le hb X4.out.size))
      clear hg hb
      by_cases hlt : k < h.length
      · have hki : (k : Int) < (h.length : Int) := by omega
        have hlt2 : k < S.length := by have := F4.out; omega
        have HKS := Lib.hid (F3.out k hlt hlt2)
        obtain ⟨b, o, rfl, hi⟩ := M4.out.item k hlt2
        obtain ⟨b2, o2, rfl, hi2⟩ := HH.out.item k hlt
        have hi' := hi.below Y.out
        have hi2' := hi2.below X5.out
        have HBS := Lib.hid (fun (w9 : World) (hb : Below wr.heap.size wr w9) => bs_any la lc L (k : Int) w9 ((L4.out.mono (fun _ _ _ h => kc Y.out h)).mono (fun _ _ _ h => kc hb h)) F5.out F7.out)
        have HCO := Lib.hid (F6.out (k : Int))
        clear hi hi2
        generalize S[k] = C at *
        generalize h[k] = D at *
        clear hlt2
        obtain ⟨kd, nms, vls⟩ := C
        obtain ⟨na, nc, va, vc, d0, d1, d2, d3, d4⟩ := hi'.ex
        simp only at d0 d1 d2 d3 d4
        clear hi'
        have D3 := Lib.hid d3
        have D4 := Lib.hid d4
        have D5 := Lib.hid hi2'
        clear d3 d4 hi2'
        have hw1 : IntKind.i64.wrap ((k : Int) + 1) = (k : Int) + 1 := by rw [IntKind.wrap_i64]; omega
        have D0 := Lib.hid d0
        obtain ⟨A, hA⟩ : ∃ A, wr.heap.size = A := ⟨_, rfl⟩
        go_upto_region 8 with fail
        refine code_gen (Φ := fun wy => Hid (Below wr.heap.size wr wy) ∧ Hid (wy.heap[A]? = some (.cells #[.int .i64 kd, .slice na nms.length nc, .slice va vls.length vc] 46 (0, 0)))) ?_ ?_
        · exact ⟨Lib.hid ((Below.refl _ _).alloc (Nat.le_refl _) _), Lib.hid (alloc_at hA _)⟩
        rintro w6 ⟨Z6, A6⟩
        have HBS2 := Lib.hid (HBS.out w6 Z6.out)
        clear hA d0 d1 d2 HBS D0
        rw [HCO.out] at HBS2
        clear HCO
        go_wp2_with fail
        refine HBS2.out.mono ?_
        rintro e w7 ⟨n, rfl, hb⟩
        have Z7 := Lib.hid (Z6.out.trans (Below.le hb Z6.out.size))
        have A7 := Lib.hid ((hb.block _ (lt_of_heap A6.out)).trans A6.out)
        clear hb HBS2 Z6 A6
        generalize W.contains (k : Int) = Q at *
        have hs1 : (k : Int) + 1 ≤ (c : Int) := by omega
        have hs0 : (0 : Int) ≤ (k : Int) + 1 := by omega
        have hck : ¬ (c = k) := by omega
        have ZF := Lib.hid (fun (wx : World) (hb : Below w7.heap.size w7 wx) => Y.out.trans (Below.le (Z7.out.trans (Below.le hb Z7.out.size)) Y.out.size))
        obtain ⟨c0, c1, c2⟩ := cells3 A7.out
        go_upto_region 9 with fail
        cases Q with
        | true =>
          have hCD := HKS.out.1 rfl
          subst hCD
          have HSC : Hid (∀ w9, Below w7.heap.size w7 w9 → w9.heap[w7.heap.size]? = some (.cells #[.int .i64 kd, .slice na nms.length nc, .slice va vls.length vc] 46 (0, 0)) → Calls Try.prog 12 #[.slice (some ⟨w7.heap.size, 0, none⟩) 1 1, .slice (some ⟨b2, o2 + k * 3, none⟩) 1 (c - k)] w9 fun e w' => e = .returned (.bool true) ∧ Below w9.heap.size w9 w') := Lib.hid (by
            intro w9 hb hg
            have hb2 := Z7.out.trans (Below.le hb Z7.out.size)
            have := sameCells_any (some ⟨w7.heap.size, 0, none⟩) (some ⟨b2, o2 + k * 3, none⟩) 1 (c - k) [⟨kd, nms, vls⟩] [⟨kd, nms, vls⟩] w9 (heap_one (cl_block hg (D3.out.mono (fun _ _ _ h => kc hb2 h)) (D4.out.mono (fun _ _ _ h => h.below hb2))) (by omega) (by decide)) (heap_one (D5.out.below hb2) (by omega) (by unfold maxLen; omega))
            rw [decide_eq_true rfl] at this
            exact this)
          clear D3 D4 D5 HKS
          go_cut [80] (fun v80 wx => v80 = .bool false ∧ Below w7.heap.size w7 wx)
          case first =>
            clear p8 p9 p11 p15 p17 p18 q1 q3 r1 r2 s2 s3 HW
            first
              | go_region_law (first | (go_simp; go_at_call 12; refine (HSC.out _ ?_ ?_).mono ?_; exact below_drew ((Below.refl _ _).alloc (Nat.le_refl _) _); exact alloc_at rfl _; rintro e w8 ⟨rfl, hb8⟩; have V := Lib.hid hb8; clear hb8))
              | fail
            all_goals
              go_wp2_with fail
              go_meet
              exact ⟨rfl, (below_drew ((Below.refl _ _).alloc (Nat.le_refl _) _)).trans (Below.le V.out (al_le (Nat.le_refl _) _))⟩
          case rest =>
            obtain ⟨rfl, hb⟩ := hcut
            have ZE := Lib.hid (ZF.out _ hb)
            clear hb c0 c1 c2
            go_wp2_with fail
            go_roundg (h.length - (k + 1))
            case measure => rw [G.out]; omega
            case rel => exact ⟨k + 1, rfl, by omega, by simp, ZE.out⟩
        | false =>
          have hk0 : kd = 0 := HKS.out.2 rfl
          subst hk0
          clear D3 D4 D5 HKS
          go_cut [80] (fun v80 wx => v80 = .bool false ∧ Below w7.heap.size w7 wx)
          case first =>
            clear p8 p9 p11 p12 p15 p17 p18 q1 q2 q3 r1 r2 s2 s3 hs0 hs1 hck hw1 c1 c2 HW
            go_quiet (fail)
            all_goals
              go_wp2_with fail
              go_meet
              exact ⟨rfl, below_drewN (Below.refl _ _) _⟩
          case rest =>
            obtain ⟨rfl, hb⟩ := hcut
            have ZE := Lib.hid (ZF.out _ hb)
            clear hb c0 c1 c2
            go_wp2_with fail
            go_roundg (h.length - (k + 1))
            case measure => rw [G.out]; omega
            case rel => exact ⟨k + 1, rfl, by omega, by simp, ZE.out⟩
      · have hke : k = h.length := by omega
        have hnl : ¬ ((k : Int) < (h.length : Int)) := by omega
        have HSW := Lib.hid (sweep_any sa sc S ra rc roots wr (by rw [F4.out]; exact M4.out.below Y.out) (HRS.out.mono (fun _ _ _ h => h.below X5.out)))
        rw [F1.out, F4.out] at HSW
        clear hke hlt
        go_wp2_with fail
        refine HSW.out.mono ?_
        rintro e w6 ⟨sv, rfl, hm6⟩
        have X6 := Lib.hid (X5.out.trans (Below.le hm6.bl X5.out.size))
        have M6 := Lib.hid ((M4.out.below Y.out).below hm6.bl)
        obtain ⟨ta, tc, rfl, _⟩ := id hm6.heap
        have N6 := Lib.hid hm6.heap
        clear hm6 HSW X5 Y
        simp only
        go_wp2_with fail
        have HSC := sameCells_any ta sa tc sc S S w6 N6.out (by rw [F4.out]; exact M6.out)
        rw [decide_eq_true rfl, F4.out] at HSC
        rw [F4.out]
        refine HSC.mono ?_
        clear HSC
        rintro e w8 ⟨rfl, hb⟩
        have X8 := Lib.hid (X6.out.trans (Below.le hb X6.out.size))
        have M8 := Lib.hid (M6.out.below hb)
        clear hb X6 M6 N6
        go_wp2_with fail
        have HCK := check_any sa sc S w8 (by rw [F4.out]; exact M8.out)
        rw [F2.out, F4.out] at HCK
        refine HCK.mono ?_
        clear HCK
        rintro e w9 ⟨rfl, hb⟩
        have X9 := Lib.hid (X8.out.trans (Below.le hb X8.out.size))
        clear hb X8 M8
        go_wp2_with fail
        go_ret
        exact ⟨rfl, X9.out⟩
  · unfold reachV at HRE
    rw [if_neg hE0] at HRE
    unfold sweepV at HSW
    simp only [if_neg hE0] at HSW
    generalize askErr h roots = E at *
    have hEb : (E == 0) = false := by simpa using hE0
    go_enter Try.func7, Try.ntmps7
    go_wp2_with fail
    refine HRE.out.mono ?_
    rintro e w1 ⟨lv, rfl, ol1, hb⟩
    have X1 := Lib.hid hb
    clear hb ol1 HRE
    go_wp2_with fail
    refine (HSW.out w1 X1.out).mono ?_
    rintro e w2 ⟨sv, rfl, hm2⟩
    have X2 := Lib.hid (X1.out.trans (Below.le hm2.bl X1.out.size))
    obtain ⟨sa, sc, rfl, _⟩ := id hm2.heap
    clear hm2 X1 HSW
    go_wp2_with fail
    refine (lives_any w2).mono ?_
    rintro e w3 ⟨rfl, hb⟩
    have X3 := Lib.hid (X2.out.trans (Below.le hb X2.out.size))
    clear hb X2
    go_wp2_with fail
    have HOK := ok_any (some ⟨w3.heap.size, 0, none⟩) 2 [E, E] (w3.alloc (.cells #[.int .i64 E, .int .i64 E] 25)) (ints_block (alloc_at rfl _) rfl (by simp [maxLen]))
    rw [show ([E, E].all fun x => x == 0) = false by simp [hEb]] at HOK
    refine HOK.mono ?_
    clear HOK
    rintro e w4 ⟨rfl, hb⟩
    have X4 := Lib.hid (X3.out.trans (Below.le (((Below.refl w3.heap.size w3).alloc (Nat.le_refl _) (.cells #[.int .i64 E, .int .i64 E] 25)).trans (Below.le hb (al_le (Nat.le_refl _) _))) X3.out.size))
    clear hb X3 hE0 hEb
    go_wp2_with fail
    refine (lives_any w4).mono ?_
    rintro e w5 ⟨rfl, hb⟩
    have X5 := Lib.hid (X4.out.trans (Below.le hb X4.out.size))
    clear hb
    go_wp2_with fail
    go_ret
    exact ⟨rfl, X5.out⟩
end Go.Proofs.Ytcnplnnpiobikaa
