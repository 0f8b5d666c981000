/- HeapGarbage, walked. -/
import Derived.Test.YtcnplnnpiobikaaP5
import Derived.Test.YtcnplnnpiobikaaH21
namespace Go.Proofs.Ytcnplnnpiobikaa
open Go.RowKit

theorem call15g (args : Array Value) (w : World) : Sem.run Try.prog (callFunc 15 args) w = .ok (.enter 15 args) w := by go_simp
theorem own_blockB {w : World} {B g e : Nat} {size n : Nat} {cur : Array Value} {xs : List Value} (h : w.heap[g]? = some (.cells cur e (0, 0))) (hB : B ≤ g) (hn : n ≤ maxLen) (hs : cur.size = n * size) (hx : cur.toList = xs) : w.ownsRow B e size (.slice (some ⟨g, 0, none⟩) n n) n xs := by
  subst hx
  exact ⟨by simpa using hs, .inr ⟨g, n, cur, rfl, hB, h, Nat.le_refl _, hn, hs, by rw [← hs]; exact List.take_of_length_le (by simp)⟩⟩
theorem two_allocs (w6 : World) (V : Obj) (t : Tr) : ∀ j u, (Tr.c t)[j]? = some u → ((w6.alloc V).alloc (.cells #[.int .i64 t.kind, t.nv, t.vv] 46)).cell? ((⟨w6.heap.size + 1, 0, none⟩ : Addr).add j) = some u := by
  have h := cell_tr t 46 (w6.alloc V)
  rwa [show (w6.alloc V).heap.size = w6.heap.size + 1 by simp] at h
theorem exV_row (w6 : World) (B : Nat) (C : Obj) (xk xn : Int) (xs : ByteArray) (j : Nat) (hB : B ≤ w6.heap.size) : ((w6.alloc (.cells #[.int .i64 xk, .int .i64 xn, .string xs, .int .i64 4, .int .i64 (j : Int), .string ⟨#[]⟩] 31)).alloc C).ownsRow B 31 3 (.slice (some ⟨w6.heap.size, 0, none⟩) 2 2) (extra ⟨xk, xn, xs⟩ j).vals.length ((extra ⟨xk, xn, xs⟩ j).vals.flatMap JV.c) :=
  own_blockB ((((Below.refl _ (w6.alloc (.cells #[.int .i64 xk, .int .i64 xn, .string xs, .int .i64 4, .int .i64 (j : Int), .string ⟨#[]⟩] 31))).alloc (Nat.le_refl _) C).block _ (lt_of_heap (alloc_at rfl _))).trans (alloc_at rfl _)) hB (by decide) rfl rfl
set_option maxRecDepth 100000 in
set_option maxHeartbeats 16000000 in
theorem law_garbage (a : Option Addr) (c : Nat) (h : List Cl) (x : JV) (n : Int) (w : World) (hh : HeapAt w (.slice a h.length c) h) :
    Calls Try.prog 6 #[.slice a h.length c, JV.v x, .int .i64 n] w fun e w' => e = .returned (.bool true) ∧ Below w.heap.size w w' := by
  have HH := Lib.hid hh
  obtain ⟨q1, q2, q3⟩ := SlR.cap hh
  clear hh
  have p9 := call9
  have p14 := call14
  have p15 := call15g
  have p16 := call16
  obtain ⟨bi, gi0, gi1, gi2, gi3⟩ := info_parts cl_info
  obtain ⟨xk, xn, xs⟩ := x
  show Calls Try.prog 6 #[.slice a h.length c, .agg #[.int .i64 xk, .int .i64 xn, .string xs], .int .i64 n] w _
  go_enter Try.func6, Try.ntmps6
  obtain ⟨A, hA⟩ : ∃ A, w.heap.size = A := ⟨_, rfl⟩
  go_upto_region 1 with fail
  refine code_gen (Φ := fun wy => Hid (Below w.heap.size w wy) ∧ Hid (wy.heap[A]? = some (.cells #[.int .i64 xk, .int .i64 xn, .string xs] 31 (0, 0)))) ⟨Lib.hid ((Below.refl _ _).alloc (Nat.le_refl _) _), Lib.hid (alloc_at hA _)⟩ ?_
  rintro w1 ⟨X1, A1⟩
  clear hA
  obtain ⟨c0, c1, c2⟩ := cells3 A1.out
  have HSW := Lib.hid (sweep_any a c h (some ⟨w1.heap.size, 0, none⟩) 1 [⟨xk, xn, xs⟩] (w1.alloc (.cells #[.int .i64 xk, .int .i64 xn, .string xs] 31)) ((HH.out.below X1.out).below ((Below.refl _ _).alloc (Nat.le_refl _) _)) (own_jv (own_block (n := 1) (alloc_at rfl _) (by decide) rfl rfl)))
  go_wp2_with fail
  refine HSW.out.mono ?_
  rintro e w3 ⟨ov, rfl, hm3⟩
  have B3 := ((Below.refl w1.heap.size w1).alloc (Nat.le_refl _) (.cells #[.int .i64 xk, .int .i64 xn, .string xs] 31)).trans (Below.le hm3.bl (al_le (Nat.le_refl _) _))
  have X3 := Lib.hid (X1.out.trans (Below.le B3 X1.out.size))
  have A3 := Lib.hid ((B3.block _ (lt_of_heap A1.out)).trans A1.out)
  obtain ⟨oa, oc, rfl, _⟩ := id hm3.heap
  have M3 := Lib.hid hm3
  clear hm3 B3 c0 c1 c2 HSW
  obtain ⟨w2, hw2⟩ : ∃ w2, w2 = w1.alloc (.cells #[.int .i64 xk, .int .i64 xn, .string xs] 31) := ⟨_, rfl⟩
  have A2 := Lib.hid ((((Below.refl w1.heap.size w1).alloc (Nat.le_refl _) (.cells #[.int .i64 xk, .int .i64 xn, .string xs] 31)).block _ (lt_of_heap A1.out)).trans A1.out)
  have X2 := Lib.hid (X1.out.alloc X1.out.size (.cells #[.int .i64 xk, .int .i64 xn, .string xs] 31))
  rw [← hw2] at M3 A2 X2
  clear hw2 A1 X1
  go_wp2_with fail
  refine (lives_any w3).mono ?_
  rintro e w4 ⟨rfl, hb⟩
  have X4 := Lib.hid (X3.out.trans (Below.le hb X3.out.size))
  have A4 := Lib.hid ((hb.block _ (lt_of_heap A3.out)).trans A3.out)
  have M4 := Lib.hid (M3.out.call hb)
  clear hb X3 A3 M3
  by_cases hE0 : askErr h [⟨xk, xn, xs⟩] = 0
  · have F1 := Lib.hid (fun n => more_alike hE0 n)
    have F2 := Lib.hid (ask_ok hE0).1.len
    have F4 := Lib.hid (sweptL_len h (walkF h [⟨xk, xn, xs⟩]))
    have F3 := Lib.hid (fun n => (more_len ⟨xk, xn, xs⟩ (sweptL h (walkF h [⟨xk, xn, xs⟩])) n))
    unfold sweepV at M4 ⊢
    simp only [if_pos hE0] at M4 ⊢
    generalize sweptL h (walkF h [⟨xk, xn, xs⟩]) = S at *
    rw [F4.out] at M4 ⊢
    by_cases hn0 : n < 0
    · have hle : S.length ≤ h.length := Nat.le_of_eq F4.out
      go_wp2_with fail
      refine (lives_any w4).mono ?_
      rintro e w5 ⟨rfl, hb⟩
      have X5 := Lib.hid (X4.out.trans (Below.le hb X4.out.size))
      clear hb
      go_wp2_with fail
      go_ret
      exact ⟨rfl, X5.out⟩
    · by_cases hn1 : 20 < n
      · go_wp2_with fail
        refine (lives_any w4).mono ?_
        rintro e w5 ⟨rfl, hb⟩
        have X5 := Lib.hid (X4.out.trans (Below.le hb X4.out.size))
        clear hb
        go_wp2_with fail
        go_ret
        exact ⟨rfl, X5.out⟩
      · obtain ⟨m, rfl⟩ : ∃ m : Nat, n = (m : Int) := ⟨n.toNat, by omega⟩
        have hm : (m : Int) ≤ 20 := by omega
        go_wp2_with fail
        go_loopg [41, 7] m (fun g v41 v7 wr => ∃ k : Nat, g = m - k ∧ k ≤ m ∧ v41 = .int .i64 (k : Int) ∧ MO w2 wr v7 (moreC ⟨xk, xn, xs⟩ S k))
        case atStart => exact ⟨0, rfl, Nat.zero_le _, rfl, M4.out⟩
        case round =>
          clear M4
          obtain ⟨k, hg, hk, rfl, hx⟩ := hrel
          have G := Lib.hid hg
          have X := Lib.hid hx
          clear hg hx
          by_cases hlt : k < m
          · have hki : (k : Int) < (m : Int) := by omega
            have VV := Lib.hid (show moreC ⟨xk, xn, xs⟩ S (k + 1) = moreC ⟨xk, xn, xs⟩ S k ++ [extra ⟨xk, xn, xs⟩ (moreC ⟨xk, xn, xs⟩ S k).length] by rw [F3.out k]; rfl)
            have HL := Lib.hid (show (moreC ⟨xk, xn, xs⟩ S k).length ≤ 320 by rw [F3.out k, F4.out]; have := F2.out; omega)
            generalize moreC ⟨xk, xn, xs⟩ S k = IT at *
            obtain ⟨va, vc, rfl, _⟩ := id X.out.heap
            have HA := Lib.hid (fun (wx : World) (hb : Below w2.heap.size w2 wx) => (hb.block _ (lt_of_heap A2.out)).trans A2.out)
            obtain ⟨c0, c1, c2⟩ := cells3 (HA.out wr X.out.bl)
            go_upto_region 6 with fail
            clear p9 p14 p15 q1 q2 q3 hn0 hn1
            go_region_law (first | (have hM := MO.call Z.out (((Below.refl _ w6).alloc (Nat.le_refl _) (.cells #[.int .i64 xk, .int .i64 xn, .string xs, .int .i64 4, .int .i64 (IT.length : Int), .string ⟨#[]⟩] 31)).alloc (al_le (Nat.le_refl _) _) (.cells #[.int .i64 1, .slice none 0 0, .slice (some ⟨w6.heap.size, 0, none⟩) 2 2] 46)); obtain ⟨ts, t1, t2, t3⟩ := hM.ex; have t2' := t2; rw [t1] at t2'; refine step_append_lies _ (by rfl) (.tmp 43) (.tmp 50) 22 (by rfl) w2.heap.size 46 bi zCl 3 56 Try.underlying22 gi0 gi1 gi2 gi3 (by rfl) (by decide) (.slice va IT.length vc) _ _ (by rfl) t2' ⟨w6.heap.size + 1, 0, none⟩ 1 1 (Tr.c ⟨1, .slice none 0 0, .slice (some ⟨w6.heap.size, 0, none⟩) 2 2⟩) (by rfl) (by rfl) (two_allocs w6 _ ⟨1, .slice none 0 0, .slice (some ⟨w6.heap.size, 0, none⟩) 2 2⟩) (one_tr _ _ _ _ _ _ _) (by decide) (by unfold maxLen; have := HL.out; omega) (by have := HL.out; omega) hM.bl.size _ (by rfl) ?_; intro g cap w7 hown hgrow hat _; have V : Hid (MO w2 w7 (.slice (some ⟨g, 0, none⟩) (IT.length + 1) cap) (IT ++ [extra ⟨xk, xn, xs⟩ IT.length])) := Lib.hid (MO.push hM.bl t1 t2 t3 ⟨1, .slice none 0 0, .slice (some ⟨w6.heap.size, 0, none⟩) 2 2⟩ (extra ⟨xk, xn, xs⟩ IT.length) rfl (World.ownsRow_nil _ _ _ _) (exV_row w6 _ _ xk xn xs IT.length B6.out.size) rfl hown hgrow (by simpa using hat)); clear hM t1 t2 t2' t3 hown hgrow hat) | (go_simp; go_at_call 16; refine calls_gen (Φ := fun wy => Hid (MO w2 wy (.slice va IT.length vc) IT)) (by first | exact X | exact Lib.hid (X.out.call ⟨rfl, rfl, rfl, Nat.le_refl _, fun _ _ => rfl⟩)) ?_; intro w5 Y5; refine (refTo_any _ _).mono ?_; rintro e w6 ⟨rfl, hb6⟩; have Z := Lib.hid (Y5.out.call hb6); have B6 := Lib.hid (Y5.out.bl.trans (Below.le hb6 Y5.out.bl.size)); obtain ⟨f0, f1, f2⟩ := cells3 (HA.out w6 B6.out); clear hb6) | (trace_state; fail))
            all_goals
              go_wp2_with fail
              go_roundg (m - (k + 1))
              case measure => have := G.out; omega
              case rel => exact ⟨k + 1, rfl, by omega, by simp, by rw [VV.out]; exact V.out⟩
          · have hke : k = m := by omega
            have hnl : ¬ ((k : Int) < (m : Int)) := by omega
            have XC := Lib.hid (show MO w2 wr u7 (moreC ⟨xk, xn, xs⟩ S m) from by rw [← hke]; exact X.out)
            have HV := Lib.hid (F1.out m)
            have HLN := Lib.hid (show (moreC ⟨xk, xn, xs⟩ S m).length = h.length + m by rw [F3.out m, F4.out])
            have hhl := F2.out
            clear hke hlt hk X G
            generalize moreC ⟨xk, xn, xs⟩ S m = IT at *
            obtain ⟨va, vc, rfl, _⟩ := id XC.out.heap
            have A5 := Lib.hid ((XC.out.bl.block _ (lt_of_heap A2.out)).trans A2.out)
            obtain ⟨c0, c1, c2⟩ := cells3 A5.out
            have XB := Lib.hid (X2.out.trans (Below.le XC.out.bl X2.out.size))
            have HAL := alike_any a c h ⟨xk, xn, xs⟩ va vc IT ⟨xk, xn, xs⟩ wr (HH.out.below XB.out) XC.out.heap
            rw [HV.out] at HAL
            clear HV A5 XC
            by_cases hbig : 300 < h.length + m
            · have hgt : (300 : Int) < (IT.length : Int) := by have := HLN.out; omega
              rw [if_pos hbig] at HAL
              have HAK := Lib.hid HAL
              clear HAL hbig hhl
              go_wp2_with fail
              refine HAK.out.mono ?_
              rintro e w5 ⟨rfl, hb⟩
              have X5 := Lib.hid (XB.out.trans (Below.le hb XB.out.size))
              clear hb HAK c0 c1 c2
              go_wp2_with fail
              go_ret
              exact ⟨rfl, X5.out⟩
            · rw [if_neg hbig] at HAL
              have HAK := Lib.hid HAL
              clear HAL hbig hhl
              go_wp2_with fail
              refine HAK.out.mono ?_
              rintro e w5 ⟨rfl, hb⟩
              have X5 := Lib.hid (XB.out.trans (Below.le hb XB.out.size))
              clear hb HAK c0 c1 c2
              go_wp2_with fail
              go_ret
              exact ⟨rfl, X5.out⟩
  · unfold sweepV at M4 ⊢
    simp only [if_neg hE0] at M4 ⊢
    generalize askErr h [⟨xk, xn, xs⟩] = E at *
    have hEb : (E == 0) = false := by simpa using hE0
    go_wp2_with fail
    refine (lives_any w4).mono ?_
    rintro e w5 ⟨rfl, hb⟩
    have X5 := Lib.hid (X4.out.trans (Below.le hb X4.out.size))
    clear hb
    go_wp2_with fail
    go_ret
    exact ⟨rfl, X5.out⟩
end Go.Proofs.Ytcnplnnpiobikaa
