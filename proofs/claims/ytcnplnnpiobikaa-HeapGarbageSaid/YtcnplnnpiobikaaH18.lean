/- The contract of heap.Alike. -/
import Derived.Test.YtcnplnnpiobikaaH17
namespace Go.Proofs.Ytcnplnnpiobikaa
open Go.RowKit

def alikeV (g : List Cl) (x : JV) (h : List Cl) (y : JV) : Bool × Int :=
  if checkErr g ≠ 0 then (false, checkErr g) else if checkErr h ≠ 0 then (false, checkErr h) else if askErr g [x] ≠ 0 then (false, askErr g [x]) else if askErr h [y] ≠ 0 then (false, askErr h [y])
  else (decide ((moveV g [x]).cells = (moveV h [y]).cells ∧ (moveV g [x]).roots = (moveV h [y]).roots), 0)
theorem moveV_err (h : List Cl) (roots : List JV) : (moveV h roots).err = askErr h roots := by
  unfold moveV
  split
  · rename_i h0; exact h0.symm
  · rfl
theorem move_one {h : List Cl} {x : JV} (h0 : askErr h [x] = 0) : ∃ r, (moveV h [x]).roots = [r] := by
  unfold moveV
  rw [if_pos h0]
  exact ⟨_, rfl⟩
theorem eqlV_same (k n : Int) (s : ByteArray) (w : World) : (binOp .eql 31 (.agg #[.int .i64 k, .int .i64 n, .string s]) (.agg #[.int .i64 k, .int .i64 n, .string s])).run Try.prog w = .ok (.bool true) w := by go_simp
theorem eqlV_diff (k n : Int) (s : ByteArray) (k2 n2 : Int) (s2 : ByteArray) (h : (⟨k, n, s⟩ : JV) ≠ ⟨k2, n2, s2⟩) (w : World) : (binOp .eql 31 (.agg #[.int .i64 k, .int .i64 n, .string s]) (.agg #[.int .i64 k2, .int .i64 n2, .string s2])).run Try.prog w = .ok (.bool false) w := by
  go_simp
  by_cases h1 : k = k2
  · by_cases h2 : n = n2
    · have h3 : s ≠ s2 := fun e => h (by rw [h1, h2, e])
      have h4 : ¬ s.toList = s2.toList := fun e => h3 (toList_inj e)
      simp_all
    · simp_all
  · simp_all
set_option maxRecDepth 100000 in
set_option maxHeartbeats 16000000 in
theorem alike_any (a : Option Addr) (c : Nat) (g : List Cl) (x : JV) (a2 : Option Addr) (c2 : Nat) (h : List Cl) (y : JV) (w : World) (h1 : HeapAt w (.slice a g.length c) g) (h2 : HeapAt w (.slice a2 h.length c2) h) :
    Calls Try.prog 14 #[.slice a g.length c, JV.v x, .slice a2 h.length c2, JV.v y] w fun e w' => e = .returned (.tuple #[.bool (alikeV g x h y).1, .int .i64 (alikeV g x h y).2]) ∧ Below w.heap.size w w' := by
  have H1 := Lib.hid h1
  have H2 := Lib.hid h2
  obtain ⟨q1, q2, q3⟩ := SlR.cap h1
  obtain ⟨r1, r2, r3⟩ := SlR.cap h2
  clear h1 h2
  have HCG := Lib.hid (fun (w1 : World) (hb : Below w.heap.size w w1) => check_any a c g w1 (H1.out.below hb))
  have HCH := Lib.hid (fun (w1 : World) (hb : Below w.heap.size w w1) => check_any a2 c2 h w1 (H2.out.below hb))
  have p18 : ∀ (args : Array Value) (w : World), Sem.run Try.prog (callFunc 18 args) w = .ok (.enter 18 args) w := by intro args w; go_simp
  have p10 := call10
  have p25 := call25
  obtain ⟨R, hR⟩ : ∃ R, alikeV g x h y = R := ⟨_, rfl⟩
  rw [hR]
  unfold alikeV at hR
  have HR := Lib.hid hR
  clear hR
  obtain ⟨xk, xn, xs⟩ := x
  obtain ⟨yk, yn, ys⟩ := y
  show Calls Try.prog 14 #[.slice a g.length c, .agg #[.int .i64 xk, .int .i64 xn, .string xs], .slice a2 h.length c2, .agg #[.int .i64 yk, .int .i64 yn, .string ys]] w _
  go_enter Try.func14, Try.ntmps14
  obtain ⟨A, hA⟩ : ∃ A, w.heap.size = A := ⟨_, rfl⟩
  go_upto_region 1 with fail
  refine code_gen (Φ := fun wy => Hid (Below w.heap.size w wy) ∧ Hid (wy.heap[A]? = some (.cells #[.int .i64 xk, .int .i64 xn, .string xs] 31 (0, 0))) ∧ Hid (wy.heap[A + 1]? = some (.cells #[.int .i64 yk, .int .i64 yn, .string ys] 31 (0, 0)))) ?_ ?_
  · have e1 := alloc_at hA (.cells #[.int .i64 xk, .int .i64 xn, .string xs] 31)
    refine ⟨Lib.hid (((Below.refl _ _).alloc (Nat.le_refl _) _).alloc (al_le (Nat.le_refl _) _) _), Lib.hid ?_, Lib.hid (alloc_at (by rw [← hA]; simp) _)⟩
    exact (((Below.refl _ _).alloc (Nat.le_refl _) _).block A (lt_of_heap e1)).trans e1
  rintro w1 ⟨X, A1, A2⟩
  clear hA
  obtain ⟨B, hB⟩ : ∃ B, w1.heap.size = B := ⟨_, rfl⟩
  go_upto_region 2 with fail
  refine code_gen (Φ := fun wy => Hid (Below w1.heap.size w1 wy) ∧ Hid (wy.heap[B]? = some (.cells #[.slice a g.length c, .slice a2 h.length c2] 22 (0, 0)))) ⟨Lib.hid ((Below.refl _ _).alloc (Nat.le_refl _) _), Lib.hid (alloc_at hB _)⟩ ?_
  rintro w2 ⟨Z, BB⟩
  have X2 := Lib.hid (X.out.trans (Below.le Z.out X.out.size))
  have A3 := Lib.hid ((Z.out.block _ (lt_of_heap A1.out)).trans A1.out)
  have A4 := Lib.hid ((Z.out.block _ (lt_of_heap A2.out)).trans A2.out)
  clear hB Z A1 A2 X
  go_upto_region 2 with fail
  go_loopg [22] 2 (fun n vk wr => ∃ k : Nat, n = 2 - k ∧ k ≤ 2 ∧ vk = .int .i64 (k : Int) ∧ (1 ≤ k → checkErr g = 0) ∧ (2 ≤ k → checkErr h = 0) ∧ Below w2.heap.size w2 wr)
  case atStart => exact ⟨0, rfl, by omega, rfl, fun h => by omega, fun h => by omega, Below.refl _ _⟩
  case round =>
    obtain ⟨k, hg, hk, rfl, hg0, hh0, hb⟩ := hrel
    have G := Lib.hid hg
    have Y := Lib.hid hb
    have X := Lib.hid (X2.out.trans (Below.le hb X2.out.size))
    have HG := Lib.hid hg0
    have HH := Lib.hid hh0
    have BB2 := Lib.hid ((hb.block _ (lt_of_heap BB.out)).trans BB.out)
    have A1 := Lib.hid ((hb.block _ (lt_of_heap A3.out)).trans A3.out)
    have A2 := Lib.hid ((hb.block _ (lt_of_heap A4.out)).trans A4.out)
    clear hg hb hg0 hh0 A3 A4 BB X2
    have X2 := X
    clear X
    obtain ⟨c0, c1⟩ := cells2 BB2.out
    rcases (show k = 0 ∨ k = 1 ∨ k = 2 by omega) with rfl | rfl | rfl
    all_goals clear hk
    iterate 1
      · obtain ⟨E, hE⟩ : ∃ E, checkErr g = E := ⟨_, rfl⟩
        have HCK := Lib.hid (HCG.out wr X2.out)
        rw [hE] at HCK
        have HE := Lib.hid hE
        clear hE
        go_wp2_with fail
        refine HCK.out.mono ?_
        rintro e w4 ⟨rfl, hb4⟩
        have Y4 := Lib.hid (Y.out.trans (Below.le hb4 Y.out.size))
        have X4 := Lib.hid (X2.out.trans (Below.le hb4 X2.out.size))
        clear hb4 c0 c1 HCK
        by_cases hE0 : E = 0
        · subst hE0
          go_wp2_with fail
          go_roundg (2 - 1)
          case measure => have := G.out; omega
          case rel => exact ⟨1, rfl, by omega, rfl, fun _ => HE.out, fun h2 => by omega, Y4.out⟩
        · have hEb : (E == 0) = false := by simpa using hE0
          have hr : R = (false, E) := by rw [← HR.out, if_pos (by rw [HE.out]; exact hE0), HE.out]
          subst hr
          clear hE0
          go_wp2_with fail
          go_ret2
          exact ⟨rfl, X4.out⟩
      · obtain ⟨E, hE⟩ : ∃ E, checkErr h = E := ⟨_, rfl⟩
        have HCK := Lib.hid (HCH.out wr X2.out)
        rw [hE] at HCK
        have HE := Lib.hid hE
        clear hE
        go_wp2_with fail
        refine HCK.out.mono ?_
        rintro e w4 ⟨rfl, hb4⟩
        have Y4 := Lib.hid (Y.out.trans (Below.le hb4 Y.out.size))
        have X4 := Lib.hid (X2.out.trans (Below.le hb4 X2.out.size))
        clear hb4 c0 c1 HCK
        by_cases hE0 : E = 0
        · subst hE0
          go_wp2_with fail
          go_roundg (2 - 2)
          case measure => have := G.out; omega
          case rel => exact ⟨2, rfl, by omega, rfl, fun _ => (HG.out (by omega)), fun h2 => HE.out, Y4.out⟩
        · have hEb : (E == 0) = false := by simpa using hE0
          have hr : R = (false, E) := by rw [← HR.out, if_neg (by rw [(HG.out (by omega))]; simp), if_pos (by rw [HE.out]; exact hE0), HE.out]
          subst hr
          clear hE0
          go_wp2_with fail
          go_ret2
          exact ⟨rfl, X4.out⟩
      · have HG0 := Lib.hid (HG.out (by omega))
        have HH0 := Lib.hid (HH.out (by omega))
        have HR2 := Lib.hid HR.out
        rw [if_neg (by rw [HG0.out]; simp), if_neg (by rw [HH0.out]; simp)] at HR2
        clear HG HH HR G c0 c1 BB2 Y
        obtain ⟨c0, c1, c2'⟩ := cells3 A1.out
        go_wp2_with fail
        have HMV := move_any a c g (some ⟨wr.heap.size, 0, none⟩) 1 [⟨xk, xn, xs⟩] (wr.alloc (.cells #[.int .i64 xk, .int .i64 xn, .string xs] 31)) ((H1.out.below X2.out).below ((Below.refl _ _).alloc (Nat.le_refl _) _)) (own_jv (own_block (n := 1) (alloc_at rfl _) (by decide) rfl rfl)) (by simp)
        rw [moveV_err] at HMV
        have M1 := Lib.hid (fun h0 => move_one (h := g) (x := ⟨xk, xn, xs⟩) h0)
        generalize moveV g [⟨xk, xn, xs⟩] = MX1 at *
        generalize askErr g [⟨xk, xn, xs⟩] = E at *
        refine HMV.mono ?_
        clear HMV
        rintro e w3 ⟨cv, rv, rfl, hc3, hr3, hb3⟩
        have B3 := Lib.hid (((Below.refl wr.heap.size wr).alloc (Nat.le_refl _) (.cells #[.int .i64 xk, .int .i64 xn, .string xs] 31)).trans (Below.le hb3 (al_le (Nat.le_refl _) _)))
        have X3 := Lib.hid (X2.out.trans (Below.le B3.out X2.out.size))
        have A5 := Lib.hid ((B3.out.block _ (lt_of_heap A2.out)).trans A2.out)
        have C3 := Lib.hid hc3
        have R3 := Lib.hid hr3
        clear hb3 hc3 hr3 B3 A1 A2 X2 c0 c1 c2'
        by_cases hE0 : E = 0
        · subst hE0
          obtain ⟨r, hr1⟩ := M1.out rfl
          obtain ⟨ca, cc, rfl, _⟩ := id C3.out
          obtain ⟨ra, rc, rfl, _⟩ := id R3.out
          rw [hr1] at R3 ⊢
          have HR3 := Lib.hid HR2.out
          rw [if_neg (by simp), hr1] at HR3
          clear HR2 M1 hr1
          obtain ⟨c0, c1, c2'⟩ := cells3 A5.out
          go_wp2_with fail
          have HMV := move_any a2 c2 h (some ⟨w3.heap.size, 0, none⟩) 1 [⟨yk, yn, ys⟩] (w3.alloc (.cells #[.int .i64 yk, .int .i64 yn, .string ys] 31)) ((H2.out.below X3.out).below ((Below.refl _ _).alloc (Nat.le_refl _) _)) (own_jv (own_block (n := 1) (alloc_at rfl _) (by decide) rfl rfl)) (by simp)
          rw [moveV_err] at HMV
          have M2 := Lib.hid (fun h0 => move_one (h := h) (x := ⟨yk, yn, ys⟩) h0)
          generalize moveV h [⟨yk, yn, ys⟩] = MX2 at *
          generalize askErr h [⟨yk, yn, ys⟩] = E at *
          refine HMV.mono ?_
          clear HMV
          rintro e w4 ⟨cv2, rv2, rfl, hc4, hr4, hb4⟩
          have B4 := Lib.hid (((Below.refl w3.heap.size w3).alloc (Nat.le_refl _) (.cells #[.int .i64 yk, .int .i64 yn, .string ys] 31)).trans (Below.le hb4 (al_le (Nat.le_refl _) _)))
          have X4 := Lib.hid (X3.out.trans (Below.le B4.out X3.out.size))
          have C3' := Lib.hid (C3.out.below B4.out)
          have R3' := Lib.hid (R3.out.mono (fun _ _ _ h => h.below B4.out))
          have C4 := Lib.hid hc4
          have R4 := Lib.hid hr4
          clear hb4 hc4 hr4 B4 A5 X3 c0 c1 c2' C3 R3
          by_cases hE0 : E = 0
          · subst hE0
            obtain ⟨s, hs1⟩ := M2.out rfl
            obtain ⟨cb, cd, rfl, _⟩ := id C4.out
            obtain ⟨rb, rd, rfl, _⟩ := id R4.out
            rw [hs1] at R4 ⊢
            have HR4 := Lib.hid HR3.out
            rw [if_neg (by simp), hs1] at HR4
            clear HR3 M2 hs1
            have HEC := Lib.hid (fun (w5 : World) (hb : Below w4.heap.size w4 w5) => eqC_any 28 same28_any call28 ca cb cc cd MX1.cells MX2.cells w5 (C3'.out.below hb) (C4.out.below hb))
            obtain ⟨b0, o0, rfl, hi⟩ := R3'.out.item 0 (by simp)
            obtain ⟨b1, o1, rfl, hi1⟩ := R4.out.item 0 (by simp)
            obtain ⟨f0, f1, f2⟩ := hi
            obtain ⟨g0, g1, g2⟩ := hi1
            simp only [List.getElem_cons_zero, Nat.zero_mul, Nat.add_zero] at f0 f1 f2 g0 g1 g2
            clear C3' C4 R3' R4
            have HX4 := X4
            clear X4
            obtain ⟨rk, rn, rs⟩ := r
            obtain ⟨sk, sn, ss⟩ := s
            simp only at f0 f1 f2 g0 g1 g2
            by_cases hce : MX1.cells = MX2.cells
            · have HEC2 : Hid (∀ w5, Below w4.heap.size w4 w5 → Calls Try.prog 25 #[.slice ca MX1.cells.length cc, .slice cb MX2.cells.length cd, .func (.func 28) #[] #[]] w5 fun e w' => e = .returned (.bool true) ∧ Below w5.heap.size w5 w') := Lib.hid (fun w5 hb => by
                have := HEC.out w5 hb
                rwa [decide_eq_true hce] at this)
              obtain ⟨Q, hQ⟩ : ∃ Q, decide ((⟨rk, rn, rs⟩ : JV) = ⟨sk, sn, ss⟩) = Q := ⟨_, rfl⟩
              have hrun : ∀ w, (binOp .eql 31 (.agg #[.int .i64 rk, .int .i64 rn, .string rs]) (.agg #[.int .i64 sk, .int .i64 sn, .string ss])).run Try.prog w = .ok (.bool Q) w := fun w => by
                by_cases he : (⟨rk, rn, rs⟩ : JV) = ⟨sk, sn, ss⟩
                · rw [← hQ, decide_eq_true he]
                  injection he with e1 e2 e3
                  subst e1 e2 e3
                  exact eqlV_same _ _ _ w
                · rw [← hQ, decide_eq_false he]
                  exact eqlV_diff _ _ _ _ _ _ he w
              have hr : R = (Q, 0) := by rw [← HR4.out, ← hQ]; simp [hce]
              subst hr
              have CB := Lib.hid (Below.refl w4.heap.size w4)
              clear HEC hce hQ HR4
              go_upto_region 14 with fail
              go_region_law (first
                | (go_simp; go_at_call 25; refine (HEC2.out _ (by first | exact CB.out | exact below_drew CB.out)).mono ?_; rintro e w25 ⟨rfl, hb⟩; have CB := Lib.hid (Below.trans (show Below w4.heap.size w4 _ from by first | exact CB.out | exact below_drew CB.out) (Below.le hb (show w4.heap.size ≤ _ from CB.out.size))); have f0 := kc hb f0; have f1 := kc hb f1; have f2 := kc hb f2; have g0 := kc hb g0; have g1 := kc hb g1; have g2 := kc hb g2; clear hb))
              all_goals
                go_wp2_with fail
                go_ret2
                exact ⟨rfl, HX4.out.trans (Below.le (by first | exact CB.out | exact below_drew CB.out | exact below_drewN CB.out _) HX4.out.size)⟩
            · have HEC2 : Hid (∀ w5, Below w4.heap.size w4 w5 → Calls Try.prog 25 #[.slice ca MX1.cells.length cc, .slice cb MX2.cells.length cd, .func (.func 28) #[] #[]] w5 fun e w' => e = .returned (.bool false) ∧ Below w5.heap.size w5 w') := Lib.hid (fun w5 hb => by
                have := HEC.out w5 hb
                rwa [decide_eq_false hce] at this)
              have hr : R = (false, 0) := by rw [← HR4.out]; simp [hce]
              subst hr
              have CB := Lib.hid (Below.refl w4.heap.size w4)
              clear HEC hce HR4
              go_upto_region 14 with fail
              first | go_region_with (first
                | (go_at_call 25; refine (HEC2.out _ (by first | exact CB.out | exact below_drew CB.out)).mono ?_; rintro e w25 ⟨rfl, hb⟩; have CB := Lib.hid (Below.trans (show Below w4.heap.size w4 _ from by first | exact CB.out | exact below_drew CB.out) (Below.le hb (show w4.heap.size ≤ _ from CB.out.size))); clear hb)) | fail
              all_goals
                go_wp2_with fail
                go_ret2
                exact ⟨rfl, HX4.out.trans (Below.le (by first | exact CB.out | exact below_drew CB.out | exact below_drewN CB.out _) HX4.out.size)⟩
          · have hEb : (E == 0) = false := by simpa using hE0
            have hr : R = (false, E) := by rw [← HR3.out, if_pos hE0]
            subst hr
            clear hE0
            go_wp2_with fail
            go_ret2
            exact ⟨rfl, X4.out⟩
        · have hEb : (E == 0) = false := by simpa using hE0
          have hr : R = (false, E) := by rw [← HR2.out, if_pos hE0]
          subst hr
          clear hE0
          go_wp2_with fail
          go_ret2
          exact ⟨rfl, X3.out⟩
end Go.Proofs.Ytcnplnnpiobikaa
