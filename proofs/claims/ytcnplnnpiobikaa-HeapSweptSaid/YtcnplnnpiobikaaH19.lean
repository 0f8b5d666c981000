/- HeapSame, walked. -/
import Derived.Test.YtcnplnnpiobikaaH18
namespace Go.Proofs.Ytcnplnnpiobikaa
open Go.RowKit

def canon (g : List Cl) (x : JV) : List Cl × List JV := ((moveV g [x]).cells, (moveV g [x]).roots)
theorem alike_ok {g : List Cl} {x : JV} {h : List Cl} {y : JV} (h0 : (alikeV g x h y).2 = 0) : (alikeV g x h y).1 = decide (canon g x = canon h y) := by
  unfold alikeV at h0 ⊢
  split at h0
  · rename_i h1; exact absurd h0 h1
  · rename_i h1
    split at h0
    · rename_i h2; exact absurd h0 h2
    · rename_i h2
      split at h0
      · rename_i h3; exact absurd h0 h3
      · rename_i h3
        split at h0
        · rename_i h4; exact absurd h0 h4
        · rename_i h4
          rw [if_neg h1, if_neg h2, if_neg h3, if_neg h4]
          exact Bool.eq_iff_iff.2 (by simp [canon])
theorem same_plain (h : List Cl) (a b c : JV) (h1 : (alikeV h a h b).2 = 0) (h2 : (alikeV h b h a).2 = 0) (h3 : (alikeV h b h c).2 = 0) (h4 : (alikeV h a h c).2 = 0) (h5 : (alikeV h a h a).2 = 0) :
    (alikeV h a h a).1 = true ∧ (alikeV h a h b).1 = (alikeV h b h a).1 ∧ ((alikeV h a h b).1 = true → (alikeV h b h c).1 = true → (alikeV h a h c).1 = true) := by
  rw [alike_ok h1, alike_ok h2, alike_ok h3, alike_ok h4, alike_ok h5]
  refine ⟨by simp, Bool.eq_iff_iff.2 (by simp only [decide_eq_true_eq]; exact eq_comm), fun e1 e2 => ?_⟩
  simp only [decide_eq_true_eq] at e1 e2 ⊢
  exact e1.trans e2
theorem call14 (args : Array Value) (w : World) : Sem.run Try.prog (callFunc 14 args) w = .ok (.enter 14 args) w := by go_simp
theorem call9 (args : Array Value) (w : World) : Sem.run Try.prog (callFunc 9 args) w = .ok (.enter 9 args) w := by go_simp
set_option maxRecDepth 100000 in
set_option maxHeartbeats 16000000 in
theorem law_same (a : Option Addr) (c : Nat) (h : List Cl) (p q r : JV) (w : World) (hh : HeapAt w (.slice a h.length c) h) :
    Calls Try.prog 5 #[.slice a h.length c, JV.v p, JV.v q, JV.v r] w fun e w' => e = .returned (.bool true) ∧ Below w.heap.size w w' := by
  have HH := Lib.hid (fun (x y : JV) (w1 : World) (hb : Below w.heap.size w w1) => alike_any a c h x a c h y w1 (hh.below hb) (hh.below hb))
  clear hh
  have HP := Lib.hid (same_plain h p q r)
  have p14 := call14
  have p9 := call9
  have p11 := call11
  have H1 := Lib.hid (HH.out p q)
  have H2 := Lib.hid (HH.out q p)
  have H3 := Lib.hid (HH.out q r)
  have H4 := Lib.hid (HH.out p r)
  have H5 := Lib.hid (HH.out p p)
  clear HH
  generalize alikeV h p h q = R1 at *
  generalize alikeV h q h p = R2 at *
  generalize alikeV h q h r = R3 at *
  generalize alikeV h p h r = R4 at *
  generalize alikeV h p h p = R5 at *
  obtain ⟨x, e1⟩ := R1
  obtain ⟨y, e2⟩ := R2
  obtain ⟨z, e3⟩ := R3
  obtain ⟨u, e4⟩ := R4
  obtain ⟨v, e5⟩ := R5
  obtain ⟨pk, pn, ps⟩ := p
  obtain ⟨qk, qn, qs⟩ := q
  obtain ⟨rk, rn, rs⟩ := r
  simp only at HP H1 H2 H3 H4 H5
  show Calls Try.prog 5 #[.slice a h.length c, .agg #[.int .i64 pk, .int .i64 pn, .string ps], .agg #[.int .i64 qk, .int .i64 qn, .string qs], .agg #[.int .i64 rk, .int .i64 rn, .string rs]] w _
  go_enter Try.func5, Try.ntmps5
  obtain ⟨A, hA⟩ : ∃ A, w.heap.size = A := ⟨_, rfl⟩
  go_upto_region 1 with fail
  refine code_gen (Φ := fun wy => Hid (Below w.heap.size w wy) ∧ Hid (wy.heap[A]? = some (.cells #[.int .i64 pk, .int .i64 pn, .string ps] 31 (0, 0))) ∧ Hid (wy.heap[A + 1]? = some (.cells #[.int .i64 qk, .int .i64 qn, .string qs] 31 (0, 0))) ∧ Hid (wy.heap[A + 2]? = some (.cells #[.int .i64 rk, .int .i64 rn, .string rs] 31 (0, 0)))) ?_ ?_
  · have e1 := alloc_at hA (.cells #[.int .i64 pk, .int .i64 pn, .string ps] 31)
    have e2 := alloc_at (w := w.alloc (.cells #[.int .i64 pk, .int .i64 pn, .string ps] 31)) (k := A + 1) (by rw [← hA]; simp) (.cells #[.int .i64 qk, .int .i64 qn, .string qs] 31)
    refine ⟨Lib.hid ((((Below.refl _ _).alloc (Nat.le_refl _) _).alloc (al_le (Nat.le_refl _) _) _).alloc (al_le (al_le (Nat.le_refl _) _) _) _), Lib.hid ?_, Lib.hid ?_, Lib.hid (alloc_at (by rw [← hA]; simp) _)⟩
    · exact ((((Below.refl _ _).alloc (Nat.le_refl _) _).alloc (al_le (Nat.le_refl _) _) _).block A (lt_of_heap e1)).trans e1
    · exact (((Below.refl _ _).alloc (Nat.le_refl _) _).block (A + 1) (lt_of_heap e2)).trans e2
  rintro w0 ⟨X0, P0, Q0, S0⟩
  clear hA
  obtain ⟨c0, c1, c2⟩ := cells3 P0.out
  obtain ⟨d0, d1, d2⟩ := cells3 Q0.out
  obtain ⟨f0, f1, f2⟩ := cells3 S0.out
  go_wp2_with fail
  refine (H1.out _ X0.out).mono ?_
  rintro e w1 ⟨rfl, hb⟩
  have X1 := Lib.hid (X0.out.trans (Below.le hb X0.out.size))
  have P1 := Lib.hid ((hb.block _ (lt_of_heap P0.out)).trans P0.out)
  have Q1 := Lib.hid ((hb.block _ (lt_of_heap Q0.out)).trans Q0.out)
  have S1 := Lib.hid ((hb.block _ (lt_of_heap S0.out)).trans S0.out)
  clear hb c0 c1 c2 d0 d1 d2 f0 f1 f2 X0 P0 Q0 S0 H1
  obtain ⟨c0, c1, c2⟩ := cells3 P1.out
  obtain ⟨d0, d1, d2⟩ := cells3 Q1.out
  obtain ⟨f0, f1, f2⟩ := cells3 S1.out
  go_wp2_with fail
  refine (H2.out _ X1.out).mono ?_
  rintro e w2 ⟨rfl, hb⟩
  have X2 := Lib.hid (X1.out.trans (Below.le hb X1.out.size))
  have P2 := Lib.hid ((hb.block _ (lt_of_heap P1.out)).trans P1.out)
  have Q2 := Lib.hid ((hb.block _ (lt_of_heap Q1.out)).trans Q1.out)
  have S2 := Lib.hid ((hb.block _ (lt_of_heap S1.out)).trans S1.out)
  clear hb c0 c1 c2 d0 d1 d2 f0 f1 f2 X1 P1 Q1 S1 H2
  obtain ⟨c0, c1, c2⟩ := cells3 P2.out
  obtain ⟨d0, d1, d2⟩ := cells3 Q2.out
  obtain ⟨f0, f1, f2⟩ := cells3 S2.out
  go_wp2_with fail
  refine (H3.out _ X2.out).mono ?_
  rintro e w3 ⟨rfl, hb⟩
  have X3 := Lib.hid (X2.out.trans (Below.le hb X2.out.size))
  have P3 := Lib.hid ((hb.block _ (lt_of_heap P2.out)).trans P2.out)
  have Q3 := Lib.hid ((hb.block _ (lt_of_heap Q2.out)).trans Q2.out)
  have S3 := Lib.hid ((hb.block _ (lt_of_heap S2.out)).trans S2.out)
  clear hb c0 c1 c2 d0 d1 d2 f0 f1 f2 X2 P2 Q2 S2 H3
  obtain ⟨c0, c1, c2⟩ := cells3 P3.out
  obtain ⟨d0, d1, d2⟩ := cells3 Q3.out
  obtain ⟨f0, f1, f2⟩ := cells3 S3.out
  go_wp2_with fail
  refine (H4.out _ X3.out).mono ?_
  rintro e w4 ⟨rfl, hb⟩
  have X4 := Lib.hid (X3.out.trans (Below.le hb X3.out.size))
  have P4 := Lib.hid ((hb.block _ (lt_of_heap P3.out)).trans P3.out)
  have Q4 := Lib.hid ((hb.block _ (lt_of_heap Q3.out)).trans Q3.out)
  have S4 := Lib.hid ((hb.block _ (lt_of_heap S3.out)).trans S3.out)
  clear hb c0 c1 c2 d0 d1 d2 f0 f1 f2 X3 P3 Q3 S3 H4
  obtain ⟨c0, c1, c2⟩ := cells3 P4.out
  obtain ⟨d0, d1, d2⟩ := cells3 Q4.out
  obtain ⟨f0, f1, f2⟩ := cells3 S4.out
  go_wp2_with fail
  refine (H5.out _ X4.out).mono ?_
  rintro e w5 ⟨rfl, hb⟩
  have X5 := Lib.hid (X4.out.trans (Below.le hb X4.out.size))
  have P5 := Lib.hid ((hb.block _ (lt_of_heap P4.out)).trans P4.out)
  have Q5 := Lib.hid ((hb.block _ (lt_of_heap Q4.out)).trans Q4.out)
  have S5 := Lib.hid ((hb.block _ (lt_of_heap S4.out)).trans S4.out)
  clear hb c0 c1 c2 d0 d1 d2 f0 f1 f2 X4 P4 Q4 S4 H5
  clear P5 Q5 S5
  go_wp2_with fail
  refine (lives_any w5).mono ?_
  rintro e w6 ⟨rfl, hb⟩
  have X6 := Lib.hid (X5.out.trans (Below.le hb X5.out.size))
  clear hb X5
  go_wp2_with fail
  have HOK := ok_any (some ⟨w6.heap.size, 0, none⟩) 5 [e1, e2, e3, e4, e5] (w6.alloc (.cells #[.int .i64 e1, .int .i64 e2, .int .i64 e3, .int .i64 e4, .int .i64 e5] 25)) (ints_block (alloc_at rfl _) rfl (by simp [maxLen]))
  have HAL := Lib.hid (show ([e1, e2, e3, e4, e5].all fun x => x == 0) = true → e1 = 0 ∧ e2 = 0 ∧ e3 = 0 ∧ e4 = 0 ∧ e5 = 0 by simp)
  generalize ([e1, e2, e3, e4, e5].all fun x => x == 0) = B at *
  refine HOK.mono ?_
  clear HOK
  rintro e w7 ⟨rfl, hb⟩
  have X7 := Lib.hid ((X6.out.alloc X6.out.size _).trans (Below.le hb (al_le X6.out.size _)))
  clear hb X6
  cases B with
  | false =>
    go_wp2_with fail
    refine (lives_any w7).mono ?_
    rintro e w8 ⟨rfl, hb⟩
    have X8 := Lib.hid (X7.out.trans (Below.le hb X7.out.size))
    clear hb X7
    go_wp2_with fail
    go_ret
    exact ⟨rfl, X8.out⟩
  | true =>
    obtain ⟨z1, z2, z3, z4, z5⟩ := HAL.out rfl
    obtain ⟨hv, hxy, himp⟩ := HP.out z1 z2 z3 z4 z5
    clear z1 z2 z3 z4 z5 HAL HP
    subst hv
    subst hxy
    have HI := Lib.hid himp
    clear himp
    cases x with
    | false =>
      clear HI
      go_wp2_with fail
      go_ret
      exact ⟨rfl, X7.out⟩
    | true =>
      cases z with
      | false =>
        clear HI
        go_wp2_with fail
        go_ret
        exact ⟨rfl, X7.out⟩
      | true =>
        have hu := HI.out rfl rfl
        subst hu
        clear HI
        go_wp2_with fail
        go_ret
        exact ⟨rfl, X7.out⟩
end Go.Proofs.Ytcnplnnpiobikaa
