/- value.Binary at the sign add. -/
import Derived.Test.YtdabikbeoanhpaaDoorV6
namespace Go.Proofs.YtdabikbeoanhpaaDoor
open Go.RowKit
attribute [local go_sem ↓] eq_jval

set_option maxRecDepth 100000 in
set_option maxHeartbeats 1000000 in
theorem bin_add (k0 n0 k0' n0' : Int) (s0 s0' : ByteArray) (w : World) (ht : Tab w)
    (k n k' n' : Int) (s s' : ByteArray)
    (HR : ∀ w, Calls Tryd.prog 17 #[.agg #[.int .i64 k0, .int .i64 n0, .string s0]] w fun e w' => e = .returned (.agg #[.int .i64 k, .int .i64 n, .string s]) ∧ Below w.heap.size w w')
    (HR' : ∀ w, Calls Tryd.prog 17 #[.agg #[.int .i64 k0', .int .i64 n0', .string s0']] w fun e w' => e = .returned (.agg #[.int .i64 k', .int .i64 n', .string s']) ∧ Below w.heap.size w w')
    (hn : k = 2 → -9007199254740992 ≤ n ∧ n ≤ 9007199254740992) (hn' : k' = 2 → -9007199254740992 ≤ n' ∧ n' ≤ 9007199254740992)
    (A B : ByteArray) (hA : txt k n s = A) (hB : txt k' n' s' = B)
    (HX : ∀ w, Tab w → Calls Tryd.prog 14 #[.agg #[.int .i64 k, .int .i64 n, .string s]] w fun e w' => e = .returned (.string A) ∧ Below w.heap.size w w')
    (HX' : ∀ w, Tab w → Calls Tryd.prog 14 #[.agg #[.int .i64 k', .int .i64 n', .string s']] w fun e w' => e = .returned (.string B) ∧ Below w.heap.size w w')
    (hx : A.size + B.size ≤ 9223372036854775807) :
    Calls Tryd.prog 10 #[.string ⟨#[43]⟩, .agg #[.int .i64 k0, .int .i64 n0, .string s0], .agg #[.int .i64 k0', .int .i64 n0', .string s0']] w (BinPost (binR [43] k n s k' n' s') w) := by
  have T0 := three_new w k0 n0 k0' n0' s0 s0'
  have R1 := Lib.hid HR
  have R2 := Lib.hid HR'
  have HN := Lib.hid hn
  have X1 := Lib.hid HX
  have X2 := Lib.hid HX'
  have HA := Lib.hid hA
  have HB := Lib.hid hB
  clear HX HX' hA hB
  have HN' := Lib.hid hn'
  have HT := Lib.hid ht
  clear HR HR' hn hn' ht
  go_enter Tryd.func10, Tryd.ntmps10
  go_upto_region 1 with fail
  go_cut [] (fun wx => Three w wx k n k' n' s s')
  case first =>
    generalize (((w.alloc (Obj.cells #[Value.int IntKind.i64 k0, Value.int IntKind.i64 n0, Value.string s0] 23)).alloc
      (Obj.cells #[Value.int IntKind.i64 k0', Value.int IntKind.i64 n0', Value.string s0'] 23)).alloc
      (Obj.cells #[Value.int IntKind.i64 0, Value.int IntKind.i64 0, Value.string { data := #[] }] 23)) = W at *
    have T1 := T0.drew
    have F0 := T0.a.c
    have F1 := T0.b.c
    clear T0
    go_region_with (go_at_call 17; (first | (with_reducible refine (R1.out _).mono ?_) | (with_reducible refine (R2.out _).mono ?_)); rintro e w1 ⟨rfl, hb⟩; have T2 := Three.below (by assumption) hb; have F3 := T2.a.c; have F4 := T2.b.c; have F5 := T2.a.f; have F6 := T2.b.f; clear hb)
    all_goals (go_wp2_with fail; go_meet)
    all_goals (first | (with_reducible exact Three.cut (by assumption) _ _ _ _ _ _) | (with_reducible exact Three.cut' (by assumption) _ _ _ _ _ _))
  case rest =>
    clear T0 R1 R2
    rename_i wx
    have T1 := hcut
    have F0 := T1.a.c
    have F1 := T1.b.c
    clear hcut
    go_upto_region 2 with fail
    go_cut [8, 9] (fun v8 v9 wy => v8 = .bool (k == 2 && k' == 2) ∧ v9 = .bool (k == 3 && k' == 3) ∧ Three w wy k n k' n' s s')
    case first =>
      cases q1 : (k == 2)
      all_goals cases q2 : (k == 3)
      all_goals try (exfalso; simp only [beq_iff_eq] at q1 q2; omega)
      all_goals
        go_quiet (fail)
        go_wp2_with fail
        go_meet
        exact ⟨by simp only [q1, Bool.true_and, Bool.false_and], by simp only [q2, Bool.true_and, Bool.false_and], Three.below T1 ⟨rfl, rfl, rfl, Nat.le_refl _, fun _ _ => rfl⟩⟩
    case rest =>
      obtain ⟨rfl, rfl, T2⟩ := hcut
      rename_i wc
      have c2 := T2.r
      have G1 := T2.a.c
      have G2 := T2.b.c
      have U := Lib.hid T2.u
      have TT := T2
      clear T1 F0 F1 T2
      obtain ⟨q0, hq0⟩ : ∃ q, (k == 2 && k' == 2) = q := ⟨_, rfl⟩
      have Q := Lib.hid hq0
      rw [hq0]
      clear hq0
      cases q0
      · obtain ⟨q1, hq1⟩ : ∃ q, (k == 3) = q := ⟨_, rfl⟩
        obtain ⟨q2, hq2⟩ : ∃ q, (k' == 3) = q := ⟨_, rfl⟩
        have Q1 := Lib.hid hq1
        have Q2 := Lib.hid hq2
        rw [hq1, hq2]
        cases q1
        all_goals simp only [Bool.true_and, Bool.false_and]
        · cases q2
          · clear TT
            have e3 := (c2.set 0 0 ⟨#[]⟩).c
            have G3 := c2.c
            have G4 := c2.f
            go_wp2_with fail
            refine bodyPost_ret (v := .tuple #[.agg #[.int .i64 0, .int .i64 0, .string ⟨#[]⟩], .string sKind]) (by simp [results, Tryd.results10, go_sem, e3, sKind]) rfl (binPost_of ?_ ?_)
            · simp [binR, Q.out, Q1.out, Q2.out, sEmpty]
            · exact set3 U.out _ (by omega) _ _ _
          · have T1 : Three w wc k n k' n' s s' := TT
            have F0 := T1.a.c
            have F1 := T1.b.c
            go_upto_region 15 with fail
            go_cut [10] (fun v wz => v = .string (A ++ B) ∧ Three w wz k n k' n' s s')
            case first =>
              clear G1 G2 c2
              have T2 : Three w wc.drew k n k' n' s s' := T1.drew
              clear T1 TT
              go_region_with (go_at_call 14; (first | (with_reducible refine (X1.out _ ?_).mono ?_) | (with_reducible refine (X2.out _ ?_).mono ?_)); exact HT.out.below (Three.u (by assumption)); rintro e w1 ⟨rfl, hb⟩; have T3 := Three.below (by assumption) hb; have F3 := T3.a.c; have F4 := T3.b.c; clear hb)
              all_goals (go_wp2_with fail; (try go_simp); go_meet; exact ⟨rfl, T3⟩)
            case rest =>
              obtain ⟨rfl, T4⟩ := hcut
              clear T1 TT F0 F1 G1 G2 c2
              have c2 := T4.r
              have U2 := Lib.hid T4.u
              clear T4
              have G3 := c2.c
              have G4 := c2.f
              cases hl : decide (2000 < A.size + B.size)
              · have hl' : ¬ (2000 : Int) < (A.size : Int) + (B.size : Int) := by have := of_decide_eq_false hl; omega
                have HL := Lib.hid hl
                clear hl
                have e3 := (c2.set 3 0 (A ++ B)).c
                go_wp2_with fail
                refine bodyPost_ret (v := .tuple #[.agg #[.int .i64 3, .int .i64 0, .string (A ++ B)], .string ⟨#[]⟩]) (by simp [results, Tryd.results10, go_sem, e3]) rfl (binPost_of ?_ ?_)
                · simp [binR, Q.out, Q1.out, Q2.out, sEmpty, HA.out, HB.out, Nat.not_lt.1 (of_decide_eq_false HL.out)]
                · exact set3 U2.out _ (by omega) _ _ _
    
              · have hl' : (2000 : Int) < (A.size : Int) + (B.size : Int) := by have := of_decide_eq_true hl; omega
                have HL := Lib.hid hl
                clear hl
                have e3 := (c2.set 0 0 ⟨#[]⟩).c
                go_wp2_with fail
                refine bodyPost_ret (v := .tuple #[.agg #[.int .i64 0, .int .i64 0, .string ⟨#[]⟩], .string sLarge]) (by simp [results, Tryd.results10, go_sem, e3, sLarge]) rfl (binPost_of ?_ ?_)
                · simp [binR, Q.out, Q1.out, Q2.out, sEmpty, HA.out, HB.out, of_decide_eq_true HL.out]
                · exact set3 U2.out _ (by omega) _ _ _
    
        · have T1 : Three w wc k n k' n' s s' := TT
          have F0 := T1.a.c
          have F1 := T1.b.c
          go_upto_region 15 with fail
          go_cut [10] (fun v wz => v = .string (A ++ B) ∧ Three w wz k n k' n' s s')
          case first =>
            clear G1 G2 c2
            have T2 : Three w wc.drew k n k' n' s s' := T1.drew
            clear T1 TT
            go_region_with (go_at_call 14; (first | (with_reducible refine (X1.out _ ?_).mono ?_) | (with_reducible refine (X2.out _ ?_).mono ?_)); exact HT.out.below (Three.u (by assumption)); rintro e w1 ⟨rfl, hb⟩; have T3 := Three.below (by assumption) hb; have F3 := T3.a.c; have F4 := T3.b.c; clear hb)
            all_goals (go_wp2_with fail; (try go_simp); go_meet; exact ⟨rfl, T3⟩)
          case rest =>
            obtain ⟨rfl, T4⟩ := hcut
            clear T1 TT F0 F1 G1 G2 c2
            have c2 := T4.r
            have U2 := Lib.hid T4.u
            clear T4
            have G3 := c2.c
            have G4 := c2.f
            cases hl : decide (2000 < A.size + B.size)
            · have hl' : ¬ (2000 : Int) < (A.size : Int) + (B.size : Int) := by have := of_decide_eq_false hl; omega
              have HL := Lib.hid hl
              clear hl
              have e3 := (c2.set 3 0 (A ++ B)).c
              go_wp2_with fail
              refine bodyPost_ret (v := .tuple #[.agg #[.int .i64 3, .int .i64 0, .string (A ++ B)], .string ⟨#[]⟩]) (by simp [results, Tryd.results10, go_sem, e3]) rfl (binPost_of ?_ ?_)
              · simp [binR, Q.out, Q1.out, sEmpty, HA.out, HB.out, Nat.not_lt.1 (of_decide_eq_false HL.out)]
              · exact set3 U2.out _ (by omega) _ _ _
    
            · have hl' : (2000 : Int) < (A.size : Int) + (B.size : Int) := by have := of_decide_eq_true hl; omega
              have HL := Lib.hid hl
              clear hl
              have e3 := (c2.set 0 0 ⟨#[]⟩).c
              go_wp2_with fail
              refine bodyPost_ret (v := .tuple #[.agg #[.int .i64 0, .int .i64 0, .string ⟨#[]⟩], .string sLarge]) (by simp [results, Tryd.results10, go_sem, e3, sLarge]) rfl (binPost_of ?_ ?_)
              · simp [binR, Q.out, Q1.out, sEmpty, HA.out, HB.out, of_decide_eq_true HL.out]
              · exact set3 U2.out _ (by omega) _ _ _
    
      · clear TT
        have ⟨qa, qb⟩ : k = 2 ∧ k' = 2 := by simpa using Q.out
        have ⟨h1, h2⟩ := HN.out qa
        have ⟨h3, h4⟩ := HN'.out qb
        clear qa qb
        go_wp2_with fail
        refine (reckoned_any _ _ _ _ h1 h2 h3 h4).mono ?_
        rintro e w1 ⟨rfl, hb⟩
        have d2 := c2.below hb
        have e3 := (d2.set (reckK [43] n n') (reckV [43] n n') ⟨#[]⟩).c
        have G3 := d2.c
        have G4 := d2.f
        have U2 := Lib.hid (U.out.trans (hb.mono U.out.size))
        clear c2 hb
        rw [show (ByteArray.mk #[43]).toList = [43] from by decide +kernel]
        go_wp2_with fail
        refine bodyPost_ret (v := .tuple #[.agg #[.int .i64 (reckK [43] n n'), .int .i64 (reckV [43] n n'), .string ⟨#[]⟩], .string (reckE [43] n n')]) (by simp [results, Tryd.results10, go_sem, e3]) rfl (binPost_of ?_ ?_)
        · simp [binR, Q.out, sEmpty]
        · exact set3 U2.out _ (by omega) _ _ _
end Go.Proofs.YtdabikbeoanhpaaDoor
