/- value.Binary at the sign gtr. -/
import Derived.Test.YtdabikbeoanhpaaDoorV6
namespace Go.Proofs.YtdabikbeoanhpaaDoor
open Go.RowKit
attribute [local go_sem ↓] eq_jval

set_option maxRecDepth 100000 in
set_option maxHeartbeats 1000000 in
theorem bin_gtr (k0 n0 k0' n0' : Int) (s0 s0' : ByteArray) (w : World) (ht : Tab w)
    (k n k' n' : Int) (s s' : ByteArray)
    (HR : ∀ w, Calls Tryd.prog 17 #[.agg #[.int .i64 k0, .int .i64 n0, .string s0]] w fun e w' => e = .returned (.agg #[.int .i64 k, .int .i64 n, .string s]) ∧ Below w.heap.size w w')
    (HR' : ∀ w, Calls Tryd.prog 17 #[.agg #[.int .i64 k0', .int .i64 n0', .string s0']] w fun e w' => e = .returned (.agg #[.int .i64 k', .int .i64 n', .string s']) ∧ Below w.heap.size w w')
    (hn : k = 2 → -9007199254740992 ≤ n ∧ n ≤ 9007199254740992) (hn' : k' = 2 → -9007199254740992 ≤ n' ∧ n' ≤ 9007199254740992) :
    Calls Tryd.prog 10 #[.string ⟨#[62]⟩, .agg #[.int .i64 k0, .int .i64 n0, .string s0], .agg #[.int .i64 k0', .int .i64 n0', .string s0']] w (BinPost (binR [62] k n s k' n' s') w) := by
  have T0 := three_new w k0 n0 k0' n0' s0 s0'
  have R1 := Lib.hid HR
  have R2 := Lib.hid HR'
  have HN := Lib.hid hn
  have HN' := Lib.hid hn'
  have HT := Lib.hid ht
  clear HR HR' hn hn' ht
  go_enter Tryd.func10, Tryd.ntmps10
  go_upto_region 1 with fail
  go_cut [] (fun wx => Three w wx k n k' n' s s')
  case first =>
    generalize (((w.alloc (Obj.cells #[Value.int IntKind.i64 k0, Value.int IntKind.i64 n0, Value.string s0] 23)).alloc
      (Obj.cells #[Value.int IntKind.i64 k0', Value.int IntKind.i64 n0', Value.string s0'] 23)).alloc
      (Obj.cells #[Value.int IntKind.i64 0, Value.int IntKind.i64 0, Value.string { data := #[] }] 23)) = W at *
    have T1 := T0.drew
    have F0 := T0.a.c
    have F1 := T0.b.c
    clear T0
    go_region_with (go_at_call 17; (first | (with_reducible refine (R1.out _).mono ?_) | (with_reducible refine (R2.out _).mono ?_)); rintro e w1 ⟨rfl, hb⟩; have T2 := Three.below (by assumption) hb; have F3 := T2.a.c; have F4 := T2.b.c; have F5 := T2.a.f; have F6 := T2.b.f; clear hb)
    all_goals (go_wp2_with fail; go_meet)
    all_goals (first | (with_reducible exact Three.cut (by assumption) _ _ _ _ _ _) | (with_reducible exact Three.cut' (by assumption) _ _ _ _ _ _))
  case rest =>
    clear T0 R1 R2
    rename_i wx
    have T1 := hcut
    have F0 := T1.a.c
    have F1 := T1.b.c
    clear hcut
    go_upto_region 2 with fail
    go_cut [8, 9] (fun v8 v9 wy => v8 = .bool (k == 2 && k' == 2) ∧ v9 = .bool (k == 3 && k' == 3) ∧ Three w wy k n k' n' s s')
    case first =>
      cases q1 : (k == 2)
      all_goals cases q2 : (k == 3)
      all_goals try (exfalso; simp only [beq_iff_eq] at q1 q2; omega)
      all_goals
        go_quiet (fail)
        go_wp2_with fail
        go_meet
        exact ⟨by simp only [q1, Bool.true_and, Bool.false_and], by simp only [q2, Bool.true_and, Bool.false_and], Three.below T1 ⟨rfl, rfl, rfl, Nat.le_refl _, fun _ _ => rfl⟩⟩
    case rest =>
      obtain ⟨rfl, rfl, T2⟩ := hcut
      rename_i wc
      have c2 := T2.r
      have G1 := T2.a.c
      have G2 := T2.b.c
      have U := Lib.hid T2.u
      clear T1 F0 F1 T2
      obtain ⟨q0, hq0⟩ : ∃ q, (k == 2 && k' == 2) = q := ⟨_, rfl⟩
      have Q := Lib.hid hq0
      rw [hq0]
      clear hq0
      obtain ⟨q1, hq1⟩ : ∃ q, (k == 3 && k' == 3) = q := ⟨_, rfl⟩
      have Q2 := Lib.hid hq1
      rw [hq1]
      clear hq1
      cases q0
      · cases q1
        · have e3 := (c2.set 0 0 ⟨#[]⟩).c
          have G3 := c2.c
          have G4 := c2.f
          go_wp2_with fail
          refine bodyPost_ret (v := .tuple #[.agg #[.int .i64 0, .int .i64 0, .string ⟨#[]⟩], .string sKind]) (by simp [results, Tryd.results10, go_sem, e3, sKind]) rfl (binPost_of ?_ ?_)
          · simp [binR, Q.out, Q2.out, sEmpty]
          · exact set3 U.out _ (by omega) _ _ _
        · go_wp2_with (first
            | (go_at_call 21; refine (Tryd.cmp_Compare_int _ _ _).mono ?_; rintro e w' ⟨rfl, rfl⟩)
            | (go_at_call 22; refine (Tryd.strings_Compare _ _ _).mono ?_; rintro e w' ⟨rfl, rfl⟩))
          refine (ordered_any _ _ _).mono ?_
          rintro e w1 ⟨rfl, hb⟩
          have d2 := c2.below hb
          have e3 := (d2.set 1 (b2i (ordB [62] (Lib.compareBytes s.data.toList s'.data.toList))) ⟨#[]⟩).c
          have G3 := d2.c
          have G4 := d2.f
          have U2 := Lib.hid (U.out.trans (hb.mono U.out.size))
          clear c2 hb
          rw [show (ByteArray.mk #[62]).toList = [62] from by decide +kernel]
          go_wp2_with fail
          refine bodyPost_ret (v := .tuple #[.agg #[.int .i64 1, .int .i64 (b2i (ordB [62] (Lib.compareBytes s.data.toList s'.data.toList))), .string ⟨#[]⟩], .string ⟨#[]⟩]) (by simp [results, Tryd.results10, go_sem, e3]) rfl (binPost_of ?_ ?_)
          · simp [binR, Q.out, Q2.out, sEmpty]
          · exact set3 U2.out _ (by omega) _ _ _
      · go_wp2_with (first
          | (go_at_call 21; refine (Tryd.cmp_Compare_int _ _ _).mono ?_; rintro e w' ⟨rfl, rfl⟩)
          | (go_at_call 22; refine (Tryd.strings_Compare _ _ _).mono ?_; rintro e w' ⟨rfl, rfl⟩))
        refine (ordered_any _ _ _).mono ?_
        rintro e w1 ⟨rfl, hb⟩
        have d2 := c2.below hb
        have e3 := (d2.set 1 (b2i (ordB [62] (Lib.compareInt n n'))) ⟨#[]⟩).c
        have G3 := d2.c
        have G4 := d2.f
        have U2 := Lib.hid (U.out.trans (hb.mono U.out.size))
        clear c2 hb
        rw [show (ByteArray.mk #[62]).toList = [62] from by decide +kernel]
        go_wp2_with fail
        refine bodyPost_ret (v := .tuple #[.agg #[.int .i64 1, .int .i64 (b2i (ordB [62] (Lib.compareInt n n'))), .string ⟨#[]⟩], .string ⟨#[]⟩]) (by simp [results, Tryd.results10, go_sem, e3]) rfl (binPost_of ?_ ?_)
        · simp [binR, Q.out, sEmpty]
        · exact set3 U2.out _ (by omega) _ _ _
end Go.Proofs.YtdabikbeoanhpaaDoor
