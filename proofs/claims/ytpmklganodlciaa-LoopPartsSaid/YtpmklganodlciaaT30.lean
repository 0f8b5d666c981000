/- LoopParts, walked. -/
import Derived.Test.YtpmklganodlciaaT27
import Derived.Test.YtpmklganodlciaaP6
namespace Go.Proofs.Ytpmklganodlciaa
open Go.RowKit

def zQst : Value := .agg #[.int .i64 0, .int .i64 0, .int .i64 0, .string ⟨#[]⟩, .int .i64 0, .int .i64 0, .string ⟨#[]⟩]
theorem qst_info : (Try.prog.info? 35).map (fun i => (i.zero, i.size, i.bytes)) = some (some zQst, 7, 72) := by kernel_rfl
theorem qst_one (l : List Qst) : ∀ u ∈ l.flatMap Qst.c, u.oneCell' = true := by
  intro u hu
  obtain ⟨j, _, hj⟩ := List.mem_flatMap.1 hu
  simp only [Qst.c, List.mem_cons, List.not_mem_nil, or_false] at hj
  rcases hj with rfl | rfl | rfl | rfl | rfl | rfl | rfl <;> rfl
set_option maxRecDepth 100000 in
set_option maxHeartbeats 4000000 in
theorem cloneQ_any (a : Option Addr) (c : Nat) (l : List Qst) (w : World) (h : Sl w Qst.c 7 (.slice a l.length c) l) (hl : l.length ≤ 1000) :
    Calls Try.prog 20 #[.slice a l.length c] w fun e w' => ∃ v', e = .returned v' ∧ w'.ownsRow w.heap.size 35 7 v' l.length (l.flatMap Qst.c) ∧ Below w.heap.size w w' := by
  obtain ⟨i0, hi0, hz0, hz1, hz2⟩ := info_parts qst_info
  have q := fun (w : World) (a : Option Addr) (n c n' c' : Nat) => Lib.run_eql_slice_nil w _ _ a n c n' c' Try.underlying22
  have HS := Lib.hid h
  clear h
  cases a with
  | none =>
    have h0 : l = [] := by
      by_cases h : l = []
      · exact h
      · obtain ⟨b, o, e⟩ := HS.out.some_of h
        cases e
    subst h0
    go_enter Try.func20, Try.ntmps20
    go_wp2_with fail
    go_ret
    exact ⟨_, rfl, World.ownsRow_nil _ _ _ _, Below.refl _ _⟩
  | some ad =>
    go_enter Try.func20, Try.ntmps20
    have hnews : ∀ j u, (l.flatMap Qst.c)[j]? = some u → w.cell? (ad.add j) = some u := by
      by_cases h : l = []
      · subst h; intro j u hj; simp at hj
      · obtain ⟨b, o, e⟩ := HS.out.some_of h
        injection e with e
        subst e
        exact Sl.flat Qst.len (by decide) HS.out
    have HN := Lib.hid hnews
    clear hnews
    go_wp2_with (at_builtin; refine wpList_append_own _ rfl _ _ 22 rfl w.heap.size 35 i0 zQst 7 72 Try.underlying22 hi0 hz0 hz1 hz2 rfl (by decide) _ _ _ rfl (World.ownsRow_made w #[] 0 (Nat.le_refl _) (Nat.zero_le _) rfl) ad l.length c (l.flatMap Qst.c) rfl (flat_len Qst.c 7 Qst.len l) (fun j u hj => Lib.cell?_alloc_some _ (HN.out j u hj)) (qst_one l) (by unfold maxLen; omega) (by omega) (by simp) ?_)
    intro v' w1 hown hgrow _
    have X : Hid (w1.ownsRow w.heap.size 35 7 v' l.length (l.flatMap Qst.c)) := Lib.hid (by simpa using hown)
    have B : Hid (Below w.heap.size w w1) := Lib.hid (((Below.refl _ w).alloc (Nat.le_refl _) _).grown hgrow (by simp) (by intro k hk; simp [Value.ownBlock] at hk; omega))
    clear hown hgrow
    go_wp2_with fail
    go_ret
    exact ⟨v', rfl, X.out, B.out⟩
set_option maxRecDepth 100000 in
set_option maxHeartbeats 1000000 in
theorem ok_any (g cap : Nat) (a b : Int) (w : World) (h0 : w.cell? ⟨g, 0, none⟩ = some (.int .i64 a)) (h1 : w.cell? ⟨g, 1, none⟩ = some (.int .i64 b)) :
    Calls Try.prog 21 #[.slice (some ⟨g, 0, none⟩) 2 cap] w fun e w' => e = .returned (.bool (a == 0 && b == 0)) ∧ w = w' := by
  obtain ⟨B, hB⟩ : ∃ B, (a == 0 && b == 0) = B := ⟨_, rfl⟩
  rw [hB]
  have HB := Lib.hid hB
  clear hB
  go_enter Try.func21, Try.ntmps21
  go_wp2_with fail
  go_loopg [7] 2 (fun n v wr => ∃ k : Nat, n = 2 - k ∧ v = .int .i64 (k : Int) ∧ k ≤ 2 ∧ (1 ≤ k → a = 0) ∧ (2 ≤ k → b = 0) ∧ w = wr)
  case atStart => exact ⟨0, rfl, rfl, by omega, by omega, by omega, rfl⟩
  case round =>
    obtain ⟨k, hg, rfl, hk, he, hf, rfl⟩ := hrel
    have G := Lib.hid hg
    have HE := Lib.hid he
    have HF := Lib.hid hf
    clear hg he hf
    have H : k = 0 ∨ k = 1 ∨ k = 2 := by omega
    rcases H with rfl | rfl | rfl
    · by_cases h : a = 0
      · subst h
        go_wp2_with fail
        go_roundg 1
        case measure => rw [G.out]; omega
        case rel => exact ⟨1, rfl, rfl, by omega, by simp, by omega, rfl⟩
      · have h' : (a == 0) = false := by simpa using h
        have h2' : (a != 0) = true := by simpa using h
        go_wp2_with fail
        go_ret
        exact ⟨by rw [← HB.out, h']; rfl, rfl⟩
    · have ha := HE.out (by omega)
      subst ha
      by_cases h : b = 0
      · subst h
        go_wp2_with fail
        go_roundg 0
        case measure => rw [G.out]; omega
        case rel => exact ⟨2, rfl, rfl, by omega, by simp, by simp, rfl⟩
      · have h' : (b == 0) = false := by simpa using h
        have h2' : (b != 0) = true := by simpa using h
        go_wp2_with fail
        go_ret
        exact ⟨by rw [← HB.out, h']; rfl, rfl⟩
    · have ha := HE.out (by omega)
      have hb := HF.out (by omega)
      subst ha
      subst hb
      go_wp2_with fail
      go_ret
      exact ⟨by rw [← HB.out]; rfl, rfl⟩
/-- What a Play gave: a loop in block P, and jobs. -/
structure Y1 (w wy : World) (P : Nat) (q : Lp) (vt vs vm : Value) (out : List Job) (vo : Value) : Prop where
  b : Below w.heap.size w wy
  p : wy.heap[P]? = some (.cells #[.int .i64 q.now, .int .i64 q.next, vt, vs, vm] 26 (0, 0))
  l : LpAt wy q vt vs vm
  o : Sl wy Job.c 7 vo out
theorem Y1.call {w wy w' : World} {P : Nat} {q : Lp} {vt vs vm : Value} {out : List Job} {vo : Value} (h : Y1 w wy P q vt vs vm out vo) (hb : Below wy.heap.size wy w') : Y1 w w' P q vt vs vm out vo :=
  ⟨h.b.trans (Below.le hb h.b.size), (hb.block _ (lt_of_heap h.p)).trans h.p, h.l.below hb, h.o.below hb⟩
theorem Y1.made {w w1 w2 : World} {P : Nat} {q : Lp} {vt vs vm : Value} {out : List Job} {vo : Value} {B : Nat} (hb0 : Below w.heap.size w w1) (hb : Below w1.heap.size w1 w2) (hr : w2.ownsRow B 39 7 vo out.length (out.flatMap Job.c)) (ho : LpOwn w2 B q.tasks q.smalls q.tims vt vs vm) (hP : w2.heap.size = P) :
    Y1 w (w2.alloc (.cells #[.int .i64 q.now, .int .i64 q.next, vt, vs, vm] 26)) P q vt vs vm out vo :=
  ⟨(hb0.trans (Below.le hb hb0.size)).alloc (Nat.le_trans hb0.size hb.size) _, alloc_at hP _, (own_at ho).below ((Below.refl _ _).alloc (Nat.le_refl _) _), (Own.sl Job.len hr).below ((Below.refl _ _).alloc (Nat.le_refl _) _)⟩
set_option maxRecDepth 100000 in
set_option maxHeartbeats 8000000 in
theorem parts_any (asks : List Qst) (qa : Option Addr) (qc : Nat) (a b : Int) (w : World) (h : Sl w Qst.c 7 (.slice qa asks.length qc) asks) :
    Calls Try.prog 7 #[.slice qa asks.length qc, .int .i64 a, .int .i64 b] w fun e w' => e = .returned (.bool true) ∧ Below w.heap.size w w' := by
  have HT := Lib.hid h
  have hct : asks.length ≤ 9223372036854775807 := by obtain ⟨_, _, e, h1, h2, _⟩ := h; injection e with _ _ e; simp only [maxLen] at h2; omega
  clear h
  obtain ⟨i0, hi0, hz0, hz1, hz2⟩ := info_parts qst_info
  by_cases hbad : 0 ≤ a ∧ 0 ≤ b ∧ a ≤ 500000 ∧ b ≤ 500000 ∧ asks.length ≤ 150
  · obtain ⟨ha0, hb0, ha, hb, hl⟩ := hbad
    have hli : (asks.length : Int) ≤ 150 := by omega
    have HPP := Lib.hid (parts_plain asks a b ha0 hb0 ha hb hl)
    go_enter Try.func7, Try.ntmps7
    go_wp2_with fail
    refine (lives_any w).mono ?_
    rintro e w5 ⟨rfl, hb5⟩
    have X := Lib.hid hb5
    clear hb5
    go_wp2_with fail
    refine (cloneQ_any qa qc asks w5 (HT.out.below X.out) (by omega)).mono ?_
    rintro e w6 ⟨v1, rfl, ho, hb⟩
    obtain ⟨ca, cc, rfl⟩ := own_shape ho
    have HROW := Lib.hid (ho.alloc (.cells #[.int .i64 6, .int .i64 0, .int .i64 a, .string ⟨#[]⟩, .int .i64 0, .int .i64 0, .string ⟨#[]⟩, .int .i64 6, .int .i64 0, .int .i64 b, .string ⟨#[]⟩, .int .i64 0, .int .i64 0, .string ⟨#[]⟩] 35))
    have HBG := Lib.hid (fun w7 hgrow => ((hb.alloc hb.size (.cells #[.int .i64 6, .int .i64 0, .int .i64 a, .string ⟨#[]⟩, .int .i64 0, .int .i64 0, .string ⟨#[]⟩, .int .i64 6, .int .i64 0, .int .i64 b, .string ⟨#[]⟩, .int .i64 0, .int .i64 0, .string ⟨#[]⟩] 35)).grown hgrow (Nat.le_trans hb.size (by simp)) (fun k hk => (ho.lt k hk).1) : Below w5.heap.size w5 w7))
    have hbb : w5.heap.size ≤ (w6.alloc (.cells #[.int .i64 6, .int .i64 0, .int .i64 a, .string ⟨#[]⟩, .int .i64 0, .int .i64 0, .string ⟨#[]⟩, .int .i64 6, .int .i64 0, .int .i64 b, .string ⟨#[]⟩, .int .i64 0, .int .i64 0, .string ⟨#[]⟩] 35)).heap.size := Nat.le_trans hb.size (by simp)
    have HNW : Hid (∀ j u, ([runQ a, runQ b].flatMap Qst.c)[j]? = some u → (w6.alloc (.cells #[.int .i64 6, .int .i64 0, .int .i64 a, .string ⟨#[]⟩, .int .i64 0, .int .i64 0, .string ⟨#[]⟩, .int .i64 6, .int .i64 0, .int .i64 b, .string ⟨#[]⟩, .int .i64 0, .int .i64 0, .string ⟨#[]⟩] 35)).cell? ((⟨w6.heap.size, 0, none⟩ : Addr).add j) = some u) := Lib.hid (World.news_of_block (heap_alloc_new w6 _))
    have H1C := Lib.hid (qst_one [runQ a, runQ b])
    clear ho hb
    go_wp2_with (at_builtin; refine wpList_append_own _ rfl (.tmp 39) (.tmp 44) 22 rfl w5.heap.size 35 i0 zQst 7 72 Try.underlying22 hi0 hz0 hz1 hz2 rfl (by decide) _ _ _ rfl HROW.out ⟨w6.heap.size, 0, none⟩ 2 2 ([runQ a, runQ b].flatMap Qst.c) rfl rfl HNW.out H1C.out (by unfold maxLen; omega) (by omega) hbb ?_)
    intro v' w71 hown hgrow _
    obtain ⟨da, dc, rfl⟩ := own_shape hown
    have HB7 := Lib.hid (HBG.out _ hgrow)
    have hlen : (asks ++ [runQ a, runQ b]).length = asks.length + 2 := by simp
    have hsl : Sl w71 Qst.c 7 (.slice da (asks ++ [runQ a, runQ b]).length dc) (asks ++ [runQ a, runQ b]) := Own.sl Qst.len (B := w5.heap.size) (e := 35) (by rw [List.flatMap_append, hlen]; exact hown)
    have hpl := play_any (asks ++ [runQ a, runQ b]) da dc w71 hsl
    rw [hlen] at hpl
    clear hown hgrow HROW HBG hbb HNW H1C hsl hlen
    go_wp2_with fail
    obtain ⟨r, hr⟩ : ∃ r, play (asks ++ [runQ a, runQ b]) = r := ⟨_, rfl⟩
    rw [hr] at HPP hpl
    clear hr
    obtain ⟨out1, ⟨n1, x1, ts1, ss1, ms1⟩, e1⟩ := r
    refine hpl.mono ?_
    clear hpl
    rintro e w81 ⟨vo, vt, vs, vm, rfl, hrow, ho, hb⟩
    obtain ⟨oa1, oc1, rfl⟩ := own_shape hrow
    obtain ⟨ta1, sa1, ma1, tc1, sc1, mc1, rfl, rfl, rfl⟩ := ho.shape
    have HRW := Lib.hid hrow
    have HOW := Lib.hid ho
    have HBW := Lib.hid hb
    clear hrow ho hb
    simp only [Lp.v]
    go_upto_region 4 with fail
    obtain ⟨P1, hP⟩ : ∃ P, w81.heap.size = P := ⟨_, rfl⟩
    rw [hP]
    have HP := Lib.hid hP
    clear hP
    refine code_gen (Φ := fun wy => Hid (Y1 w wy P1 ⟨n1, x1, ts1, ss1, ms1⟩ (.slice ta1 ts1.length tc1) (.slice sa1 ss1.length sc1) (.slice ma1 ms1.length mc1) out1 (.slice oa1 out1.length oc1))) (Lib.hid (Y1.made (X.out.trans (Below.le HB7.out X.out.size)) HBW.out HRW.out HOW.out HP.out)) ?_
    intro w9 S
    clear HRW HOW HBW HP HB7 X
    have hab : a + b ≤ 1000000 := by omega
    go_wp2_with fail
    refine (cloneQ_any qa qc asks w9 (HT.out.below S.out.b) (by omega)).mono ?_
    rintro e w10 ⟨v1, rfl, ho, hb⟩
    obtain ⟨ca, cc, rfl⟩ := own_shape ho
    have HROW := Lib.hid (ho.alloc (.cells #[.int .i64 6, .int .i64 0, .int .i64 (a + b), .string ⟨#[]⟩, .int .i64 0, .int .i64 0, .string ⟨#[]⟩] 35))
    have HBG := Lib.hid (fun w7 hgrow => ((hb.alloc hb.size (.cells #[.int .i64 6, .int .i64 0, .int .i64 (a + b), .string ⟨#[]⟩, .int .i64 0, .int .i64 0, .string ⟨#[]⟩] 35)).grown hgrow (Nat.le_trans hb.size (by simp)) (fun k hk => (ho.lt k hk).1) : Below w9.heap.size w9 w7))
    have hbb : w9.heap.size ≤ (w10.alloc (.cells #[.int .i64 6, .int .i64 0, .int .i64 (a + b), .string ⟨#[]⟩, .int .i64 0, .int .i64 0, .string ⟨#[]⟩] 35)).heap.size := Nat.le_trans hb.size (by simp)
    have HNW : Hid (∀ j u, ([runQ (a + b)].flatMap Qst.c)[j]? = some u → (w10.alloc (.cells #[.int .i64 6, .int .i64 0, .int .i64 (a + b), .string ⟨#[]⟩, .int .i64 0, .int .i64 0, .string ⟨#[]⟩] 35)).cell? ((⟨w10.heap.size, 0, none⟩ : Addr).add j) = some u) := Lib.hid (World.news_of_block (heap_alloc_new w10 _))
    have H1C := Lib.hid (qst_one [runQ (a + b)])
    clear ho hb
    go_wp2_with (at_builtin; refine wpList_append_own _ rfl (.tmp 52) (.tmp 57) 22 rfl w9.heap.size 35 i0 zQst 7 72 Try.underlying22 hi0 hz0 hz1 hz2 rfl (by decide) _ _ _ rfl HROW.out ⟨w10.heap.size, 0, none⟩ 1 1 ([runQ (a + b)].flatMap Qst.c) rfl rfl HNW.out H1C.out (by unfold maxLen; omega) (by omega) hbb ?_)
    intro v' w72 hown hgrow _
    obtain ⟨da, dc, rfl⟩ := own_shape hown
    have HB7 := Lib.hid (HBG.out _ hgrow)
    have hlen : (asks ++ [runQ (a + b)]).length = asks.length + 1 := by simp
    have hsl : Sl w72 Qst.c 7 (.slice da (asks ++ [runQ (a + b)]).length dc) (asks ++ [runQ (a + b)]) := Own.sl Qst.len (B := w9.heap.size) (e := 35) (by rw [List.flatMap_append, hlen]; exact hown)
    have hpl := play_any (asks ++ [runQ (a + b)]) da dc w72 hsl
    rw [hlen] at hpl
    clear hown hgrow HROW HBG hbb HNW H1C hsl hlen
    go_wp2_with fail
    obtain ⟨r, hr⟩ : ∃ r, play (asks ++ [runQ (a + b)]) = r := ⟨_, rfl⟩
    rw [hr] at HPP hpl
    clear hr
    obtain ⟨out2, ⟨n2, x2, ts2, ss2, ms2⟩, e2⟩ := r
    refine hpl.mono ?_
    clear hpl
    rintro e w82 ⟨vo, vt, vs, vm, rfl, hrow, ho, hb⟩
    obtain ⟨oa2, oc2, rfl⟩ := own_shape hrow
    obtain ⟨ta2, sa2, ma2, tc2, sc2, mc2, rfl, rfl, rfl⟩ := ho.shape
    have HRW := Lib.hid hrow
    have HOW := Lib.hid ho
    have HBW := Lib.hid hb
    clear hrow ho hb
    simp only [Lp.v]
    go_upto_region 5 with fail
    obtain ⟨P2, hP⟩ : ∃ P, w82.heap.size = P := ⟨_, rfl⟩
    rw [hP]
    have HP := Lib.hid hP
    clear hP
    refine code_gen (Φ := fun wy => Hid (Y1 w wy P1 ⟨n1, x1, ts1, ss1, ms1⟩ (.slice ta1 ts1.length tc1) (.slice sa1 ss1.length sc1) (.slice ma1 ms1.length mc1) out1 (.slice oa1 out1.length oc1)) ∧ Hid (Y1 w wy P2 ⟨n2, x2, ts2, ss2, ms2⟩ (.slice ta2 ts2.length tc2) (.slice sa2 ss2.length sc2) (.slice ma2 ms2.length mc2) out2 (.slice oa2 out2.length oc2))) ⟨Lib.hid ((S.out.call (HB7.out.trans (Below.le HBW.out HB7.out.size))).call ((Below.refl _ _).alloc (Nat.le_refl _) _)), Lib.hid (Y1.made (S.out.b.trans (Below.le HB7.out S.out.b.size)) HBW.out HRW.out HOW.out HP.out)⟩ ?_
    rintro w11 ⟨S1, S2⟩
    clear HRW HOW HBW HP HB7 S
    simp only at HPP
    obtain ⟨he12, hpp⟩ := HPP.out
    subst he12
    clear HPP
    have HPP := Lib.hid hpp
    clear hpp
    obtain ⟨M, hM⟩ : ∃ M, w11.heap.size = M := ⟨_, rfl⟩
    have HM := Lib.hid hM
    go_wp2_with fail
    clear hM
    refine calls_gen (Φ := fun wy => Hid (Y1 w wy P1 ⟨n1, x1, ts1, ss1, ms1⟩ (.slice ta1 ts1.length tc1) (.slice sa1 ss1.length sc1) (.slice ma1 ms1.length mc1) out1 (.slice oa1 out1.length oc1)) ∧ Hid (Y1 w wy P2 ⟨n2, x2, ts2, ss2, ms2⟩ (.slice ta2 ts2.length tc2) (.slice sa2 ss2.length sc2) (.slice ma2 ms2.length mc2) out2 (.slice oa2 out2.length oc2)) ∧ Hid (wy.cell? ⟨M, 0, none⟩ = some (.int .i64 e1) ∧ wy.cell? ⟨M, 1, none⟩ = some (.int .i64 e1))) ⟨Lib.hid (S1.out.call ((Below.refl _ _).alloc (Nat.le_refl _) _)), Lib.hid (S2.out.call ((Below.refl _ _).alloc (Nat.le_refl _) _)), Lib.hid (by have h := alloc_at HM.out (.cells #[.int .i64 e1, .int .i64 e1] 71 (0, 0)); first | exact ⟨(Lib.cell_of_heap h 0).trans rfl, (Lib.cell_of_heap h 1).trans rfl⟩ | exact ⟨(Lib.cell_of_heap (alloc_at HM.out (.cells #[.int .i64 e1, .int .i64 e1] 27 (0, 0))) 0).trans rfl, (Lib.cell_of_heap (alloc_at HM.out (.cells #[.int .i64 e1, .int .i64 e1] 27 (0, 0))) 1).trans rfl⟩)⟩ ?_
    clear S1 S2 HM
    rintro w12 ⟨S1, S2, SM⟩
    refine (ok_any M 2 e1 e1 w12 SM.out.1 SM.out.2).mono ?_
    rintro e w13 ⟨rfl, rfl⟩
    clear SM
    by_cases he0 : e1 = 0
    · subst he0
      by_cases hlen : out1.length < 300
      · have hl3 : (out1.length : Int) < 300 := by omega
        have hpp := HPP.out rfl hlen
        simp only [Prod.mk.injEq, Lp.mk.injEq] at hpp
        obtain ⟨h1, ⟨h2, h3, h4, h5, h6⟩, _⟩ := hpp
        subst h1 h2 h3 h4 h5 h6
        clear HPP
        obtain ⟨c0, c1, c2, c3, c4⟩ := cells5 S1.out.p
        obtain ⟨d0, d1, d2, d3, d4⟩ := cells5 S2.out.p
        go_wp2_with fail
        refine (eqJ_any oa1 oa2 oc1 oc2 out1 w12 S1.out.o S2.out.o).mono ?_
        rintro e w13 ⟨rfl, hb⟩
        have T1 := Lib.hid (S1.out.call hb)
        have T2 := Lib.hid (S2.out.call hb)
        clear S1 S2 hb c0 c1 c2 c3 c4 d0 d1 d2 d3 d4
        obtain ⟨c0, c1, c2, c3, c4⟩ := cells5 T1.out.p
        obtain ⟨d0, d1, d2, d3, d4⟩ := cells5 T2.out.p
        go_wp2_with fail
        refine (same_any n1 x1 ts1 ss1 ms1 ta1 sa1 ma1 ta2 sa2 ma2 tc1 sc1 mc1 tc2 sc2 mc2 w13 T1.out.l T2.out.l).mono ?_
        rintro e w14 ⟨rfl, hb⟩
        have HB := Lib.hid (T1.out.call hb).b
        clear hb T1 T2 c0 c1 c2 c3 c4 d0 d1 d2 d3 d4
        go_wp2_with fail
        go_ret
        exact ⟨rfl, HB.out⟩
      · have hl3 : (300 : Int) ≤ (out1.length : Int) := by omega
        go_wp2_with fail
        go_ret
        exact ⟨rfl, S1.out.b⟩
    · have he1 : (e1 == 0) = false := by simpa using he0
      go_wp2_with fail
      go_ret
      exact ⟨rfl, S1.out.b⟩
  · have hbad' : a < 0 ∨ (0 ≤ a ∧ b < 0) ∨ (0 ≤ a ∧ 0 ≤ b ∧ 500000 < a) ∨ (0 ≤ a ∧ 0 ≤ b ∧ a ≤ 500000 ∧ 500000 < b) ∨ (0 ≤ a ∧ 0 ≤ b ∧ a ≤ 500000 ∧ b ≤ 500000 ∧ (150 : Int) < (asks.length : Int)) := by omega
    clear hbad
    rcases hbad' with h1 | ⟨h1, h2⟩ | ⟨h1, h2, h3⟩ | ⟨h1, h2, h3, h4⟩ | ⟨h1, h2, h3, h4, h5⟩
    all_goals
      go_enter Try.func7, Try.ntmps7
      go_wp2_with fail
      refine (lives_any w).mono ?_
      rintro e w5 ⟨rfl, hb5⟩
      have X := Lib.hid hb5
      clear hb5
      go_wp2_with fail
      refine (lives_any _).mono ?_
      rintro e w7 ⟨rfl, hb7⟩
      have T := Lib.hid (X.out.trans (Below.le hb7 X.out.size))
      clear hb7 X
      go_wp2_with fail
      go_ret
      exact ⟨rfl, T.out⟩
end Go.Proofs.Ytpmklganodlciaa
