/- loop.Check walked. -/
import Derived.Test.YtpmklganodlciaaT3
import Derived.Maps.Own
import Derived.Maps.OwnOps
import Derived.Maps.Views
namespace Go.Proofs.Ytpmklganodlciaa
open Go.RowKit Go.Maps

/-- Numbers that stand in range, none twice, none among those seen. -/
def distinct (next : Int) : List Int → List Int → Bool
  | _, [] => true
  | seen, n :: l => within n 0 (next - 1) && !seen.contains n && distinct next (seen ++ [n]) l
def timOk (now : Int) : Option Tim → List Tim → Bool
  | _, [] => true
  | p, t :: l => within t.at_ now 1000000000 && within t.every 0 1000000000 && within t.turn 0 1000000000 && (match p with | none => true | some s => decide (ordT s t < 0)) && timOk now (some t) l
def Lp.check (q : Lp) : Int :=
  if 100 < q.tasks.length ∨ 100 < q.smalls.length ∨ 100 < q.tims.length then 2
  else if within q.now 0 1000000000 && within q.next 0 1000000000 && distinct q.next [] q.nums && !q.tasks.any badTask && !q.smalls.any badSmall && timOk q.now none q.tims then 0 else 3

theorem call31 (args : Array Value) (w : World) : Sem.run Try.prog (callFunc 31 args) w = .ok (.enter 31 args) w := by go_simp
theorem call32 (args : Array Value) (w : World) : Sem.run Try.prog (callFunc 32 args) w = .ok (.enter 32 args) w := by go_simp
theorem below_drewN {B : Nat} {w w' : World} (h : Below B w w') (n : Nat) : Below B w (w'.drewN n) := ⟨h.os, h.tape, h.output, h.size, h.block⟩
theorem kc {w w9 : World} {b o : Nat} {v : Value} (hb : Below w.heap.size w w9) (h : w.cell? ⟨b, o, none⟩ = some v) : w9.cell? ⟨b, o, none⟩ = some v := by
  have hlt : b < w.heap.size := by
    rcases Nat.lt_or_ge b w.heap.size with h' | h'
    · exact h'
    · simp [World.cell?, Array.getElem?_eq_none h'] at h
  exact (World.cell?_of_block (a := ⟨b, o, none⟩) (hb.block b hlt)).trans h
theorem keep12 {w w9 : World} {b0 o0 b1 o1 b2 o2 b3 o3 b4 o4 b5 o5 b6 o6 b7 o7 b8 o8 b9 o9 b10 o10 b11 o11 : Nat} {v0 v1 v2 v3 v4 v5 v6 v7 v8 v9 v10 v11 : Value} (h : w.cell? ⟨b0, o0, none⟩ = some v0 ∧ w.cell? ⟨b1, o1, none⟩ = some v1 ∧ w.cell? ⟨b2, o2, none⟩ = some v2 ∧ w.cell? ⟨b3, o3, none⟩ = some v3 ∧ w.cell? ⟨b4, o4, none⟩ = some v4 ∧ w.cell? ⟨b5, o5, none⟩ = some v5 ∧ w.cell? ⟨b6, o6, none⟩ = some v6 ∧ w.cell? ⟨b7, o7, none⟩ = some v7 ∧ w.cell? ⟨b8, o8, none⟩ = some v8 ∧ w.cell? ⟨b9, o9, none⟩ = some v9 ∧ w.cell? ⟨b10, o10, none⟩ = some v10 ∧ w.cell? ⟨b11, o11, none⟩ = some v11) (hb : Below w.heap.size w w9) : w9.cell? ⟨b0, o0, none⟩ = some v0 ∧ w9.cell? ⟨b1, o1, none⟩ = some v1 ∧ w9.cell? ⟨b2, o2, none⟩ = some v2 ∧ w9.cell? ⟨b3, o3, none⟩ = some v3 ∧ w9.cell? ⟨b4, o4, none⟩ = some v4 ∧ w9.cell? ⟨b5, o5, none⟩ = some v5 ∧ w9.cell? ⟨b6, o6, none⟩ = some v6 ∧ w9.cell? ⟨b7, o7, none⟩ = some v7 ∧ w9.cell? ⟨b8, o8, none⟩ = some v8 ∧ w9.cell? ⟨b9, o9, none⟩ = some v9 ∧ w9.cell? ⟨b10, o10, none⟩ = some v10 ∧ w9.cell? ⟨b11, o11, none⟩ = some v11 :=
  ⟨kc hb h.1, kc hb h.2.1, kc hb h.2.2.1, kc hb h.2.2.2.1, kc hb h.2.2.2.2.1, kc hb h.2.2.2.2.2.1, kc hb h.2.2.2.2.2.2.1, kc hb h.2.2.2.2.2.2.2.1, kc hb h.2.2.2.2.2.2.2.2.1, kc hb h.2.2.2.2.2.2.2.2.2.1, kc hb h.2.2.2.2.2.2.2.2.2.2.1, kc hb h.2.2.2.2.2.2.2.2.2.2.2⟩
theorem law3 : Keyed Try.prog 3 := int_keyed Try.underlying3
theorem zero3 (w : World) : (zeroValue 3).run Try.prog w = .ok (.int .i64 0) w := by kernel_rfl
/-- What holds at the head of Check's first loop. -/
structure SX (w0 wr : World) (v : Value) (ns seen : List Int) (D : DataW Unit) : Prop where
  own : wr.ownsRow (w0.heap.size + 1) 3 1 v ns.length (ns.map nV)
  map : wr.ownsMap Try.prog 3 (plainElem Try.prog 3) w0.heap.size seen.length D
  at_ : ∀ x, (Lit.int .i64 x).wf = true → D.atKey (.int .i64 x) (.lit (.int .i64 0)) = .lit (.int .i64 (if seen.contains x then 1 else 0))
  bl : Below w0.heap.size w0 wr
theorem ownsMap_below {w w' : World} {b n : Nat} {D : DataW Unit} {B : Nat} (h : w.ownsMap Try.prog 3 (plainElem Try.prog 3) b n D) (hb : Below B w w') (hB : b < B) : w'.ownsMap Try.prog 3 (plainElem Try.prog 3) b n D := by
  obtain ⟨es, clock, h1, h2⟩ := h
  exact ⟨es, clock, (hb.block b hB).trans h1, h2⟩
theorem SX.put {w0 wr w' : World} {v : Value} {ns seen : List Int} {D : DataW Unit} (h : SX w0 wr v ns seen D) (x : Int) (hm : w'.ownsMap Try.prog 3 (plainElem Try.prog 3) w0.heap.size (seen.length + 1) (D.put (.int .i64 x) (.lit (.int .i64 1)))) (hg : wr.grownBy w' (some w0.heap.size)) :
    SX w0 w' v ns (seen ++ [x]) (D.put (.int .i64 x) (.lit (.int .i64 1))) where
  own := h.own.kept hg (by
    rcases h.own.2 with ⟨rfl, _⟩ | ⟨g, cap, cur, rfl, e2, _⟩
    · exact .inl rfl
    · refine .inr (fun e => ?_)
      have : some g = some w0.heap.size := e
      injection this with this
      omega)
  map := by rw [List.length_append]; exact hm
  at_ y hy := by
    by_cases e : y = x
    · subst e
      rw [atKey_put_same h.map.isMap (show WideAt.IsKeyLit (.int .i64 y) from trivial), if_pos (by simp)]
    · rw [atKey_put_other (by intro e2; injection e2 with _ e2; exact e e2), h.at_ y hy]
      congr 2
      simp [e]
  bl := h.bl.grown hg h.bl.size (fun k hk => by cases hk; exact Nat.le_refl _)
set_option maxRecDepth 100000 in
set_option maxHeartbeats 8000000 in
theorem check_any (now next : Int) (ts ss : List Job) (ms : List Tim) (at_ as_ am : Option Addr) (ct cs cm : Nat) (w : World) (h : LpAt w ⟨now, next, ts, ss, ms⟩ (.slice at_ ts.length ct) (.slice as_ ss.length cs) (.slice am ms.length cm)) :
    Calls Try.prog 15 #[.agg #[.int .i64 now, .int .i64 next, .slice at_ ts.length ct, .slice as_ ss.length cs, .slice am ms.length cm]] w fun e w' => e = .returned (.int .i64 (Lp.check ⟨now, next, ts, ss, ms⟩)) ∧ Below w.heap.size w w' := by
  have H := Lib.hid h
  have hct : ts.length ≤ 9223372036854775807 := by obtain ⟨_, _, e, h1, h2, _⟩ := h.t; injection e with _ _ e; simp only [maxLen] at h2; omega
  have hcs : ss.length ≤ 9223372036854775807 := by obtain ⟨_, _, e, h1, h2, _⟩ := h.s; injection e with _ _ e; simp only [maxLen] at h2; omega
  have hcm : ms.length ≤ 9223372036854775807 := by obtain ⟨_, _, e, h1, h2, _⟩ := h.m; injection e with _ _ e; simp only [maxLen] at h2; omega
  clear h
  by_cases hbig : 100 < ts.length ∨ 100 < ss.length ∨ 100 < ms.length
  · have HR : Hid (Lp.check ⟨now, next, ts, ss, ms⟩ = 2) := Lib.hid (by unfold Lp.check; exact if_pos hbig)
    go_enter Try.func15, Try.ntmps15
    go_wp2_with fail
    all_goals
      go_ret
      exact ⟨by rw [HR.out]; rfl, (Below.refl _ _).alloc (Nat.le_refl _) _⟩
  · have h1 : ts.length ≤ 100 := by omega
    have h2 : ss.length ≤ 100 := by omega
    have h3 : ms.length ≤ 100 := by omega
    obtain ⟨M, hM⟩ : ∃ M, (if (if ts.length < ss.length then (ss.length : Int) else (ts.length : Int)) < (ms.length : Int) then (ms.length : Int) else if ts.length < ss.length then (ss.length : Int) else (ts.length : Int)) = M := ⟨_, rfl⟩
    have hM2 : M ≤ 100 := by
      rw [← hM]
      split
      · omega
      · split <;> omega
    obtain ⟨a1, ha1⟩ : ∃ a, within now 0 1000000000 = a := ⟨_, rfl⟩
    obtain ⟨a2, ha2⟩ : ∃ a, within next 0 1000000000 = a := ⟨_, rfl⟩
    obtain ⟨a3, ha3⟩ : ∃ a, distinct next [] (Lp.nums ⟨now, next, ts, ss, ms⟩) = a := ⟨_, rfl⟩
    obtain ⟨a4, ha4⟩ : ∃ a, ts.any badTask = a := ⟨_, rfl⟩
    obtain ⟨a5, ha5⟩ : ∃ a, ss.any badSmall = a := ⟨_, rfl⟩
    obtain ⟨a6, ha6⟩ : ∃ a, timOk now none ms = a := ⟨_, rfl⟩
    have HC : Hid (Lp.check ⟨now, next, ts, ss, ms⟩ = if a1 && a2 && a3 && !a4 && !a5 && a6 then 0 else 3) := Lib.hid (by
      unfold Lp.check
      rw [if_neg hbig]
      simp only [ha1, ha2, ha3, ha4, ha5, ha6])
    have hc1 := fun w => within_any now 0 1000000000 w
    have hc2 := fun w => within_any next 0 1000000000 w
    rw [show (decide (0 ≤ now) && decide (now ≤ 1000000000)) = a1 from ha1] at hc1
    rw [show (decide (0 ≤ next) && decide (next ≤ 1000000000)) = a2 from ha2] at hc2
    have C1 := Lib.hid hc1
    have C2 := Lib.hid hc2
    have A2 := Lib.hid ha2
    have A3 := Lib.hid ha3
    have A4 := Lib.hid ha4
    have A5 := Lib.hid ha5
    have A6 := Lib.hid ha6
    clear hc1 hc2 ha1 ha2 ha3 ha4 ha5 ha6 hbig
    go_enter Try.func15, Try.ntmps15
    go_wp2_with fail
    clear hM hM2
    obtain ⟨w0, hw0, hbw, q0, q1, q2, q3, q4, hsz⟩ : ∃ w0, w0 = (w.alloc (.cells #[.int .i64 now, .int .i64 next, .slice at_ ts.length ct, .slice as_ ss.length cs, .slice am ms.length cm] 26)) ∧ Below w.heap.size w w0 ∧ w0.cell? ⟨w.heap.size, 0, none⟩ = some (.int .i64 now) ∧ w0.cell? ⟨w.heap.size, 1, none⟩ = some (.int .i64 next) ∧ w0.cell? ⟨w.heap.size, 2, none⟩ = some (.slice at_ ts.length ct) ∧ w0.cell? ⟨w.heap.size, 3, none⟩ = some (.slice as_ ss.length cs) ∧ w0.cell? ⟨w.heap.size, 4, none⟩ = some (.slice am ms.length cm) ∧ w0.heap.size = w.heap.size + 1 :=
      ⟨_, rfl, (Below.refl _ _).alloc (Nat.le_refl _) _, by go_simp, by go_simp, by go_simp, by go_simp, by go_simp, by simp⟩
    rw [← hw0]
    have HBW := Lib.hid hbw
    have SZ := Lib.hid hsz
    have hltb : w.heap.size < w0.heap.size := by omega
    clear hw0 hbw hsz
    refine (C1.out _).mono ?_
    rintro e w' ⟨rfl, rfl⟩
    cases a1 with
    | false =>
      go_wp2_with fail
      go_ret
      exact ⟨by rw [HC.out]; rfl, HBW.out⟩
    | true =>
    go_wp2_with fail
    refine (C2.out _).mono ?_
    rintro e w' ⟨rfl, rfl⟩
    cases a2 with
    | false =>
      go_wp2_with fail
      go_ret
      exact ⟨by rw [HC.out]; rfl, HBW.out⟩
    | true =>
    have hnx : 0 ≤ next ∧ next ≤ 1000000000 := by have := A2.out; simpa [within] using this
    obtain ⟨hn0, hn1⟩ := hnx
    have hmm := @run_makeMap Try.prog
    go_wp2_with fail
    obtain ⟨w1, hw1, hb1, hm1, hs1⟩ : ∃ w1, w1 = (w0.alloc (.map #[] 0)) ∧ Below w0.heap.size w0 w1 ∧ w1.ownsMap Try.prog 3 (plainElem Try.prog 3) w0.heap.size 0 (.map [] : DataW Unit) ∧ w1.heap.size = w0.heap.size + 1 :=
      ⟨_, rfl, (Below.refl _ _).alloc (Nat.le_refl _) _, World.ownsMap_made _ _ _ _, by simp⟩
    rw [← hw1]
    have hlp := (H.out.below HBW.out).below hb1
    obtain ⟨ns, hns⟩ : ∃ ns, Lp.nums ⟨now, next, ts, ss, ms⟩ = ns := ⟨_, rfl⟩
    have hnl : ns.length ≤ 300 := by rw [← hns]; simp [Lp.nums]; omega
    have hnum := numbers_any now next ts ss ms at_ as_ am ct cs cm w1 hlp h1 h2 h3
    rw [hns] at hnum A3
    have HLP := Lib.hid (H.out.below HBW.out)
    clear hw1 hlp hns H hmm
    refine hnum.mono ?_
    rintro e w2 ⟨v, rfl, hown, hb2⟩
    obtain ⟨va, vc, rfl⟩ := own_shape hown
    have X0 : Hid (SX w0 w2 (.slice va ns.length vc) ns [] (.map [])) := Lib.hid ⟨by
        refine ⟨hown.1, ?_⟩
        rcases hown.2 with h | ⟨g, cap, cur, e1, e2, e3⟩
        · exact .inl h
        · exact .inr ⟨g, cap, cur, e1, by omega, e3⟩, ownsMap_below hm1 hb2 (by omega), fun x _ => rfl, hb1.trans (Below.le hb2 (by omega))⟩
    clear hnum hown hb2 hm1 hb1 hs1
    go_wp2_with fail
    have HN : Hid (0 ≤ next ∧ next ≤ 1000000000) := Lib.hid ⟨hn0, hn1⟩
    go_loopg [33] ns.length (fun n vk wr => ∃ (k : Nat) (D : DataW Unit), n = ns.length - k ∧ k ≤ ns.length ∧ vk = .int .i64 (k : Int) ∧ distinct next (ns.take k) (ns.drop k) = a3 ∧ SX w0 wr (.slice va ns.length vc) ns (ns.take k) D)
    case atStart => exact ⟨0, _, rfl, Nat.zero_le _, rfl, A3.out, X0.out⟩
    case round =>
      obtain ⟨k, D, hg, hk, rfl, hd, hx⟩ := hrel
      have G := Lib.hid hg
      have X := Lib.hid hx
      have q0' : wr.cell? ⟨w.heap.size, 0, none⟩ = some (.int .i64 now) := (World.cell?_of_block (a := ⟨w.heap.size, 0, none⟩) (hx.bl.block w.heap.size hltb)).trans q0
      have q1' : wr.cell? ⟨w.heap.size, 1, none⟩ = some (.int .i64 next) := (World.cell?_of_block (a := ⟨w.heap.size, 1, none⟩) (hx.bl.block w.heap.size hltb)).trans q1
      by_cases hlt : k < ns.length
      · have hki : (k : Int) < (ns.length : Int) := by omega
        have hki2 : (ns.length : Int) ≤ 300 := by omega
        rw [List.drop_eq_getElem_cons hlt] at hd
        have htk : ns.take (k + 1) = ns.take k ++ [ns[k]] := by rw [List.take_add_one, List.getElem?_eq_getElem hlt]; rfl
        have htl : (ns.take k).length = k := by rw [List.length_take]; omega
        obtain ⟨g, rfl, c0⟩ : ∃ g, va = some ⟨g, 0, none⟩ ∧ wr.cell? ⟨g, k, none⟩ = some (.int .i64 ns[k]) := by
          rcases hx.own.2 with ⟨_, h0⟩ | ⟨g, cap, cur, e1, _⟩
          · omega
          · injection e1 with e1 _ _
            subst e1
            exact ⟨g, rfl, (hx.own.cellAt k (by omega)).trans (by simp [hlt, nV])⟩
        generalize ns[k] = x at *
        have HTK := Lib.hid htk
        have HTL := Lib.hid htl
        have HD := Lib.hid hd
        clear hg hx hd htk htl
        have hcx := fun w => within_any x 0 (next - 1) w
        obtain ⟨b1, hb1⟩ : ∃ b, (decide (0 ≤ x) && decide (x ≤ next - 1)) = b := ⟨_, rfl⟩
        rw [hb1] at hcx
        have HCX := Lib.hid hcx
        have HB1 := Lib.hid hb1
        clear hcx hb1
        go_wp2_with fail
        refine (HCX.out _).mono ?_
        rintro e w3 ⟨rfl, rfl⟩
        cases b1 with
        | false =>
          have ha : a3 = false := by rw [← HD.out]; unfold distinct within; rw [HB1.out]; rfl
          subst ha
          go_wp2_with fail
          go_ret
          exact ⟨by rw [HC.out]; rfl, HBW.out.trans (Below.le X.out.bl HBW.out.size)⟩
        | true =>
        have hxr : 0 ≤ x ∧ x ≤ next - 1 := by have := HB1.out; simpa using this
        have hwf : (Lit.int .i64 x).wf = true := WalkArith.wf_i64 ⟨by omega, by omega⟩
        obtain ⟨c, hrun, hat, _⟩ := X.out.map.lookup_int law3 Try.underlying37 Try.underlying3 (zero3 _) (keyOf_int_mk Try.underlying3 hwf)
        rw [X.out.at_ x hwf] at hat
        cases hse : (ns.take k).contains x with
        | true =>
          rw [hse] at hat
          have hc1 : c = 1 := by injection hat with hat; injection hat with _ hat; exact hat.symm
          subst hc1
          have ha : a3 = false := by rw [← HD.out]; unfold distinct; rw [hse]; simp
          subst ha
          go_wp2_with fail
          go_ret
          exact ⟨by rw [HC.out]; rfl, HBW.out.trans (Below.le X.out.bl HBW.out.size)⟩
        | false =>
          rw [hse] at hat
          have hc1 : c = 0 := by injection hat with hat; injection hat with _ hat; exact hat.symm
          subst hc1
          have hd2 : distinct next (ns.take (k + 1)) (ns.drop (k + 1)) = a3 := by
            rw [← HD.out, HTK.out]
            conv => rhs; unfold distinct within
            rw [HB1.out, hse]; rfl
          have HD2 := Lib.hid hd2
          have HWF := Lib.hid hwf
          clear hd2 hse hat hxr hwf
          go_wp2_with (first | (at_mapUpdate; refine wpList_mapUpdate_own _ rfl _ _ _ 37 rfl 3 3 law3 Try.underlying37 _ w0.heap.size _ D rfl X.out.map (by unfold maxLen; rw [HTL.out]; omega) _ _ _ rfl rfl (keyOf_int_mk Try.underlying3 HWF.out) (.lit (.int .i64 1)) [] (plainElem_int Try.underlying3 (by decide)) ?_))
          intro w4 hm4 hg4
          have X4 := Lib.hid (X.out.put x (by rw [HTL.out]; exact hm4) hg4)
          clear hm4 hg4 hrun c0 q0' q1'
          go_wp2_with fail
          go_roundg (ns.length - (k + 1))
          case measure => rw [G.out]; omega
          case rel => exact ⟨k + 1, _, rfl, by omega, by simp, HD2.out, by rw [HTK.out]; exact X4.out⟩
      · have hke : k = ns.length := by omega
        have ha : a3 = true := by rw [← hd, hke, List.drop_length]; rfl
        subst ha
        have BL : Hid (Below w.heap.size w wr) := Lib.hid (HBW.out.trans (Below.le X.out.bl HBW.out.size))
        have q2' : wr.cell? ⟨w.heap.size, 2, none⟩ = some (.slice at_ ts.length ct) := (World.cell?_of_block (a := ⟨w.heap.size, 2, none⟩) (hx.bl.block w.heap.size hltb)).trans q2
        have q3' : wr.cell? ⟨w.heap.size, 3, none⟩ = some (.slice as_ ss.length cs) := (World.cell?_of_block (a := ⟨w.heap.size, 3, none⟩) (hx.bl.block w.heap.size hltb)).trans q3
        have q4' : wr.cell? ⟨w.heap.size, 4, none⟩ = some (.slice am ms.length cm) := (World.cell?_of_block (a := ⟨w.heap.size, 4, none⟩) (hx.bl.block w.heap.size hltb)).trans q4
        have HLPR := Lib.hid (HLP.out.below hx.bl)
        clear hg hx hd
        go_wp2_with fail
        have hany1 := anyJ_any 31 badTask badTask_any call31 at_ ct ts wr HLPR.out.t (by omega)
        rw [A4.out] at hany1
        refine hany1.mono ?_
        rintro e w5 ⟨rfl, hb5⟩
        clear hany1
        cases a4 with
        | true =>
          go_wp2_with fail
          go_ret
          exact ⟨by rw [HC.out]; rfl, BL.out.trans (Below.le hb5 BL.out.size)⟩
        | false =>
        have q3' : w5.cell? ⟨w.heap.size, 3, none⟩ = some (.slice as_ ss.length cs) := (World.cell?_of_block (a := ⟨w.heap.size, 3, none⟩) (hb5.block w.heap.size (Nat.lt_of_lt_of_le hltb X.out.bl.size))).trans q3'
        have q4' : w5.cell? ⟨w.heap.size, 4, none⟩ = some (.slice am ms.length cm) := (World.cell?_of_block (a := ⟨w.heap.size, 4, none⟩) (hb5.block w.heap.size (Nat.lt_of_lt_of_le hltb X.out.bl.size))).trans q4'
        have q05 : w5.cell? ⟨w.heap.size, 0, none⟩ = some (.int .i64 now) := (World.cell?_of_block (a := ⟨w.heap.size, 0, none⟩) (hb5.block w.heap.size (Nat.lt_of_lt_of_le hltb X.out.bl.size))).trans q0'
        have HLP5 := Lib.hid (HLPR.out.below hb5)
        have BL5 : Hid (Below w.heap.size w w5) := Lib.hid (BL.out.trans (Below.le hb5 BL.out.size))
        have hlt5 : w.heap.size < w5.heap.size := Nat.lt_of_lt_of_le (Nat.lt_of_lt_of_le hltb X.out.bl.size) hb5.size
        clear q0' q1' q2' hb5 BL q0 q1 q2 q3 q4 hlt hke X HLPR
        go_wp2_with fail
        have hany2 := anyJ_any 32 badSmall badSmall_any call32 as_ cs ss w5 HLP5.out.s (by omega)
        rw [A5.out] at hany2
        refine hany2.mono ?_
        rintro e w6 ⟨rfl, hb6⟩
        clear hany2
        have q46 : w6.cell? ⟨w.heap.size, 4, none⟩ = some (.slice am ms.length cm) := (World.cell?_of_block (a := ⟨w.heap.size, 4, none⟩) (hb6.block w.heap.size hlt5)).trans q4'
        have q06 : w6.cell? ⟨w.heap.size, 0, none⟩ = some (.int .i64 now) := (World.cell?_of_block (a := ⟨w.heap.size, 0, none⟩) (hb6.block w.heap.size hlt5)).trans q05
        have HM6 := Lib.hid ((HLP5.out.below hb6).m)
        have BL6 : Hid (Below w.heap.size w w6) := Lib.hid (BL5.out.trans (Below.le hb6 BL5.out.size))
        have hlt6 : w.heap.size < w6.heap.size := Nat.lt_of_lt_of_le hlt5 hb6.size
        clear hb6 q05 q3' q4' HLP5 BL5 hlt5
        cases a5 with
        | true =>
          go_wp2_with fail
          go_ret
          exact ⟨by rw [HC.out]; rfl, BL6.out⟩
        | false =>
        go_wp2_with fail
        have hmi : (ms.length : Int) ≤ 100 := by omega
        go_loopg [61] ms.length (fun n vk wr => ∃ k : Nat, n = ms.length - k ∧ k ≤ ms.length ∧ vk = .int .i64 (k : Int) ∧ timOk now (if k = 0 then none else ms[k - 1]?) (ms.drop k) = a6 ∧ Below w6.heap.size w6 wr)
        case atStart => exact ⟨0, rfl, Nat.zero_le _, rfl, A6.out, Below.refl _ _⟩
        case round =>
          obtain ⟨k, hg, hk, rfl, hd, hb7⟩ := hrel
          have G := Lib.hid hg
          by_cases hlt : k < ms.length
          · have hki : (k : Int) < (ms.length : Int) := by omega
            rw [List.drop_eq_getElem_cons hlt] at hd
            have hpv : (if k + 1 = 0 then none else ms[k + 1 - 1]?) = some ms[k] := by rw [if_neg (by omega), Nat.add_sub_cancel, List.getElem?_eq_getElem hlt]
            obtain ⟨b, o, rfl, hta⟩ := HM6.out.tim k hlt
            have hta := hta.below hb7
            have hpr : ∀ k', k = k' + 1 → ∃ P, ms[k']? = some P ∧ TimAt wr b (o + k' * 5) P := by
              intro k' hk'
              have hlt' : k' < ms.length := by omega
              obtain ⟨b', o', e1, h'⟩ := HM6.out.tim k' hlt'
              injection e1 with e1
              injection e1 with e1 e2 _
              subst e1
              subst e2
              exact ⟨ms[k'], List.getElem?_eq_getElem hlt', h'.below hb7⟩
            generalize ms[k] = T at *
            have HPV := Lib.hid hpv
            have HD := Lib.hid hd
            have HPR := Lib.hid hpr
            have q0w : wr.cell? ⟨w.heap.size, 0, none⟩ = some (.int .i64 now) := (World.cell?_of_block (a := ⟨w.heap.size, 0, none⟩) (hb7.block w.heap.size hlt6)).trans q06
            have q4w : wr.cell? ⟨w.heap.size, 4, none⟩ = some (.slice (some ⟨b, o, none⟩) ms.length cm) := (World.cell?_of_block (a := ⟨w.heap.size, 4, none⟩) (hb7.block w.heap.size hlt6)).trans q46
            have hltr : w.heap.size < wr.heap.size := Nat.lt_of_lt_of_le hlt6 hb7.size
            have hbr : b < wr.heap.size := by
              rcases Nat.lt_or_ge b wr.heap.size with h' | h'
              · exact h'
              · have := hta.c0; simp [World.cell?, Array.getElem?_eq_none h'] at this
            have B7 := Lib.hid hb7
            clear hg hpv hd hpr hb7
            obtain ⟨id, ta, te, tt, call⟩ := T
            obtain ⟨c0, c1, c2, c3, c4⟩ := hta
            simp only at c0 c1 c2 c3 c4
            go_upto_region 20 with fail
            obtain ⟨w8, hw8, hb8, x0, x1, x2, x3, x4, q08, q48⟩ : ∃ w8, w8 = (wr.alloc (.cells #[.int .i64 id, .int .i64 ta, .int .i64 te, .int .i64 tt, .string call] 49)) ∧ Below wr.heap.size wr w8 ∧ w8.cell? ⟨wr.heap.size, 0, none⟩ = some (.int .i64 id) ∧ w8.cell? ⟨wr.heap.size, 1, none⟩ = some (.int .i64 ta) ∧ w8.cell? ⟨wr.heap.size, 2, none⟩ = some (.int .i64 te) ∧ w8.cell? ⟨wr.heap.size, 3, none⟩ = some (.int .i64 tt) ∧ w8.cell? ⟨wr.heap.size, 4, none⟩ = some (.string call) ∧ w8.cell? ⟨w.heap.size, 0, none⟩ = some (.int .i64 now) ∧ w8.cell? ⟨w.heap.size, 4, none⟩ = some (.slice (some ⟨b, o, none⟩) ms.length cm) :=
              ⟨_, rfl, (Below.refl _ _).alloc (Nat.le_refl _) _, by go_simp, by go_simp, by go_simp, by go_simp, by go_simp, by go_simp, by go_simp⟩
            rw [← hw8]
            have BL8 : Hid (Below w6.heap.size w6 w8) := Lib.hid (B7.out.trans (Below.le hb8 B7.out.size))
            have HB8 := Lib.hid hb8
            clear hw8 c0 c1 c2 c3 c4 q0w q4w hb8
            have hcx1 := fun w => within_any ta now 1000000000 w
            have hcx2 := fun w => within_any te 0 1000000000 w
            have hcx3 := fun w => within_any tt 0 1000000000 w
            obtain ⟨b1, hb1⟩ : ∃ b, (decide (now ≤ ta) && decide (ta ≤ 1000000000)) = b := ⟨_, rfl⟩
            obtain ⟨b2, hb2⟩ : ∃ b, (decide (0 ≤ te) && decide (te ≤ 1000000000)) = b := ⟨_, rfl⟩
            obtain ⟨b3, hb3⟩ : ∃ b, (decide (0 ≤ tt) && decide (tt ≤ 1000000000)) = b := ⟨_, rfl⟩
            rw [hb1] at hcx1
            rw [hb2] at hcx2
            rw [hb3] at hcx3
            have HX1 := Lib.hid hcx1
            have HX2 := Lib.hid hcx2
            have HX3 := Lib.hid hcx3
            have hd1 : (b1 && b2 && b3 && (match (if k = 0 then none else ms[k - 1]?) with | none => true | some s => decide (ordT s ⟨id, ta, te, tt, call⟩ < 0)) && timOk now (some ⟨id, ta, te, tt, call⟩) (ms.drop (k + 1))) = a6 := by
              rw [← HD.out]
              conv => rhs; unfold timOk within
              rw [hb1, hb2, hb3]
            have HD1 := Lib.hid hd1
            clear hcx1 hcx2 hcx3 hb1 hb2 hb3 hd1 HD
            cases b1 with
            | false =>
              have ha : a6 = false := by rw [← HD1.out]; rfl
              subst ha
              go_wp2_with fail
              go_quiet ((first | (with_reducible exact Calls.quiet_of_same ((HX1.out _).mono fun _ _ ⟨a, b⟩ => ⟨a, b.symm⟩)) | (with_reducible exact Calls.quiet_of_same ((HX2.out _).mono fun _ _ ⟨a, b⟩ => ⟨a, b.symm⟩)) | (with_reducible exact Calls.quiet_of_same ((HX3.out _).mono fun _ _ ⟨a, b⟩ => ⟨a, b.symm⟩))))
              go_wp2_with fail
              go_ret
              exact ⟨by rw [HC.out]; rfl, BL6.out.trans (Below.le (below_drewN BL8.out _) BL6.out.size)⟩
            | true =>
            cases b2 with
            | false =>
              have ha : a6 = false := by rw [← HD1.out]; rfl
              subst ha
              go_wp2_with fail
              go_quiet ((first | (with_reducible exact Calls.quiet_of_same ((HX1.out _).mono fun _ _ ⟨a, b⟩ => ⟨a, b.symm⟩)) | (with_reducible exact Calls.quiet_of_same ((HX2.out _).mono fun _ _ ⟨a, b⟩ => ⟨a, b.symm⟩)) | (with_reducible exact Calls.quiet_of_same ((HX3.out _).mono fun _ _ ⟨a, b⟩ => ⟨a, b.symm⟩))))
              go_wp2_with fail
              go_ret
              exact ⟨by rw [HC.out]; rfl, BL6.out.trans (Below.le (below_drewN BL8.out _) BL6.out.size)⟩
            | true =>
            cases b3 with
            | false =>
              have ha : a6 = false := by rw [← HD1.out]; rfl
              subst ha
              go_wp2_with fail
              go_quiet ((first | (with_reducible exact Calls.quiet_of_same ((HX1.out _).mono fun _ _ ⟨a, b⟩ => ⟨a, b.symm⟩)) | (with_reducible exact Calls.quiet_of_same ((HX2.out _).mono fun _ _ ⟨a, b⟩ => ⟨a, b.symm⟩)) | (with_reducible exact Calls.quiet_of_same ((HX3.out _).mono fun _ _ ⟨a, b⟩ => ⟨a, b.symm⟩))))
              go_wp2_with fail
              go_ret
              exact ⟨by rw [HC.out]; rfl, BL6.out.trans (Below.le (below_drewN BL8.out _) BL6.out.size)⟩
            | true =>
            rcases Nat.eq_zero_or_pos k with hk0 | hk0
            · subst hk0
              have HD2 : Hid (timOk now (some ⟨id, ta, te, tt, call⟩) (ms.drop (0 + 1)) = a6) := Lib.hid (by have := HD1.out; simpa using this)
              go_wp2_with fail
              go_quiet ((first | (with_reducible exact Calls.quiet_of_same ((HX1.out _).mono fun _ _ ⟨a, b⟩ => ⟨a, b.symm⟩)) | (with_reducible exact Calls.quiet_of_same ((HX2.out _).mono fun _ _ ⟨a, b⟩ => ⟨a, b.symm⟩)) | (with_reducible exact Calls.quiet_of_same ((HX3.out _).mono fun _ _ ⟨a, b⟩ => ⟨a, b.symm⟩))))
              go_wp2_with fail
              go_roundg (ms.length - (0 + 1))
              case measure => rw [G.out]; omega
              case rel => exact ⟨0 + 1, rfl, by omega, by simp, by rw [HPV.out]; exact HD2.out, below_drewN BL8.out _⟩
            · obtain ⟨k', hk'⟩ : ∃ k', k = k' + 1 := ⟨k - 1, by omega⟩
              obtain ⟨P, hP, hPa⟩ := HPR.out k' hk'
              have hd4 := HD1.out
              rw [if_neg (by omega), hk', Nat.add_sub_cancel, hP] at hd4
              have hbf := fun w => before_any P ⟨id, ta, te, tt, call⟩ w
              obtain ⟨O, hO⟩ : ∃ O, ordT P ⟨id, ta, te, tt, call⟩ = O := ⟨_, rfl⟩
              rw [hO] at hbf
              have hd5 : (decide (O < 0) && timOk now (some ⟨id, ta, te, tt, call⟩) (ms.drop (k + 1))) = a6 := by rw [← hd4, ← hO, hk']; simp
              obtain ⟨pid, pa, pe, pt, pc⟩ := P
              obtain ⟨p0, p1, p2, p3, p4⟩ := hPa.below HB8.out
              simp only at p0 p1 p2 p3 p4
              have HBF : Hid (∀ w, Calls Try.prog 33 #[.agg #[.int .i64 pid, .int .i64 pa, .int .i64 pe, .int .i64 pt, .string pc], .agg #[.int .i64 id, .int .i64 ta, .int .i64 te, .int .i64 tt, .string call]] w fun e w' => e = .returned (.int .i64 O) ∧ Below w.heap.size w w') := Lib.hid hbf
              have HD5 := Lib.hid hd5
              clear hbf hd4 hd5 hPa hO hP
              subst hk'
              have hk3 : (k' : Int) < (ms.length : Int) := by omega
              have hk4 : (0 : Int) ≤ (k' : Int) := by omega
              have hk5 : k' < ms.length := by omega
              have hkw : IntKind.i64.wrap (k' : Int) = (k' : Int) := by rw [IntKind.wrap_i64]; omega
              go_wp2_with fail
              obtain ⟨xb, hxb⟩ : ∃ xb, wr.heap.size = xb := ⟨_, rfl⟩
              rw [hxb] at x0 x1 x2 x3 x4 ⊢
              clear hxb
              go_region_held3 (fun w' => w'.cell? ⟨xb, 0, none⟩ = some (.int .i64 id) ∧ w'.cell? ⟨xb, 1, none⟩ = some (.int .i64 ta) ∧ w'.cell? ⟨xb, 2, none⟩ = some (.int .i64 te) ∧ w'.cell? ⟨xb, 3, none⟩ = some (.int .i64 tt) ∧ w'.cell? ⟨xb, 4, none⟩ = some (.string call) ∧ w'.cell? ⟨w.heap.size, 0, none⟩ = some (.int .i64 now) ∧ w'.cell? ⟨w.heap.size, 4, none⟩ = some (.slice (some ⟨b, o, none⟩) ms.length cm) ∧ w'.cell? ⟨b, o + k' * 5, none⟩ = some (.int .i64 pid) ∧ w'.cell? ⟨b, o + k' * 5 + 1, none⟩ = some (.int .i64 pa) ∧ w'.cell? ⟨b, o + k' * 5 + 2, none⟩ = some (.int .i64 pe) ∧ w'.cell? ⟨b, o + k' * 5 + 3, none⟩ = some (.int .i64 pt) ∧ w'.cell? ⟨b, o + k' * 5 + 4, none⟩ = some (.string pc)) (first | assumption | go_keep)
                ((first | (go_at_call 24; (first | (with_reducible refine (HX1.out _).mono ?_) | (with_reducible refine (HX2.out _).mono ?_) | (with_reducible refine (HX3.out _).mono ?_)); rintro e w' ⟨rfl, rfl⟩) | (go_at_call 33; with_reducible refine (HBF.out _).mono ?_; rintro e w9 ⟨rfl, hb9⟩; have hS9 := keep12 (by assumption) hb9)))
              have BL9 : Hid (Below w6.heap.size w6 w9) := Lib.hid ((below_drewN BL8.out 1).trans (Below.le hb9 BL8.out.size))
              clear hb9 p0 p1 p2 p3 p4 hS9
              by_cases hneg : O < 0
              · have HD2 : Hid (timOk now (some ⟨id, ta, te, tt, call⟩) (ms.drop (k' + 1 + 1)) = a6) := Lib.hid (by have := HD5.out; simpa [hneg] using this)
                go_wp2_with fail
                go_roundg (ms.length - (k' + 1 + 1))
                case measure => rw [G.out]; omega
                case rel => exact ⟨k' + 1 + 1, rfl, by omega, by simp, by rw [HPV.out]; exact HD2.out, BL9.out⟩
              · have ha : a6 = false := by rw [← HD5.out]; simp [hneg]
                subst ha
                go_wp2_with fail
                go_ret
                exact ⟨by rw [HC.out]; rfl, BL6.out.trans (Below.le BL9.out BL6.out.size)⟩
          · have hke : k = ms.length := by omega
            have ha : a6 = true := by rw [← hd, hke, List.drop_length]; rfl
            subst ha
            have B7 := Lib.hid hb7
            clear hg hd hb7
            go_wp2_with fail
            go_ret
            exact ⟨by rw [HC.out]; rfl, BL6.out.trans (Below.le B7.out BL6.out.size)⟩
end Go.Proofs.Ytpmklganodlciaa
