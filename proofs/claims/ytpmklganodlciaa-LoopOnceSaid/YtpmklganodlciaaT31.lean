/- LoopOnce, walked. -/
import Derived.Test.YtpmklganodlciaaT30
import Derived.Test.YtpmklganodlciaaP7
namespace Go.Proofs.Ytpmklganodlciaa
open Go.RowKit Go.Maps

set_option maxRecDepth 100000 in
set_option maxHeartbeats 4000000 in
theorem idxQ_any (f : Nat) (p : Qst → Bool) (H : ∀ (j : Qst) (w : World), Calls Try.prog f #[j.v] w fun e w' => e = .returned (.bool (p j)) ∧ Below w.heap.size w w')
    (HF : ∀ (args : Array Value) (w : World), Sem.run Try.prog (callFunc f args) w = .ok (.enter f args) w)
    (a : Option Addr) (c : Nat) (l : List Qst) (w : World) (h : Sl w Qst.c 7 (.slice a l.length c) l) (hl : l.length ≤ 100000) :
    Calls Try.prog 26 #[.slice a l.length c, .func (.func f) #[] #[]] w fun e w' => e = .returned (.int .i64 (idxP p l)) ∧ Below w.heap.size w w' := by
  have HH := Lib.hid H
  have HS := Lib.hid h
  clear H h
  go_enter Try.func26, Try.ntmps26
  go_wp2_with fail
  go_loopg [8] l.length (fun n vk wr => ∃ k : Nat, n = l.length - k ∧ k ≤ l.length ∧ vk = .int .i64 (k : Int) ∧ (∀ x ∈ l.take k, p x = false) ∧ Below w.heap.size w wr)
  case atStart => exact ⟨0, rfl, Nat.zero_le _, rfl, by simp, Below.refl _ _⟩
  case round =>
    obtain ⟨k, hg, hk, rfl, hno, hb⟩ := hrel
    have G := Lib.hid hg
    have HN := Lib.hid hno
    have HB := Lib.hid hb
    clear hg hno hb
    by_cases hlt : k < l.length
    · have h1 : (k : Int) < (l.length : Int) := by omega
      have h1' : (l.length : Int) ≤ 100000 := by omega
      obtain ⟨b, o, rfl, hja⟩ := HS.out.ask k hlt
      have hdr := idxP_drop p l k hk HN.out
      have hsn : ∀ x ∈ l.take (k + 1), x ∈ l.take k ∨ x = l[k] := by
        intro x hx
        rw [List.take_add_one, List.getElem?_eq_getElem hlt] at hx
        rcases List.mem_append.1 hx with hx | hx
        · exact .inl hx
        · exact .inr (by simpa using hx)
      rw [List.drop_eq_getElem_cons hlt] at hdr
      generalize l[k] = J at *
      have HD := Lib.hid hdr
      have HSN := Lib.hid hsn
      clear hdr hsn
      have hca := fun w => HH.out J w
      obtain ⟨q0, q1, q2, q3, q4, q5, q6⟩ := J
      obtain ⟨c0, c1, c2, c3, c4, c5, c6⟩ := hja.below HB.out
      simp only at c0 c1 c2 c3 c4 c5 c6
      have HCA : Hid (∀ w, Calls Try.prog f #[.agg #[.int .i64 q0, .int .i64 q1, .int .i64 q2, .string q3, .int .i64 q4, .int .i64 q5, .string q6]] w fun e w' => e = .returned (.bool (p ⟨q0, q1, q2, q3, q4, q5, q6⟩)) ∧ Below w.heap.size w w') := Lib.hid hca
      clear hca
      obtain ⟨B, hB⟩ : ∃ B, p ⟨q0, q1, q2, q3, q4, q5, q6⟩ = B := ⟨_, rfl⟩
      rw [hB] at HCA
      have HPB := Lib.hid hB
      clear hB
      go_wp2_with fail
      refine (HCA.out _).mono ?_
      rintro e w2 ⟨rfl, hb2⟩
      have B2 : Hid (Below w.heap.size w w2) := Lib.hid (HB.out.trans (Below.le hb2 HB.out.size))
      clear hb2 c0 c1 c2 c3 c4 c5 c6 hja
      cases B with
      | true =>
        go_wp2_with fail
        go_ret
        refine ⟨?_, B2.out⟩
        rw [HD.out]
        unfold idxP
        rw [HPB.out]
        simp
      | false =>
        go_wp2_with fail
        go_roundg (l.length - (k + 1))
        case measure => rw [G.out]; omega
        case rel =>
          refine ⟨k + 1, rfl, by omega, by simp, ?_, B2.out⟩
          intro x hx
          rcases HSN.out x hx with h | h
          · exact HN.out x h
          · rw [h]; exact HPB.out
    · have hke : k = l.length := by omega
      have hdr := idxP_drop p l k hk HN.out
      rw [hke, List.drop_length] at hdr
      have HD := Lib.hid hdr
      clear hdr
      go_wp2_with fail
      go_ret
      exact ⟨by rw [HD.out]; rfl, HB.out⟩
set_option maxRecDepth 100000 in
set_option maxHeartbeats 2000000 in
theorem anyQ_any (f : Nat) (p : Qst → Bool) (H : ∀ (j : Qst) (w : World), Calls Try.prog f #[j.v] w fun e w' => e = .returned (.bool (p j)) ∧ Below w.heap.size w w')
    (HF : ∀ (args : Array Value) (w : World), Sem.run Try.prog (callFunc f args) w = .ok (.enter f args) w)
    (a : Option Addr) (c : Nat) (l : List Qst) (w : World) (h : Sl w Qst.c 7 (.slice a l.length c) l) (hl : l.length ≤ 100000) :
    Calls Try.prog 11 #[.slice a l.length c, .func (.func f) #[] #[]] w fun e w' => e = .returned (.bool (l.any p)) ∧ Below w.heap.size w w' := by
  have HX := Lib.hid (idxQ_any f p H HF a c l w h hl)
  have HA := Lib.hid (idxP_any p l)
  clear H HF h
  go_enter Try.func11, Try.ntmps11
  go_wp2_with fail
  refine HX.out.mono ?_
  rintro e w2 ⟨rfl, hb2⟩
  go_wp2_with fail
  go_ret
  exact ⟨by rw [← HA.out]; rfl, hb2⟩
theorem call12 (args : Array Value) (w : World) : Sem.run Try.prog (callFunc 12 args) w = .ok (.enter 12 args) w := by go_simp
set_option maxRecDepth 100000 in
set_option maxHeartbeats 2000000 in
theorem isEvery (a : Qst) (w : World) : Calls Try.prog 12 #[a.v] w fun e w' => e = .returned (.bool (a.do_ == 4)) ∧ Below w.heap.size w w' := by
  obtain ⟨q0, q1, q2, q3, q4, q5, q6⟩ := a
  show Calls Try.prog 12 #[.agg #[.int .i64 q0, .int .i64 q1, .int .i64 q2, .string q3, .int .i64 q4, .int .i64 q5, .string q6]] w _
  go_enter Try.func12, Try.ntmps12
  go_wp2_with fail
  go_ret
  exact ⟨rfl, (Below.refl _ _).alloc (Nat.le_refl _) _⟩
/-- What holds at the head of LoopOnce's loop. -/
structure MX (w0 wr : World) (seen : List Int) (D : DataW Unit) : Prop where
  map : wr.ownsMap Try.prog 3 (plainElem Try.prog 3) w0.heap.size seen.length D
  at_ : ∀ x, (Lit.int .i64 x).wf = true → D.atKey (.int .i64 x) (.lit (.int .i64 0)) = .lit (.int .i64 (if seen.contains x then 1 else 0))
  bl : Below w0.heap.size w0 wr
theorem MX.put {w0 wr w' : World} {seen : List Int} {D : DataW Unit} (h : MX w0 wr seen D) (x : Int) (hm : w'.ownsMap Try.prog 3 (plainElem Try.prog 3) w0.heap.size (seen.length + 1) (D.put (.int .i64 x) (.lit (.int .i64 1)))) (hg : wr.grownBy w' (some w0.heap.size)) :
    MX w0 w' (seen ++ [x]) (D.put (.int .i64 x) (.lit (.int .i64 1))) where
  map := by rw [List.length_append]; exact hm
  at_ y hy := by
    by_cases e : y = x
    · subst e
      rw [atKey_put_same h.map.isMap (show WideAt.IsKeyLit (.int .i64 y) from trivial), if_pos (by simp)]
    · rw [atKey_put_other (by intro e2; injection e2 with _ e2; exact e e2), h.at_ y hy]
      congr 2
      simp [e]
  bl := h.bl.grown hg h.bl.size (fun k hk => by cases hk; exact Nat.le_refl _)
theorem MX.alloc {w0 wr : World} {seen : List Int} {D : DataW Unit} (h : MX w0 wr seen D) (o : Obj) : MX w0 (wr.alloc o) seen D := ⟨h.map.alloc o, h.at_, h.bl.alloc h.bl.size o⟩
def OR (w0 : World) (ids : List Int) (n : Nat) (vk : Value) (wr : World) : Prop := ∃ (k : Nat) (D : DataW Unit), n = ids.length - k ∧ k ≤ ids.length ∧ vk = .int .i64 (k : Int) ∧ MX w0 wr (ids.take k) D
set_option maxRecDepth 100000 in
set_option maxHeartbeats 8000000 in
theorem once_any (asks : List Qst) (qa : Option Addr) (qc : Nat) (w : World) (h : Sl w Qst.c 7 (.slice qa asks.length qc) asks) :
    Calls Try.prog 3 #[.slice qa asks.length qc] w fun e w' => e = .returned (.bool true) ∧ Below w.heap.size w w' := by
  have HT := Lib.hid h
  have hpl := play_any asks qa qc w h
  obtain ⟨p1, p2, p3⟩ := once_plain asks
  have hlen : (play asks).2.2 = 0 → asks.length ≤ 200 := by
    unfold play
    split
    · intro h; cases h
    · intro _; omega
  clear h
  go_enter Try.func3, Try.ntmps3
  go_wp2_with fail
  obtain ⟨r, hr⟩ : ∃ r, play asks = r := ⟨_, rfl⟩
  rw [hr] at p1 p2 p3 hlen hpl
  clear hr
  obtain ⟨out, ⟨n1, x1, ts1, ss1, ms1⟩, er⟩ := r
  have HP1 := Lib.hid p1
  have HP2 := Lib.hid p2
  have HLEN := Lib.hid hlen
  have ho300 : out.length ≤ 300 := p3
  clear p1 p2 p3 hlen
  refine hpl.mono ?_
  clear hpl
  rintro e w5 ⟨vo, vt, vs, vm, rfl, hrow, ho, hb⟩
  obtain ⟨oa, oc, rfl⟩ := own_shape hrow
  obtain ⟨ta1, sa1, ma1, tc1, sc1, mc1, rfl, rfl, rfl⟩ := ho.shape
  have HRW := Lib.hid hrow
  have HOW := Lib.hid ho
  have HBW := Lib.hid hb
  clear hrow ho hb
  simp only [Lp.v]
  go_upto_region 2 with fail
  obtain ⟨P, hP⟩ : ∃ P, w5.heap.size = P := ⟨_, rfl⟩
  rw [hP]
  refine code_gen (Φ := fun wy => Hid (Y1 w wy P ⟨n1, x1, ts1, ss1, ms1⟩ (.slice ta1 ts1.length tc1) (.slice sa1 ss1.length sc1) (.slice ma1 ms1.length mc1) out (.slice oa out.length oc))) (Lib.hid (Y1.made (Below.refl _ _) HBW.out HRW.out HOW.out hP)) ?_
  intro w6 S0
  clear hP HRW HOW HBW
  go_wp2_with fail
  refine (lives_any w6).mono ?_
  rintro e w7 ⟨rfl, hb⟩
  have S := Lib.hid (S0.out.call hb)
  clear S0 hb
  by_cases he : er = 0
  · subst he
    have hl200 := HLEN.out rfl
    clear HLEN HP1
    go_wp2_with fail
    have hany := anyQ_any 12 (fun a => a.do_ == 4) isEvery call12 qa qc asks w7 (HT.out.below S.out.b) (by omega)
    obtain ⟨ev, hev⟩ : ∃ ev, asks.any (fun a => a.do_ == 4) = ev := ⟨_, rfl⟩
    rw [hev] at hany HP2
    clear hev
    refine hany.mono ?_
    clear hany
    rintro e w8 ⟨rfl, hb⟩
    have S2 := Lib.hid (S.out.call hb)
    clear S hb
    have hmm := @run_makeMap Try.prog
    go_upto_region 6 with fail
    clear hmm
    refine code_gen (Φ := fun wy => Hid (MX w8 wy [] (.map []))) (Lib.hid ⟨World.ownsMap_made _ _ _ _, fun x _ => rfl, (Below.refl _ _).alloc (Nat.le_refl _) _⟩) ?_
    intro w9 X0
    have hids : (out.map Job.id).length = out.length := List.length_map _
    have HIDS := Lib.hid hids
    clear hids
    go_wp2_with fail
    go_loopg [33] out.length (fun n vk wr => OR w8 (out.map Job.id) n vk wr)
    case atStart => exact ⟨0, _, by rw [HIDS.out]; rfl, Nat.zero_le _, rfl, X0.out⟩
    case round =>
      clear X0
      obtain ⟨k, D, hg, hk, rfl, hx⟩ := hrel
      rw [HIDS.out] at hg hk
      have G := Lib.hid hg
      have X := Lib.hid hx
      clear hg hx
      by_cases hlt : k < out.length
      · have h1' : (k : Int) < (out.length : Int) := by omega
        have ho3 : (out.length : Int) ≤ 300 := by omega
        obtain ⟨b, o, rfl, hq⟩ := S2.out.o.job k hlt
        have hq2 := hq.below X.out.bl
        obtain ⟨i1, i2, i3⟩ := HP2.out k hlt
        have HTK := Lib.hid (show (out.map Job.id).take (k + 1) = (out.map Job.id).take k ++ [out[k].id] by rw [List.take_add_one, List.getElem?_eq_getElem (by rw [HIDS.out]; exact hlt), List.getElem_map]; rfl)
        have HMT := Lib.hid (show (out.map Job.id).take k = (out.take k).map Job.id by rw [List.map_take])
        generalize out[k] = JJ at *
        obtain ⟨id, src, small, call, ak, an, as1⟩ := JJ
        obtain ⟨c0, c1, c2, c3, c4, c5, c6⟩ := hq2
        simp only at c0 c1 c2 c3 c4 c5 c6 i1 i2 i3
        have HI3 := Lib.hid i3
        clear i3 hq
        obtain ⟨A, hA⟩ : ∃ A, wr.heap.size = A := ⟨_, rfl⟩
        have HAA := Lib.hid hA
        go_upto_region 9 with fail
        clear hA
        refine code_gen (Φ := fun wy => Hid (MX w8 wy ((out.map Job.id).take k) D) ∧ Hid (wy.heap[A]? = some (.cells #[.int .i64 id, .int .i64 src, .bool small, .string call, .int .i64 ak, .int .i64 an, .string as1] 39))) ⟨Lib.hid (X.out.alloc _), Lib.hid (alloc_at HAA.out _)⟩ ?_
        rintro w10 ⟨Z, ZA⟩
        clear X HAA c0 c1 c2 c3 c4 c5 c6
        obtain ⟨c0, c1, c2, c3, c4, c5, c6⟩ := cells7 ZA.out
        have hwf : (Lit.int .i64 id).wf = true := WalkArith.wf_i64 ⟨by omega, by omega⟩
        obtain ⟨c, hrun, hat, _⟩ := Z.out.map.lookup_int law3 Try.underlying37 Try.underlying3 (zero3 _) (keyOf_int_mk Try.underlying3 hwf)
        rw [Z.out.at_ id hwf] at hat
        have HWF := Lib.hid hwf
        have htl : ((out.map Job.id).take k).length = k := by rw [List.length_take, HIDS.out]; omega
        have HTL := Lib.hid htl
        cases hse : ((out.map Job.id).take k).contains id with
        | true =>
          rw [hse] at hat
          have hc1 : c = 1 := by injection hat with hat; injection hat with _ hat; exact hat.symm
          subst hc1
          obtain ⟨e1, e2⟩ := HI3.out (by rw [← HMT.out]; exact hse)
          subst e1 e2
          clear hse hat hwf htl
          go_wp2_with (first | (at_mapUpdate; refine wpList_mapUpdate_own _ rfl _ _ _ 37 rfl 3 3 law3 Try.underlying37 _ w8.heap.size _ D rfl Z.out.map (by unfold maxLen; rw [HTL.out]; omega) _ _ _ rfl rfl (keyOf_int_mk Try.underlying3 HWF.out) (.lit (.int .i64 1)) [] (plainElem_int Try.underlying3 (by decide)) ?_))
          intro w4 hm4 hg4
          have X4 := Lib.hid (Z.out.put id (by rw [HTL.out]; exact hm4) hg4)
          clear hm4 hg4 hrun c0 c1 c2 c3 c4 c5 c6
          go_wp2_with fail
          go_roundg (out.length - (k + 1))
          case measure => rw [G.out]; omega
          case rel => exact ⟨k + 1, _, by rw [HIDS.out], by rw [HIDS.out]; omega, by simp, by rw [HTK.out]; exact X4.out⟩
        | false =>
          rw [hse] at hat
          have hc1 : c = 0 := by injection hat with hat; injection hat with _ hat; exact hat.symm
          subst hc1
          clear hse hat hwf htl
          go_wp2_with (first | (at_mapUpdate; refine wpList_mapUpdate_own _ rfl _ _ _ 37 rfl 3 3 law3 Try.underlying37 _ w8.heap.size _ D rfl Z.out.map (by unfold maxLen; rw [HTL.out]; omega) _ _ _ rfl rfl (keyOf_int_mk Try.underlying3 HWF.out) (.lit (.int .i64 1)) [] (plainElem_int Try.underlying3 (by decide)) ?_))
          intro w4 hm4 hg4
          have X4 := Lib.hid (Z.out.put id (by rw [HTL.out]; exact hm4) hg4)
          clear hm4 hg4 hrun c0 c1 c2 c3 c4 c5 c6
          go_wp2_with fail
          go_roundg (out.length - (k + 1))
          case measure => rw [G.out]; omega
          case rel => exact ⟨k + 1, _, by rw [HIDS.out], by rw [HIDS.out]; omega, by simp, by rw [HTK.out]; exact X4.out⟩
      · have hke : k = out.length := by omega
        have HB := Lib.hid (S2.out.b.trans (Below.le X.out.bl S2.out.b.size))
        subst hke
        go_wp2_with fail
        go_ret
        exact ⟨rfl, HB.out⟩
  · have he1 : (er == 0) = false := by simpa using he
    have he2 : (er != 0) = true := by simpa using he
    have ho0 := HP1.out he
    subst ho0
    clear HP1 HP2 HLEN
    go_wp2_with fail
    refine (lives_any w7).mono ?_
    rintro e w8 ⟨rfl, hb⟩
    have T := Lib.hid (S.out.call hb).b
    clear hb S
    go_wp2_with fail
    go_ret
    exact ⟨rfl, T.out⟩
end Go.Proofs.Ytpmklganodlciaa
