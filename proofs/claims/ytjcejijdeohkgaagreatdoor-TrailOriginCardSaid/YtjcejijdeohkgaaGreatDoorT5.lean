/- The contract of trail.docs. -/
import Derived.Test.YtjcejijdeohkgaaGreatDoorT4
import Derived.Maps.Own
import Derived.Maps.OwnOps
import Derived.Maps.Views
namespace Go.Proofs.YtjcejijdeohkgaaGreatDoor
open Go.RowKit Go.Maps

theorem law3 : Keyed Tryz.prog 3 := int_keyed Tryz.underlying3
theorem zero3 (w : World) : (zeroValue 3).run Tryz.prog w = .ok (.int .i64 0) w := by kernel_rfl
/-- What holds where a map of numbers is filled. -/
structure MX (w0 wr : World) (seen : List Int) (D : DataW Unit) : Prop where
  map : wr.ownsMap Tryz.prog 3 (plainElem Tryz.prog 3) w0.heap.size seen.length D
  at_ : ∀ x, (Lit.int .i64 x).wf = true → D.atKey (.int .i64 x) (.lit (.int .i64 0)) = .lit (.int .i64 (if seen.contains x then 1 else 0))
  bl : Below w0.heap.size w0 wr
theorem MX.put {w0 wr w' : World} {seen : List Int} {D : DataW Unit} (h : MX w0 wr seen D) (x : Int) (hm : w'.ownsMap Tryz.prog 3 (plainElem Tryz.prog 3) w0.heap.size (seen.length + 1) (D.put (.int .i64 x) (.lit (.int .i64 1)))) (hg : wr.grownBy w' (some w0.heap.size)) :
    MX w0 w' (x :: seen) (D.put (.int .i64 x) (.lit (.int .i64 1))) where
  map := hm
  at_ y hy := by
    by_cases e : y = x
    · subst e
      rw [atKey_put_same h.map.isMap (show WideAt.IsKeyLit (.int .i64 y) from trivial), if_pos (by simp)]
    · rw [atKey_put_other (by intro e2; injection e2 with _ e2; exact e e2), h.at_ y hy]
      congr 2
      simp [e]
  bl := h.bl.grown hg h.bl.size (fun k hk => by cases hk; exact Nat.le_refl _)
theorem MX.alloc {w0 wr : World} {seen : List Int} {D : DataW Unit} (h : MX w0 wr seen D) (o : Obj) : MX w0 (wr.alloc o) seen D := ⟨h.map.alloc o, h.at_, h.bl.alloc h.bl.size o⟩
theorem MX.call {w0 wr w' : World} {seen : List Int} {D : DataW Unit} (h : MX w0 wr seen D) (hb : Below wr.heap.size wr w') : MX w0 w' seen D :=
  ⟨h.map.kept (row := none) ⟨hb.os, hb.tape, hb.output, hb.size, fun k hk _ => hb.block k hk⟩ (by simp), h.at_, h.bl.trans (Below.le hb h.bl.size)⟩
/-- The map, and the entry's block. -/
structure DX (w wy : World) (seen : List Int) (D : DataW Unit) (B : Nat) (o : Obj) : Prop where
  m : MX w wy seen D
  b : wy.heap[B]? = some o
theorem DX.call {w wy w' : World} {seen : List Int} {D : DataW Unit} {B : Nat} {o : Obj} (h : DX w wy seen D B o) (hb : Below wy.heap.size wy w') : DX w w' seen D B o := ⟨h.m.call hb, (hb.block _ (lt_of_heap h.b)).trans h.b⟩
theorem DX.drew {w wy : World} {seen : List Int} {D : DataW Unit} {B : Nat} {o : Obj} (h : DX w wy seen D B o) : DX w wy.drew seen D B o := h.call ⟨rfl, rfl, rfl, Nat.le_refl _, fun _ _ => rfl⟩
theorem DX.drewN {w wy : World} {seen : List Int} {D : DataW Unit} {B : Nat} {o : Obj} (h : DX w wy seen D B o) (n : Nat) : DX w (wy.drewN n) seen D B o := h.call ⟨rfl, rfl, rfl, Nat.le_refl _, fun _ _ => rfl⟩
theorem doc_wf {x : Int} (h0 : 0 ≤ x) (h1 : x ≤ 1000000) : (Lit.int .i64 x).wf = true := by
  simp only [Lit.wf, Bool.and_eq_true, decide_eq_true_eq]
  have e1 : IntKind.i64.min = -9223372036854775808 := rfl
  have e2 : IntKind.i64.max = 9223372036854775807 := rfl
  omega
def prevP (l : List En) (k : Nat) : Option (Int × Bs) := if k = 0 then none else (l[k - 1]?).map fun e => (e.doc, orgT e.url)
theorem prev_succ (l : List En) (j : Nat) (h : j < l.length) : prevP l (j + 1) = some (l[j].doc, orgT l[j].url) := by
  unfold prevP
  rw [if_neg (by omega), Nat.add_sub_cancel, List.getElem?_eq_getElem h]
  rfl
theorem docs_cons (p : Option (Int × Bs)) (seen : List Int) (e : Int × Bs) (r : List (Int × Bs)) : docsF p seen (e :: r) = if e.1 < 0 ∨ 1000000 < e.1 then false
    else if p.map Prod.fst = some e.1 then (decide (p.map Prod.snd = some e.2) && docsF (some e) seen r)
    else (!seen.contains e.1 && docsF (some e) (e.1 :: seen) r) := by rw [docsF]
theorem pairs_get (l : List En) (k : Nat) (h : k < (pairs l).length) (h' : k < l.length) : (pairs l)[k] = (l[k].doc, orgT l[k].url) := by simp only [pairs, List.getElem_map]
theorem call111 (args : Array Value) (w : World) : Sem.run Tryz.prog (callFunc 111 args) w = .ok (.enter 111 args) w := by go_simp
theorem call84 (args : Array Value) (w : World) : Sem.run Tryz.prog (callFunc 84 args) w = .ok (.enter 84 args) w := by go_simp
set_option maxRecDepth 100000 in
set_option maxHeartbeats 16000000 in
theorem docs_any (a : Option Addr) (c : Nat) (l : List En) (w : World) (h : SlR w EnB 3 (.slice a l.length c) l) (hl : l.length ≤ 50) (hT : TB w) : Calls Tryz.prog 84 #[.slice a l.length c] w fun e w' => e = .returned (.bool (docsT l)) ∧ Below w.heap.size w w' := by
  have p111 := call111
  have HS := Lib.hid h
  have HTB := Lib.hid hT
  have HLL := Lib.hid hl
  have hli : (l.length : Int) ≤ 50 := by omega
  obtain ⟨R, hR⟩ : ∃ R, docsT l = R := ⟨_, rfl⟩
  rw [hR]
  have HR0 := Lib.hid (show docsF (prevP l 0) [] ((pairs l).drop 0) = R from hR)
  clear h hT hl hR
  have hmm := @run_makeMap Tryz.prog
  go_enter Tryz.func84, Tryz.ntmps84
  go_upto_region 2 with fail
  clear hmm
  refine code_gen (Φ := fun wy => Hid (MX w wy [] (.map []))) (Lib.hid ⟨World.ownsMap_made _ _ _ _, fun x _ => rfl, (Below.refl _ _).alloc (Nat.le_refl _) _⟩) ?_
  intro w5 X0
  go_upto_region 3 with fail
  go_loopg [9] l.length (fun g v9 wr => ∃ (k : Nat) (seen : List Int) (D : DataW Unit), g = l.length - k ∧ k ≤ l.length ∧ v9 = .int .i64 (k : Int) ∧ seen.length ≤ k ∧ docsF (prevP l k) seen ((pairs l).drop k) = R ∧ MX w wr seen D)
  case atStart => exact ⟨0, [], _, rfl, Nat.zero_le _, rfl, Nat.zero_le _, HR0.out, X0.out⟩
  case round =>
    clear HR0 X0
    obtain ⟨k, seen, D, hg, hk, rfl, hse, hr, hx⟩ := hrel
    have G := Lib.hid hg
    have HR := Lib.hid hr
    have X := Lib.hid hx
    have HSE := Lib.hid hse
    clear hg hr hx hse
    by_cases hlt : k < l.length
    · have hki : (k : Int) < (l.length : Int) := by omega
      have hkp : k < (pairs l).length := by unfold pairs; rw [List.length_map]; exact hlt
      have hpk := pairs_get l k hkp hlt
      have hrr := HR.out
      rw [List.drop_eq_getElem_cons hkp, hpk, docs_cons] at hrr
      have HR2 := Lib.hid hrr
      have HNX := Lib.hid (prev_succ l k hlt)
      clear hkp hpk hrr HR
      obtain ⟨b, o, rfl, he⟩ := HS.out.item k hlt
      have HPJ := Lib.hid (fun (j : Nat) (hj : k = j + 1) => prev_succ l j (by omega))
      have HIJ := Lib.hid (fun (j : Nat) (hj : k = j + 1) => HS.out.item j (by omega))
      obtain ⟨E, hE⟩ : ∃ E, l[k] = E := ⟨_, rfl⟩
      rw [hE] at he HR2 HNX
      clear hE
      obtain ⟨c0, c1, c2⟩ := he.below X.out.bl
      obtain ⟨B, hB⟩ : ∃ B, wr.heap.size = B := ⟨_, rfl⟩
      go_upto_region 5 with fail
      refine code_gen (Φ := fun wy => Hid (DX w wy seen D B (.cells #[.string (bs E.url), .string (bs E.state), .int .i64 E.doc] 67 (0, 0)))) (Lib.hid ⟨X.out.alloc _, alloc_at hB _⟩) ?_
      intro w6 Z
      clear c0 c1 c2 hB X he
      obtain ⟨c0, c1, c2⟩ := cells3 Z.out.b
      by_cases hb1 : E.doc < 0
      · have hr : R = false := by rw [← HR2.out, if_pos (.inl hb1)]
        subst hr
        go_wp2_with fail
        go_ret
        exact ⟨rfl, Z.out.m.bl⟩
      by_cases hb2 : 1000000 < E.doc
      · have hr : R = false := by rw [← HR2.out, if_pos (.inr hb2)]
        subst hr
        go_wp2_with fail
        go_ret
        exact ⟨rfl, Z.out.m.bl⟩
      have HR3 := Lib.hid HR2.out
      rw [if_neg (by rw [not_or]; exact ⟨hb1, hb2⟩)] at HR3
      have HWF := Lib.hid (doc_wf (x := E.doc) (by omega) (by omega))
      clear HR2
      rcases Nat.eq_zero_or_pos k with h0 | h0
      · subst h0
        have HR4 := Lib.hid (show (!seen.contains E.doc && docsF (some (E.doc, orgT E.url)) (E.doc :: seen) ((pairs l).drop (0 + 1))) = R from HR3.out)
        clear HR3 HPJ HIJ
        go_upto_region 7 with fail
        first | go_quiet (fail) | fail
        have Z2 := Lib.hid (Z.out.drewN nq)
        generalize w6.drewN nq = w7 at *
        clear c0 c1 c2 Z
        obtain ⟨c0, c1, c2⟩ := cells3 Z2.out.b
        obtain ⟨cx, hrun, hat, -⟩ := Z2.out.m.map.lookup_int law3 Tryz.underlying148 Tryz.underlying3 (zero3 _) (keyOf_int_mk Tryz.underlying3 HWF.out)
        rw [Z2.out.m.at_ E.doc HWF.out] at hat
        cases hse : seen.contains E.doc with
        | true =>
          rw [hse] at hat HR4
          have hc1 : cx = 1 := by injection hat with hat; injection hat with _ hat; exact hat.symm
          subst hc1
          have hr : R = false := HR4.out.symm
          subst hr
          clear HR4 hse hat
          go_wp2_with fail
          go_ret
          exact ⟨rfl, Z2.out.m.bl⟩
        | false =>
          rw [hse] at hat HR4
          have hc1 : cx = 0 := by injection hat with hat; injection hat with _ hat; exact hat.symm
          subst hc1
          have HR5 := Lib.hid (show docsF (some (E.doc, orgT E.url)) (E.doc :: seen) ((pairs l).drop (0 + 1)) = R from HR4.out)
          clear HR4 hse hat
          go_wp2_with (first | (at_mapUpdate; refine wpList_mapUpdate_own _ rfl _ _ _ 148 rfl 3 3 law3 Tryz.underlying148 _ w.heap.size _ D rfl Z2.out.m.map (by unfold maxLen; have h1 := HSE.out; have h2 := HLL.out; omega) _ _ _ rfl rfl (keyOf_int_mk Tryz.underlying3 HWF.out) (.lit (.int .i64 1)) [] (plainElem_int Tryz.underlying3 (by decide)) ?_))
          intro w8 hm8 hg8
          have X8 := Lib.hid (Z2.out.m.put E.doc hm8 hg8)
          clear hm8 hg8 c0 c1 c2 hrun
          go_wp2_with fail
          go_roundg (l.length - (0 + 1))
          case measure => have := G.out; omega
          case rel => exact ⟨0 + 1, _, _, rfl, by omega, by simp, by have := HSE.out; simp only [List.length_cons]; omega, by rw [HNX.out]; exact HR5.out, X8.out⟩
      · obtain ⟨j, hkj⟩ : ∃ j, k = j + 1 := ⟨k - 1, by omega⟩
        have HR4 := Lib.hid (by have h := HR3.out; rw [hkj, HPJ.out j hkj, ← hkj] at h; exact h)
        obtain ⟨b', o', hbo, hej⟩ := HIJ.out j hkj
        injection hbo with hbo
        injection hbo with hbo1 hbo2
        subst hbo1 hbo2
        have hjl : j < l.length := by omega
        obtain ⟨P, hP⟩ : ∃ P, l[j] = P := ⟨_, rfl⟩
        rw [hP] at hej
        have HR5 := Lib.hid (show (if (some (P.doc, orgT P.url)).map Prod.fst = some (E.doc, orgT E.url).1 then (decide ((some (P.doc, orgT P.url)).map Prod.snd = some (E.doc, orgT E.url).2) && docsF (some (E.doc, orgT E.url)) seen ((pairs l).drop (k + 1))) else (!seen.contains (E.doc, orgT E.url).1 && docsF (some (E.doc, orgT E.url)) ((E.doc, orgT E.url).1 :: seen) ((pairs l).drop (k + 1)))) = R by rw [← hP]; exact HR4.out)
        have HKJ := Lib.hid hkj
        have hw : IntKind.i64.wrap ((k : Int) - 1) = (j : Int) := by rw [IntKind.wrap_i64]; omega
        have hk0 : (0 : Int) < (k : Int) := by omega
        have hji : (j : Int) < (l.length : Int) := by omega
        have HEJ := Lib.hid hej
        clear hP hej hkj HR3 HR4 HPJ HIJ
        obtain ⟨x0, x1, x2⟩ := HEJ.out.below Z.out.m.bl
        go_upto_region 7 with fail
        first | go_quiet (fail) | fail
        have Z2 := Lib.hid (Z.out.drewN nq)
        generalize w6.drewN nq = w7 at *
        clear c0 c1 c2 x0 x1 x2 Z
        obtain ⟨c0, c1, c2⟩ := cells3 Z2.out.b
        by_cases hd : P.doc = E.doc
        · have hdb : (P.doc == E.doc) = true := by simpa using hd
          have HR6 := Lib.hid (by have h := HR5.out; rw [if_pos (by simp [hd])] at h; exact h)
          obtain ⟨x0, x1, x2⟩ := HEJ.out.below Z2.out.m.bl
          have HOP := Lib.hid (fun w9 hT9 => orgT_any P.url w9 hT9)
          have HOE := Lib.hid (fun w9 hT9 => orgT_any E.url w9 hT9)
          generalize orgT P.url = OP at *
          generalize orgT E.url = OE at *
          have ZC := Z2
          clear Z2 hd HR5
          by_cases ho : OP = OE
          · subst ho
            have HR7 := Lib.hid (show docsF (some (E.doc, OP)) seen ((pairs l).drop (k + 1)) = R by have h := HR6.out; rw [show decide ((some (P.doc, OP)).map Prod.snd = some (E.doc, OP).2) = true by simp, Bool.true_and] at h; exact h)
            clear HR6
            go_upto_region 8 with fail
            go_region_with (go_at_call 111; refine calls_gen (Φ := fun wy => Hid (DX w wy seen D B (.cells #[.string (bs E.url), .string (bs E.state), .int .i64 E.doc] 67 (0, 0)))) (by first | exact ZC | exact Lib.hid ZC.out.drew | exact Lib.hid (ZC.out.drewN 1)) ?_; clear ZC c0 c1 c2 x0 x1 x2; rintro w8 Z8; (first | (with_reducible refine (HOP.out _ (HTB.out.below Z8.out.m.bl)).mono ?_) | (with_reducible refine (HOE.out _ (HTB.out.below Z8.out.m.bl)).mono ?_)); rintro e w9 ⟨rfl, hb9⟩; have ZC := Lib.hid (Z8.out.call hb9); clear hb9 Z8; obtain ⟨c0, c1, c2⟩ := cells3 ZC.out.b; obtain ⟨x0, x1, x2⟩ := HEJ.out.below ZC.out.m.bl)
            all_goals
              go_wp2_with fail
              go_roundg (l.length - (k + 1))
              case measure => have := G.out; omega
              case rel => exact ⟨k + 1, seen, D, rfl, by omega, by simp, Nat.le_succ_of_le HSE.out, by rw [HNX.out]; exact HR7.out, by first | exact ZC.out.m | exact ZC.out.drew.m⟩
          · have hob := bs_neq ho
            have hr : R = false := by rw [← HR6.out, show decide ((some (P.doc, OP)).map Prod.snd = some (E.doc, OE).2) = false by simp [ho]]; rfl
            subst hr
            clear HR6 ho
            go_upto_region 8 with fail
            go_region_with (go_at_call 111; refine calls_gen (Φ := fun wy => Hid (DX w wy seen D B (.cells #[.string (bs E.url), .string (bs E.state), .int .i64 E.doc] 67 (0, 0)))) (by first | exact ZC | exact Lib.hid ZC.out.drew | exact Lib.hid (ZC.out.drewN 1)) ?_; clear ZC c0 c1 c2 x0 x1 x2; rintro w8 Z8; (first | (with_reducible refine (HOP.out _ (HTB.out.below Z8.out.m.bl)).mono ?_) | (with_reducible refine (HOE.out _ (HTB.out.below Z8.out.m.bl)).mono ?_)); rintro e w9 ⟨rfl, hb9⟩; have ZC := Lib.hid (Z8.out.call hb9); clear hb9 Z8; obtain ⟨c0, c1, c2⟩ := cells3 ZC.out.b; obtain ⟨x0, x1, x2⟩ := HEJ.out.below ZC.out.m.bl)
            all_goals
              go_wp2_with fail
              go_ret
              exact ⟨rfl, by first | exact ZC.out.m.bl | exact ZC.out.drew.m.bl⟩
        · have hdb : (P.doc == E.doc) = false := by simpa using hd
          have HR4 := Lib.hid (show (!seen.contains E.doc && docsF (some (E.doc, orgT E.url)) (E.doc :: seen) ((pairs l).drop (k + 1))) = R by have h := HR5.out; rw [if_neg (by simp [hd])] at h; exact h)
          clear HR5 hd
          obtain ⟨cx, hrun, hat, -⟩ := Z2.out.m.map.lookup_int law3 Tryz.underlying148 Tryz.underlying3 (zero3 _) (keyOf_int_mk Tryz.underlying3 HWF.out)
          rw [Z2.out.m.at_ E.doc HWF.out] at hat
          cases hse : seen.contains E.doc with
          | true =>
            rw [hse] at hat HR4
            have hc1 : cx = 1 := by injection hat with hat; injection hat with _ hat; exact hat.symm
            subst hc1
            have hr : R = false := HR4.out.symm
            subst hr
            clear HR4 hse hat
            go_wp2_with fail
            go_ret
            exact ⟨rfl, Z2.out.m.bl⟩
          | false =>
            rw [hse] at hat HR4
            have hc1 : cx = 0 := by injection hat with hat; injection hat with _ hat; exact hat.symm
            subst hc1
            have HR5 := Lib.hid (show docsF (some (E.doc, orgT E.url)) (E.doc :: seen) ((pairs l).drop (k + 1)) = R from HR4.out)
            clear HR4 hse hat
            go_wp2_with (first | (at_mapUpdate; refine wpList_mapUpdate_own _ rfl _ _ _ 148 rfl 3 3 law3 Tryz.underlying148 _ w.heap.size _ D rfl Z2.out.m.map (by unfold maxLen; have h1 := HSE.out; have h2 := HLL.out; omega) _ _ _ rfl rfl (keyOf_int_mk Tryz.underlying3 HWF.out) (.lit (.int .i64 1)) [] (plainElem_int Tryz.underlying3 (by decide)) ?_))
            intro w8 hm8 hg8
            have X8 := Lib.hid (Z2.out.m.put E.doc hm8 hg8)
            clear hm8 hg8 c0 c1 c2 hrun
            go_wp2_with fail
            go_roundg (l.length - (k + 1))
            case measure => have := G.out; omega
            case rel => exact ⟨k + 1, _, _, rfl, by omega, by simp, by have := HSE.out; simp only [List.length_cons]; omega, by rw [HNX.out]; exact HR5.out, X8.out⟩
    · have hke := Lib.hid (show k = l.length by omega)
      have hr := HR.out
      rw [hke.out, show (pairs l).drop l.length = [] by unfold pairs; rw [List.drop_eq_nil_iff]; simp] at hr
      have hr2 : R = true := by rw [← hr]; rfl
      subst hr2
      clear hr HR
      go_wp2_with fail
      go_ret
      exact ⟨rfl, X.out.bl⟩
end Go.Proofs.YtjcejijdeohkgaaGreatDoor
