/- The contract of trail.Load. -/
import Derived.Test.YtjcejijdeohkgaaGreatDoorT9
namespace Go.Proofs.YtjcejijdeohkgaaGreatDoor
open Go.RowKit

theorem call36 (args : Array Value) (w : World) : Sem.run Tryz.prog (callFunc 36 args) w = .ok (.enter 36 args) w := by go_simp
theorem call26' (args : Array Value) (w : World) : Sem.run Tryz.prog (callFunc 26 args) w = .ok (.enter 26 args) w := by go_simp
theorem call75 (args : Array Value) (w : World) : Sem.run Tryz.prog (callFunc 75 args) w = .ok (.enter 75 args) w := by go_simp
theorem resolved_len (t : Tr) (ref : Bs) : (resolvedT t ref).1.length ≤ 500 := by
  unfold resolvedT
  split
  · exact resR_len _ _
  · exact Nat.zero_le _
theorem fresh_step (m : Int) (l : List En) (k : Nat) (hk : k < l.length) : freshD m (l.drop k) = freshD (max m (l[k].doc + 1)) (l.drop (k + 1)) := by
  rw [List.drop_eq_getElem_cons hk, freshD]
theorem right_docs {t : Tr} (h : Right t) : ∀ x ∈ t.l, 0 ≤ x.doc ∧ x.doc ≤ 1000000 := fun x hx =>
  docs_range _ _ _ h.d (x.doc, orgT x.url) (by unfold pairs; exact List.mem_map.2 ⟨x, hx, rfl⟩)
set_option maxRecDepth 100000 in
set_option maxHeartbeats 16000000 in
theorem load_any (a : Option Addr) (c : Nat) (t : Tr) (ref : Bs) (w : World) (h : SlR w EnB 3 (.slice a t.l.length c) t.l) (hT : TB w) : Calls Tryz.prog 36 #[.agg #[.slice a t.l.length c, .int .i64 t.pos], .string (bs ref)] w fun e w' => ∃ v, e = .returned (.tuple #[.agg #[v, .int .i64 (loadT t ref).1.pos], .int .i64 (loadT t ref).2]) ∧ w'.ownsRow w.heap.size 67 3 v (loadT t ref).1.l.length ((loadT t ref).1.l.flatMap En.c) ∧ Below w.heap.size w w' := by
  have p73 := call73
  have p74 := call74
  have p76 := call76
  have p26 := call26'
  have p75 := call75
  have pfu := field_url
  have pfd := field_doc
  have HS := Lib.hid h
  obtain ⟨q1, q2, q3⟩ := SlR.cap h
  have HRV := Lib.hid (fun (w9 : World) (hb : Below w.heap.size w w9) => resolved_any a c t ref w9 (slE_below h hb) (hT.below hb))
  have HH := Lib.hid (fun (hc : Right t) (w9 : World) (hb : Below w.heap.size w w9) => here_any a c t w9 (slE_below h hb) hc.p)
  have HB := Lib.hid (fun (hc : Right t) (E : En) (w9 : World) (hb : Below w.heap.size w w9) => behind_any a c t E w9 (slE_below h hb) hc)
  have HOK := Lib.hid (fun h0 => (resolved_ok (t := t) (ref := ref) h0).1)
  have HSL := Lib.hid (resolved_len t ref)
  have HUL := Lib.hid (fun (hc : Right t) => (clean_parse (hc.c _ (here_mem hc.p))).choose_spec.2.2.2)
  have HCT : Hid (∀ w9, Calls Tryz.prog 26 #[.string (bs ref), .string ⟨#[35]⟩] w9 fun e w' => e = .returned (.bool (ref.contains 35)) ∧ w' = w9) := Lib.hid (fun w9 => by
    have h := Tryz.strings_Contains_one (bs ref) 35 w9
    rw [bs_list, ib_iff] at h
    exact h)
  obtain ⟨R, hR⟩ : ∃ R, loadT t ref = R := ⟨_, rfl⟩
  rw [hR]
  unfold loadT newDoc at hR
  have HR := Lib.hid hR
  clear h hT hR
  generalize hereE t = HE at *
  generalize resolvedT t ref = RV at *
  obtain ⟨s, er⟩ := RV
  have HBS := Lib.hid (bare_any s)
  have HBU := Lib.hid (bare_any HE.url)
  generalize ref.contains 35 = CT at *
  simp only [En.v] at HH HR HRV HOK HSL
  obtain ⟨l, pos⟩ := t
  simp only at *
  obtain ⟨A, hA⟩ : ∃ A, w.heap.size = A := ⟨_, rfl⟩
  go_enter Tryz.func36, Tryz.ntmps36
  go_upto_region 1 with fail
  refine code_gen (Φ := fun wy => Hid (BX w wy A (.cells #[.slice a l.length c, .int .i64 pos] 60) (.cells #[.slice none 0 0, .int .i64 0] 60))) (Lib.hid (BX.start hA _ _)) ?_
  intro w1 X1
  have HA := Lib.hid (show w.heap.size ≤ A + 1 by omega)
  clear hA
  obtain ⟨c0, c1⟩ := cells2 X1.out.a
  go_wp2_with fail
  refine (HRV.out _ X1.out.bl).mono ?_
  rintro e w2 ⟨rfl, hb2⟩
  have X2 := Lib.hid (X1.out.call hb2)
  clear hb2 X1 c0 c1 HRV
  by_cases h0 : er = 0
  case neg =>
    have heb : (er == 0) = false := by simpa using h0
    have hr := Lib.hid (show R = (zT, er) by rw [← HR.out, if_neg h0])
    clear HR HOK HH HB h0
    obtain ⟨e0, e1⟩ := cells2 X2.out.b
    have f0 := Lib.frozen_of_heap X2.out.b 0
    have f1 := Lib.frozen_of_heap X2.out.b 1
    go_wp2_with fail
    have EB := Lib.hid (set_heap (set_heap X2.out.b 0 (.slice none 0 0) (by simp)) 1 (.int .i64 0) (by simp))
    have XB := Lib.hid ((X2.out.bl.setCell (p := ⟨A + 1, 0, none⟩) HA.out (.slice none 0 0)).setCell (p := ⟨A + 1, 1, none⟩) HA.out (.int .i64 0))
    obtain ⟨g0, g1⟩ := cells2 EB.out
    refine bodyPost_ret (v := .tuple #[.agg #[.slice none 0 0, .int .i64 0], .int .i64 er]) (by simp [results, Tryz.results36, go_sem, g0, g1]) rfl ?_
    rw [hr.out]
    exact ⟨_, rfl, World.ownsRow_nil _ _ _ _, XB.out⟩
  have HRT := Lib.hid (HOK.out h0)
  have HR2 := Lib.hid HR.out
  rw [if_pos h0] at HR2
  subst h0
  clear HR HOK
  have HHE := Lib.hid (HH.out HRT.out)
  have HUL2 : Hid (HE.url.length ≤ 500) := Lib.hid (HUL.out HRT.out)
  have HBH : Hid (∀ (d : Int) (w9 : World), Below w.heap.size w w9 → Calls Tryz.prog 76 #[.agg #[.slice a l.length c, .int .i64 pos], .agg #[.string (bs s), .string ⟨#[]⟩, .int .i64 d]] w9 fun e w' => ∃ v, e = .returned (.agg #[v, .int .i64 (behindT ⟨l, pos⟩ ⟨s, [], d⟩).pos]) ∧ w'.ownsRow w9.heap.size 67 3 v (behindT ⟨l, pos⟩ ⟨s, [], d⟩).l.length ((behindT ⟨l, pos⟩ ⟨s, [], d⟩).l.flatMap En.c) ∧ Below w9.heap.size w9 w') := Lib.hid (fun d w9 hb => HB.out HRT.out ⟨s, [], d⟩ w9 hb)
  have HDR := Lib.hid (right_docs HRT.out)
  have HLN := Lib.hid HRT.out.n
  simp only at HLN
  clear HH HB HUL
  obtain ⟨c0, c1⟩ := cells2 X2.out.a
  go_wp2_with fail
  refine (HHE.out _ X2.out.bl).mono ?_
  rintro e w3 ⟨rfl, hb3⟩
  have X3 := Lib.hid (X2.out.call hb3)
  clear hb3 X2 c0 c1
  obtain ⟨c0, c1⟩ := cells2 X3.out.a
  obtain ⟨NB, hNB⟩ : ∃ NB, decide (CT = false ∨ frontC 35 s ≠ frontC 35 HE.url) = NB := ⟨_, rfl⟩
  have HNB := Lib.hid hNB
  clear hNB
  go_upto_region 5 with fail
  go_cut [35] (fun v35 wx => v35 = .bool NB ∧ Hid (BX w wx A (.cells #[.slice a l.length c, .int .i64 pos] 60) (.cells #[.slice none 0 0, .int .i64 0] 60)))
  case first =>
    clear HR2 HBH
    cases CT with
    | false =>
      have hnb : NB = true := by rw [← HNB.out]; simp
      subst hnb
      go_quiet ((with_reducible exact Calls.quiet_of_same (HCT.out _)))
      all_goals
        go_wp2_with fail
        go_meet
        exact ⟨rfl, Lib.hid (X3.out.drewN _)⟩
    | true =>
      have HB1 := Lib.hid (fun w9 => HBS.out w9 (by have := HSL.out; omega))
      have HB2 := Lib.hid (fun w9 => HBU.out w9 (by have := HUL2.out; omega))
      clear HBS HBU
      generalize frontC 35 s = FS at *
      generalize frontC 35 HE.url = FU at *
      by_cases hf : FS = FU
      · have hnb : NB = false := by rw [← HNB.out]; simp [hf]
        subst hf
        subst hnb
        go_region_law (first
        | (go_simp
           go_at_call 26
           refine (HCT.out _).mono ?_
           rintro e w7 ⟨rfl, rfl⟩)
        | (go_simp
           go_at_call 75
           refine calls_gen (Φ := fun wy => Hid (BX w wy A (.cells #[.slice a l.length c, .int .i64 pos] 60) (.cells #[.slice none 0 0, .int .i64 0] 60))) (by first | exact X3 | exact Lib.hid X3.out.drew) ?_
           clear X3 c0 c1
           rintro w6 X6
           (first | (with_reducible refine (HB1.out _).mono ?_) | (with_reducible refine (HB2.out _).mono ?_))
           rintro e w7 ⟨rfl, hb7⟩
           have X3 := Lib.hid (X6.out.call hb7)
           clear hb7 X6
           obtain ⟨c0, c1⟩ := cells2 X3.out.a)
        | (go_simp
           go_at_call 74
           refine calls_gen (Φ := fun wy => Hid (BX w wy A (.cells #[.slice a l.length c, .int .i64 pos] 60) (.cells #[.slice none 0 0, .int .i64 0] 60))) (by first | exact X3 | exact Lib.hid X3.out.drew) ?_
           clear X3 c0 c1
           rintro w6 X6
           refine (HHE.out _ X6.out.bl).mono ?_
           rintro e w7 ⟨rfl, hb7⟩
           have X3 := Lib.hid (X6.out.call hb7)
           clear hb7 X6
           obtain ⟨c0, c1⟩ := cells2 X3.out.a)
        | (trace_state; fail))
        all_goals
          go_wp2_with fail
          go_meet
          exact ⟨rfl, X3⟩
      · have hfb := bs_neq hf
        have hnb : NB = true := by rw [← HNB.out]; simp [hf]
        subst hnb
        clear hf
        go_region_law (first
        | (go_simp
           go_at_call 26
           refine (HCT.out _).mono ?_
           rintro e w7 ⟨rfl, rfl⟩)
        | (go_simp
           go_at_call 75
           refine calls_gen (Φ := fun wy => Hid (BX w wy A (.cells #[.slice a l.length c, .int .i64 pos] 60) (.cells #[.slice none 0 0, .int .i64 0] 60))) (by first | exact X3 | exact Lib.hid X3.out.drew) ?_
           clear X3 c0 c1
           rintro w6 X6
           (first | (with_reducible refine (HB1.out _).mono ?_) | (with_reducible refine (HB2.out _).mono ?_))
           rintro e w7 ⟨rfl, hb7⟩
           have X3 := Lib.hid (X6.out.call hb7)
           clear hb7 X6
           obtain ⟨c0, c1⟩ := cells2 X3.out.a)
        | (go_simp
           go_at_call 74
           refine calls_gen (Φ := fun wy => Hid (BX w wy A (.cells #[.slice a l.length c, .int .i64 pos] 60) (.cells #[.slice none 0 0, .int .i64 0] 60))) (by first | exact X3 | exact Lib.hid X3.out.drew) ?_
           clear X3 c0 c1
           rintro w6 X6
           refine (HHE.out _ X6.out.bl).mono ?_
           rintro e w7 ⟨rfl, hb7⟩
           have X3 := Lib.hid (X6.out.call hb7)
           clear hb7 X6
           obtain ⟨c0, c1⟩ := cells2 X3.out.a)
        | (trace_state; fail))
        all_goals
          go_wp2_with fail
          go_meet
          exact ⟨rfl, X3⟩
  case rest =>
    obtain ⟨rfl, X5⟩ := hcut
    clear X3 c0 c1 HBS HBU HHE HSL HUL2 HCT
    have HR3 := Lib.hid (show (if 1000000 < (if NB = true then freshD 0 l else HE.doc) then (zT, 2) else (behindT ⟨l, pos⟩ ⟨s, [], if NB = true then freshD 0 l else HE.doc⟩, 0)) = R by
      rw [← HR2.out, ← HNB.out]
      simp only [decide_eq_true_eq])
    clear HR2 HNB
    cases NB with
    | false =>
      have HBIG := Lib.hid (fun (hb : 1000000 < HE.doc) => show R = (zT, 2) by rw [← HR3.out]; exact if_pos hb)
      have HFIT := Lib.hid (fun (hb : ¬ 1000000 < HE.doc) => show R = (behindT ⟨l, pos⟩ ⟨s, [], HE.doc⟩, 0) by rw [← HR3.out]; exact if_neg hb)
      clear HR3
      by_cases hbig : 1000000 < HE.doc
      · have hr := Lib.hid (HBIG.out (by omega))
        clear HBIG HFIT
        obtain ⟨e0, e1⟩ := cells2 X5.out.b
        have f0 := Lib.frozen_of_heap X5.out.b 0
        have f1 := Lib.frozen_of_heap X5.out.b 1
        go_wp2_with fail
        have EB := Lib.hid (set_heap (set_heap X5.out.b 0 (.slice none 0 0) (by simp)) 1 (.int .i64 0) (by simp))
        have XB := Lib.hid ((X5.out.bl.setCell (p := ⟨A + 1, 0, none⟩) HA.out (.slice none 0 0)).setCell (p := ⟨A + 1, 1, none⟩) HA.out (.int .i64 0))
        obtain ⟨g0, g1⟩ := cells2 EB.out
        refine bodyPost_ret (v := .tuple #[.agg #[.slice none 0 0, .int .i64 0], .int .i64 2]) (by simp [results, Tryz.results36, go_sem, g0, g1]) rfl ?_
        rw [hr.out]
        exact ⟨_, rfl, World.ownsRow_nil _ _ _ _, XB.out⟩
      · have HB2 := Lib.hid (HBH.out HE.doc)
        have hr0 := Lib.hid (HFIT.out (by omega))
        clear HBIG HFIT HBH
        obtain ⟨BT, hBT⟩ : ∃ BT, behindT ⟨l, pos⟩ ⟨s, [], HE.doc⟩ = BT := ⟨_, rfl⟩
        rw [hBT] at HB2 hr0
        obtain ⟨bl, bp⟩ := BT
        have hr := Lib.hid (show R = (⟨bl, bp⟩, 0) from hr0.out)
        clear hBT hr0
        simp only at HB2
        obtain ⟨c0, c1⟩ := cells2 X5.out.a
        go_wp2_with fail
        refine (HB2.out _ X5.out.bl).mono ?_
        rintro e w14 ⟨bv, rfl, hbv, hb14⟩
        have X14 := Lib.hid (X5.out.call hb14)
        have O14 := Lib.hid (own_lower hbv X5.out.bl.size)
        clear hb14 hbv c0 c1 HB2
        obtain ⟨ba, bc, rfl⟩ := own_shape O14.out
        obtain ⟨e0, e1⟩ := cells2 X14.out.b
        have f0 := Lib.frozen_of_heap X14.out.b 0
        have f1 := Lib.frozen_of_heap X14.out.b 1
        go_wp2_with fail
        have EB := Lib.hid (set_heap (set_heap X14.out.b 0 (.slice ba bl.length bc) (by simp)) 1 (.int .i64 bp) (by simp))
        have XB := Lib.hid ((X14.out.bl.setCell (p := ⟨A + 1, 0, none⟩) HA.out (.slice ba bl.length bc)).setCell (p := ⟨A + 1, 1, none⟩) HA.out (.int .i64 bp))
        have OB := Lib.hid (O14.out.kept (Lib.grownBy_setB (Lib.grownBy_setB (gr_refl w14 (some (A + 1))) 0 (.slice ba bl.length bc)) 1 (.int .i64 bp)) (.inr (row_block O14.out X14.out.b (by decide))))
        obtain ⟨g0, g1⟩ := cells2 EB.out
        refine bodyPost_ret (v := .tuple #[.agg #[.slice ba bl.length bc, .int .i64 bp], .int .i64 0]) (by simp [results, Tryz.results36, go_sem, g0, g1]) rfl ?_
        rw [hr.out]
        exact ⟨_, rfl, OB.out, XB.out⟩
    | true =>
      obtain ⟨F, hF⟩ : ∃ F, freshD 0 l = F := ⟨_, rfl⟩
      have HBIG := Lib.hid (fun (hb : 1000000 < F) => show R = (zT, 2) by rw [← HR3.out, hF]; exact if_pos hb)
      have HFIT := Lib.hid (fun (hb : ¬ 1000000 < F) => show R = (behindT ⟨l, pos⟩ ⟨s, [], F⟩, 0) by rw [← HR3.out, hF]; exact if_neg hb)
      have HF := Lib.hid (show freshD 0 (l.drop 0) = F from hF)
      clear HR3 hF
      obtain ⟨c0, c1⟩ := cells2 X5.out.a
      go_upto_region 8 with fail
      go_loopg [39, 8] l.length (fun g v39 v8 wr => ∃ (k : Nat) (m : Int), g = l.length - k ∧ k ≤ l.length ∧ v39 = .int .i64 (k : Int) ∧ v8 = .int .i64 m ∧ 0 ≤ m ∧ m ≤ 1000001 ∧ freshD m (l.drop k) = F ∧ Hid (BX w wr A (.cells #[.slice a l.length c, .int .i64 pos] 60) (.cells #[.slice none 0 0, .int .i64 0] 60)))
      case atStart => exact ⟨0, 0, rfl, Nat.zero_le _, rfl, rfl, by decide, by decide, HF.out, X5⟩
      case round =>
        clear HF X5 c0 c1
        obtain ⟨k, m, hg, hk, rfl, rfl, hm0, hm1, hf, X⟩ := hrel
        have G := Lib.hid hg
        have HF := Lib.hid hf
        have HM := Lib.hid (And.intro hm0 hm1)
        clear hg hf hm0 hm1
        by_cases hlt : k < l.length
        · have hki : (k : Int) < (l.length : Int) := by omega
          have HFS := Lib.hid (fresh_step m l k hlt)
          have HX := Lib.hid (HDR.out l[k] (List.getElem_mem hlt))
          obtain ⟨b, o, rfl, he⟩ := HS.out.item k hlt
          generalize l[k] = E at *
          have hw1 : IntKind.i64.wrap (E.doc + 1) = E.doc + 1 := by have := HX.out; rw [IntKind.wrap_i64]; omega
          obtain ⟨d0, d1, d2⟩ := he.below X.out.bl
          clear he
          go_wp2_with fail
          go_roundg (l.length - (k + 1))
          case measure => have := G.out; omega
          case rel => exact ⟨k + 1, _, rfl, by omega, by simp, rfl, by have h1 := HM.out; have h2 := HX.out; omega, by have h1 := HM.out; have h2 := HX.out; omega, by rw [← HFS.out]; exact HF.out, Lib.hid (X.out.alloc _)⟩
        · have hke : k = l.length := by omega
          have hfe := HF.out
          rw [hke, List.drop_length] at hfe
          have hmf : m = F := hfe
          subst hmf
          have X9 := X
          clear hfe HF hke HM
          by_cases hbig : 1000000 < m
          · have hr := Lib.hid (HBIG.out (by omega))
            clear HBIG HFIT
            obtain ⟨e0, e1⟩ := cells2 X9.out.b
            have f0 := Lib.frozen_of_heap X9.out.b 0
            have f1 := Lib.frozen_of_heap X9.out.b 1
            go_wp2_with fail
            have EB := Lib.hid (set_heap (set_heap X9.out.b 0 (.slice none 0 0) (by simp)) 1 (.int .i64 0) (by simp))
            have XB := Lib.hid ((X9.out.bl.setCell (p := ⟨A + 1, 0, none⟩) HA.out (.slice none 0 0)).setCell (p := ⟨A + 1, 1, none⟩) HA.out (.int .i64 0))
            obtain ⟨g0, g1⟩ := cells2 EB.out
            refine bodyPost_ret (v := .tuple #[.agg #[.slice none 0 0, .int .i64 0], .int .i64 2]) (by simp [results, Tryz.results36, go_sem, g0, g1]) rfl ?_
            rw [hr.out]
            exact ⟨_, rfl, World.ownsRow_nil _ _ _ _, XB.out⟩
          · have HB2 := Lib.hid (HBH.out m)
            have hr0 := Lib.hid (HFIT.out (by omega))
            clear HBIG HFIT HBH
            obtain ⟨BT, hBT⟩ : ∃ BT, behindT ⟨l, pos⟩ ⟨s, [], m⟩ = BT := ⟨_, rfl⟩
            rw [hBT] at HB2 hr0
            obtain ⟨bl, bp⟩ := BT
            have hr := Lib.hid (show R = (⟨bl, bp⟩, 0) from hr0.out)
            clear hBT hr0
            simp only at HB2
            obtain ⟨c0, c1⟩ := cells2 X9.out.a
            go_wp2_with fail
            refine (HB2.out _ X9.out.bl).mono ?_
            rintro e w14 ⟨bv, rfl, hbv, hb14⟩
            have X14 := Lib.hid (X9.out.call hb14)
            have O14 := Lib.hid (own_lower hbv X9.out.bl.size)
            clear hb14 hbv c0 c1 HB2
            obtain ⟨ba, bc, rfl⟩ := own_shape O14.out
            obtain ⟨e0, e1⟩ := cells2 X14.out.b
            have f0 := Lib.frozen_of_heap X14.out.b 0
            have f1 := Lib.frozen_of_heap X14.out.b 1
            go_wp2_with fail
            have EB := Lib.hid (set_heap (set_heap X14.out.b 0 (.slice ba bl.length bc) (by simp)) 1 (.int .i64 bp) (by simp))
            have XB := Lib.hid ((X14.out.bl.setCell (p := ⟨A + 1, 0, none⟩) HA.out (.slice ba bl.length bc)).setCell (p := ⟨A + 1, 1, none⟩) HA.out (.int .i64 bp))
            have OB := Lib.hid (O14.out.kept (Lib.grownBy_setB (Lib.grownBy_setB (gr_refl w14 (some (A + 1))) 0 (.slice ba bl.length bc)) 1 (.int .i64 bp)) (.inr (row_block O14.out X14.out.b (by decide))))
            obtain ⟨g0, g1⟩ := cells2 EB.out
            refine bodyPost_ret (v := .tuple #[.agg #[.slice ba bl.length bc, .int .i64 bp], .int .i64 0]) (by simp [results, Tryz.results36, go_sem, g0, g1]) rfl ?_
            rw [hr.out]
            exact ⟨_, rfl, OB.out, XB.out⟩
end Go.Proofs.YtjcejijdeohkgaaGreatDoor
