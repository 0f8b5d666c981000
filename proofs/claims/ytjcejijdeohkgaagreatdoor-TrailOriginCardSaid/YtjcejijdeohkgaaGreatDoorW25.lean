/- The contract of url.beside. -/
import Derived.Test.YtjcejijdeohkgaaGreatDoorME
namespace Go.Proofs.YtjcejijdeohkgaaGreatDoor
open Go.RowKit

/-- What beside answers. -/
def BesideSaid (w : World) (p : Except Int Ur) (e : Ending) (w' : World) : Prop :=
  match p with
  | .ok u => ∃ pv, e = .returned (.tuple #[u.v pv, .int .i64 0]) ∧ w'.ownsRow 0 9 1 pv u.path.length (u.path.map sB) ∧ Below w.heap.size w w'
  | .error x => e = .returned (.tuple #[.agg zU, .int .i64 x]) ∧ Below w.heap.size w w'
theorem pre_one_has (p : Bs) : Lib.hasPrefix p [47] = decide (p.head? = some 47) := by
  unfold Lib.hasPrefix
  cases p with
  | nil => rfl
  | cons c r =>
    by_cases hc : c = 47
    · subst hc; simp [List.isPrefixOf]
    · have h2 : (List.isPrefixOf [47] (c :: r)) = false := by
        simp [List.isPrefixOf]
        exact fun e => hc e.symm
      rw [h2]
      simp [hc]
theorem drop_slr {w : World} {a : Addr} {c : Nat} {l : List Bs} (h : SlR w StrB 1 (.slice (some a) l.length c) l) : SlR w StrB 1 (.slice (some a) l.dropLast.length c) l.dropLast := by
  have hc := SlR.cap h
  have hl : l.dropLast.length = l.length - 1 := List.length_dropLast
  refine ⟨some a, c, rfl, by omega, by unfold maxLen; omega, fun h0 => ?_⟩
  obtain ⟨b, o, e, _⟩ := h.item 0 (by omega)
  refine ⟨b, o, e, fun k hk => ?_⟩
  obtain ⟨b', o', e', hi⟩ := h.item k (by omega)
  rw [e] at e'
  injection e' with e'
  injection e' with e1 e2
  subst e1 e2
  rw [List.getElem_dropLast]
  exact hi
theorem UB.drew1 {w w1 : World} {A : Nat} {cs : Array Value} (h : UB w w1 A cs) : UB w w1.drew A cs := h.call ⟨rfl, rfl, rfl, Nat.le_refl _, fun _ _ => rfl⟩
theorem call57 (args : Array Value) (w : World) : Sem.run Tryz.prog (callFunc 57 args) w = .ok (.enter 57 args) w := by go_simp
theorem call95' (args : Array Value) (w : World) : Sem.run Tryz.prog (callFunc 95 args) w = .ok (.enter 95 args) w := by go_simp
theorem call67' (args : Array Value) (w : World) : Sem.run Tryz.prog (callFunc 67 args) w = .ok (.enter 67 args) w := by go_simp
set_option maxRecDepth 100000 in
set_option maxHeartbeats 16000000 in
theorem beside_any (b : Ur) (pv : Value) (l : Bs) (w : World) (hT : TB w) (hp : b.path ≠ []) (hpl : b.path.length ≤ 502) (ho : w.ownsRow 0 9 1 pv b.path.length (b.path.map sB)) (hl : l.length ≤ 500) : Calls Tryz.prog 57 #[b.v pv, .string (bs l)] w fun e w' => BesideSaid w (besideP b l) e w' := by
  have p67 := call67'
  have p64 := call64
  have p68 := call68
  have p70 := call70
  have p95 := call95'
  have HTB := Lib.hid hT
  obtain ⟨R, hR⟩ : ∃ R, besideP b l = R := ⟨_, rfl⟩
  rw [hR]
  unfold besideP at hR
  have HR2 := Lib.hid hR
  clear hR
  obtain ⟨sch, host, port, bpath, query, asks, frag, points⟩ := b
  have hv := own_str ho
  obtain ⟨pa, pc, rfl, -⟩ := id hv
  simp only [Ur.v] at *
  have HV := Lib.hid hv
  have HOW := Lib.hid ho
  have HP := Lib.hid hp
  have HPL := Lib.hid hpl
  have HL := Lib.hid hl
  clear hv ho hp hpl hl hT
  obtain ⟨A, hA⟩ : ∃ A, w.heap.size = A := ⟨_, rfl⟩
  have A5 := Lib.hid (show 5 < A by rw [← hA]; exact HTB.out.lt)
  go_enter Tryz.func57, Tryz.ntmps57
  go_upto_region 2 with fail
  refine code_gen (Φ := fun wy => Hid (Below w.heap.size w wy) ∧ Hid (wy.heap[A]? = some (.cells #[.string (bs sch), .string (bs host), .int .i64 port, .slice pa bpath.length pc, .string (bs query), .bool asks, .string (bs frag), .bool points] 47 (0, 0))) ∧ Hid (wy.heap[A + 1]? = some (.cells zU 47 (0, 0))) ∧ Hid (wy.heap[A + 1 + 1]? = some (.cells #[.string (bs sch), .string (bs host), .int .i64 port, .slice none 0 0, .string ⟨#[]⟩, .bool false, .string ⟨#[]⟩, .bool false] 47 (0, 0)))) ?_ ?_
  · have L3 := Loc.start3 (w := w) (.cells #[.string (bs sch), .string (bs host), .int .i64 port, .slice pa bpath.length pc, .string (bs query), .bool asks, .string (bs frag), .bool points] 47) (.cells zU 47) (.cells #[.string (bs sch), .string (bs host), .int .i64 port, .slice none 0 0, .string ⟨#[]⟩, .bool false, .string ⟨#[]⟩, .bool false] 47)
    have k0 := L3.k0
    have k1 := L3.k1
    have k2 := L3.k2
    rw [hA] at k0 k1 k2
    exact ⟨Lib.hid L3.bl, Lib.hid k0, Lib.hid k1, Lib.hid k2⟩
  rintro w1 ⟨X1, B1, Z1, U1'⟩
  have T1 := Lib.hid (HTB.out.below X1.out)
  have U1 := Lib.hid (UB.start U1'.out)
  have AN : Hid (A + 1 + 1 ≠ 0 ∧ A + 1 + 1 ≠ 1 ∧ A + 1 + 1 ≠ 2 ∧ A + 1 + 1 ≠ 5) := Lib.hid (by have := A5.out; omega)
  have TBK := Lib.hid (fun (wr : World) (cs : Array Value) (u : UB w1 wr (A + 1 + 1) cs) => u.tb T1.out AN.out)
  have BBK := Lib.hid (fun (wr : World) (cs : Array Value) (u : UB w1 wr (A + 1 + 1) cs) => (u.g.block A (lt_of_heap B1.out) (by intro e; injection e with e; omega)).trans B1.out)
  have ZBK := Lib.hid (fun (wr : World) (cs : Array Value) (u : UB w1 wr (A + 1 + 1) cs) => (u.g.block (A + 1) (lt_of_heap Z1.out) (by intro e; injection e with e; omega)).trans Z1.out)
  have XBK := Lib.hid (fun (wr : World) (cs : Array Value) (u : UB w1 wr (A + 1 + 1) cs) => below_grown X1.out u.g (by rw [← hA]; omega) (Nat.le_refl _))
  have OPK := Lib.hid (fun (wr : World) (hb : Below w.heap.size w wr) => own_below HOW.out hb (Nat.le_refl 0))
  have SPK := Lib.hid (fun (wr : World) (hb : Below w.heap.size w wr) => HV.out.mono (fun _ _ _ h => kc hb h))
  have hA1 : w.heap.size ≤ A + 1 := by omega
  have HA1 := Lib.hid hA1
  clear U1' hA hA1
  have HTL := Lib.hid (tail_any (A + 1 + 1) _ _ _ _ _ _ _ _ l w1 U1.out.c (by have := HL.out; omega))
  have HQT : Hid (queryT l = if (cleanR (backC 63 (frontC 35 l))).2 then some (cleanR (backC 63 (frontC 35 l))).1 else none) := Lib.hid (clean_opt _)
  have HFT : Hid (fragT l = if (cleanR (backC 35 l)).2 then some (cleanR (backC 35 l)).1 else none) := Lib.hid (clean_opt _)
  have HPA := Lib.hid (show (pathT l).length ≤ 500 from Nat.le_trans (Nat.le_trans (front_len 63 _) (front_len 35 _)) HL.out)
  rw [HQT.out, HFT.out] at HR2
  clear HQT HFT
  generalize cleanR (backC 63 (frontC 35 l)) = CQ at *
  generalize cleanR (backC 35 l) = CF at *
  generalize pathT l = PA at *
  generalize asksT l = AK at *
  generalize pointsT l = PT at *
  obtain ⟨q, qo⟩ := CQ
  obtain ⟨f, fo⟩ := CF
  go_wp2_with fail
  refine HTL.out.mono ?_
  rintro e w7 ⟨rfl, hu7⟩
  have U7 := Lib.hid (UB.mk (hu7.g.trans' U1.out.g) hu7.c)
  clear hu7 U1 HTL
  obtain ⟨RT, hRT⟩ : ∃ RT, decide (PA.head? = some 47) = RT := ⟨_, rfl⟩
  have HRT := Lib.hid hRT
  have HTP : Hid (∀ w9, Calls Tryz.prog 64 #[.string (bs PA), .string ⟨#[47]⟩] w9 fun e w' => e = .returned (.tuple #[.string (bs (noSl PA)), .bool RT]) ∧ w' = w9) := Lib.hid (fun w9 => by
    have h := Tryz.strings_CutPrefix (bs PA) ⟨#[47]⟩ w9
    rw [bs_list, show (⟨#[47]⟩ : ByteArray).data.toList = [47] from rfl, pre_one, pre_one_has, hRT] at h
    exact h)
  clear hRT
  have HNS := Lib.hid (show (noSl PA).length ≤ 500 by
    have := HPA.out
    unfold noSl
    split
    · rw [List.length_drop]; omega
    · exact this)
  have HSG := Lib.hid (fun w9 hT9 => segments_any (noSl PA) w9 hT9 (by have := HNS.out; omega))
  have HSO := Lib.hid (seg_opt (noSl PA))
  have HSL := Lib.hid (seg_len (noSl PA))
  have HSN := Lib.hid (show (segO (noSl PA)).2 = true → (segO (noSl PA)).1 ≠ [] by
    unfold segO
    cases hs : segsP (splitC 47 (noSl PA)) with
    | none => intro h; cases h
    | some ds =>
      intro _ h0
      have h1 := segs_len _ _ hs
      simp only at h0
      rw [h0] at h1
      exact splitC_ne 47 _ (List.eq_nil_of_length_eq_zero h1.symm))
  rw [HSO.out] at HR2
  clear HSO
  generalize segO (noSl PA) = SO at *
  generalize noSl PA = NP at *
  obtain ⟨ds, so⟩ := SO
  go_wp2_with fail
  refine (HTP.out _).mono ?_
  rintro e w8 ⟨rfl, rfl⟩
  go_wp2_with fail
  refine (HSG.out _ (TBK.out _ _ U7.out)).mono ?_
  rintro e w9 ⟨dv, rfl, hown, hb9⟩
  have U9 := Lib.hid (U7.out.call hb9)
  have O9 := Lib.hid (own_str hown)
  obtain ⟨da, dc, rfl⟩ := own_shape hown
  clear hown hb9 U7 HTP HSG
  cases qo with
  | false =>
    have hr : R = .error 3 := HR2.out.symm
    subst hr
    clear HR2
    have ZB := Lib.hid (ZBK.out _ _ U9.out)
    obtain ⟨c0, c1, c2, c3, c4, c5, c6, c7⟩ := cells8 ZB.out
    have f0 := Lib.frozen_of_heap ZB.out 0
    have f1 := Lib.frozen_of_heap ZB.out 1
    have f2 := Lib.frozen_of_heap ZB.out 2
    have f3 := Lib.frozen_of_heap ZB.out 3
    have f4 := Lib.frozen_of_heap ZB.out 4
    have f5 := Lib.frozen_of_heap ZB.out 5
    have f6 := Lib.frozen_of_heap ZB.out 6
    have f7 := Lib.frozen_of_heap ZB.out 7
    go_wp2_with fail
    have EB := Lib.hid (put8_heap ZB.out rfl (.string ⟨#[]⟩) (.string ⟨#[]⟩) (.int .i64 0) (.slice none 0 0) (.string ⟨#[]⟩) (.bool false) (.string ⟨#[]⟩) (.bool false))
    have XB := Lib.hid (put8_below (b := A + 1) (XBK.out _ _ U9.out) HA1.out (.string ⟨#[]⟩) (.string ⟨#[]⟩) (.int .i64 0) (.slice none 0 0) (.string ⟨#[]⟩) (.bool false) (.string ⟨#[]⟩) (.bool false))
    obtain ⟨e0, e1, e2, e3, e4, e5, e6, e7⟩ := cells8 EB.out
    unfold put8 at e0 e1 e2 e3 e4 e5 e6 e7
    refine bodyPost_ret (v := .tuple #[.agg zU, .int .i64 3]) (by simp [results, Tryz.results57, go_sem, e0, e1, e2, e3, e4, e5, e6, e7, zU]) rfl ?_
    exact ⟨rfl, XB.out⟩
  | true =>
    cases fo with
    | false =>
      have hr : R = .error 3 := HR2.out.symm
      subst hr
      clear HR2
      have ZB := Lib.hid (ZBK.out _ _ U9.out)
      obtain ⟨c0, c1, c2, c3, c4, c5, c6, c7⟩ := cells8 ZB.out
      have f0 := Lib.frozen_of_heap ZB.out 0
      have f1 := Lib.frozen_of_heap ZB.out 1
      have f2 := Lib.frozen_of_heap ZB.out 2
      have f3 := Lib.frozen_of_heap ZB.out 3
      have f4 := Lib.frozen_of_heap ZB.out 4
      have f5 := Lib.frozen_of_heap ZB.out 5
      have f6 := Lib.frozen_of_heap ZB.out 6
      have f7 := Lib.frozen_of_heap ZB.out 7
      go_wp2_with fail
      have EB := Lib.hid (put8_heap ZB.out rfl (.string ⟨#[]⟩) (.string ⟨#[]⟩) (.int .i64 0) (.slice none 0 0) (.string ⟨#[]⟩) (.bool false) (.string ⟨#[]⟩) (.bool false))
      have XB := Lib.hid (put8_below (b := A + 1) (XBK.out _ _ U9.out) HA1.out (.string ⟨#[]⟩) (.string ⟨#[]⟩) (.int .i64 0) (.slice none 0 0) (.string ⟨#[]⟩) (.bool false) (.string ⟨#[]⟩) (.bool false))
      obtain ⟨e0, e1, e2, e3, e4, e5, e6, e7⟩ := cells8 EB.out
      unfold put8 at e0 e1 e2 e3 e4 e5 e6 e7
      refine bodyPost_ret (v := .tuple #[.agg zU, .int .i64 3]) (by simp [results, Tryz.results57, go_sem, e0, e1, e2, e3, e4, e5, e6, e7, zU]) rfl ?_
      exact ⟨rfl, XB.out⟩
    | true =>
      cases so with
      | false =>
        have hr : R = .error 3 := HR2.out.symm
        subst hr
        clear HR2
        have ZB := Lib.hid (ZBK.out _ _ U9.out)
        obtain ⟨c0, c1, c2, c3, c4, c5, c6, c7⟩ := cells8 ZB.out
        have f0 := Lib.frozen_of_heap ZB.out 0
        have f1 := Lib.frozen_of_heap ZB.out 1
        have f2 := Lib.frozen_of_heap ZB.out 2
        have f3 := Lib.frozen_of_heap ZB.out 3
        have f4 := Lib.frozen_of_heap ZB.out 4
        have f5 := Lib.frozen_of_heap ZB.out 5
        have f6 := Lib.frozen_of_heap ZB.out 6
        have f7 := Lib.frozen_of_heap ZB.out 7
        go_wp2_with fail
        have EB := Lib.hid (put8_heap ZB.out rfl (.string ⟨#[]⟩) (.string ⟨#[]⟩) (.int .i64 0) (.slice none 0 0) (.string ⟨#[]⟩) (.bool false) (.string ⟨#[]⟩) (.bool false))
        have XB := Lib.hid (put8_below (b := A + 1) (XBK.out _ _ U9.out) HA1.out (.string ⟨#[]⟩) (.string ⟨#[]⟩) (.int .i64 0) (.slice none 0 0) (.string ⟨#[]⟩) (.bool false) (.string ⟨#[]⟩) (.bool false))
        obtain ⟨e0, e1, e2, e3, e4, e5, e6, e7⟩ := cells8 EB.out
        unfold put8 at e0 e1 e2 e3 e4 e5 e6 e7
        refine bodyPost_ret (v := .tuple #[.agg zU, .int .i64 3]) (by simp [results, Tryz.results57, go_sem, e0, e1, e2, e3, e4, e5, e6, e7, zU]) rfl ?_
        exact ⟨rfl, XB.out⟩
      | true =>
        simp only [if_true] at HR2
        have HSN2 := Lib.hid (HSN.out rfl)
        clear HSN
        by_cases hpe : PA = []
        · have hE : (bs PA).toList.isEmpty = true := by rw [Lib.toList_data, bs_list, hpe]; rfl
          rw [if_pos hpe] at HR2
          have BB := Lib.hid (BBK.out _ _ U9.out)
          obtain ⟨b0, b1, b2, b3, b4, b5, b6, b7⟩ := cells8 BB.out
          obtain ⟨c0, c1, c2, c3, c4, c5, c6, c7⟩ := cells8 U9.out.c
          have f3 := Lib.frozen_of_heap U9.out.c 3
          have U10 := Lib.hid (U9.out.set 3 (.slice pa bpath.length pc) (by simp))
          clear hpe
          go_upto_region 9 with fail
          refine code_gen (Φ := fun wy => Hid (UB w1 wy (A + 1 + 1) #[.string (bs sch), .string (bs host), .int .i64 port, .slice pa bpath.length pc, .string (bs q), .bool AK, .string (bs f), .bool PT])) U10 ?_
          clear U10 U9 BB b0 b1 b2 b3 b4 b5 b6 b7 c0 c1 c2 c3 c4 c5 c6 c7 f3
          intro w10 U10
          have BB := Lib.hid (BBK.out _ _ U10.out)
          obtain ⟨b0, b1, b2, b3, b4, b5, b6, b7⟩ := cells8 BB.out
          obtain ⟨c0, c1, c2, c3, c4, c5, c6, c7⟩ := cells8 U10.out.c
          cases AK with
          | true =>
            have hr := Lib.hid (show R = .ok ⟨sch, host, port, bpath, q, true, f, PT⟩ from HR2.out.symm)
            clear HR2 b0 b1 b2 b3 b4 b5 b6 b7
            obtain ⟨c0, c1, c2, c3, c4, c5, c6, c7⟩ := cells8 U10.out.c
            have ZB := Lib.hid (ZBK.out _ _ U10.out)
            have g0 := Lib.frozen_of_heap ZB.out 0
            have g1 := Lib.frozen_of_heap ZB.out 1
            have g2 := Lib.frozen_of_heap ZB.out 2
            have g3 := Lib.frozen_of_heap ZB.out 3
            have g4 := Lib.frozen_of_heap ZB.out 4
            have g5 := Lib.frozen_of_heap ZB.out 5
            have g6 := Lib.frozen_of_heap ZB.out 6
            have g7 := Lib.frozen_of_heap ZB.out 7
            obtain ⟨d0, d1, d2, d3, d4, d5, d6, d7⟩ := cells8 ZB.out
            go_wp2_with fail
            have EB := Lib.hid (put8_heap ZB.out rfl (.string (bs sch)) (.string (bs host)) (.int .i64 port) (.slice pa bpath.length pc) (.string (bs q)) (.bool true) (.string (bs f)) (.bool PT))
            have XB := Lib.hid (put8_below (b := A + 1) (XBK.out _ _ U10.out) HA1.out (.string (bs sch)) (.string (bs host)) (.int .i64 port) (.slice pa bpath.length pc) (.string (bs q)) (.bool true) (.string (bs f)) (.bool PT))
            have OB := Lib.hid ((OPK.out _ (XBK.out _ _ U10.out)).kept (put8_grown (gr_refl w10 (some (A + 1))) (.string (bs sch)) (.string (bs host)) (.int .i64 port) (.slice pa bpath.length pc) (.string (bs q)) (.bool true) (.string (bs f)) (.bool PT)) (.inr (row_block (OPK.out _ (XBK.out _ _ U10.out)) ZB.out (by decide))))
            obtain ⟨e0, e1, e2, e3, e4, e5, e6, e7⟩ := cells8 EB.out
            unfold put8 at e0 e1 e2 e3 e4 e5 e6 e7
            refine bodyPost_ret (v := .tuple #[.agg #[.string (bs sch), .string (bs host), .int .i64 port, .slice pa bpath.length pc, .string (bs q), .bool true, .string (bs f), .bool PT], .int .i64 0]) (by simp [results, Tryz.results57, go_sem, e0, e1, e2, e3, e4, e5, e6, e7]) rfl ?_
            rw [hr.out]
            exact ⟨_, rfl, OB.out, XB.out⟩
          | false =>
            have hr := Lib.hid (show R = .ok ⟨sch, host, port, bpath, query, asks, f, PT⟩ from HR2.out.symm)
            have f4 := Lib.frozen_of_heap U10.out.c 4
            have f5 := Lib.frozen_of_heap U10.out.c 5
            have U11a := Lib.hid (UB.drew1 ((U10.out.set 4 (.string (bs query)) (by simp)).set 5 (.bool asks) (by simp)))
            have U11b := Lib.hid (UB.drew1 ((U10.out.set 5 (.bool asks) (by simp)).set 4 (.string (bs query)) (by simp)))
            clear HR2
            go_upto_region 10 with fail
            go_region_with (fail)
            all_goals
              go_upto_region 11 with fail
              refine code_gen (Φ := fun wy => Hid (UB w1 wy (A + 1 + 1) #[.string (bs sch), .string (bs host), .int .i64 port, .slice pa bpath.length pc, .string (bs query), .bool asks, .string (bs f), .bool PT])) (by first | exact U11a | exact U11b) ?_
              clear U11a U11b U10 BB b0 b1 b2 b3 b4 b5 b6 b7 c0 c1 c2 c3 c4 c5 c6 c7 f4 f5
              intro w11 U11
              obtain ⟨c0, c1, c2, c3, c4, c5, c6, c7⟩ := cells8 U11.out.c
              have ZB := Lib.hid (ZBK.out _ _ U11.out)
              have g0 := Lib.frozen_of_heap ZB.out 0
              have g1 := Lib.frozen_of_heap ZB.out 1
              have g2 := Lib.frozen_of_heap ZB.out 2
              have g3 := Lib.frozen_of_heap ZB.out 3
              have g4 := Lib.frozen_of_heap ZB.out 4
              have g5 := Lib.frozen_of_heap ZB.out 5
              have g6 := Lib.frozen_of_heap ZB.out 6
              have g7 := Lib.frozen_of_heap ZB.out 7
              obtain ⟨d0, d1, d2, d3, d4, d5, d6, d7⟩ := cells8 ZB.out
              go_wp2_with fail
              have EB := Lib.hid (put8_heap ZB.out rfl (.string (bs sch)) (.string (bs host)) (.int .i64 port) (.slice pa bpath.length pc) (.string (bs query)) (.bool asks) (.string (bs f)) (.bool PT))
              have XB := Lib.hid (put8_below (b := A + 1) (XBK.out _ _ U11.out) HA1.out (.string (bs sch)) (.string (bs host)) (.int .i64 port) (.slice pa bpath.length pc) (.string (bs query)) (.bool asks) (.string (bs f)) (.bool PT))
              have OB := Lib.hid ((OPK.out _ (XBK.out _ _ U11.out)).kept (put8_grown (gr_refl w11 (some (A + 1))) (.string (bs sch)) (.string (bs host)) (.int .i64 port) (.slice pa bpath.length pc) (.string (bs query)) (.bool asks) (.string (bs f)) (.bool PT)) (.inr (row_block (OPK.out _ (XBK.out _ _ U11.out)) ZB.out (by decide))))
              obtain ⟨e0, e1, e2, e3, e4, e5, e6, e7⟩ := cells8 EB.out
              unfold put8 at e0 e1 e2 e3 e4 e5 e6 e7
              refine bodyPost_ret (v := .tuple #[.agg #[.string (bs sch), .string (bs host), .int .i64 port, .slice pa bpath.length pc, .string (bs query), .bool asks, .string (bs f), .bool PT], .int .i64 0]) (by simp [results, Tryz.results57, go_sem, e0, e1, e2, e3, e4, e5, e6, e7]) rfl ?_
              rw [hr.out]
              exact ⟨_, rfl, OB.out, XB.out⟩
        · have hE : (bs PA).toList.isEmpty = false := by
            rw [Lib.toList_data, bs_list]
            cases PA with
            | nil => exact absurd rfl hpe
            | cons x y => rfl
          rw [if_neg hpe] at HR2
          clear hpe
          cases RT with
          | true =>
            have hh : PA.head? = some 47 := of_decide_eq_true HRT.out
            rw [if_pos hh] at HR2
            have hr := Lib.hid (show R = .ok ⟨sch, host, port, tidyP ds, q, AK, f, PT⟩ from HR2.out.symm)
            clear HR2 hh
            have HTD := Lib.hid (tidy_any da dc ds w9 O9.out (by have h1 : ds.length ≤ NP.length + 1 := HSL.out; have h2 := HNS.out; omega))
            go_wp2_with fail
            refine HTD.out.mono ?_
            rintro e w20 ⟨tv, rfl, own20, hb20⟩
            have U20 := Lib.hid (U9.out.call hb20)
            have O20 := Lib.hid own20
            obtain ⟨ta, tc, rfl⟩ := own_shape own20
            clear own20 hb20 HTD U9
            obtain ⟨c0, c1, c2, c3, c4, c5, c6, c7⟩ := cells8 U20.out.c
            have f3 := Lib.frozen_of_heap U20.out.c 3
            have U21 := Lib.hid (U20.out.set 3 (.slice ta (tidyP ds).length tc) (by simp))
            have O21 := Lib.hid (O20.out.kept (Lib.grownBy_setB (gr_refl w20 (some (A + 1 + 1))) 3 (.slice ta (tidyP ds).length tc)) (.inr (row_block O20.out U20.out.c (by decide))))
            go_upto_region 15 with fail
            refine code_gen (Φ := fun wy => Hid (UB w1 wy (A + 1 + 1) #[.string (bs sch), .string (bs host), .int .i64 port, .slice ta (tidyP ds).length tc, .string (bs q), .bool AK, .string (bs f), .bool PT]) ∧ Hid (wy.ownsRow w9.heap.size 9 1 (.slice ta (tidyP ds).length tc) (tidyP ds).length ((tidyP ds).map sB))) ⟨U21, O21⟩ ?_
            clear U21 O21 U20 O20 c0 c1 c2 c3 c4 c5 c6 c7 f3
            rintro w21 ⟨U21, O21⟩
            obtain ⟨c0, c1, c2, c3, c4, c5, c6, c7⟩ := cells8 U21.out.c
            have ZB := Lib.hid (ZBK.out _ _ U21.out)
            have g0 := Lib.frozen_of_heap ZB.out 0
            have g1 := Lib.frozen_of_heap ZB.out 1
            have g2 := Lib.frozen_of_heap ZB.out 2
            have g3 := Lib.frozen_of_heap ZB.out 3
            have g4 := Lib.frozen_of_heap ZB.out 4
            have g5 := Lib.frozen_of_heap ZB.out 5
            have g6 := Lib.frozen_of_heap ZB.out 6
            have g7 := Lib.frozen_of_heap ZB.out 7
            obtain ⟨d0, d1, d2, d3, d4, d5, d6, d7⟩ := cells8 ZB.out
            go_wp2_with fail
            have EB := Lib.hid (put8_heap ZB.out rfl (.string (bs sch)) (.string (bs host)) (.int .i64 port) (.slice ta (tidyP ds).length tc) (.string (bs q)) (.bool AK) (.string (bs f)) (.bool PT))
            have XB := Lib.hid (put8_below (b := A + 1) (XBK.out _ _ U21.out) HA1.out (.string (bs sch)) (.string (bs host)) (.int .i64 port) (.slice ta (tidyP ds).length tc) (.string (bs q)) (.bool AK) (.string (bs f)) (.bool PT))
            have OB := Lib.hid (own_lower (O21.out.kept (put8_grown (gr_refl w21 (some (A + 1))) (.string (bs sch)) (.string (bs host)) (.int .i64 port) (.slice ta (tidyP ds).length tc) (.string (bs q)) (.bool AK) (.string (bs f)) (.bool PT)) (.inr (row_block O21.out ZB.out (by decide)))) (Nat.zero_le _))
            obtain ⟨e0, e1, e2, e3, e4, e5, e6, e7⟩ := cells8 EB.out
            unfold put8 at e0 e1 e2 e3 e4 e5 e6 e7
            refine bodyPost_ret (v := .tuple #[.agg #[.string (bs sch), .string (bs host), .int .i64 port, .slice ta (tidyP ds).length tc, .string (bs q), .bool AK, .string (bs f), .bool PT], .int .i64 0]) (by simp [results, Tryz.results57, go_sem, e0, e1, e2, e3, e4, e5, e6, e7]) rfl ?_
            rw [hr.out]
            exact ⟨_, rfl, OB.out, XB.out⟩
          | false =>
            have hh : ¬ PA.head? = some 47 := of_decide_eq_false HRT.out
            rw [if_neg hh] at HR2
            have hr := Lib.hid (show R = .ok ⟨sch, host, port, tidyP (bpath.dropLast ++ ds), q, AK, f, PT⟩ from HR2.out.symm)
            clear HR2 hh
            have hpos : 0 < bpath.length := List.length_pos_iff.2 HP.out
            have hdl : bpath.dropLast.length = bpath.length - 1 := List.length_dropLast
            have SB := Lib.hid (SPK.out _ (XBK.out _ _ U9.out))
            obtain ⟨pb, po, hpa, -⟩ := SB.out.item 0 hpos
            subst hpa
            have SD := Lib.hid (drop_slr SB.out)
            have hcap := SlR.cap SB.out
            have hdpos : 0 < ds.length := List.length_pos_iff.2 HSN2.out
            obtain ⟨db, dof, hda, -⟩ := O9.out.item 0 hdpos
            subst hda
            have hdle : bpath.dropLast.length ≤ 502 := by have := HPL.out; omega
            have HDL := Lib.hid hdle
            have hw : IntKind.i64.wrap ((bpath.length : Int) - 1) = (bpath.dropLast.length : Int) := by rw [IntKind.wrap_i64]; omega
            have hle : bpath.dropLast.length ≤ pc := by omega
            have hlei : (bpath.dropLast.length : Int) ≤ (pc : Int) := by omega
            clear hcap hpos hdl hdpos hdle
            obtain ⟨DL, hDL⟩ : ∃ DL, DL = bpath.dropLast := ⟨_, rfl⟩
            rw [← hDL] at SD hw hle hlei HDL hr
            clear hDL
            have BB := Lib.hid (BBK.out _ _ U9.out)
            obtain ⟨b0, b1, b2, b3, b4, b5, b6, b7⟩ := cells8 BB.out
            go_wp2_with fail
            have ha9 : ∀ o, Below w9.heap.size w9 (w9.alloc o) := fun o => (Below.refl _ _).alloc (Nat.le_refl _) _
            obtain ⟨h0c, h1c⟩ := cells2 (alloc_at (w := w9) rfl (.cells #[.slice (some ⟨pb, po, none⟩) DL.length pc, .slice (some ⟨db, dof, none⟩) ds.length dc] 38))
            refine (concat_any w9.heap.size ⟨pb, po, none⟩ ⟨db, dof, none⟩ pc dc DL ds _ h0c h1c (SD.out.mono (fun _ _ _ h => kc (ha9 _) h)) (O9.out.mono (fun _ _ _ h => kc (ha9 _) h)) (by have := HDL.out; omega) (by have h1 : ds.length ≤ NP.length + 1 := HSL.out; have h2 := HNS.out; omega)).mono ?_
            rintro e w13 ⟨cv, rfl, hc13, hb13⟩
            have U13 := Lib.hid ((U9.out.call (ha9 _)).call hb13)
            have HLL := Lib.hid (show (DL ++ ds).length ≤ 2097152 by rw [List.length_append]; have h1 : ds.length ≤ NP.length + 1 := HSL.out; have h2 := HNS.out; have := HDL.out; omega)
            obtain ⟨LL, hLL⟩ : ∃ LL, DL ++ ds = LL := ⟨_, rfl⟩
            rw [hLL] at hc13 hr HLL
            have O13 := Lib.hid (own_str hc13)
            obtain ⟨ca, cc, rfl⟩ := own_shape hc13
            clear hLL hc13 hb13 h0c h1c ha9 b0 b1 b2 b3 b4 b5 b6 b7 BB hw hle hlei U9 O9 SD SB
            have HTD := Lib.hid (tidy_any ca cc LL w13 O13.out (by exact HLL.out))
            go_wp2_with fail
            refine HTD.out.mono ?_
            rintro e w20 ⟨tv, rfl, own20, hb20⟩
            have U20 := Lib.hid (U13.out.call hb20)
            have O20 := Lib.hid own20
            obtain ⟨ta, tc, rfl⟩ := own_shape own20
            clear own20 hb20 HTD U13
            obtain ⟨c0, c1, c2, c3, c4, c5, c6, c7⟩ := cells8 U20.out.c
            have f3 := Lib.frozen_of_heap U20.out.c 3
            have U21 := Lib.hid (U20.out.set 3 (.slice ta (tidyP LL).length tc) (by simp))
            have O21 := Lib.hid (O20.out.kept (Lib.grownBy_setB (gr_refl w20 (some (A + 1 + 1))) 3 (.slice ta (tidyP LL).length tc)) (.inr (row_block O20.out U20.out.c (by decide))))
            go_upto_region 15 with fail
            refine code_gen (Φ := fun wy => Hid (UB w1 wy (A + 1 + 1) #[.string (bs sch), .string (bs host), .int .i64 port, .slice ta (tidyP LL).length tc, .string (bs q), .bool AK, .string (bs f), .bool PT]) ∧ Hid (wy.ownsRow w13.heap.size 9 1 (.slice ta (tidyP LL).length tc) (tidyP LL).length ((tidyP LL).map sB))) ⟨U21, O21⟩ ?_
            clear U21 O21 U20 O20 c0 c1 c2 c3 c4 c5 c6 c7 f3
            rintro w21 ⟨U21, O21⟩
            obtain ⟨c0, c1, c2, c3, c4, c5, c6, c7⟩ := cells8 U21.out.c
            have ZB := Lib.hid (ZBK.out _ _ U21.out)
            have g0 := Lib.frozen_of_heap ZB.out 0
            have g1 := Lib.frozen_of_heap ZB.out 1
            have g2 := Lib.frozen_of_heap ZB.out 2
            have g3 := Lib.frozen_of_heap ZB.out 3
            have g4 := Lib.frozen_of_heap ZB.out 4
            have g5 := Lib.frozen_of_heap ZB.out 5
            have g6 := Lib.frozen_of_heap ZB.out 6
            have g7 := Lib.frozen_of_heap ZB.out 7
            obtain ⟨d0, d1, d2, d3, d4, d5, d6, d7⟩ := cells8 ZB.out
            go_wp2_with fail
            have EB := Lib.hid (put8_heap ZB.out rfl (.string (bs sch)) (.string (bs host)) (.int .i64 port) (.slice ta (tidyP LL).length tc) (.string (bs q)) (.bool AK) (.string (bs f)) (.bool PT))
            have XB := Lib.hid (put8_below (b := A + 1) (XBK.out _ _ U21.out) HA1.out (.string (bs sch)) (.string (bs host)) (.int .i64 port) (.slice ta (tidyP LL).length tc) (.string (bs q)) (.bool AK) (.string (bs f)) (.bool PT))
            have OB := Lib.hid (own_lower (O21.out.kept (put8_grown (gr_refl w21 (some (A + 1))) (.string (bs sch)) (.string (bs host)) (.int .i64 port) (.slice ta (tidyP LL).length tc) (.string (bs q)) (.bool AK) (.string (bs f)) (.bool PT)) (.inr (row_block O21.out ZB.out (by decide)))) (Nat.zero_le _))
            obtain ⟨e0, e1, e2, e3, e4, e5, e6, e7⟩ := cells8 EB.out
            unfold put8 at e0 e1 e2 e3 e4 e5 e6 e7
            refine bodyPost_ret (v := .tuple #[.agg #[.string (bs sch), .string (bs host), .int .i64 port, .slice ta (tidyP LL).length tc, .string (bs q), .bool AK, .string (bs f), .bool PT], .int .i64 0]) (by simp [results, Tryz.results57, go_sem, e0, e1, e2, e3, e4, e5, e6, e7]) rfl ?_
            rw [hr.out]
            exact ⟨_, rfl, OB.out, XB.out⟩
end Go.Proofs.YtjcejijdeohkgaaGreatDoor
