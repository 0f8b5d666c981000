/- heap.Move, walked. -/
import Derived.Test.YtcnplnnpiobikaaH12
namespace Go.Proofs.Ytcnplnnpiobikaa
open Go.RowKit

theorem MO.row {w0 wr : World} {ov : Value} {items : List Cl} (h : MO w0 wr ov items) : ∃ xs, wr.ownsRow w0.heap.size 46 3 ov items.length xs := by
  obtain ⟨ts, h1, h2, h3⟩ := h.ex
  rw [h1] at h2
  exact ⟨_, h2⟩
theorem cell_tr (t : Tr) (ty : TypeId) (w : World) : ∀ j u, (Tr.c t)[j]? = some u → (w.alloc (.cells #[.int .i64 t.kind, t.nv, t.vv] ty)).cell? ((⟨w.heap.size, 0, none⟩ : Addr).add j) = some u := World.news_of_block (heap_alloc_new w _)
theorem one_tr (k : Int) (a b : Option Addr) (n1 c1 n2 c2 : Nat) : ∀ u ∈ Tr.c ⟨k, .slice a n1 c1, .slice b n2 c2⟩, u.oneCell' = true := by
  intro u hu
  simp only [Tr.c, List.mem_cons, List.not_mem_nil, or_false] at hu
  rcases hu with rfl | rfl | rfl <;> rfl
theorem call23 (args : Array Value) (w : World) : Sem.run Try.prog (callFunc 23 args) w = .ok (.enter 23 args) w := by go_simp
theorem call24 (args : Array Value) (w : World) : Sem.run Try.prog (callFunc 24 args) w = .ok (.enter 24 args) w := by go_simp
theorem cellOk_names {h : List Cl} {c : Cl} (hc : cellOk h c = true) : c.names.length ≤ c.vals.length := by
  unfold cellOk at hc
  have t : ∀ n, tailOk h c n = true → c.names.length = n := by
    intro n ht
    unfold tailOk at ht
    simp only [Bool.and_eq_true, beq_iff_eq] at ht
    exact ht.1
  split at hc
  · split at hc
    · cases hc
    · have := t _ hc; omega
  · split at hc
    · have := t _ hc; omega
    · split at hc
      · have := t _ hc; omega
      · cases hc
set_option maxRecDepth 100000 in
set_option maxHeartbeats 16000000 in
theorem move_any (a : Option Addr) (c : Nat) (h : List Cl) (ra : Option Addr) (rc : Nat) (roots : List JV) (w : World) (hh : HeapAt w (.slice a h.length c) h) (hr : SlR w JvAt 3 (.slice ra roots.length rc) roots) (hz : roots.length * 32 ≤ 140737488351232) :
    Calls Try.prog 10 #[.slice a h.length c, .slice ra roots.length rc] w fun e w' => ∃ cv rv, e = .returned (.tuple #[cv, rv, .int .i64 (moveV h roots).err]) ∧ HeapAt w' cv (moveV h roots).cells ∧ SlR w' JvAt 3 rv (moveV h roots).roots ∧ Below w.heap.size w w' := by
  have HH := Lib.hid hh
  have HRS := Lib.hid hr
  have HAS := Lib.hid (asked_any a c h ra rc roots w hh hr)
  have HWA := Lib.hid (fun (w6 : World) (hb : Below w.heap.size w w6) (ha : askErr h roots = 0) => walked_any a c h ra rc roots w6 (hh.below hb) (hr.mono (fun _ _ _ h => h.below hb)) (ask_ok ha).1.fit (fun x hx => fits_fit ((ask_ok ha).2 x hx)) (ask_ok ha).1.len)
  have HST := Lib.hid (fun (ha : askErr h roots = 0) => (walk_went (ask_ok ha).1.fit roots (fun x hx => fits_fit ((ask_ok ha).2 x hx))).st)
  have HOK := Lib.hid (fun (ha : askErr h roots = 0) => ask_ok ha)
  obtain ⟨q1, q2, q3⟩ := SlR.cap hh
  obtain ⟨r1, r2, r3⟩ := SlR.cap hr
  clear hh hr
  obtain ⟨R, hR⟩ : ∃ R, moveV h roots = R := ⟨_, rfl⟩
  rw [hR]
  unfold moveV at hR
  have HR := Lib.hid hR
  have HZ := Lib.hid hz
  clear hR hz
  generalize askErr h roots = E at *
  obtain ⟨bi, gi0, gi1, gi2, gi3⟩ := info_parts cl_info
  have p19 := call19
  have p20 := call20
  have p23 := call23
  have p24 := call24
  go_enter Try.func10, Try.ntmps10
  go_wp2_with fail
  refine HAS.out.mono ?_
  rintro e w3 ⟨rfl, hb3⟩
  have X := Lib.hid hb3
  clear hb3 HAS
  by_cases hE0 : E = 0
  · subst hE0
    have HW3 := Lib.hid (HWA.out w3 X.out rfl)
    have HS2 := Lib.hid (HST.out rfl)
    obtain ⟨hk1, hk2⟩ := HOK.out rfl
    have HK := Lib.hid hk1
    have HRF := Lib.hid (show ∀ v ∈ roots, refV v < (h.length : Int) from fun v hv => fits_fit (hk2 v hv))
    have HAF := Lib.hid hk1.fit
    clear hk1 hk2
    generalize walkF h roots = L at *
    obtain ⟨tl, htl⟩ : ∃ tl, toOf h.length L = tl := ⟨_, rfl⟩
    have HR2 := Lib.hid (show (⟨0, L.map (movedC h tl), roots.map (movedV tl)⟩ : MoveR) = R by rw [← HR.out, if_pos rfl, ← htl])
    have htln : tl.length = h.length := by rw [← htl, toOf_len]
    clear HWA HST HOK HR
    go_wp2_with fail
    refine HW3.out.mono ?_
    rintro e w5 ⟨S, tv, rfl, av, hw5⟩
    rw [htl] at hw5
    obtain ⟨ta, tc, rfl⟩ := own_shape hw5.tor
    obtain ⟨la, lc, rfl⟩ := own_shape hw5.alr
    have BK := Lib.hid hw5.blk
    have HT := Lib.hid (own_int hw5.tor)
    have HL := Lib.hid (own_int hw5.alr)
    have X5 := Lib.hid (X.out.trans (Below.le hw5.bl X.out.size))
    have HLN := Lib.hid (show L.length ≤ 300 from Nat.le_trans HS2.out.len HK.out.len)
    have hLi : (L.length : Int) ≤ 300 := by have := HLN.out; omega
    clear hw5 HW3 X
    have HTL := Lib.hid htl
    have HTN := Lib.hid htln
    clear htl htln
    have W0 := Lib.hid (MO.start w5)
    obtain ⟨s0, s1, s2⟩ := cells3 BK.out
    go_upto_region 7 with fail
    clear s0 s1 s2
    go_loopg [27, 9, 11, 12] L.length (fun g v27 v9 _ _ wr => ∃ k : Nat, g = L.length - k ∧ k ≤ L.length ∧ v27 = .int .i64 (k : Int) ∧ MO w5 wr v9 ((L.take k).map (movedC h tl)))
    case atStart => exact ⟨0, rfl, Nat.zero_le _, rfl, W0.out⟩
    case round =>
      clear W0
      obtain ⟨k, hg, hk, rfl, hx⟩ := hrel
      obtain ⟨ov, hov⟩ : ∃ v, v = u9 := ⟨_, rfl⟩
      subst hov
      have G := Lib.hid hg
      have X := Lib.hid hx
      clear hg hx
      by_cases hlt : k < L.length
      · have hki : (k : Int) < (L.length : Int) := by omega
        have HTK := Lib.hid (show (L.take (k + 1)).map (movedC h tl) = (L.take k).map (movedC h tl) ++ [movedC h tl L[k]] by rw [List.take_add_one, List.getElem?_eq_getElem hlt, List.map_append]; rfl)
        have hva := HS2.out.va L[k] (List.getElem_mem hlt)
        obtain ⟨b, o, rfl, hi⟩ := HL.out.item k hlt
        have x0 : wr.cell? ⟨b, o + k, none⟩ = some (.int .i64 L[k]) := by have := kc X.out.bl hi; rwa [Nat.mul_one] at this
        clear hi
        generalize L[k] = n at *
        obtain ⟨m, rfl⟩ : ∃ m : Nat, n = (m : Int) := ⟨n.toNat, by omega⟩
        have hm : m < h.length := by omega
        have hmi : (m : Int) < (h.length : Int) := by omega
        obtain ⟨hb_, ho_, rfl, hcl⟩ := HH.out.item m hm
        have hck := HK.out.cells h[m] (List.getElem_mem hm)
        have hsm := HK.out.small h[m] (List.getElem_mem hm)
        have hnm := cellOk_names hck
        have HVF := Lib.hid (show ∀ v ∈ h[m].vals, refV v < (tl.length : Int) from fun v hv => by rw [HTN.out]; exact fits_fit (cell_fits hck v hv))
        have HMC := Lib.hid (show movedC h tl (m : Int) = ⟨h[m].kind, h[m].names, h[m].vals.map (movedV tl)⟩ by unfold movedC cellAt; rw [Int.toNat_natCast, List.getElem?_eq_getElem hm]; rfl)
        have hcl2 := (hcl.below X5.out).below X.out.bl
        clear hcl hck hva
        generalize h[m] = C at *
        obtain ⟨kd, nms, vls⟩ := C
        obtain ⟨na, nc, va, vc, d0, d1, d2, d3, d4⟩ := hcl2.ex
        simp only at d0 d1 d2 d3 d4 hsm hnm HVF HMC
        clear hcl2
        have HCP := Lib.hid (copied_any kd nms vls na va nc vc wr d3 d4 (by omega) (by omega))
        go_wp2_with fail
        refine HCP.out.mono ?_
        rintro e w7 ⟨nv, vv, rfl, on, ovv, hb7⟩
        obtain ⟨nva, nvc, rfl⟩ := own_shape on
        obtain ⟨vva, vvc, rfl⟩ := own_shape ovv
        have Y := Lib.hid (X.out.call hb7)
        have ON := Lib.hid (own_lower on X.out.bl.size)
        have OV := Lib.hid ovv
        clear on ovv hb7 HCP d0 d1 d2 d3 d4 x0 X
        obtain ⟨Bv, hBv⟩ : ∃ Bv, w7.heap.size = Bv := ⟨_, rfl⟩
        go_upto_region 10 with fail
        refine code_gen (Φ := fun wy => Hid (Below w7.heap.size w7 wy) ∧ Hid (wy.heap[Bv]? = some (.cells #[.int .i64 kd, .slice nva nms.length nvc, .slice vva vls.length vvc] 46 (0, 0)))) ⟨Lib.hid ((Below.refl _ _).alloc (Nat.le_refl _) _), Lib.hid (alloc_at hBv _)⟩ ?_
        rintro w8 ⟨Z, ZB⟩
        obtain ⟨c0, c1, c2⟩ := cells3 ZB.out
        have Z8 := Lib.hid (Y.out.call Z.out)
        have ON8 := Lib.hid (own_below ON.out Z.out (Nat.le_refl _))
        have BW : Hid (w5.heap.size ≤ Bv ∧ Bv < w8.heap.size) := Lib.hid ⟨by rw [← hBv]; exact Y.out.bl.size, lt_of_heap ZB.out⟩
        have hob : ov.ownBlock ≠ some Bv := fun e2 => by have := ((MO.row Y.out).choose_spec.lt Bv e2).2; omega
        have HMV := Lib.hid (moved_any S (.slice (some ⟨hb_, ho_, none⟩) h.length c) (.slice (some ⟨b, o, none⟩) L.length lc) ta tc tl vva vvc vls w8 ((Z8.out.bl.block S (lt_of_heap BK.out)).trans BK.out) (HT.out.mono (fun _ _ _ h => kc Z8.out.bl h)) (own_jv (own_below OV.out Z.out (Nat.le_refl _))) HVF.out (by omega))
        clear hBv Y Z ON OV HVF
        generalize vls.map (movedV tl) = ML at *
        go_wp2_with fail
        refine HMV.out.mono ?_
        rintro e w9 ⟨mv, rfl, om, hb9⟩
        obtain ⟨mva, mvc, rfl⟩ := own_shape om
        have Z9 := Lib.hid (Z8.out.call hb9)
        have ZB9 := Lib.hid ((hb9.block Bv BW.out.2).trans ZB.out)
        have ON9 := Lib.hid (own_below ON8.out hb9 (Nat.le_refl _))
        have OM9 := Lib.hid (own_lower om Z8.out.bl.size)
        clear om hb9 HMV Z8 ZB ON8 c0 c1 c2
        obtain ⟨c0, c1, c2⟩ := cells3 ZB9.out
        have f2 := Lib.frozen_of_heap ZB9.out 2
        have hgs : w9.grownBy (w9.setCell ⟨Bv, 2, none⟩ (.slice mva ML.length mvc)) (some Bv) := Lib.grownBy_setB (gr_refl w9 _) _ _
        have T0 := Lib.hid (Z9.out.far hgs BW.out.1 hob (fun x hx e s n v xs ho he => row_block ho ZB9.out (by omega)) (lt_of_heap ZB9.out))
        have T1 := Lib.hid (set_heap ZB9.out 2 (.slice mva ML.length mvc) (by simp))
        have T2 := Lib.hid (ON9.out.kept hgs (.inr (row_block ON9.out ZB9.out (by decide))))
        have T3 := Lib.hid (OM9.out.kept hgs (.inr (row_block OM9.out ZB9.out (by decide))))
        clear hgs
        go_upto_region 11 with fail
        refine code_gen (Φ := fun wy => Hid (MO w5 wy ov ((L.take k).map (movedC h tl))) ∧ Hid (wy.heap[Bv]? = some (.cells #[.int .i64 kd, .slice nva nms.length nvc, .slice mva ML.length mvc] 46 (0, 0))) ∧ Hid (wy.ownsRow w5.heap.size 9 1 (.slice nva nms.length nvc) nms.length (nms.flatMap sC)) ∧ Hid (wy.ownsRow w5.heap.size 31 3 (.slice mva ML.length mvc) ML.length (ML.flatMap JV.c))) ⟨T0, T1, T2, T3⟩ ?_
        clear T0 T1 T2 T3 f2 c0 c1 c2 Z9 ZB9 ON9 OM9
        rintro w10 ⟨T, TB, TN, TM⟩
        obtain ⟨c0, c1, c2⟩ := cells3 TB.out
        have hfl : ((L.take k).map (movedC h tl)).length ≤ 300 := by have := HLN.out; rw [List.length_map, List.length_take]; omega
        have VV := Lib.hid (show (L.take (k + 1)).map (movedC h tl) = (L.take k).map (movedC h tl) ++ [⟨kd, nms, ML⟩] by rw [HTK.out, HMC.out])
        clear HTK HMC
        generalize (L.take k).map (movedC h tl) = IT at *
        have hM := MO.call T.out ((Below.refl _ w10).alloc (Nat.le_refl _) (.cells #[.int .i64 kd, .slice nva nms.length nvc, .slice mva ML.length mvc] 46))
        obtain ⟨ts, t1, t2, t3⟩ := hM.ex
        have t2' := t2
        rw [t1] at t2'
        have TT := Lib.hid (And.intro hM.bl (And.intro t1 (And.intro t2 t3)))
        clear hM t1 t2 t3
        go_wp2_with (at_builtin; refine wpList_append_lies _ rfl (.tmp 41) (.tmp 43) 22 rfl w5.heap.size 46 bi zCl 3 56 Try.underlying22 gi0 gi1 gi2 gi3 rfl (by decide) ov _ _ rfl t2' ⟨_, 0, none⟩ 1 1 (Tr.c ⟨kd, .slice nva nms.length nvc, .slice mva ML.length mvc⟩) rfl rfl (cell_tr ⟨kd, .slice nva nms.length nvc, .slice mva ML.length mvc⟩ _ _) (one_tr _ _ _ _ _ _ _) (by decide) (by unfold maxLen; omega) (by omega) (al_le T.out.bl.size _) _ rfl ?_)
        intro g2 cap2 w11 hown hgrow hat _
        have V := Lib.hid (MO.push TT.out.1 TT.out.2.1 TT.out.2.2.1 TT.out.2.2.2 ⟨kd, .slice nva nms.length nvc, .slice mva ML.length mvc⟩ ⟨kd, nms, ML⟩ rfl (own_below TN.out ((Below.refl _ _).alloc (Nat.le_refl _) _) (Nat.le_refl _)) (own_below TM.out ((Below.refl _ _).alloc (Nat.le_refl _) _) (Nat.le_refl _)) rfl hown hgrow (by simpa using hat))
        clear t2' TT hown hgrow hat T TB TN TM c0 c1 c2
        go_wp2_with fail
        go_roundg (L.length - (k + 1))
        case measure => have := G.out; omega
        case rel => exact ⟨k + 1, rfl, by omega, by simp, by rw [VV.out]; exact V.out⟩
      · have hke : k = L.length := by omega
        have hnl : ¬ ((k : Int) < (L.length : Int)) := by omega
        have XC := Lib.hid (show HeapAt wr ov (L.map (movedC h tl)) from by
          have h1 := X.out.heap
          rw [hke, List.take_length] at h1
          exact h1)
        have XB := Lib.hid (X5.out.trans (Below.le X.out.bl X5.out.size))
        have HMR := Lib.hid (moved_any S (.slice a h.length c) (.slice la L.length lc) ta tc tl ra rc roots wr ((X.out.bl.block S (lt_of_heap BK.out)).trans BK.out) (HT.out.mono (fun _ _ _ h => kc X.out.bl h)) (HRS.out.mono (fun _ _ _ h => h.below XB.out)) (fun v hv => by rw [HTN.out]; exact HRF.out v hv) HZ.out)
        clear hke hlt hk X G
        generalize L.map (movedC h tl) = CL at *
        generalize roots.map (movedV tl) = RL at *
        go_wp2_with fail
        refine HMR.out.mono ?_
        rintro e w7 ⟨rv, rfl, or_, hb7⟩
        have Y1 := Lib.hid (XC.out.below hb7)
        have Y2 := Lib.hid (own_jv or_)
        have Y3 := Lib.hid (XB.out.trans (Below.le hb7 XB.out.size))
        clear or_ hb7 HMR XC XB
        go_wp2_with fail
        refine bodyPost_ret (v := .tuple #[ov, rv, .int .i64 0]) (by simp [results, Try.results10, go_sem]) rfl ?_
        rw [← HR2.out]
        exact ⟨_, _, rfl, Y1.out, Y2.out, Y3.out⟩
  · have hr : R = ⟨E, [], []⟩ := by rw [← HR.out, if_neg hE0]
    subst hr
    go_wp2_with fail
    refine bodyPost_ret (v := .tuple #[.slice none 0 0, .slice none 0 0, .int .i64 E]) (by simp [results, Try.results10, go_sem]) rfl ?_
    exact ⟨_, _, rfl, ⟨none, 0, rfl, Nat.le_refl _, by decide, fun h => by simp at h⟩, ⟨none, 0, rfl, Nat.le_refl _, by decide, fun h => by simp at h⟩, X.out⟩
end Go.Proofs.Ytcnplnnpiobikaa
