/- The contract of event's Send. -/
import Derived.Test.YtnnckjgafglgeaaDoorE19
namespace Go.Proofs.YtnnckjgafglgeaaDoor
open Go.RowKit Go.Maps

theorem call28 (args : Array Value) (w : World) : Sem.run Tryd.prog (callFunc 28 args) w = .ok (.enter 28 args) w := by go_simp
theorem call26 (args : Array Value) (w : World) : Sem.run Tryd.prog (callFunc 26 args) w = .ok (.enter 26 args) w := by go_simp
set_option maxRecDepth 100000 in
set_option maxHeartbeats 16000000 in
theorem send_any (nodes : List Nd) (aa0 : Option Addr) (c : Nat) (q : Bool) (ls : List Lis) (la : Option Addr) (lc : Nat) (ev : Ev) (w : World) (h : DocAt w (.slice aa0 nodes.length c) nodes) (hl : SlR w LisAt 8 (.slice la ls.length lc) ls) (hid : ∀ x ∈ ls, (Lit.int .i64 x.id).wf = true) :
    Calls Tryd.prog 11 #[.agg #[.slice aa0 nodes.length c, .bool q], .slice la ls.length lc, Ev.v ev] w fun e w' => ∃ hv lv, e = .returned (.tuple #[hv, .bool (sendV nodes ls ev).no, lv, .int .i64 (sendV nodes ls ev).err]) ∧ w'.ownsRow w.heap.size 46 3 hv (sendV nodes ls ev).heard.length ((sendV nodes ls ev).heard.flatMap Hd.c) ∧ w'.ownsRow w.heap.size 43 8 lv (sendV nodes ls ev).left.length ((sendV nodes ls ev).left.flatMap Lis.c) ∧ Below w.heap.size w w' := by
  have HLS := Lib.hid hl
  have HID := Lib.hid hid
  have HAS := Lib.hid (fun (w6 : World) (hb : Below w.heap.size w w6) => asked_any nodes aa0 c q ls la lc ev w6 (DocAt.below h hb) (hl.mono (fun _ _ _ h => h.below hb)) hid)
  have HAF := Lib.hid (asked_facts nodes ls ev)
  obtain ⟨R, hR⟩ : ∃ R, sendV nodes ls ev = R := ⟨_, rfl⟩
  rw [hR]
  unfold sendV at hR
  obtain ⟨E, path, hE⟩ : ∃ E path, askedV nodes ls ev = (E, path) := ⟨_, _, rfl⟩
  rw [hE] at HAS HAF hR
  have hpl : Hid (path.length ≤ 42 ∨ E ≠ 0) := Lib.hid (by
    by_cases h0 : E = 0
    · left
      have := (HAF.out h0).2.2.2.2.2
      have h2 := pathV_len nodes ev.target
      rw [← this] at h2
      exact h2
    · exact .inr h0)
  have HR := Lib.hid hR
  clear h hl hid hR hE
  show Calls Tryd.prog 11 #[.agg #[.slice aa0 nodes.length c, .bool q], .slice la ls.length lc, .agg #[.string ev.typ, .int .i64 ev.target, .int .i64 ev.x, .int .i64 ev.y, .string ev.key, .bool ev.bub, .bool ev.can]] w _
  go_enter Tryd.func11, Tryd.ntmps11
  obtain ⟨A, hA⟩ : ∃ A, w.heap.size = A := ⟨_, rfl⟩
  go_upto_region 1 with fail
  refine code_gen (Φ := fun wy => Hid (Loc w wy [(.cells #[.slice aa0 nodes.length c, .bool q] 24 (0, 0)), (.cells #[.string ev.typ, .int .i64 ev.target, .int .i64 ev.x, .int .i64 ev.y, .string ev.key, .bool ev.bub, .bool ev.can] 37 (0, 0))])) (Lib.hid (Loc.start2 _ _)) ?_
  intro w3 X
  have X2 := Lib.hid (show BX w w3 A (.cells #[.slice aa0 nodes.length c, .bool q] 24 (0, 0)) (.cells #[.string ev.typ, .int .i64 ev.target, .int .i64 ev.x, .int .i64 ev.y, .string ev.key, .bool ev.bub, .bool ev.can] 37 (0, 0)) from ⟨X.out.bl, hA ▸ X.out.k0, hA ▸ X.out.k1⟩)
  clear X
  have HA := Lib.hid hA
  clear hA
  obtain ⟨c0, c1⟩ := cells2 X2.out.d
  obtain ⟨e0, e1, e2, e3, e4, e5, e6⟩ := cells7 X2.out.e
  have HAS2 : Hid (∀ (w6 : World), Below w.heap.size w w6 → Calls Tryd.prog 26 #[.agg #[.slice aa0 nodes.length c, .bool q], .slice la ls.length lc, .agg #[.string ev.typ, .int .i64 ev.target, .int .i64 ev.x, .int .i64 ev.y, .string ev.key, .bool ev.bub, .bool ev.can]] w6 fun e w' => ∃ v, e = .returned (.tuple #[v, .int .i64 E]) ∧ w'.ownsRow w6.heap.size 3 1 v path.length (path.map nV) ∧ Below w6.heap.size w6 w') := Lib.hid HAS.out
  clear HAS
  go_wp2_with fail
  refine (HAS2.out _ X2.out.bl).mono ?_
  rintro e w4 ⟨pv, rfl, hpo, hb4⟩
  have Y := Lib.hid (X2.out.call hb4)
  have PO := Lib.hid hpo
  clear hb4 hpo X2 c0 c1 e0 e1 e2 e3 e4 e5 e6 HAS2
  by_cases hE0 : E = 0
  · subst hE0
    obtain ⟨pa, pc, rfl⟩ := own_shape PO.out
    obtain ⟨_, h60, _, _, _, _⟩ := HAF.out rfl
    have hp42 : path.length ≤ 42 := hpl.out.resolve_right (fun h => h rfl)
    obtain ⟨sts, hsts⟩ : ∃ sts, stepsV path ev.bub = sts := ⟨_, rfl⟩
    have hsl := stepsV_len path ev.bub
    have HST := Lib.hid (fun (w6 : World) (hb : Below w4.heap.size w4 w6) => steps_any path pa pc ev.bub w6 ((own_int PO.out).mono (fun _ _ _ h => kc hb h)) hp42)
    have HR2 := Lib.hid HR.out
    rw [if_pos rfl] at HR2
    rw [hsts] at HR2 hsl HST
    have hs84 : sts.length ≤ 84 := by omega
    have HL4 := Lib.hid (HLS.out.mono (fun _ _ _ h => LisAt.below h Y.out.bl))
    clear HAF hpl HR hsts hsl PO
    obtain ⟨e0, e1, e2, e3, e4, e5, e6⟩ := cells7 Y.out.e
    have hmm := @run_makeMap Tryd.prog
    obtain ⟨M, hM⟩ : ∃ M, w4.heap.size = M := ⟨_, rfl⟩
    go_upto_region 5 with fail
    clear hmm
    refine code_gen (Φ := fun wy => Hid (SD w4 wy (M + 1) M (M + 2) (.slice la ls.length lc) ev [(M + 1 + 1, (.cells #[.pointer (some ⟨M + 1, 0, none⟩)] 60 (0, 0)))] (.slice none 0 0) (.slice none 0 0) [] [] (.map []) false false false)) (Lib.hid (by have := SD.start w4 (.slice la ls.length lc) ev; rw [hM] at this; exact this)) ?_
    intro w5 X
    have HM := Lib.hid hM
    clear hM e0 e1 e2 e3 e4 e5 e6
    have YE := Lib.hid ((X.out.bl.block (A + 1) (lt_of_heap Y.out.e)).trans Y.out.e)
    obtain ⟨e0, e1, e2, e3, e4, e5, e6⟩ := cells7 YE.out
    go_wp2_with fail
    refine (HST.out _ X.out.bl).mono ?_
    rintro e w6 ⟨stv, rfl, hso, hb6⟩
    obtain ⟨sa, sc, rfl⟩ := own_shape hso
    obtain ⟨K2, hk1, hk2⟩ := own_keep hso
    have HROW := Lib.hid hk2
    have X6 := Lib.hid ((X.out.call hb6).rowKeep rfl (fun p hp => ⟨(hk1 p hp).1, Nat.le_trans X.out.sz (hk1 p hp).2⟩))
    clear hso hb6 hk1 hk2 X e0 e1 e2 e3 e4 e5 e6 HST
    go_upto_region 6 with fail
    obtain ⟨K, hK⟩ : ∃ K, K2 ++ [(M + 1 + 1, (.cells #[.pointer (some ⟨M + 1, 0, none⟩)] 60 (0, 0)))] = K := ⟨_, rfl⟩
    rw [hK] at X6
    have HK2 := Lib.hid (show ∀ p ∈ K2, p ∈ K from fun p hp => by rw [← hK]; exact List.mem_append_left _ hp)
    have HKT := Lib.hid (show (M + 1 + 1, (.cells #[.pointer (some ⟨M + 1, 0, none⟩)] 60 (0, 0))) ∈ K by rw [← hK]; simp)
    clear hK
    go_loopg [14, 36] sts.length (fun g _ v36 wr => ∃ k : Nat, g = sts.length - k ∧ k ≤ sts.length ∧ v36 = .int .i64 (k : Int) ∧ SDX w4 wr (M + 1) M (M + 2) (.slice la ls.length lc) ev K ((sts.take k).foldl (sdStep ev ls) ⟨[], [], false, false, false⟩) ∧ ((sts.take k).foldl (sdStep ev ls) ⟨[], [], false, false, false⟩).gone.length ≤ k * 60 ∧ ((sts.take k).foldl (sdStep ev ls) ⟨[], [], false, false, false⟩).heard.length ≤ k * 60)
    case atStart => exact ⟨0, rfl, Nat.zero_le _, rfl, ⟨_, _, X6.out⟩, Nat.zero_le _, Nat.zero_le _⟩
    case round =>
      clear X6
      obtain ⟨k, hg, hk, rfl, hx, hgl, hhl⟩ := hrel
      have G := Lib.hid hg
      have GL := Lib.hid hgl
      have HL := Lib.hid hhl
      clear hg hgl hhl
      by_cases hlt : k < sts.length
      · have hki : (k : Int) < (sts.length : Int) := by omega
        have HDT := Lib.hid (show (sts.take (k + 1)).foldl (sdStep ev ls) ⟨[], [], false, false, false⟩ = sdStep ev ls ((sts.take k).foldl (sdStep ev ls) ⟨[], [], false, false, false⟩) sts[k] by rw [List.take_add_one, List.getElem?_eq_getElem hlt, List.foldl_append]; rfl)
        obtain ⟨hv, D, h1⟩ := hx
        obtain ⟨b, o, rfl, hst⟩ := (own_st (HROW.out _ (fun p hp => (h1.keep p (HK2.out p hp)).1))).item k hlt
        generalize sts[k] = a at *
        have HGR := Lib.hid (sdStep_grow ev ls ((sts.take k).foldl (sdStep ev ls) ⟨[], [], false, false, false⟩) a)
        obtain ⟨s2, hs2⟩ : ∃ s2, (sts.take (k + 1)).foldl (sdStep ev ls) ⟨[], [], false, false, false⟩ = s2 := ⟨_, rfl⟩
        rw [← HDT.out, hs2] at HGR
        rw [hs2] at HDT
        have HS2 := Lib.hid hs2
        clear hs2
        generalize (sts.take k).foldl (sdStep ev ls) ⟨[], [], false, false, false⟩ = s1 at *
        obtain ⟨hs, gone, b1, b2, b3⟩ := s1
        obtain ⟨an, ap, ad⟩ := a
        simp only at h1 GL HL HGR
        have X := Lib.hid h1
        clear h1
        obtain ⟨s0, s1, s2'⟩ := hst
        simp only at s0 s1 s2'
        obtain ⟨Bv, hB⟩ : ∃ Bv, wr.heap.size = Bv := ⟨_, rfl⟩
        go_upto_region 8 with fail
        refine code_gen (Φ := fun wy => Hid (SD w4 wy (M + 1) M (M + 2) (.slice la ls.length lc) ev ((Bv, .cells #[.int .i64 an, .int .i64 ap, .bool ad] 66 (0, 0)) :: K) hv hv hs gone D b1 b2 b3)) (Lib.hid (by have := X.out.also (.cells #[.int .i64 an, .int .i64 ap, .bool ad] 66 (0, 0)); simpa [hB] using this)) ?_
        intro w7 Z
        clear hB X s0 s1 s2'
        obtain ⟨s0, s1, s2'⟩ := cells3 Z.out.k0
        have t0 : w7.cell? ⟨M + 1 + 1, 0, none⟩ = some (.pointer (some ⟨M + 1, 0, none⟩)) := (Lib.cell_of_heap (Z.out.keep _ (List.mem_cons_of_mem _ HKT.out)).1 0).trans rfl
        obtain ⟨c0, c1, c2, c3, c4, c5, c6, c7, c8, c9, c10, c11, c12⟩ := cells13 Z.out.blk
        by_cases hb1 : b1 = true
        · subst hb1
          obtain rfl : s2 = ⟨hs, gone, true, b2, b3⟩ := by rw [HDT.out]; simp [sdStep]
          clear HDT
          go_wp2_with fail
          go_roundg (sts.length - (k + 1))
          case measure => have := G.out; omega
          case rel =>
            refine ⟨k + 1, rfl, by omega, by simp, ?_, ?_, ?_⟩
            · rw [HS2.out]
              exact ⟨hv, D, Z.out.less (fun p hp => List.mem_cons_of_mem _ hp)⟩
            · rw [HS2.out]
              show gone.length ≤ (k + 1) * 60
              have := GL.out
              omega
            · rw [HS2.out]
              show hs.length ≤ (k + 1) * 60
              have := HL.out
              omega
        obtain rfl : b1 = false := by simpa using hb1
        by_cases hb2 : b2 = true
        · subst hb2
          obtain rfl : s2 = ⟨hs, gone, false, true, b3⟩ := by rw [HDT.out]; simp [sdStep]
          clear HDT
          go_wp2_with fail
          go_roundg (sts.length - (k + 1))
          case measure => have := G.out; omega
          case rel =>
            refine ⟨k + 1, rfl, by omega, by simp, ?_, ?_, ?_⟩
            · rw [HS2.out]
              exact ⟨hv, D, Z.out.less (fun p hp => List.mem_cons_of_mem _ hp)⟩
            · rw [HS2.out]
              show gone.length ≤ (k + 1) * 60
              have := GL.out
              omega
            · rw [HS2.out]
              show hs.length ≤ (k + 1) * 60
              have := HL.out
              omega
        obtain rfl : b2 = false := by simpa using hb2
        have hz : s2 = doS ev ls ⟨hs, gone, false, false, b3⟩ ⟨an, ap, ad⟩ := by rw [HDT.out]; simp [sdStep]
        have HDO : Hid (∀ (wz : World), SD w4 wz (M + 1) M (M + 2) (.slice la ls.length lc) ev ((Bv, .cells #[.int .i64 an, .int .i64 ap, .bool ad] 66 (0, 0)) :: K) hv hv hs gone D false false b3 → Calls Tryd.prog 28 #[.pointer (some ⟨M + 1, 0, none⟩), .agg #[.int .i64 an, .int .i64 ap, .bool ad]] wz fun e w' => e = .returned (.tuple #[]) ∧ SDX w4 w' (M + 1) M (M + 2) (.slice la ls.length lc) ev ((Bv, .cells #[.int .i64 an, .int .i64 ap, .bool ad] 66 (0, 0)) :: K) s2) := Lib.hid (fun wz h => by
          rw [hz]
          exact do_any w4 (M + 1) M (M + 2) la lc ls ev _ ⟨hs, gone, false, false, b3⟩ ⟨an, ap, ad⟩ wz HL4.out HID.out ⟨hv, D, h⟩ h60 (by have := GL.out; simp only; omega) (by have := HL.out; simp only; omega))
        have hc28 := call28
        clear hz HDT
        go_wp2_with fail
        refine (HDO.out _ Z.out).mono ?_
        rintro e w8 ⟨rfl, hx8⟩
        have X8 := Lib.hid (hx8.less (fun p hp => List.mem_cons_of_mem (Bv, _) hp))
        clear hx8 HDO Z s0 s1 s2' t0 c0 c1 c2 c3 c4 c5 c6 c7 c8 c9 c10 c11 c12
        go_wp2_with fail
        go_roundg (sts.length - (k + 1))
        case measure => have := G.out; omega
        case rel =>
          refine ⟨k + 1, rfl, by omega, by simp, ?_, ?_, ?_⟩
          · rw [HS2.out]
            exact X8.out
          · rw [HS2.out]
            have := GL.out
            have := HGR.out.1
            omega
          · rw [HS2.out]
            have := HL.out
            have := HGR.out.2
            omega
      · have hke : k = sts.length := by omega
        rw [hke, List.take_length] at hx
        rw [show sts.foldl (sdStep ev ls) ⟨[], [], false, false, false⟩ = sendS ev ls sts from rfl] at hx
        have HKE := Lib.hid hke
        clear hke
        generalize sendS ev ls sts = s at *
        obtain ⟨DG, hga⟩ := hx.gone HKT.out
        obtain ⟨hv, D, h1⟩ := hx
        have X := Lib.hid h1
        have GA := Lib.hid hga
        clear h1 hga GL HL
        have HCL := Lib.hid (cloneL_any la lc ls wr (HL4.out.mono (fun _ _ _ h => LisAt.below h X.out.bl)) (by omega))
        go_wp2_with fail
        refine HCL.out.mono ?_
        rintro e w7 ⟨cv, rfl, hco, hb7⟩
        have XS : M + 1 < wr.heap.size := X.out.ltS
        have XM : M < wr.heap.size := by omega
        have XT : M + 1 + 1 < wr.heap.size := lt_of_heap GA.out.t
        have HDE := Lib.hid (delL_any (M + 1 + 1) (M + 1) M s.gone.length wr.heap.size s.gone DG cv ls w7 hco (GA.out.below hb7) (fun k hk => by have := (hco.lt k hk).1; omega) HID.out (by omega))
        have HB7 := Lib.hid hb7
        have HCO := Lib.hid hco
        have hXS := Lib.hid XS
        clear hco hb7 HCL XS XM XT GA
        obtain ⟨F, hF⟩ : ∃ F, ls.filter (fun x => !s.gone.contains x.id) = F := ⟨_, rfl⟩
        rw [hF] at HDE HR2
        clear hF
        go_wp2_with fail
        refine HDE.out.mono ?_
        rintro e w8 ⟨lv, rfl, hlo, hg8⟩
        have HLO := Lib.hid hlo
        have B8 := Lib.hid (show Below wr.heap.size wr w8 from HB7.out.grown hg8 HB7.out.size (fun k hk => (HCO.out.lt k hk).1))
        have X8 := Lib.hid (X.out.call B8.out)
        clear hlo hg8 HDE HCO HB7
        have t0 : w8.cell? ⟨M + 1 + 1, 0, none⟩ = some (.pointer (some ⟨M + 1, 0, none⟩)) := (Lib.cell_of_heap (X8.out.keep _ HKT.out).1 0).trans rfl
        have c8 := (cells13 X8.out.blk).2.2.2.2.2.2.2.2.1
        have c12 := (cells13 X8.out.blk).2.2.2.2.2.2.2.2.2.2.2.2
        have hle : w.heap.size ≤ M + 2 := by have := Y.out.bl.size; have := HM.out; omega
        have hle2 : w.heap.size ≤ wr.heap.size := by have := X.out.sz; omega
        have HLE := Lib.hid hle
        have HLE2 := Lib.hid hle2
        clear hle hle2
        have HBL := Lib.hid (show Below w.heap.size w w8 from Y.out.bl.trans (Below.le X8.out.bl Y.out.bl.size))
        go_upto_region 12 with fail
        go_quiet (fail)
        all_goals
          go_wp2_with fail
          refine bodyPost_ret (v := .tuple #[hv, .bool s.no, lv, .int .i64 0]) (by simp [results, Tryd.results11, go_sem]) rfl ?_
          have XF := Lib.hid (X8.out.drewN nq)
          rw [← HR2.out]
          exact ⟨hv, lv, rfl, own_lower XF.out.own HLE.out, own_lower (own_below HLO.out (below_drewN (Below.refl _ _) nq) (Nat.le_refl _)) HLE2.out, below_drewN HBL.out nq⟩
  · have hr : R = ⟨E, [], false, []⟩ := by rw [← HR.out, if_neg hE0]
    subst hr
    go_wp2_with fail
    refine bodyPost_ret (v := .tuple #[.slice none 0 0, .bool false, .slice none 0 0, .int .i64 E]) (by simp [results, Tryd.results11, go_sem]) rfl ?_
    exact ⟨_, _, rfl, World.ownsRow_nil _ _ _ _, World.ownsRow_nil _ _ _ _, Y.out.bl⟩
end Go.Proofs.YtnnckjgafglgeaaDoor
