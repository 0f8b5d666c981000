/- The law EventOrder. -/
import Derived.Test.YtnnckjgafglgeaaDoorE23
import Derived.Test.YtnnckjgafglgeaaDoorL5
namespace Go.Proofs.YtnnckjgafglgeaaDoor
open Go.RowKit Go.Maps

theorem MX.call {w0 wr w' : World} {seen : List Int} {D : DataW Unit} (h : MX w0 wr seen D) (hb : Below wr.heap.size wr w') : MX w0 w' seen D :=
  ⟨h.map.kept (row := none) ⟨hb.os, hb.tape, hb.output, hb.size, fun k hk _ => hb.block k hk⟩ (by simp), h.at_, h.bl.trans (Below.le hb h.bl.size)⟩
theorem call20 (args : Array Value) (w : World) : Sem.run Tryd.prog (callFunc 20 args) w = .ok (.enter 20 args) w := by go_simp
theorem call22 (args : Array Value) (w : World) : Sem.run Tryd.prog (callFunc 22 args) w = .ok (.enter 22 args) w := by go_simp
set_option maxRecDepth 100000 in
set_option maxHeartbeats 16000000 in
theorem law_order (nodes : List Nd) (aa0 : Option Addr) (c : Nat) (q : Bool) (ls : List Lis) (la : Option Addr) (lc : Nat) (ev : Ev) (w : World) (h : DocAt w (.slice aa0 nodes.length c) nodes) (hl : SlR w LisAt 8 (.slice la ls.length lc) ls) (hid : ∀ x ∈ ls, (Lit.int .i64 x.id).wf = true) :
    Calls Tryd.prog 7 #[.agg #[.slice aa0 nodes.length c, .bool q], .slice la ls.length lc, Ev.v ev] w fun e w' => e = .returned (.bool true) ∧ Below w.heap.size w w' := by
  have HLS := Lib.hid hl
  have HSE0 := Lib.hid (fun (w6 : World) (hb : Below w.heap.size w w6) => send_any nodes aa0 c q ls la lc ev w6 (DocAt.below h hb) (hl.mono (fun _ _ _ h => h.below hb)) hid)
  have HPA := Lib.hid (fun (w6 : World) (hb : Below w.heap.size w w6) => path_any nodes aa0 c q ev.target w6 (DocAt.below h hb))
  have HLI := Lib.hid lives_any
  have HID := Lib.hid hid
  have HOK := Lib.hid (fun (hE : (sendV nodes ls ev).err = 0) => (sent_ok nodes ls ev hE).elim fun p hp => (show ∃ p, pathV nodes ev.target = (0, p) ∧ OrdSays ls ev p (sendV nodes ls ev).heard ∧ ls.length ≤ 60 ∧ p.length ≤ 42 from ⟨p, hp.path, ord_says hp, hp.len, by have := pathV_len nodes ev.target; rw [hp.path] at this; exact this⟩))
  have HSN := Lib.hid (sent_no nodes ls ev)
  obtain ⟨lc1, lc2, lc3⟩ := SlR.cap hl
  clear h hl hid
  generalize sendV nodes ls ev = R at *
  obtain ⟨E, hs, no, left⟩ := R
  simp only at HOK HSN
  have HSE : Hid (∀ (w6 : World), Below w.heap.size w w6 → Calls Tryd.prog 11 #[.agg #[.slice aa0 nodes.length c, .bool q], .slice la ls.length lc, .agg #[.string ev.typ, .int .i64 ev.target, .int .i64 ev.x, .int .i64 ev.y, .string ev.key, .bool ev.bub, .bool ev.can]] w6 fun e w' => ∃ ha hc lv, e = .returned (.tuple #[.slice ha hs.length hc, .bool no, lv, .int .i64 E]) ∧ SlR w' HdAt 3 (.slice ha hs.length hc) hs ∧ Below w6.heap.size w6 w') := Lib.hid (fun w6 hb => (HSE0.out w6 hb).mono (by
    rintro e w' ⟨hv, lv, h1, h2, h3, h4⟩
    obtain ⟨ha, hc, rfl⟩ := own_shape h2
    exact ⟨ha, hc, lv, h1, own_hd h2, h4⟩))
  clear HSE0
  generalize pathV nodes ev.target = RP at *
  obtain ⟨EP, p⟩ := RP
  simp only at HPA HOK
  show Calls Tryd.prog 7 #[.agg #[.slice aa0 nodes.length c, .bool q], .slice la ls.length lc, .agg #[.string ev.typ, .int .i64 ev.target, .int .i64 ev.x, .int .i64 ev.y, .string ev.key, .bool ev.bub, .bool ev.can]] w _
  go_enter Tryd.func7, Tryd.ntmps7
  obtain ⟨A, hA⟩ : ∃ A, w.heap.size = A := ⟨_, rfl⟩
  go_upto_region 1 with fail
  refine code_gen (Φ := fun wy => Hid (Loc w wy [(.cells #[.slice aa0 nodes.length c, .bool q] 24 (0, 0)), (.cells #[.string ev.typ, .int .i64 ev.target, .int .i64 ev.x, .int .i64 ev.y, .string ev.key, .bool ev.bub, .bool ev.can] 37 (0, 0))])) (Lib.hid (Loc.start2 _ _)) ?_
  intro w3 X
  have X2 := Lib.hid (show BX w w3 A (.cells #[.slice aa0 nodes.length c, .bool q] 24 (0, 0)) (.cells #[.string ev.typ, .int .i64 ev.target, .int .i64 ev.x, .int .i64 ev.y, .string ev.key, .bool ev.bub, .bool ev.can] 37 (0, 0)) from ⟨X.out.bl, hA ▸ X.out.k0, hA ▸ X.out.k1⟩)
  clear X hA
  obtain ⟨c0, c1⟩ := cells2 X2.out.d
  obtain ⟨e0, e1, e2, e3, e4, e5, e6⟩ := cells7 X2.out.e
  go_wp2_with fail
  refine (HSE.out _ X2.out.bl).mono ?_
  rintro e w4 ⟨ha, hc, lv, rfl, hh, hb4⟩
  have Y := Lib.hid (X2.out.call hb4)
  have HH := Lib.hid hh
  clear hb4 hh X2 c0 c1 e0 e1 e2 e3 e4 e5 e6 HSE
  obtain ⟨c0, c1⟩ := cells2 Y.out.d
  obtain ⟨e0, e1, e2, e3, e4, e5, e6⟩ := cells7 Y.out.e
  go_wp2_with fail
  refine (HPA.out _ Y.out.bl).mono ?_
  rintro e w4' ⟨pv, rfl, hpo, hb4⟩
  obtain ⟨pa, pc, rfl⟩ := own_shape hpo
  have Y2 := Lib.hid (Y.out.call hb4)
  have HH2 := Lib.hid (HH.out.mono (fun _ _ _ h => h.below hb4))
  have PP := Lib.hid (own_int hpo)
  clear hb4 hpo Y HH c0 c1 e0 e1 e2 e3 e4 e5 e6 HPA
  go_wp2_with fail
  refine (HLI.out _).mono ?_
  rintro e w5 ⟨rfl, hb5⟩
  have Z := Lib.hid (Y2.out.call hb5)
  have HZ := Lib.hid (HH2.out.mono (fun _ _ _ h => h.below hb5))
  have PZ := Lib.hid (PP.out.mono (fun _ _ _ h => kc hb5 h))
  clear hb5 Y2 HH2 PP
  by_cases hE0 : E = 0
  · subst hE0
    obtain ⟨p', hpe, hos, h60, h42⟩ := HOK.out rfl
    injection hpe with hpe1 hpe2
    subst hpe1
    subst hpe2
    have OS := Lib.hid hos
    clear HOK HSN hos
    obtain ⟨n1, n2, n3⟩ := HZ.out.cap
    obtain ⟨q1, q2, q3⟩ := PZ.out.cap
    have LZ := Lib.hid (HLS.out.mono (fun _ _ _ h => LisAt.below h Z.out.bl))
    clear HLS
    have hmm := @run_makeMap Tryd.prog
    go_upto_region 10 with fail
    clear hmm
    refine code_gen (Φ := fun wy => Hid (MX w5 wy [] (.map []))) (Lib.hid ⟨World.ownsMap_made _ _ _ _, fun x _ => rfl, (Below.refl _ _).alloc (Nat.le_refl _) _⟩) ?_
    intro w6 X0
    go_loopg [53, 14, 16, 17, 18, 19] hs.length (fun g v53 v14 _ _ _ _ wr => ∃ (k : Nat) (D : DataW Unit), g = hs.length - k ∧ k ≤ hs.length ∧ v53 = .int .i64 (k : Int) ∧ v14 = .int .i64 (lastPl (pl ls p) (hs.take k)) ∧ MX w5 wr ((hs.take k).map Hd.lis) D)
    case atStart => exact ⟨0, _, rfl, Nat.zero_le _, rfl, rfl, X0.out⟩
    case round =>
      clear X0
      obtain ⟨k, D, hg, hk, rfl, rfl, hx⟩ := hrel
      have G := Lib.hid hg
      have X := Lib.hid hx
      clear hg hx
      by_cases hlt : k < hs.length
      · have hki : (k : Int) < (hs.length : Int) := by omega
        obtain ⟨hle, hns⟩ := OS.out.le k hlt
        obtain ⟨m, i, hm, hi, ix, ip, hnode, htyp, hpl, hph, hbu, hlid⟩ := (OS.out.at_ hs[k] (List.getElem_mem hlt)).ex
        have HTK := Lib.hid (show (hs.take (k + 1)).map Hd.lis = (hs.take k).map Hd.lis ++ [hs[k].lis] by rw [List.take_add_one, List.getElem?_eq_getElem hlt, List.map_append]; rfl)
        have HLP := Lib.hid (show lastPl (pl ls p) (hs.take (k + 1)) = pl ls p hs[k] by rw [List.take_add_one, List.getElem?_eq_getElem hlt]; exact lastPl_snoc _ _ _)
        have HWF := Lib.hid (show (Lit.int .i64 hs[k].lis).wf = true by rw [← hlid]; exact HID.out _ (List.getElem_mem hm))
        obtain ⟨b, o, rfl, hli⟩ := HZ.out.item k hlt
        have hll := hli.below X.out.bl
        clear hli
        have hsk : ((hs.take k).map Hd.lis).length = k := by rw [List.length_map, List.length_take]; omega
        generalize hs[k] = W at *
        generalize lastPl (pl ls p) (hs.take k) = LP at *
        generalize pl ls p W = PL at *
        obtain ⟨li, hn, ph⟩ := W
        obtain ⟨l0, l1, l2⟩ := hll
        simp only at l0 l1 l2 hnode hph hlid HTK HWF hns ix ip
        obtain ⟨lb, lo, rfl, hlm⟩ := LZ.out.item m hm
        generalize ls[m] = L at *
        obtain ⟨id, nd, ty, cp, on, st, al, pv⟩ := L
        simp only at hnode htyp hpl hbu hlid
        subst hnode htyp hlid
        have HLM := Lib.hid hlm
        have HLE := Lib.hid hle
        have HPL := Lib.hid hpl
        have HPH := Lib.hid hph
        have HBU := Lib.hid hbu
        have HNS := Lib.hid hns
        have HSK := Lib.hid hsk
        clear hlm hle hpl hph hbu hns hsk
        obtain ⟨Bv, hBv⟩ : ∃ Bv, wr.heap.size = Bv := ⟨_, rfl⟩
        have hbm : Bv ≠ w5.heap.size := by have := X.out.map.lt; omega
        go_upto_region 12 with fail
        refine code_gen (Φ := fun wy => Hid (MX w5 wy ((hs.take k).map Hd.lis) D) ∧ Hid (wy.heap[Bv]? = some (.cells #[.int .i64 id, .int .i64 nd, .int .i64 ph] 46 (0, 0)))) ⟨Lib.hid (X.out.alloc _), Lib.hid (alloc_at hBv _)⟩ ?_
        rintro w7 ⟨Y, YB⟩
        clear hBv X l0 l1 l2
        obtain ⟨l0, l1, l2⟩ := cells3 YB.out
        have HIX := Lib.hid (idxL_any 21 (fun y => y.id == id) (fun _ => True) (.pointer (some ⟨Bv, 0, none⟩)) (fun w => w.cell? ⟨Bv, 0, none⟩ = some (.int .i64 id)) (fun _ _ h hb => kc hb h) (fun j w _ h => clo21_any Bv id j w h) call21 (some ⟨lb, lo, none⟩) lc ls w7 (LZ.out.mono (fun _ _ _ h => h.below Y.out.bl)) (by omega) (fun _ _ => trivial) l0)
        rw [ix] at HIX
        have hc20 := call20
        have hc22 := call22
        go_wp2_with fail
        refine HIX.out.mono ?_
        rintro e w8 ⟨rfl, hb8⟩
        have Y8 := Lib.hid (Y.out.call hb8)
        have YB8 := Lib.hid ((hb8.block Bv (lt_of_heap YB.out)).trans YB.out)
        clear hb8 HIX Y YB l0 l1 l2
        obtain ⟨l0, l1, l2⟩ := cells3 YB8.out
        have HIP := Lib.hid (index_any pa pc p nd w8 (PZ.out.mono (fun _ _ _ h => kc Y8.out.bl h)))
        rw [ip] at HIP
        go_wp2_with fail
        refine HIP.out.mono ?_
        rintro e w9 ⟨rfl, hb9⟩
        have Y := Lib.hid (Y8.out.call hb9)
        have YB := Lib.hid ((hb9.block Bv (lt_of_heap YB8.out)).trans YB8.out)
        clear hb9 HIP Y8 YB8 l0 l1 l2
        obtain ⟨l0, l1, l2⟩ := cells3 YB.out
        obtain ⟨x0, x1, x2, x3, x4, x5, x6, x7⟩ := HLM.out.below Y.out.bl
        simp only at x0 x1 x2 x3 x4 x5 x6 x7
        have YE := Lib.hid ((Y.out.bl.block (A + 1) (lt_of_heap Z.out.e)).trans Z.out.e)
        obtain ⟨e0, e1, e2, e3, e4, e5, e6⟩ := cells7 YE.out
        have hrun : ∀ n, Sem.run Tryd.prog (Instr.lookup 53 (.map (some w5.heap.size)) (.int .i64 id) false) (w9.drewN n) = .ok (.int .i64 0) (w9.drewN n) := fun n => by
          have Yn := Y.out.call (below_drewN (Below.refl _ _) n)
          obtain ⟨r, hrun, hat, _⟩ := Yn.map.lookup_int law3 Tryd.underlying53 Tryd.underlying3 (zero3 _) (keyOf_int_mk Tryd.underlying3 HWF.out)
          rw [Yn.at_ id HWF.out, if_neg (by rw [List.contains_iff_mem]; exact HNS.out)] at hat
          have hr1 : r = 0 := by injection hat with hat; injection hat with _ hat; exact hat.symm
          subst hr1
          exact hrun
        have hmi : (m : Int) < (ls.length : Int) := by omega
        have hm0 : ¬ ((m : Int) < 0) := by omega
        have hi0 : ¬ ((i : Int) < 0) := by omega
        go_upto_region 14 with fail
        go_cut [96] (fun v96 wx => v96 = .bool false ∧ MX w5 wx ((hs.take k).map Hd.lis) D ∧ wx.heap[Bv]? = some (.cells #[.int .i64 id, .int .i64 nd, .int .i64 ph] 46 (0, 0)))
        case first =>
          go_quiet (fail)
          all_goals
            go_wp2_with fail
            go_meet
            exact ⟨rfl, by first | exact Y.out | exact Y.out.call (below_drew (Below.refl _ _)) | exact Y.out.call (below_drewN (Below.refl _ _) _), YB.out⟩
        case rest =>
          obtain ⟨rfl, hy, hyb⟩ := hcut
          clear Y YB l0 l1 l2 x0 x1 x2 x3 x4 x5 x6 x7 e0 e1 e2 e3 e4 e5 e6 hrun YE
          have Y := Lib.hid hy
          have YB := Lib.hid hyb
          clear hy hyb
          obtain ⟨l0, l1, l2⟩ := cells3 YB.out
          go_upto_region 16 with fail
          go_wp2_with (first | (at_mapUpdate; refine wpList_mapUpdate_own _ rfl _ _ _ 53 rfl 3 3 law3 Tryd.underlying53 _ w5.heap.size _ D rfl Y.out.map (by unfold maxLen; rw [HSK.out]; omega) _ _ _ rfl rfl (keyOf_int_mk Tryd.underlying3 HWF.out) (.lit (.int .i64 1)) [] (plainElem_int Tryd.underlying3 (by decide)) ?_))
          intro w10 hm4 hg4
          have V := Lib.hid (Y.out.put id (by rw [HSK.out]; exact hm4) hg4)
          have VB := Lib.hid ((hg4.block Bv (lt_of_heap YB.out) (fun e2 => by injection e2 with e2; exact hbm e2)).trans YB.out)
          clear hm4 hg4 l0 l1 l2 Y YB
          obtain ⟨l0, l1, l2⟩ := cells3 VB.out
          obtain ⟨x0, x1, x2, x3, x4, x5, x6, x7⟩ := HLM.out.below V.out.bl
          simp only at x0 x1 x2 x3 x4 x5 x6 x7
          have YE := Lib.hid ((V.out.bl.block (A + 1) (lt_of_heap Z.out.e)).trans Z.out.e)
          obtain ⟨e0, e1, e2, e3, e4, e5, e6⟩ := cells7 YE.out
          have hlen0 : (0 : Int) < (p.length : Int) := by omega
          have hil2 : (i : Int) < (p.length : Int) := by omega
          have h42i : (p.length : Int) ≤ 42 := by omega
          cases cp with
          | true =>
            have hPL : PL = (i : Int) := by rw [HPL.out, if_pos rfl]
            have hlp : ¬ ((i : Int) < LP) := by have := HLE.out; omega
            have HPL2 := Lib.hid hPL
            clear hPL
            have hPL := HPL2.out
            by_cases hia : (i : Int) = (p.length : Int) - 1
            · obtain rfl : ph = 2 := HPH.out.2 hia
              have hib : ((i : Int) == (p.length : Int) - 1) = true := by rw [hia]; simp
              have HIA := Lib.hid hia
              clear hia hPL
              go_wp2_with fail
              have hPL := HPL2.out
              go_roundg (hs.length - (k + 1))
              case measure => have := G.out; omega
              case rel => exact ⟨k + 1, _, rfl, by omega, by simp, by rw [HLP.out, hPL], by rw [HTK.out]; exact V.out⟩
            · have hpb : (ph == 2) = false := by rw [beq_eq_false_iff_ne]; exact fun e => hia (HPH.out.1 e)
              have hib : ((i : Int) == (p.length : Int) - 1) = false := by rw [beq_eq_false_iff_ne]; exact hia
              clear hPL
              go_wp2_with fail
              have hPL := HPL2.out
              go_roundg (hs.length - (k + 1))
              case measure => have := G.out; omega
              case rel => exact ⟨k + 1, _, rfl, by omega, by simp, by rw [HLP.out, hPL], by rw [HTK.out]; exact V.out⟩
          | false =>
            have HPL2 := Lib.hid (show PL = 2 * (p.length : Int) - 1 - (i : Int) by rw [HPL.out, if_neg (by decide)]; omega)
            have hlp : ¬ (2 * (p.length : Int) - 1 - (i : Int) < LP) := by have := HLE.out; have := HPL2.out; omega
            by_cases hia : (i : Int) = (p.length : Int) - 1
            · obtain rfl : ph = 2 := HPH.out.2 hia
              have hib : ((i : Int) == (p.length : Int) - 1) = true := by rw [hia]; simp
              have hil : ¬ ((i : Int) < (p.length : Int) - 1) := by omega
              have HIA := Lib.hid hia
              clear hia
              go_wp2_with fail
              have hPL := HPL2.out
              go_roundg (hs.length - (k + 1))
              case measure => have := G.out; omega
              case rel => exact ⟨k + 1, _, rfl, by omega, by simp, by rw [HLP.out, hPL], by rw [HTK.out]; exact V.out⟩
            · have hpb : (ph == 2) = false := by rw [beq_eq_false_iff_ne]; exact fun e => hia (HPH.out.1 e)
              have hib : ((i : Int) == (p.length : Int) - 1) = false := by rw [beq_eq_false_iff_ne]; exact hia
              have hil : (i : Int) < (p.length : Int) - 1 := by omega
              have hbub := HBU.out rfl hil
              rw [hbub] at e5
              have HB := Lib.hid hbub
              clear hbub
              go_wp2_with fail
              have hPL := HPL2.out
              go_roundg (hs.length - (k + 1))
              case measure => have := G.out; omega
              case rel => exact ⟨k + 1, _, rfl, by omega, by simp, by rw [HLP.out, hPL], by rw [HTK.out]; exact V.out⟩
      · have hnl : ¬ ((k : Int) < (hs.length : Int)) := by omega
        have V := Lib.hid (Z.out.bl.trans (Below.le X.out.bl Z.out.bl.size))
        go_wp2_with fail
        go_ret
        exact ⟨rfl, V.out⟩
  · obtain ⟨h1, h2, h3⟩ := HSN.out hE0
    subst h1
    go_wp2_with fail
    refine (HLI.out _).mono ?_
    rintro e w6 ⟨rfl, hb6⟩
    have V := Lib.hid (Z.out.bl.trans (Below.le hb6 Z.out.bl.size))
    clear hb6
    go_wp2_with fail
    go_ret
    exact ⟨rfl, V.out⟩
end Go.Proofs.YtnnckjgafglgeaaDoor
