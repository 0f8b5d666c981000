/- The law EventPrevents. -/
import Derived.Test.YtnnckjgafglgeaaDoorE23
import Derived.Test.YtnnckjgafglgeaaDoorL5
namespace Go.Proofs.YtnnckjgafglgeaaDoor
open Go.RowKit

theorem any_take {α : Type} (p : α → Bool) (l : List α) (k : Nat) (h : k < l.length) : (l.take (k + 1)).any p = ((l.take k).any p || p l[k]) := by
  rw [List.take_add_one, List.getElem?_eq_getElem h, List.any_append]
  simp
theorem call14 (args : Array Value) (w : World) : Sem.run Tryd.prog (callFunc 14 args) w = .ok (.enter 14 args) w := by go_simp
set_option maxRecDepth 100000 in
set_option maxHeartbeats 16000000 in
theorem law_prevents (nodes : List Nd) (aa0 : Option Addr) (c : Nat) (q : Bool) (ls : List Lis) (la : Option Addr) (lc : Nat) (ev : Ev) (w : World) (h : DocAt w (.slice aa0 nodes.length c) nodes) (hl : SlR w LisAt 8 (.slice la ls.length lc) ls) (hid : ∀ x ∈ ls, (Lit.int .i64 x.id).wf = true) :
    Calls Tryd.prog 6 #[.agg #[.slice aa0 nodes.length c, .bool q], .slice la ls.length lc, Ev.v ev] w fun e w' => e = .returned (.bool true) ∧ Below w.heap.size w w' := by
  have HLS := Lib.hid hl
  have HSE := Lib.hid (fun (w6 : World) (hb : Below w.heap.size w w6) => send_any nodes aa0 c q ls la lc ev w6 (DocAt.below h hb) (hl.mono (fun _ _ _ h => h.below hb)) hid)
  have HLI := Lib.hid lives_any
  have HOK := Lib.hid (fun (p : List Int) (h : SentOk nodes ls ev p) => And.intro (prevents_says h) h.hl)
  have HSO := Lib.hid (sent_ok nodes ls ev)
  have HSN := Lib.hid (sent_no nodes ls ev)
  obtain ⟨lc1, lc2, lc3⟩ := SlR.cap hl
  clear h hl hid
  generalize sendV nodes ls ev = R at *
  obtain ⟨E, hs, no, left⟩ := R
  simp only at HOK HSO HSN
  have HSE2 : Hid (∀ (w6 : World), Below w.heap.size w w6 → Calls Tryd.prog 11 #[.agg #[.slice aa0 nodes.length c, .bool q], .slice la ls.length lc, .agg #[.string ev.typ, .int .i64 ev.target, .int .i64 ev.x, .int .i64 ev.y, .string ev.key, .bool ev.bub, .bool ev.can]] w6 fun e w' => ∃ ha hc lv, e = .returned (.tuple #[.slice ha hs.length hc, .bool no, lv, .int .i64 E]) ∧ SlR w' HdAt 3 (.slice ha hs.length hc) hs ∧ Below w6.heap.size w6 w') := Lib.hid (fun w6 hb => (HSE.out w6 hb).mono (by
    rintro e w' ⟨hv, lv, h1, h2, h3, h4⟩
    obtain ⟨ha, hc, rfl⟩ := own_shape h2
    exact ⟨ha, hc, lv, h1, own_hd h2, h4⟩))
  clear HSE
  show Calls Tryd.prog 6 #[.agg #[.slice aa0 nodes.length c, .bool q], .slice la ls.length lc, .agg #[.string ev.typ, .int .i64 ev.target, .int .i64 ev.x, .int .i64 ev.y, .string ev.key, .bool ev.bub, .bool ev.can]] w _
  go_enter Tryd.func6, Tryd.ntmps6
  obtain ⟨A, hA⟩ : ∃ A, w.heap.size = A := ⟨_, rfl⟩
  go_upto_region 1 with fail
  refine code_gen (Φ := fun wy => Hid (Loc w wy [(.cells #[.slice aa0 nodes.length c, .bool q] 24 (0, 0)), (.cells #[.string ev.typ, .int .i64 ev.target, .int .i64 ev.x, .int .i64 ev.y, .string ev.key, .bool ev.bub, .bool ev.can] 37 (0, 0))])) (Lib.hid (Loc.start2 _ _)) ?_
  intro w3 X
  have X2 := Lib.hid (show BX w w3 A (.cells #[.slice aa0 nodes.length c, .bool q] 24 (0, 0)) (.cells #[.string ev.typ, .int .i64 ev.target, .int .i64 ev.x, .int .i64 ev.y, .string ev.key, .bool ev.bub, .bool ev.can] 37 (0, 0)) from ⟨X.out.bl, hA ▸ X.out.k0, hA ▸ X.out.k1⟩)
  clear X hA
  obtain ⟨c0, c1⟩ := cells2 X2.out.d
  obtain ⟨e0, e1, e2, e3, e4, e5, e6⟩ := cells7 X2.out.e
  go_wp2_with fail
  refine (HSE2.out _ X2.out.bl).mono ?_
  rintro e w4 ⟨ha, hc, lv, rfl, hh, hb4⟩
  have Y := Lib.hid (X2.out.call hb4)
  have HH := Lib.hid hh
  clear hb4 hh X2 c0 c1 e0 e1 e2 e3 e4 e5 e6 HSE2
  go_wp2_with fail
  refine (HLI.out _).mono ?_
  rintro e w5 ⟨rfl, hb5⟩
  have Z := Lib.hid (Y.out.call hb5)
  have HZ := Lib.hid (HH.out.mono (fun _ _ _ h => h.below hb5))
  clear hb5 Y HH
  by_cases hE0 : E = 0
  · subst hE0
    obtain ⟨p, hp⟩ := HSO.out rfl
    obtain ⟨hno, hhl⟩ := HOK.out p hp
    have HNO := Lib.hid hno
    clear hno
    have hhc := HZ.out.cap
    clear HOK HSO HSN hp p
    obtain ⟨PR, hPR⟩ : ∃ PR : Lis → Bool, PR = fun y => y.prev && hasHd hs y.id := ⟨_, rfl⟩
    rw [← hPR] at HNO
    have HPR := Lib.hid hPR
    clear hPR
    go_upto_region 6 with fail
    go_loopg [36, 11, 13] ls.length (fun g v36 v11 _ wr => ∃ (k : Nat), g = ls.length - k ∧ k ≤ ls.length ∧ v36 = .int .i64 (k : Int) ∧ v11 = .bool ((ls.take k).any PR) ∧ BX w wr A (.cells #[.slice aa0 nodes.length c, .bool q] 24 (0, 0)) (.cells #[.string ev.typ, .int .i64 ev.target, .int .i64 ev.x, .int .i64 ev.y, .string ev.key, .bool ev.bub, .bool ev.can] 37 (0, 0)) ∧ Below w5.heap.size w5 wr)
    case atStart => exact ⟨0, rfl, Nat.zero_le _, rfl, rfl, Z.out, Below.refl _ _⟩
    case round =>
      clear Z
      obtain ⟨k, hg, hk, rfl, rfl, hx, hb⟩ := hrel
      have G := Lib.hid hg
      have X := Lib.hid hx
      have B := Lib.hid hb
      clear hg hx hb
      by_cases hlt : k < ls.length
      · have hki : (k : Int) < (ls.length : Int) := by omega
        have HTK := Lib.hid (any_take PR ls k hlt)
        obtain ⟨b, o, rfl, hli⟩ := HLS.out.item k hlt
        have hll := hli.below X.out.bl
        clear hli
        generalize ls[k] = L at *
        obtain ⟨id, nd, ty, cp, on, st, al, pv⟩ := L
        obtain ⟨l0, l1, l2, l3, l4, l5, l6, l7⟩ := hll
        simp only at l0 l1 l2 l3 l4 l5 l6 l7
        have hpr : PR ⟨id, nd, ty, cp, on, st, al, pv⟩ = (pv && hasHd hs id) := by rw [HPR.out]
        rw [hpr] at HTK
        clear hpr
        obtain ⟨Bv, hBv⟩ : ∃ Bv, wr.heap.size = Bv := ⟨_, rfl⟩
        go_upto_region 8 with fail
        refine code_gen (Φ := fun wy => Hid (BX w wy A (.cells #[.slice aa0 nodes.length c, .bool q] 24 (0, 0)) (.cells #[.string ev.typ, .int .i64 ev.target, .int .i64 ev.x, .int .i64 ev.y, .string ev.key, .bool ev.bub, .bool ev.can] 37 (0, 0))) ∧ Hid (Below w5.heap.size w5 wy) ∧ Hid (wy.heap[Bv]? = some (.cells #[.int .i64 id, .int .i64 nd, .string ty, .bool cp, .bool on, .bool st, .bool al, .bool pv] 43 (0, 0)))) ⟨Lib.hid (X.out.call ((Below.refl _ _).alloc (Nat.le_refl _) _)), Lib.hid (B.out.alloc B.out.size _), Lib.hid (alloc_at hBv _)⟩ ?_
        rintro w6 ⟨Y, B5, ZB⟩
        clear hBv X B l0 l1 l2 l3 l4 l5 l6 l7
        obtain ⟨l0, l1, l2, l3, l4, l5, l6, l7⟩ := cells8 ZB.out
        generalize (ls.take k).any PR = tw at *
        cases tw with
        | true =>
          go_wp2_with fail
          go_roundg (ls.length - (k + 1))
          case measure => have := G.out; omega
          case rel => exact ⟨k + 1, rfl, by omega, by simp, by rw [HTK.out]; rfl, Y.out, B5.out⟩
        | false =>
          cases pv with
          | false =>
            go_wp2_with fail
            go_roundg (ls.length - (k + 1))
            case measure => have := G.out; omega
            case rel => exact ⟨k + 1, rfl, by omega, by simp, by rw [HTK.out]; rfl, Y.out, B5.out⟩
          | true =>
            have HAN := Lib.hid (anyH_any 19 (fun w => w.lis == id) (fun _ => True) (.pointer (some ⟨Bv, 0, none⟩)) (fun w => w.cell? ⟨Bv, 0, none⟩ = some (.int .i64 id)) (fun _ _ h hb => kc hb h) (fun j w _ h => clo19_any Bv id j w h) call19 ha hc hs w6 (HZ.out.mono (fun _ _ _ h => h.below B5.out)) (by omega) (fun _ _ => trivial) l0)
            have hc14 := call14
            go_wp2_with fail
            refine HAN.out.mono ?_
            rintro e w7 ⟨rfl, hb7⟩
            have Y7 := Lib.hid (Y.out.call hb7)
            have B7 := Lib.hid (B5.out.trans (Below.le hb7 B5.out.size))
            have HTK2 := Lib.hid (show (ls.take (k + 1)).any PR = hs.any (fun w => w.lis == id) from HTK.out)
            clear hb7 HAN Y B5 l0 l1 l2 l3 l4 l5 l6 l7 ZB HTK
            generalize hs.any (fun w => w.lis == id) = bb at *
            go_wp2_with fail
            go_roundg (ls.length - (k + 1))
            case measure => have := G.out; omega
            case rel => exact ⟨k + 1, rfl, by omega, by simp, by rw [HTK2.out], Y7.out, B7.out⟩
      · have hke : k = ls.length := by omega
        have hnl : ¬ ((k : Int) < (ls.length : Int)) := by omega
        have hno : no = ((ls.take k).any PR && ev.can) := by rw [hke, List.take_length]; exact HNO.out
        have HKE := Lib.hid hke
        clear hke hk hlt HNO
        obtain ⟨e0, e1, e2, e3, e4, e5, e6⟩ := cells7 X.out.e
        generalize (ls.take k).any PR = W at *
        generalize ev.can = cn at *
        cases W with
        | true =>
          have e : no = cn := by simpa using hno
          clear hno
          subst e
          go_wp2_with fail
          go_ret
          exact ⟨rfl, X.out.bl⟩
        | false =>
          have e : no = false := by simpa using hno
          clear hno
          subst e
          go_wp2_with fail
          go_ret
          exact ⟨rfl, X.out.bl⟩
  · obtain ⟨h1, h2, h3⟩ := HSN.out hE0
    subst h2
    go_wp2_with fail
    refine (HLI.out _).mono ?_
    rintro e w6 ⟨rfl, hb6⟩
    have V := Lib.hid (Z.out.bl.trans (Below.le hb6 Z.out.bl.size))
    clear hb6
    go_wp2_with fail
    go_ret
    exact ⟨rfl, V.out⟩
end Go.Proofs.YtnnckjgafglgeaaDoor
