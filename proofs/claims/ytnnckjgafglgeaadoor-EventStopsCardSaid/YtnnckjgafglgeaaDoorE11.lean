/- The contract of event's asked. -/
import Derived.Test.YtnnckjgafglgeaaDoorE10
import Derived.Maps.Own
import Derived.Maps.OwnOps
import Derived.Maps.Views
namespace Go.Proofs.YtnnckjgafglgeaaDoor
open Go.RowKit Go.Maps

structure Lis where
  id : Int
  node : Int
  typ : ByteArray
  cap : Bool
  once : Bool
  stops : Bool
  all : Bool
  prev : Bool
structure Ev where
  typ : ByteArray
  target : Int
  x : Int
  y : Int
  key : ByteArray
  bub : Bool
  can : Bool
def Ev.v (e : Ev) : Value := .agg #[.string e.typ, .int .i64 e.target, .int .i64 e.x, .int .i64 e.y, .string e.key, .bool e.bub, .bool e.can]
/-- A listener's cells. -/
structure LisAt (w : World) (b x : Nat) (l : Lis) : Prop where
  c0 : w.cell? ⟨b, x, none⟩ = some (.int .i64 l.id)
  c1 : w.cell? ⟨b, x + 1, none⟩ = some (.int .i64 l.node)
  c2 : w.cell? ⟨b, x + 2, none⟩ = some (.string l.typ)
  c3 : w.cell? ⟨b, x + 3, none⟩ = some (.bool l.cap)
  c4 : w.cell? ⟨b, x + 4, none⟩ = some (.bool l.once)
  c5 : w.cell? ⟨b, x + 5, none⟩ = some (.bool l.stops)
  c6 : w.cell? ⟨b, x + 6, none⟩ = some (.bool l.all)
  c7 : w.cell? ⟨b, x + 7, none⟩ = some (.bool l.prev)
theorem LisAt.below {w w' : World} {b x : Nat} {l : Lis} (h : LisAt w b x l) (hb : Below w.heap.size w w') : LisAt w' b x l := ⟨kc hb h.c0, kc hb h.c1, kc hb h.c2, kc hb h.c3, kc hb h.c4, kc hb h.c5, kc hb h.c6, kc hb h.c7⟩
def badNode (n : Nat) (x : Lis) : Bool := decide (x.node < 0) || decide ((n : Int) ≤ x.node)
def twiceIn : List Int → List Int → Bool
  | _, [] => false
  | seen, x :: l => seen.contains x || twiceIn (seen ++ [x]) l
def askedV (nodes : List Nd) (ls : List Lis) (ev : Ev) : Int × List Int :=
  if docErr nodes = 0 then (if 60 < ls.length then (2, []) else if ls.any (badNode nodes.length) then (1, []) else if twiceIn [] (ls.map Lis.id) then (6, []) else if ev.typ.toList = [] ∨ 40 < ev.typ.size then (3, []) else pathV nodes ev.target) else (docErr nodes, [])
theorem twice_step (ids : List Int) (k : Nat) (h : k < ids.length) : twiceIn (ids.take k) (ids.drop k) = ((ids.take k).contains ids[k] || twiceIn (ids.take (k + 1)) (ids.drop (k + 1))) := by
  rw [List.drop_eq_getElem_cons h, List.take_add_one, List.getElem?_eq_getElem h]
  rfl
theorem law3 : Keyed Tryd.prog 3 := int_keyed Tryd.underlying3
theorem zero3 (w : World) : (zeroValue 3).run Tryd.prog w = .ok (.int .i64 0) w := by kernel_rfl
/-- What holds where a map of numbers is filled. -/
structure MX (w0 wr : World) (seen : List Int) (D : DataW Unit) : Prop where
  map : wr.ownsMap Tryd.prog 3 (plainElem Tryd.prog 3) w0.heap.size seen.length D
  at_ : ∀ x, (Lit.int .i64 x).wf = true → D.atKey (.int .i64 x) (.lit (.int .i64 0)) = .lit (.int .i64 (if seen.contains x then 1 else 0))
  bl : Below w0.heap.size w0 wr
theorem MX.put {w0 wr w' : World} {seen : List Int} {D : DataW Unit} (h : MX w0 wr seen D) (x : Int) (hm : w'.ownsMap Tryd.prog 3 (plainElem Tryd.prog 3) w0.heap.size (seen.length + 1) (D.put (.int .i64 x) (.lit (.int .i64 1)))) (hg : wr.grownBy w' (some w0.heap.size)) :
    MX w0 w' (seen ++ [x]) (D.put (.int .i64 x) (.lit (.int .i64 1))) where
  map := by rw [List.length_append]; exact hm
  at_ y hy := by
    by_cases e : y = x
    · subst e
      rw [atKey_put_same h.map.isMap (show WideAt.IsKeyLit (.int .i64 y) from trivial), if_pos (by simp)]
    · rw [atKey_put_other (by intro e2; injection e2 with _ e2; exact e e2), h.at_ y hy]
      congr 2
      simp [e]
  bl := h.bl.grown hg h.bl.size (fun k hk => by cases hk; exact Nat.le_refl _)
theorem MX.alloc {w0 wr : World} {seen : List Int} {D : DataW Unit} (h : MX w0 wr seen D) (o : Obj) : MX w0 (wr.alloc o) seen D := ⟨h.map.alloc o, h.at_, h.bl.alloc h.bl.size o⟩

/-- Where the document and the event lie. -/
structure BX (w wy : World) (A : Nat) (doc ev : Obj) : Prop where
  bl : Below w.heap.size w wy
  d : wy.heap[A]? = some doc
  e : wy.heap[A + 1]? = some ev
theorem BX.call {w wy w' : World} {A : Nat} {doc ev : Obj} (h : BX w wy A doc ev) (hb : Below wy.heap.size wy w') : BX w w' A doc ev := ⟨h.bl.trans (Below.le hb h.bl.size), (hb.block _ (lt_of_heap h.d)).trans h.d, (hb.block _ (lt_of_heap h.e)).trans h.e⟩
set_option maxRecDepth 100000 in
set_option maxHeartbeats 16000000 in
theorem asked_any (nodes : List Nd) (aa0 : Option Addr) (c : Nat) (q : Bool) (ls : List Lis) (la : Option Addr) (lc : Nat) (ev : Ev) (w : World) (h : DocAt w (.slice aa0 nodes.length c) nodes) (hl : SlR w LisAt 8 (.slice la ls.length lc) ls) (hid : ∀ x ∈ ls, (Lit.int .i64 x.id).wf = true) : Calls Tryd.prog 26 #[.agg #[.slice aa0 nodes.length c, .bool q], .slice la ls.length lc, Ev.v ev] w fun e w' => ∃ v, e = .returned (.tuple #[v, .int .i64 (askedV nodes ls ev).1]) ∧ w'.ownsRow w.heap.size 3 1 v (askedV nodes ls ev).2.length ((askedV nodes ls ev).2.map nV) ∧ Below w.heap.size w w' := by
  have HS := Lib.hid h
  have HLS := Lib.hid hl
  have HID := Lib.hid hid
  have HCH := Lib.hid (fun (w6 : World) (hb : Below w.heap.size w w6) => check_any nodes aa0 c q w6 (DocAt.below h hb))
  have HPA := Lib.hid (fun (w6 : World) (hb : Below w.heap.size w w6) => path_any nodes aa0 c q ev.target w6 (DocAt.below h hb))
  obtain ⟨hc1, hc2, hc3⟩ := SlR.cap h
  obtain ⟨lc1, lc2, lc3⟩ := SlR.cap hl
  clear h hl hid
  obtain ⟨E, hE⟩ : ∃ E, docErr nodes = E := ⟨_, rfl⟩
  obtain ⟨R, hR⟩ : ∃ R, askedV nodes ls ev = R := ⟨_, rfl⟩
  rw [hR]
  rw [hE] at HCH
  have hR2 := hR
  unfold askedV at hR2
  rw [hE] at hR2
  have HR := Lib.hid hR2
  clear hE hR hR2
  show Calls Tryd.prog 26 #[.agg #[.slice aa0 nodes.length c, .bool q], .slice la ls.length lc, .agg #[.string ev.typ, .int .i64 ev.target, .int .i64 ev.x, .int .i64 ev.y, .string ev.key, .bool ev.bub, .bool ev.can]] w _
  go_enter Tryd.func26, Tryd.ntmps26
  obtain ⟨A, hA⟩ : ∃ A, w.heap.size = A := ⟨_, rfl⟩
  go_upto_region 1 with fail
  refine code_gen (Φ := fun wy => Hid (Loc w wy [(.cells #[.slice aa0 nodes.length c, .bool q] 24 (0, 0)), (.cells #[.string ev.typ, .int .i64 ev.target, .int .i64 ev.x, .int .i64 ev.y, .string ev.key, .bool ev.bub, .bool ev.can] 37 (0, 0))])) (Lib.hid (Loc.start2 _ _)) ?_
  intro w3 X
  have X2 := Lib.hid (show BX w w3 A (.cells #[.slice aa0 nodes.length c, .bool q] 24 (0, 0)) (.cells #[.string ev.typ, .int .i64 ev.target, .int .i64 ev.x, .int .i64 ev.y, .string ev.key, .bool ev.bub, .bool ev.can] 37 (0, 0)) from ⟨X.out.bl, hA ▸ X.out.k0, hA ▸ X.out.k1⟩)
  clear X
  have HA := Lib.hid hA
  clear hA
  obtain ⟨c0, c1⟩ := cells2 X2.out.d
  go_wp2_with fail
  refine (HCH.out _ X2.out.bl).mono ?_
  rintro e w4 ⟨rfl, hb4⟩
  have Y := Lib.hid (X2.out.call hb4)
  clear hb4 X2 c0 c1 HCH
  by_cases hE0 : E = 0
  · subst hE0
    by_cases h60 : 60 < ls.length
    · have h60i : (60 : Int) < (ls.length : Int) := by omega
      have hr : R = (2, []) := by rw [← HR.out, if_pos rfl, if_pos h60]
      subst hr
      go_wp2_with fail
      go_ret2
      exact ⟨_, rfl, World.ownsRow_nil _ _ _ _, Y.out.bl⟩
    have h60i : (ls.length : Int) ≤ 60 := by omega
    obtain ⟨TL, hTL⟩ : ∃ TL, (if ev.typ.toList = [] ∨ 40 < ev.typ.size then (3, []) else pathV nodes ev.target) = TL := ⟨_, rfl⟩
    obtain ⟨ids, hids⟩ : ∃ ids, ls.map Lis.id = ids := ⟨_, rfl⟩
    have HR2 := Lib.hid (show (if (ls.drop 0).any (badNode nodes.length) then (1, []) else if false || twiceIn (ids.take 0) (ids.drop 0) then (6, []) else TL) = R by rw [← HR.out, if_pos rfl, if_neg h60, ← hTL, ← hids]; rfl)
    have HTL := Lib.hid hTL
    have HIDS := Lib.hid hids
    clear HR hTL hids
    have hmm := @run_makeMap Tryd.prog
    go_upto_region 7 with fail
    clear hmm
    refine code_gen (Φ := fun wy => Hid (MX w4 wy [] (.map []))) (Lib.hid ⟨World.ownsMap_made _ _ _ _, fun x _ => rfl, (Below.refl _ _).alloc (Nat.le_refl _) _⟩) ?_
    intro w5 X0
    go_upto_region 9 with fail
    go_loopg [10, 24] ls.length (fun g v10 v24 wr => ∃ (k : Nat) (D : DataW Unit) (tw : Bool), g = ls.length - k ∧ k ≤ ls.length ∧ v10 = .bool tw ∧ v24 = .int .i64 (k : Int) ∧ (if (ls.drop k).any (badNode nodes.length) then (1, []) else if tw || twiceIn (ids.take k) (ids.drop k) then (6, []) else TL) = R ∧ MX w4 wr (ids.take k) D)
    case atStart => exact ⟨0, _, false, rfl, Nat.zero_le _, rfl, rfl, HR2.out, X0.out⟩
    case round =>
      clear HR2 X0
      obtain ⟨k, D, tw, hg, hk, rfl, rfl, hr, hx⟩ := hrel
      have G := Lib.hid hg
      have HR := Lib.hid hr
      have X := Lib.hid hx
      clear hg hr hx
      by_cases hlt : k < ls.length
      · have hki : (k : Int) < (ls.length : Int) := by omega
        have hkd : k < ids.length := by rw [← HIDS.out, List.length_map]; exact hlt
        have hidk : ids[k] = ls[k].id := by simp [← HIDS.out]
        have HTW := Lib.hid (twice_step ids k hkd)
        rw [hidk] at HTW
        have HTK := Lib.hid (show ids.take (k + 1) = ids.take k ++ [ls[k].id] by rw [List.take_add_one, List.getElem?_eq_getElem hkd, hidk]; rfl)
        have HAN := Lib.hid (show (ls.drop k).any (badNode nodes.length) = (badNode nodes.length ls[k] || (ls.drop (k + 1)).any (badNode nodes.length)) by rw [List.drop_eq_getElem_cons hlt]; rfl)
        have HWF := Lib.hid (HID.out ls[k] (List.getElem_mem hlt))
        obtain ⟨b, o, rfl, hli⟩ := HLS.out.item k hlt
        have hll := (hli.below Y.out.bl).below X.out.bl
        clear hli hidk
        generalize ls[k] = L at *
        obtain ⟨id, nd, ty, cp, on, st, al, pv⟩ := L
        obtain ⟨c0, c1, c2, c3, c4, c5, c6, c7⟩ := hll
        simp only at c0 c1 c2 c3 c4 c5 c6 c7 HTW HTK HAN HWF
        obtain ⟨B, hB⟩ : ∃ B, wr.heap.size = B := ⟨_, rfl⟩
        go_upto_region 11 with fail
        refine code_gen (Φ := fun wy => Hid (MX w4 wy (ids.take k) D) ∧ Hid (wy.heap[B]? = some (.cells #[.int .i64 id, .int .i64 nd, .string ty, .bool cp, .bool on, .bool st, .bool al, .bool pv] 43 (0, 0)))) ⟨Lib.hid (X.out.alloc _), Lib.hid (alloc_at hB _)⟩ ?_
        rintro w6 ⟨Z, ZB⟩
        clear c0 c1 c2 c3 c4 c5 c6 c7 hB X
        obtain ⟨c0, c1, c2, c3, c4, c5, c6, c7⟩ := cells8 ZB.out
        have Y6 := Lib.hid (Y.out.call Z.out.bl)
        obtain ⟨d0, d1⟩ := cells2 Y6.out.d
        by_cases hb1 : nd < 0
        · have hbn : badNode nodes.length ⟨id, nd, ty, cp, on, st, al, pv⟩ = true := by simp [badNode, hb1]
          have hr : R = (1, []) := by rw [← HR.out, HAN.out, hbn]; rfl
          subst hr
          go_wp2_with fail
          go_ret2
          exact ⟨_, rfl, World.ownsRow_nil _ _ _ _, Y6.out.bl⟩
        by_cases hb2 : (nodes.length : Int) ≤ nd
        · have hbn : badNode nodes.length ⟨id, nd, ty, cp, on, st, al, pv⟩ = true := by simp [badNode, hb2]
          have hr : R = (1, []) := by rw [← HR.out, HAN.out, hbn]; rfl
          subst hr
          go_wp2_with fail
          go_ret2
          exact ⟨_, rfl, World.ownsRow_nil _ _ _ _, Y6.out.bl⟩
        have hbn : badNode nodes.length ⟨id, nd, ty, cp, on, st, al, pv⟩ = false := by simp only [badNode, hb1, hb2, decide_false, Bool.or_false]
        have HR3 := Lib.hid HR.out
        rw [HAN.out, hbn, Bool.false_or, HTW.out, ← Bool.or_assoc] at HR3
        clear HR HAN HTW hbn
        have HTL2 := Lib.hid (show (ids.take k).length = k by rw [List.length_take]; omega)
        cases tw with
        | true =>
          have HR4 := Lib.hid (show (if (ls.drop (k + 1)).any (badNode nodes.length) then (1, []) else if true || twiceIn (ids.take (k + 1)) (ids.drop (k + 1)) then (6, []) else TL) = R from HR3.out)
          clear HR3
          go_wp2_with (first | (at_mapUpdate; refine wpList_mapUpdate_own _ rfl _ _ _ 53 rfl 3 3 law3 Tryd.underlying53 _ w4.heap.size _ D rfl Z.out.map (by unfold maxLen; rw [HTL2.out]; omega) _ _ _ rfl rfl (keyOf_int_mk Tryd.underlying3 HWF.out) (.lit (.int .i64 1)) [] (plainElem_int Tryd.underlying3 (by decide)) ?_))
          intro w7 hm4 hg4
          have X4 := Lib.hid (Z.out.put id (by rw [List.length_take]; exact hm4) hg4)
          clear hm4 hg4 c0 c1 c2 c3 c4 c5 c6 c7 d0 d1
          go_wp2_with fail
          go_roundg (ls.length - (k + 1))
          case measure => have := G.out; omega
          case rel => exact ⟨k + 1, _, true, rfl, by omega, rfl, by simp, HR4.out, by rw [HTK.out]; exact X4.out⟩
        | false =>
          obtain ⟨c, hrun, hat, _⟩ := Z.out.map.lookup_int law3 Tryd.underlying53 Tryd.underlying3 (zero3 _) (keyOf_int_mk Tryd.underlying3 HWF.out)
          rw [Z.out.at_ id HWF.out] at hat
          cases hse : (ids.take k).contains id with
          | true =>
            rw [hse] at hat HR3
            have hc1 : c = 1 := by injection hat with hat; injection hat with _ hat; exact hat.symm
            subst hc1
            have HR4 := Lib.hid (show (if (ls.drop (k + 1)).any (badNode nodes.length) then (1, []) else if true || twiceIn (ids.take (k + 1)) (ids.drop (k + 1)) then (6, []) else TL) = R from HR3.out)
            clear HR3 hse hat
            go_wp2_with (first | (at_mapUpdate; refine wpList_mapUpdate_own _ rfl _ _ _ 53 rfl 3 3 law3 Tryd.underlying53 _ w4.heap.size _ D rfl Z.out.map (by unfold maxLen; rw [HTL2.out]; omega) _ _ _ rfl rfl (keyOf_int_mk Tryd.underlying3 HWF.out) (.lit (.int .i64 1)) [] (plainElem_int Tryd.underlying3 (by decide)) ?_))
            intro w7 hm4 hg4
            have X4 := Lib.hid (Z.out.put id (by rw [List.length_take]; exact hm4) hg4)
            clear hm4 hg4 c0 c1 c2 c3 c4 c5 c6 c7 d0 d1 hrun
            go_wp2_with fail
            go_roundg (ls.length - (k + 1))
            case measure => have := G.out; omega
            case rel => exact ⟨k + 1, _, true, rfl, by omega, rfl, by simp, HR4.out, by rw [HTK.out]; exact X4.out⟩
          | false =>
            rw [hse] at hat HR3
            have hc1 : c = 0 := by injection hat with hat; injection hat with _ hat; exact hat.symm
            subst hc1
            have HR4 := Lib.hid (show (if (ls.drop (k + 1)).any (badNode nodes.length) then (1, []) else if false || twiceIn (ids.take (k + 1)) (ids.drop (k + 1)) then (6, []) else TL) = R from HR3.out)
            clear HR3 hse hat
            go_wp2_with (first | (at_mapUpdate; refine wpList_mapUpdate_own _ rfl _ _ _ 53 rfl 3 3 law3 Tryd.underlying53 _ w4.heap.size _ D rfl Z.out.map (by unfold maxLen; rw [HTL2.out]; omega) _ _ _ rfl rfl (keyOf_int_mk Tryd.underlying3 HWF.out) (.lit (.int .i64 1)) [] (plainElem_int Tryd.underlying3 (by decide)) ?_))
            intro w7 hm4 hg4
            have X4 := Lib.hid (Z.out.put id (by rw [List.length_take]; exact hm4) hg4)
            clear hm4 hg4 c0 c1 c2 c3 c4 c5 c6 c7 d0 d1 hrun
            go_wp2_with fail
            go_roundg (ls.length - (k + 1))
            case measure => have := G.out; omega
            case rel => exact ⟨k + 1, _, false, rfl, by omega, rfl, by simp, HR4.out, by rw [HTK.out]; exact X4.out⟩
      · have hke := Lib.hid (show k = ls.length by omega)
        have HF := Lib.hid HR.out
        have hidl : ids.length = ls.length := by rw [← HIDS.out, List.length_map]
        rw [hke.out, List.drop_length, ← hidl, List.drop_length] at HF
        have HF2 := Lib.hid (show (if tw = true then (6, []) else TL) = R by rw [← HF.out]; simp [twiceIn])
        clear HF HR hidl
        have Y6 := Lib.hid (Y.out.call X.out.bl)
        obtain ⟨d0, d1⟩ := cells2 Y6.out.d
        obtain ⟨e0, e1, e2, e3, e4, e5, e6⟩ := cells7 Y6.out.e
        cases tw with
        | true =>
          have hr : R = (6, []) := HF2.out.symm
          subst hr
          go_wp2_with fail
          go_ret2
          exact ⟨_, rfl, World.ownsRow_nil _ _ _ _, Y6.out.bl⟩
        | false =>
          have HF3 := Lib.hid (show TL = R from HF2.out)
          clear HF2
          by_cases ht : ev.typ.toList = []
          · have hr : R = (3, []) := by rw [← HF3.out, ← HTL.out, if_pos (.inl ht)]
            subst hr
            go_wp2_with fail
            go_ret2
            exact ⟨_, rfl, World.ownsRow_nil _ _ _ _, Y6.out.bl⟩
          by_cases h40 : 40 < ev.typ.size
          · have h40i : (40 : Int) < (ev.typ.size : Int) := by omega
            have hr : R = (3, []) := by rw [← HF3.out, ← HTL.out, if_pos (.inr h40)]
            subst hr
            go_wp2_with fail
            go_ret2
            exact ⟨_, rfl, World.ownsRow_nil _ _ _ _, Y6.out.bl⟩
          have h40i : (ev.typ.size : Int) ≤ 40 := by omega
          have hr : R = pathV nodes ev.target := by rw [← HF3.out, ← HTL.out, if_neg (fun h => h.elim ht h40)]
          have HPA2 := Lib.hid (HPA.out _ Y6.out.bl)
          rw [← hr] at HPA2
          clear HPA HF3 HTL hr
          obtain ⟨r1, r2⟩ := R
          have hte : ev.typ.toList.isEmpty = false := List.isEmpty_eq_false_iff.2 ht
          go_wp2_with fail
          refine HPA2.out.mono ?_
          rintro e w7 ⟨v, rfl, ho, hb7⟩
          have V := Lib.hid (Y6.out.bl.trans (Below.le hb7 Y6.out.bl.size))
          have HO := Lib.hid (own_lower ho Y6.out.bl.size)
          clear ho hb7 d0 d1 e0 e1 e2 e3 e4 e5 e6 HPA2
          go_wp2_with fail
          go_ret2
          exact ⟨_, rfl, HO.out, V.out⟩
  · have hr : R = (E, []) := by rw [← HR.out, if_neg hE0]
    subst hr
    go_wp2_with fail
    go_ret2
    exact ⟨_, rfl, World.ownsRow_nil _ _ _ _, Y.out.bl⟩
end Go.Proofs.YtnnckjgafglgeaaDoor
