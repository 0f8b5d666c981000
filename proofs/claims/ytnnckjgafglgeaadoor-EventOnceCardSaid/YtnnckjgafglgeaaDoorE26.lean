/- The law EventStops. -/
import Derived.Test.YtnnckjgafglgeaaDoorE25
namespace Go.Proofs.YtnnckjgafglgeaaDoor
open Go.RowKit

theorem lis_free : ∀ (ls : List Lis) (i : Nat) (h : i < ls.length), ((ls.flatMap Lis.c).set (i * 8 + 5) (.bool false)).set (i * 8 + 6) (.bool false) = (ls.set i (free ls[i])).flatMap Lis.c
  | [], i, h => by simp at h
  | l :: ls, 0, _ => rfl
  | l :: ls, i + 1, h => by
    have ih := lis_free ls i (by simpa using h)
    have e : ∀ (t : List Value) (k : Nat) (v : Value), (Lis.c l ++ t).set ((i + 1) * 8 + k) v = Lis.c l ++ t.set (i * 8 + k) v := by
      intro t k v
      rw [List.set_append_right _ _ (by rw [Lis.len, Nat.succ_mul]; omega), Lis.len, Nat.succ_mul, show i * 8 + 8 + k - 8 = i * 8 + k by omega]
    rw [List.set_cons_succ, List.flatMap_cons, List.flatMap_cons, e, e, ih]
    rfl
def freed (ls : List Lis) (k : Nat) : List Lis := (ls.take k).map free ++ ls.drop k
theorem freed_len (ls : List Lis) (k : Nat) : (freed ls k).length = ls.length := by
  unfold freed
  rw [List.length_append, List.length_map, List.length_take, List.length_drop]
  omega
theorem freed_get (ls : List Lis) (k : Nat) (h : k < ls.length) : (freed ls k)[k]'(by rw [freed_len]; exact h) = ls[k] := by
  unfold freed
  rw [List.getElem_append_right (by rw [List.length_map, List.length_take]; omega)]
  simp only [List.length_map, List.length_take, List.getElem_drop]
  congr 1
  omega
theorem freed_step (ls : List Lis) (k : Nat) (h : k < ls.length) : (freed ls k).set k (free ls[k]) = freed ls (k + 1) := by
  unfold freed
  rw [List.set_append_right _ _ (by rw [List.length_map, List.length_take]; omega), List.length_map, List.length_take, Nat.min_eq_left (Nat.le_of_lt h), Nat.sub_self, List.drop_eq_getElem_cons h, List.set_cons_zero, List.take_add_one, List.getElem?_eq_getElem h, List.map_append]
  simp
/-- The row while its flags are cleared. -/
structure FL (w wr : World) (fa : Option Addr) (fc : Nat) (ls : List Lis) (k : Nat) : Prop where
  own : wr.ownsRow w.heap.size 43 8 (.slice fa ls.length fc) (freed ls k).length ((freed ls k).flatMap Lis.c)
  bl : Below w.heap.size w wr
theorem FL.step {w wr : World} {g fc : Nat} {ls : List Lis} {k : Nat} (h : FL w wr (some ⟨g, 0, none⟩) fc ls k) (hk : k < ls.length) : FL w ((wr.setCell ⟨g, k * 8 + 5, none⟩ (.bool false)).setCell ⟨g, k * 8 + 6, none⟩ (.bool false)) (some ⟨g, 0, none⟩) fc ls (k + 1) where
  own := by
    have h1 := own_at (own_at h.own (k * 8 + 5) (.bool false)) (k * 8 + 6) (.bool false)
    rw [lis_free _ k (by rw [freed_len]; exact hk), freed_get ls k hk, freed_step ls k hk] at h1
    rw [freed_len] at h1 ⊢
    exact h1
  bl := below_grown h.bl (Lib.grownBy_setB (Lib.grownBy_setB (gr_refl wr _) _ _) _ _) ((h.own.lt g rfl).1) (Nat.le_refl _)
theorem FL.at_ {w wr : World} {fa : Option Addr} {fc : Nat} {ls : List Lis} {k : Nat} (h : FL w wr fa fc ls k) (hk : k < ls.length) : ∃ g, fa = some ⟨g, 0, none⟩ ∧ LisAt wr g (k * 8) ls[k] := by
  have ho := h.own
  rw [freed_len] at ho
  obtain ⟨g, rfl⟩ := own_some ho (by omega)
  refine ⟨g, rfl, ?_⟩
  have ho2 := h.own
  have hl := freed_len ls k
  have h3 : SlR wr LisAt 8 (.slice (some ⟨g, 0, none⟩) ls.length fc) (freed ls k) := own_lis ho2
  obtain ⟨b, o, e1, h1⟩ := h3.item k (by rw [hl]; exact hk)
  injection e1 with e1
  injection e1 with e1 e2 _
  subst e1
  subst e2
  rw [freed_get ls k hk, Nat.zero_add] at h1
  exact h1
theorem stops_take (ls : List Lis) (k : Nat) (h : k < ls.length) : stopsAny (ls.take (k + 1)) = (stopsAny (ls.take k) || (ls[k].stops || ls[k].all)) := by
  unfold stopsAny
  exact any_take _ ls k h
theorem call12 (args : Array Value) (w : World) : Sem.run Tryd.prog (callFunc 12 args) w = .ok (.enter 12 args) w := by go_simp
set_option maxRecDepth 100000 in
set_option maxHeartbeats 16000000 in
theorem law_stops (nodes : List Nd) (aa0 : Option Addr) (c : Nat) (q : Bool) (ls : List Lis) (la : Option Addr) (lc : Nat) (ev : Ev) (w : World) (h : DocAt w (.slice aa0 nodes.length c) nodes) (hl : SlR w LisAt 8 (.slice la ls.length lc) ls) (hid : ∀ x ∈ ls, (Lit.int .i64 x.id).wf = true) (hsz : ls.length * 40 ≤ 140737488351232) :
    Calls Tryd.prog 4 #[.agg #[.slice aa0 nodes.length c, .bool q], .slice la ls.length lc, Ev.v ev] w fun e w' => e = .returned (.bool true) ∧ Below w.heap.size w w' := by
  have HLS := Lib.hid hl
  have HSS := Lib.hid (fun (l2 : List Lis) (la2 : Option Addr) (lc2 : Nat) (w6 : World) (hb : Below w.heap.size w w6) (hl2 : SlR w6 LisAt 8 (.slice la2 l2.length lc2) l2) (hi2 : ∀ x ∈ l2, (Lit.int .i64 x.id).wf = true) => send_any nodes aa0 c q l2 la2 lc2 ev w6 (DocAt.below h hb) hl2 hi2)
  have HID := Lib.hid hid
  have HID2 := Lib.hid (show ∀ x ∈ ls.map free, (Lit.int .i64 x.id).wf = true from fun x hx => by obtain ⟨y, hy, rfl⟩ := List.mem_map.1 hx; exact hid y hy)
  have HLI := Lib.hid lives_any
  obtain ⟨hs1, hs2⟩ := stops_says nodes ls ev
  have HSN := Lib.hid (sent_no nodes ls ev)
  obtain ⟨lc1, lc2, lc3⟩ := SlR.cap hl
  have HQ1 := Lib.hid (HSS.out ls)
  have HQ2 := Lib.hid (HSS.out (ls.map free))
  have HL60 := Lib.hid (fun (h : (sendV nodes ls ev).err = 0) => (sent_ok nodes ls ev h).elim fun _ h => h.len)
  clear h hl hid HSS
  generalize sendV nodes ls ev = R at *
  generalize sendV nodes (ls.map free) ev = R2 at *
  obtain ⟨E, hs, no, left⟩ := R
  obtain ⟨E2, hs', no2, left2⟩ := R2
  simp only at hs1 hs2 HSN HL60
  subst hs1
  have HS2 := Lib.hid hs2
  clear hs2
  have HSE : Hid (∀ (w6 : World), Below w.heap.size w w6 → Calls Tryd.prog 11 #[.agg #[.slice aa0 nodes.length c, .bool q], .slice la ls.length lc, .agg #[.string ev.typ, .int .i64 ev.target, .int .i64 ev.x, .int .i64 ev.y, .string ev.key, .bool ev.bub, .bool ev.can]] w6 fun e w' => ∃ ha hc lv, e = .returned (.tuple #[.slice ha hs.length hc, .bool no, lv, .int .i64 E2]) ∧ SlR w' HdAt 3 (.slice ha hs.length hc) hs ∧ Below w6.heap.size w6 w') := Lib.hid (fun w6 hb => (HQ1.out la lc w6 hb (HLS.out.mono (fun _ _ _ h => h.below hb)) HID.out).mono (by
    rintro e w' ⟨hv, lv, h1, h2, h3, h4⟩
    obtain ⟨ha, hc, rfl⟩ := own_shape h2
    exact ⟨ha, hc, lv, h1, own_hd h2, h4⟩))
  have HSF : Hid (∀ (w6 : World) (fa : Option Addr) (fc : Nat), Below w.heap.size w w6 → SlR w6 LisAt 8 (.slice fa ls.length fc) (ls.map free) → Calls Tryd.prog 11 #[.agg #[.slice aa0 nodes.length c, .bool q], .slice fa ls.length fc, .agg #[.string ev.typ, .int .i64 ev.target, .int .i64 ev.x, .int .i64 ev.y, .string ev.key, .bool ev.bub, .bool ev.can]] w6 fun e w' => ∃ ha hc lv, e = .returned (.tuple #[.slice ha hs'.length hc, .bool no2, lv, .int .i64 E2]) ∧ SlR w' HdAt 3 (.slice ha hs'.length hc) hs' ∧ Below w6.heap.size w6 w') := Lib.hid (fun w6 fa fc hb hf => by
    have h0 := HQ2.out fa fc w6 hb (by rw [List.length_map]; exact hf) HID2.out
    rw [List.length_map] at h0
    exact h0.mono (by
      rintro e w' ⟨hv, lv, h1, h2, h3, h4⟩
      obtain ⟨ha, hc, rfl⟩ := own_shape h2
      exact ⟨ha, hc, lv, h1, own_hd h2, h4⟩))
  clear HQ1 HQ2 HID HID2
  show Calls Tryd.prog 4 #[.agg #[.slice aa0 nodes.length c, .bool q], .slice la ls.length lc, .agg #[.string ev.typ, .int .i64 ev.target, .int .i64 ev.x, .int .i64 ev.y, .string ev.key, .bool ev.bub, .bool ev.can]] w _
  go_enter Tryd.func4, Tryd.ntmps4
  obtain ⟨A, hA⟩ : ∃ A, w.heap.size = A := ⟨_, rfl⟩
  go_upto_region 1 with fail
  refine code_gen (Φ := fun wy => Hid (Loc w wy [(.cells #[.slice aa0 nodes.length c, .bool q] 24 (0, 0)), (.cells #[.string ev.typ, .int .i64 ev.target, .int .i64 ev.x, .int .i64 ev.y, .string ev.key, .bool ev.bub, .bool ev.can] 37 (0, 0))])) (Lib.hid (Loc.start2 _ _)) ?_
  intro w3 X
  have X2 := Lib.hid (show BX w w3 A (.cells #[.slice aa0 nodes.length c, .bool q] 24 (0, 0)) (.cells #[.string ev.typ, .int .i64 ev.target, .int .i64 ev.x, .int .i64 ev.y, .string ev.key, .bool ev.bub, .bool ev.can] 37 (0, 0)) from ⟨X.out.bl, hA ▸ X.out.k0, hA ▸ X.out.k1⟩)
  clear X hA
  obtain ⟨c0, c1⟩ := cells2 X2.out.d
  obtain ⟨e0, e1, e2, e3, e4, e5, e6⟩ := cells7 X2.out.e
  go_wp2_with fail
  refine (HSE.out _ X2.out.bl).mono ?_
  rintro e w4 ⟨ha, hc, lv, rfl, hh, hb4⟩
  have Y := Lib.hid (X2.out.call hb4)
  have HH := Lib.hid hh
  clear hb4 hh X2 c0 c1 e0 e1 e2 e3 e4 e5 e6 HSE
  have HCL := Lib.hid (cloneL_any la lc ls w4 (HLS.out.mono (fun _ _ _ h => h.below Y.out.bl)) hsz)
  have hc12 := call12
  clear hsz
  go_wp2_with fail
  refine HCL.out.mono ?_
  rintro e w5 ⟨fv, rfl, hfo, hb5⟩
  obtain ⟨fa, fc, rfl⟩ := own_shape hfo
  have F0 := Lib.hid (show FL w4 w5 fa fc ls 0 from ⟨hfo, hb5⟩)
  clear hfo hb5 HCL hc12
  go_upto_region 5 with fail
  go_loopg [31, 12, 13] ls.length (fun g v31 v12 _ wr => ∃ (k : Nat), g = ls.length - k ∧ k ≤ ls.length ∧ v31 = .int .i64 (k : Int) ∧ v12 = .bool (stopsAny (ls.take k)) ∧ FL w4 wr fa fc ls k)
  case atStart => exact ⟨0, rfl, Nat.zero_le _, rfl, rfl, F0.out⟩
  case round =>
    clear F0
    obtain ⟨k, hg, hk, rfl, rfl, hx⟩ := hrel
    have G := Lib.hid hg
    have X := Lib.hid hx
    clear hg hx
    by_cases hlt : k < ls.length
    · have hki : (k : Int) < (ls.length : Int) := by omega
      have HTK := Lib.hid (stops_take ls k hlt)
      obtain ⟨g, rfl, hli⟩ := X.out.at_ hlt
      have HST := Lib.hid (X.out.step hlt)
      have fr : ∀ o, o < fc * 8 → wr.frozen? ⟨g, o, none⟩ = false := fun o ho => (own_room X.out.own o ho).2
      have hkf : k < fc := by have := (own_lis (by have := X.out.own; rw [freed_len] at this; rw [freed_len]; exact this)).cap; rw [freed_len] at this; omega
      have f5 := fr (k * 8 + 5) (by omega)
      have f6 := fr (k * 8 + 6) (by omega)
      clear fr
      generalize ls[k] = L at *
      obtain ⟨id, nd, ty, cp, on, st, al, pv⟩ := L
      obtain ⟨l0, l1, l2, l3, l4, l5, l6, l7⟩ := hli
      simp only at l0 l1 l2 l3 l4 l5 l6 l7 HTK
      generalize stopsAny (ls.take k) = tw at *
      cases tw with
      | true =>
        go_wp2_with fail
        go_roundg (ls.length - (k + 1))
        case measure => have := G.out; omega
        case rel => exact ⟨k + 1, rfl, by omega, by simp, by rw [HTK.out]; rfl, HST.out⟩
      | false =>
        cases st with
        | true =>
          go_wp2_with fail
          go_roundg (ls.length - (k + 1))
          case measure => have := G.out; omega
          case rel => exact ⟨k + 1, rfl, by omega, by simp, by rw [HTK.out]; rfl, HST.out⟩
        | false =>
          go_wp2_with fail
          go_roundg (ls.length - (k + 1))
          case measure => have := G.out; omega
          case rel => exact ⟨k + 1, rfl, by omega, by simp, by rw [HTK.out]; rfl, HST.out⟩
    · have hke : k = ls.length := by omega
      have hnl : ¬ ((k : Int) < (ls.length : Int)) := by omega
      have HFR := Lib.hid (show SlR wr LisAt 8 (.slice fa ls.length fc) (ls.map free) from by
        have h0 := own_lis X.out.own
        unfold freed at h0
        rw [hke, List.take_length, List.drop_length, List.append_nil] at h0
        exact h0)
      have hsa : stopsAny (ls.take k) = stopsAny ls := by rw [hke, List.take_length]
      rw [hsa]
      have HKE := Lib.hid hke
      clear hke hk hlt hsa
      have Z := Lib.hid (Y.out.call X.out.bl)
      have HHZ := Lib.hid (HH.out.mono (fun _ _ _ h => h.below X.out.bl))
      clear X HH Y
      generalize stopsAny ls = ST at *
      obtain ⟨c0, c1⟩ := cells2 Z.out.d
      obtain ⟨e0, e1, e2, e3, e4, e5, e6⟩ := cells7 Z.out.e
      go_wp2_with fail
      refine (HSF.out _ fa fc Z.out.bl HFR.out).mono ?_
      rintro e w6 ⟨ga, gc, lv2, rfl, hgg, hb6⟩
      have V := Lib.hid (Z.out.bl.trans (Below.le hb6 Z.out.bl.size))
      have HH6 := Lib.hid (HHZ.out.mono (fun _ _ _ h => h.below hb6))
      have HG6 := Lib.hid hgg
      clear hb6 hgg Z HHZ c0 c1 e0 e1 e2 e3 e4 e5 e6 HSF HFR
      go_wp2_with fail
      refine (HLI.out _).mono ?_
      rintro e w7 ⟨rfl, hb7⟩
      have V7 := Lib.hid (V.out.trans (Below.le hb7 V.out.size))
      have HH7 := Lib.hid (HH6.out.mono (fun _ _ _ h => h.below hb7))
      have HG7 := Lib.hid (HG6.out.mono (fun _ _ _ h => h.below hb7))
      clear hb7 V HH6 HG6 HLI
      by_cases hE0 : E2 = 0
      · subst hE0
        obtain ⟨q1, q2, q3⟩ := HS2.out rfl
        clear HS2
        obtain ⟨n1, n2, n3⟩ := HG7.out.cap
        have HTK := Lib.hid (HG7.out.take hs.length q2)
        rw [← q1] at HTK
        have HEQ := Lib.hid (fun (w8 : World) (hb : Below w7.heap.size w7 w8) => eqH_any ha ga hc gc hs w8 (HH7.out.mono (fun _ _ _ h => h.below hb)) (HTK.out.mono (fun _ _ _ h => h.below hb)))
        have k1 : (hs.length : Int) ≤ (hs'.length : Int) := by omega
        have k2 : (hs.length : Int) ≤ (gc : Int) := by omega
        have k3 : hs.length ≤ gc := by omega
        have Q1 := Lib.hid q1
        have hc13 := call13
        clear q1
        cases ST with
        | true =>
          clear q3
          go_wp2_with fail
          refine (HEQ.out _ (Below.refl _ _)).mono ?_
          rintro e w8 ⟨rfl, hb8⟩
          have V8 := Lib.hid (V7.out.trans (Below.le hb8 V7.out.size))
          clear hb8
          go_wp2_with fail
          go_ret
          exact ⟨rfl, V8.out⟩
        | false =>
          have q4 : ((hs.length : Int) == (hs'.length : Int)) = true := by rw [q3 rfl]; simp
          have Q3 := Lib.hid q3
          clear q3
          go_wp2_with fail
          refine (HEQ.out _ (Below.refl _ _)).mono ?_
          rintro e w8 ⟨rfl, hb8⟩
          have V8 := Lib.hid (V7.out.trans (Below.le hb8 V7.out.size))
          clear hb8
          go_wp2_with fail
          go_ret
          exact ⟨rfl, V8.out⟩
      · go_wp2_with fail
        go_ret
        exact ⟨rfl, V7.out⟩
end Go.Proofs.YtnnckjgafglgeaaDoor
