/- slices.DeleteFunc over listeners: those that are gone. -/
import Derived.Test.YtnnckjgafglgeaaDoorE17
namespace Go.Proofs.YtnnckjgafglgeaaDoor
open Go.RowKit Go.Maps

theorem idxP_spec {α : Type} (p : α → Bool) : ∀ l : List α, (idxP p l = -1 ∧ ∀ x ∈ l, p x = false) ∨ ∃ k, ∃ h : k < l.length, idxP p l = (k : Int) ∧ p l[k] = true ∧ ∀ x ∈ l.take k, p x = false
  | [] => .inl ⟨rfl, fun x hx => by cases hx⟩
  | x :: l => by
    cases hp : p x with
    | true => exact .inr ⟨0, by simp, by simp [idxP, hp], hp, fun y hy => by simp at hy⟩
    | false =>
      rcases idxP_spec p l with ⟨h1, h2⟩ | ⟨k, hk, h1, h2, h3⟩
      · refine .inl ⟨by simp [idxP, hp, h1], fun y hy => ?_⟩
        rcases List.mem_cons.1 hy with rfl | hy
        · exact hp
        · exact h2 y hy
      · refine .inr ⟨k + 1, by simpa using hk, ?_, by simpa using h2, fun y hy => ?_⟩
        · unfold idxP
          rw [hp, h1]
          rw [if_neg (by decide), if_neg (by omega)]
          push_cast
          rfl
        · rw [List.take_succ_cons] at hy
          rcases List.mem_cons.1 hy with rfl | hy
          · exact hp
          · exact h3 y hy
theorem filter_none {α : Type} (p : α → Bool) (l : List α) (h : ∀ x ∈ l, p x = false) : l.filter (fun x => !p x) = l := List.filter_eq_self.2 (fun x hx => by simp [h x hx])
/-- What holds in the loop. -/
structure DL (w wr : World) (B g cap T S M n : Nat) (gone : List Int) (D : DataW Unit) (l cur : List Lis) (i j : Nat) : Prop where
  own : wr.ownsRow B 43 8 (.slice (some ⟨g, 0, none⟩) l.length cap) cur.length (cur.flatMap Lis.c)
  len : cur.length = l.length
  tk : cur.take i = (l.take j).filter (fun x => !gone.contains x.id)
  dr : cur.drop j = l.drop j
  ij : i < j
  jn : j ≤ l.length
  ga : GoneAt wr T S M n gone D
  gr : w.grownBy wr (some g)
theorem DL.get {w wr : World} {B g cap T S M n : Nat} {gone : List Int} {D : DataW Unit} {l cur : List Lis} {i j : Nat} (h : DL w wr B g cap T S M n gone D l cur i j) (hj : j < l.length) : LisAt wr g (j * 8) l[j] := by
  have hj2 : j < cur.length := by rw [h.len]; exact hj
  have ho := h.own
  rw [← h.len] at ho
  obtain ⟨b, o, e1, h1⟩ := (own_lis ho).item j hj2
  injection e1 with e1
  injection e1 with e1 e2 _
  subst e1
  subst e2
  have e : cur[j] = l[j] := by
    have h3 := h.dr
    rw [List.drop_eq_getElem_cons hj2, List.drop_eq_getElem_cons hj] at h3
    injection h3
  rw [e, Nat.zero_add] at h1
  exact h1
theorem DL.call {w wr w' : World} {B g cap T S M n : Nat} {gone : List Int} {D : DataW Unit} {l cur : List Lis} {i j : Nat} (h : DL w wr B g cap T S M n gone D l cur i j) (hb : Below wr.heap.size wr w') : DL w w' B g cap T S M n gone D l cur i j :=
  { h with own := own_below h.own hb (Nat.le_refl _), ga := h.ga.below hb, gr := Lib.grownBy_below h.gr hb }
theorem DL.skip {w wr : World} {B g cap T S M n : Nat} {gone : List Int} {D : DataW Unit} {l cur : List Lis} {i j : Nat} (h : DL w wr B g cap T S M n gone D l cur i j) (hj : j < l.length) (hp : gone.contains l[j].id = true) : DL w wr B g cap T S M n gone D l cur i (j + 1) :=
  { h with
    tk := by rw [h.tk, List.take_add_one, List.getElem?_eq_getElem hj, List.filter_append]; simp only [Option.toList_some, List.filter_cons, hp, Bool.not_true, List.filter_nil, List.append_nil, if_neg Bool.false_ne_true]
    dr := by
      have h3 := h.dr
      rw [List.drop_eq_getElem_cons (by rw [h.len]; exact hj), List.drop_eq_getElem_cons hj] at h3
      injection h3
    ij := by have := h.ij; omega
    jn := hj }
theorem DL.keep {w wr : World} {B g cap T S M n : Nat} {gone : List Int} {D : DataW Unit} {l cur : List Lis} {i j : Nat} (h : DL w wr B g cap T S M n gone D l cur i j) (hj : j < l.length) (hp : gone.contains l[j].id = false) (h1 : T ≠ g) (h2 : S ≠ g) (h3 : M ≠ g) : DL w (putL wr g i l[j]) B g cap T S M n gone D l (cur.set i l[j]) (i + 1) (j + 1) where
  own := own_putL h.own i (by rw [h.len]; have := h.ij; omega) _
  len := by rw [List.length_set, h.len]
  tk := by
    have hi : i < cur.length := by rw [h.len]; have := h.ij; omega
    rw [List.take_set, List.take_add_one, List.getElem?_eq_getElem hi, List.set_append_right _ _ (by rw [List.length_take]; omega), List.length_take, Nat.min_eq_left (Nat.le_of_lt hi), Nat.sub_self, h.tk, List.take_add_one, List.getElem?_eq_getElem hj, List.filter_append]
    simp only [Option.toList_some, List.set_cons_zero, List.filter_cons, hp, Bool.not_false, List.filter_nil, if_true]
  dr := by
    have h4 := h.dr
    rw [List.drop_eq_getElem_cons (by rw [h.len]; exact hj), List.drop_eq_getElem_cons hj] at h4
    injection h4 with _ h4
    rw [List.drop_set_of_lt (by have := h.ij; omega), h4]
  ij := by have := h.ij; omega
  jn := hj
  ga := h.ga.grown (grown_putL wr g i _) h1 h2 h3
  gr := Lib.grownBy_trans h.gr (grown_putL wr g i _)
set_option maxRecDepth 100000 in
set_option maxHeartbeats 8000000 in
theorem delL_any (T S M n B : Nat) (gone : List Int) (D : DataW Unit) (v : Value) (l : List Lis) (w : World) (h : w.ownsRow B 43 8 v l.length (l.flatMap Lis.c)) (hga : GoneAt w T S M n gone D) (hne : ∀ k, v.ownBlock = some k → T ≠ k ∧ S ≠ k ∧ M ≠ k) (hid : ∀ x ∈ l, (Lit.int .i64 x.id).wf = true) (hl : l.length ≤ 1000) :
    Calls Tryd.prog 29 #[v, .func (.func 30) #[] #[.pointer (some ⟨T, 0, none⟩)]] w fun e w' => ∃ v', e = .returned v' ∧ w'.ownsRow B 43 8 v' (l.filter (fun x => !gone.contains x.id)).length ((l.filter (fun x => !gone.contains x.id)).flatMap Lis.c) ∧ w.grownBy w' v.ownBlock := by
  obtain ⟨F, hF⟩ : ∃ F, l.filter (fun x => !gone.contains x.id) = F := ⟨_, rfl⟩
  rw [hF]
  have HFF := Lib.hid hF
  clear hF
  obtain ⟨va, vc, rfl⟩ := own_shape h
  have HO := Lib.hid h
  have HGA := Lib.hid hga
  have HNE := Lib.hid hne
  have HID := Lib.hid hid
  have HIX := Lib.hid (idxL_any 30 (fun x => gone.contains x.id) (fun x => (Lit.int .i64 x.id).wf = true) (.pointer (some ⟨T, 0, none⟩)) (fun w => GoneAt w T S M n gone D) (fun w w' h hb => h.below hb) (fun j w hq hc => gone_any T S M n gone D j w hq hc) call30 va vc l w (own_lis h) (by omega) hid hga)
  have hc30 := call30
  have hcap := (own_lis h).cap
  clear h hga hne hid
  rcases idxP_spec (fun x : Lis => gone.contains x.id) l with ⟨e1, e2⟩ | ⟨k0, hk0, e1, e2, e3⟩
  · rw [e1] at HIX
    have HF := Lib.hid (filter_none (fun x : Lis => gone.contains x.id) l e2)
    clear e1 e2 hcap
    go_enter Tryd.func29, Tryd.ntmps29
    go_wp2_with fail
    refine HIX.out.mono ?_
    rintro e w3 ⟨rfl, hb3⟩
    have X := Lib.hid (own_below HO.out hb3 (Nat.le_refl _))
    have X2 := Lib.hid (Lib.grownBy_below (gr_refl w (Value.slice va l.length vc).ownBlock) hb3)
    clear hb3
    go_wp2_with fail
    go_ret
    exact ⟨_, rfl, by rw [← HFF.out, HF.out]; exact X.out, X2.out⟩
  · rw [e1] at HIX
    have h0 : 0 < l.length := by omega
    obtain ⟨g, rfl⟩ := own_some HO.out h0
    obtain ⟨n1, n2, n3⟩ := HNE.out g rfl
    have HE2 := Lib.hid e2
    have HE3 := Lib.hid e3
    have HN1 := Lib.hid n1
    have HN2 := Lib.hid n2
    have HN3 := Lib.hid n3
    obtain ⟨q1, q2, q3⟩ := hcap
    have hkk : ((k0 : Int) == -1) = false := beq_eq_false_iff_ne.2 (by omega)
    clear e1 e2 e3 n1 n2 n3 HNE
    go_enter Tryd.func29, Tryd.ntmps29
    go_wp2_with fail
    refine HIX.out.mono ?_
    rintro e w3 ⟨rfl, hb3⟩
    have X := Lib.hid (show DL w w3 B g vc T S M n gone D l l k0 (k0 + 1) from ⟨own_below HO.out hb3 (Nat.le_refl _), rfl, by
      rw [List.take_add_one, List.getElem?_eq_getElem hk0, List.filter_append]
      have hp : gone.contains l[k0].id = true := HE2.out
      simp only [Option.toList_some, List.filter_cons, hp, Bool.not_true, List.filter_nil, List.append_nil, if_neg Bool.false_ne_true]
      exact (filter_none (fun x : Lis => gone.contains x.id) _ HE3.out).symm, rfl, Nat.lt_succ_self _, hk0, HGA.out.below hb3, Lib.grownBy_below (gr_refl w _) hb3⟩)
    clear hb3 HE2 HE3 HIX
    go_upto_region 5 with fail
    go_loopg [5, 6, 7] (l.length - (k0 + 1)) (fun g0 v5 v6 _ wr => ∃ (i j : Nat) (cur : List Lis), g0 = l.length - j ∧ v5 = .int .i64 (i : Int) ∧ v6 = .int .i64 (j : Int) ∧ DL w wr B g vc T S M n gone D l cur i j)
    case atStart => exact ⟨k0, k0 + 1, l, rfl, rfl, by simp, X.out⟩
    case round =>
      clear X
      obtain ⟨i, j, cur, hg0, rfl, rfl, hd⟩ := hrel
      have G := Lib.hid hg0
      have X := Lib.hid hd
      have hij := hd.ij
      have hjn := hd.jn
      clear hg0 hd
      by_cases hlt : j < l.length
      · have hji : (j : Int) < (l.length : Int) := by omega
        have hii : (i : Int) < (l.length : Int) := by omega
        have HWF := Lib.hid (HID.out l[j] (List.getElem_mem hlt))
        have hli := X.out.get hlt
        have HSK := Lib.hid (fun (wz : World) (h : DL w wz B g vc T S M n gone D l cur i j) => h.skip hlt)
        have HKP := Lib.hid (fun (wz : World) (h : DL w wz B g vc T S M n gone D l cur i j) hp => h.keep hlt hp HN1.out HN2.out HN3.out)
        generalize l[j] = L at *
        have HCA := Lib.hid (fun (wz : World) (h : GoneAt wz T S M n gone D) => gone_any T S M n gone D L wz HWF.out h)
        obtain ⟨id, nd, ty, cp, on, st, al, pv⟩ := L
        obtain ⟨c0, c1, c2, c3, c4, c5, c6, c7⟩ := hli
        have HCB : Hid (∀ (wz : World), GoneAt wz T S M n gone D → Calls Tryd.prog 30 #[.agg #[.int .i64 id, .int .i64 nd, .string ty, .bool cp, .bool on, .bool st, .bool al, .bool pv], .pointer (some ⟨T, 0, none⟩)] wz fun e w' => e = .returned (.bool (gone.contains id)) ∧ Below wz.heap.size wz w') := Lib.hid HCA.out
        simp only at c0 c1 c2 c3 c4 c5 c6 c7 HSK HKP
        clear HCA HWF
        obtain ⟨R, hR⟩ : ∃ R, gone.contains id = R := ⟨_, rfl⟩
        rw [hR] at HCB HSK HKP
        clear hR
        obtain ⟨Bv, hBv⟩ : ∃ Bv, wr.heap.size = Bv := ⟨_, rfl⟩
        go_upto_region 8 with fail
        refine code_gen (Φ := fun wy => Hid (DL w wy B g vc T S M n gone D l cur i j) ∧ Hid (wy.heap[Bv]? = some (.cells #[.int .i64 id, .int .i64 nd, .string ty, .bool cp, .bool on, .bool st, .bool al, .bool pv] 43 (0, 0)))) ⟨Lib.hid (X.out.call ((Below.refl _ _).alloc (Nat.le_refl _) _)), Lib.hid (alloc_at hBv _)⟩ ?_
        rintro w4 ⟨Y, Z⟩
        clear X c0 c1 c2 c3 c4 c5 c6 c7 hBv
        obtain ⟨c0, c1, c2, c3, c4, c5, c6, c7⟩ := cells8 Z.out
        go_wp2_with fail
        refine (HCB.out _ Y.out.ga).mono ?_
        rintro e w5 ⟨rfl, hb5⟩
        have Y5 := Lib.hid (Y.out.call hb5)
        have Z5 := Lib.hid ((hb5.block Bv (lt_of_heap Z.out)).trans Z.out)
        clear hb5 c0 c1 c2 c3 c4 c5 c6 c7 Y Z HCB
        cases R with
        | true =>
          have Y6 := Lib.hid (HSK.out _ Y5.out rfl)
          go_wp2_with fail
          go_roundg (l.length - (j + 1))
          case measure => have := G.out; omega
          case rel => exact ⟨i, j + 1, cur, rfl, rfl, by simp, Y6.out⟩
        | false =>
          have Y6 := Lib.hid (HKP.out _ Y5.out rfl)
          obtain ⟨c0, c1, c2, c3, c4, c5, c6, c7⟩ := cells8 Z5.out
          have hr : ∀ k, k < 8 → (w5.cell? ⟨g, i * 8 + k, none⟩).isSome = true ∧ w5.frozen? ⟨g, i * 8 + k, none⟩ = false := fun k hk => own_room Y5.out.own _ (by omega)
          obtain ⟨x0, y0⟩ := Option.isSome_iff_exists.1 (hr 0 (by decide)).1
          have z0 := (hr 0 (by decide)).2
          obtain ⟨x1, y1⟩ := Option.isSome_iff_exists.1 (hr 1 (by decide)).1
          have z1 := (hr 1 (by decide)).2
          obtain ⟨x2, y2⟩ := Option.isSome_iff_exists.1 (hr 2 (by decide)).1
          have z2 := (hr 2 (by decide)).2
          obtain ⟨x3, y3⟩ := Option.isSome_iff_exists.1 (hr 3 (by decide)).1
          have z3 := (hr 3 (by decide)).2
          obtain ⟨x4, y4⟩ := Option.isSome_iff_exists.1 (hr 4 (by decide)).1
          have z4 := (hr 4 (by decide)).2
          obtain ⟨x5, y5⟩ := Option.isSome_iff_exists.1 (hr 5 (by decide)).1
          have z5 := (hr 5 (by decide)).2
          obtain ⟨x6, y6⟩ := Option.isSome_iff_exists.1 (hr 6 (by decide)).1
          have z6 := (hr 6 (by decide)).2
          obtain ⟨x7, y7⟩ := Option.isSome_iff_exists.1 (hr 7 (by decide)).1
          have z7 := (hr 7 (by decide)).2
          rw [Nat.add_zero] at y0 z0
          clear hr
          go_wp2_with fail
          go_roundg (l.length - (j + 1))
          case measure => have := G.out; omega
          case rel => exact ⟨i + 1, j + 1, _, rfl, by simp, by simp, Y6.out⟩
      · have hje := Lib.hid (show j = l.length by omega)
        have hii : (i : Int) < (l.length : Int) := by omega
        have k1 : (i : Int) ≤ (l.length : Int) := by omega
        have k2 : (i : Int) ≤ (vc : Int) := by omega
        have k3 : i ≤ l.length := by omega
        have k4 : i ≤ vc := by omega
        have k5 : (l.length : Int) ≤ (vc : Int) := by omega
        have k6 : (0 : Int) ≤ (i : Int) := by omega
        have hcl : ∀ ty, (Builtin.clear_ #[35] ty #[.slice (some ⟨g, i * 8, none⟩) (l.length - i) (vc - i)]).run Tryd.prog wr = .ok (.tuple #[]) (wr.setCells g (i * 8) (Builtin.zeroCells zLis.cells (l.length - i)).toList) :=
          fun ty => clear_lis wr ty g _ _ _ (by omega) (fun k hk => (own_room X.out.own _ (by omega)).1) (fun k hk => (own_room X.out.own _ (by omega)).2)
        have XO : Hid ((wr.setCells g (i * 8) (Builtin.zeroCells zLis.cells (l.length - i)).toList).ownsRow B 43 8 (.slice (some ⟨g, 0, none⟩) i vc) F.length (F.flatMap Lis.c)) := Lib.hid (by
          have e : cur.take i = F := by rw [X.out.tk, hje.out, List.take_length, HFF.out]
          have h2 := own_take Lis.len (n := l.length) (by have := X.out.own; exact this) i (by rw [X.out.len]; omega)
          have e3 : (cur.take i).length = i := by rw [List.length_take, X.out.len]; omega
          rw [← e, e3]
          exact own_sets _ _ wr h2 (Nat.le_refl _))
        have GO : Hid (w.grownBy (wr.setCells g (i * 8) (Builtin.zeroCells zLis.cells (l.length - i)).toList) (some g)) := Lib.hid (grown_sets _ _ _ X.out.gr)
        have hnl : ¬ ((j : Int) < (l.length : Int)) := by omega
        clear X
        generalize wr.setCells g (i * 8) (Builtin.zeroCells zLis.cells (l.length - i)).toList = w9 at *
        go_wp2_with fail
        go_ret
        exact ⟨_, rfl, XO.out, GO.out⟩
end Go.Proofs.YtnnckjgafglgeaaDoor
