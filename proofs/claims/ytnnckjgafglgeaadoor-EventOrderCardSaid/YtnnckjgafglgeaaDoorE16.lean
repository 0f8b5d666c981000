/- Rows of listeners: read, stored into, cleared; who is gone; slices.IndexFunc and Clone over listeners. -/
import Derived.Test.YtnnckjgafglgeaaDoorE14
import Derived.Laws.OwnMore
import Derived.Laws.IdiomCopy
import Derived.Lib.SliceRun
namespace Go.Proofs.YtnnckjgafglgeaaDoor
open Go.RowKit Go.Maps

def Lis.c (l : Lis) : List Value := [.int .i64 l.id, .int .i64 l.node, .string l.typ, .bool l.cap, .bool l.once, .bool l.stops, .bool l.all, .bool l.prev]
theorem Lis.len (l : Lis) : (Lis.c l).length = 8 := rfl
def zLis : Value := .agg #[.int .i64 0, .int .i64 0, .string ⟨#[]⟩, .bool false, .bool false, .bool false, .bool false, .bool false]
theorem lis_info : (Tryd.prog.info? 43).map (fun i => (i.zero, i.size, i.bytes)) = some (some zLis, 8, 40) := by kernel_rfl
theorem one_lis (l : Lis) : ∀ u ∈ Lis.c l, u.oneCell' = true := by
  intro u hu
  simp only [Lis.c, List.mem_cons, List.not_mem_nil, or_false] at hu
  rcases hu with rfl | rfl | rfl | rfl | rfl | rfl | rfl | rfl <;> rfl
theorem one_liss (ls : List Lis) : ∀ u ∈ ls.flatMap Lis.c, u.oneCell' = true := by
  intro u hu
  obtain ⟨l, _, hl⟩ := List.mem_flatMap.1 hu
  exact one_lis l u hl
theorem LisAt.all {w : World} {b x : Nat} {l : Lis} (h : LisAt w b x l) : ∀ i, i < 8 → w.cell? ⟨b, x + i, none⟩ = (Lis.c l)[i]? := by
  intro i hi
  obtain ⟨c0, c1, c2, c3, c4, c5, c6, c7⟩ := h
  match i, hi with
  | 0, _ => exact c0
  | 1, _ => exact c1
  | 2, _ => exact c2
  | 3, _ => exact c3
  | 4, _ => exact c4
  | 5, _ => exact c5
  | 6, _ => exact c6
  | 7, _ => exact c7
theorem SlR.lis {w : World} {v : Value} {ls : List Lis} (h : SlR w LisAt 8 v ls) : Sl w Lis.c 8 v ls := by
  obtain ⟨a, c, h1, h2, h3, h4⟩ := h
  refine ⟨a, c, h1, h2, h3, fun h0 => ?_⟩
  obtain ⟨b, o, h5, h6⟩ := h4 h0
  exact ⟨b, o, h5, cell_lt (h6 0 h0).c0, fun k hk i hi => (h6 k hk).all i hi⟩
theorem own_lis {w : World} {B : Nat} {v : Value} {ls : List Lis} (h : w.ownsRow B 43 8 v ls.length (ls.flatMap Lis.c)) : SlR w LisAt 8 v ls := by
  obtain ⟨a, c, h1, h2, h3, h4⟩ := Own.sl Lis.len h
  refine ⟨a, c, h1, h2, h3, fun h0 => ?_⟩
  obtain ⟨b, o, h5, _, h6⟩ := h4 h0
  exact ⟨b, o, h5, fun k hk => ⟨h6 k hk 0 (by decide), h6 k hk 1 (by decide), h6 k hk 2 (by decide), h6 k hk 3 (by decide), h6 k hk 4 (by decide), h6 k hk 5 (by decide), h6 k hk 6 (by decide), h6 k hk 7 (by decide)⟩⟩
/-! ### An own row, stored into. -/
theorem flat_take {α : Type} (enc : α → List Value) (s : Nat) (he : ∀ x, (enc x).length = s) : ∀ (l : List α) (i : Nat), (l.flatMap enc).take (i * s) = (l.take i).flatMap enc
  | [], i => by simp
  | a :: l, 0 => by simp
  | a :: l, i + 1 => by
    rw [List.flatMap_cons, List.take_succ_cons, List.flatMap_cons, List.take_append, he, List.take_of_length_le (by rw [he, Nat.succ_mul]; omega), show (i + 1) * s - s = i * s by rw [Nat.succ_mul]; omega, flat_take enc s he l i]
theorem own_take {α : Type} {w : World} {enc : α → List Value} {s B : Nat} {e : TypeId} (he : ∀ x, (enc x).length = s) {g n cap : Nat} {l : List α} (h : w.ownsRow B e s (.slice (some ⟨g, 0, none⟩) n cap) l.length (l.flatMap enc)) (i : Nat) (hi : i ≤ l.length) :
    w.ownsRow B e s (.slice (some ⟨g, 0, none⟩) i cap) i ((l.take i).flatMap enc) := by
  rcases h.2 with ⟨h2, _⟩ | ⟨g', cap', cur, e1, e2, e3, e4, e5, e6, e7⟩
  · cases h2
  · cases e1
    refine ⟨by rw [flat_len enc s he, List.length_take, Nat.min_eq_left hi], .inr ⟨g, cap, cur, rfl, e2, e3, by omega, e5, e6, ?_⟩⟩
    rw [← flat_take enc s he, ← e7, List.take_take, Nat.min_eq_left (Nat.mul_le_mul_right s hi)]
theorem own_set {w : World} {B e s n g n' cap : Nat} {xs : List Value} (h : w.ownsRow B e s (.slice (some ⟨g, 0, none⟩) n' cap) n xs) (o : Nat) (ho : n * s ≤ o) (v : Value) : (w.setCell ⟨g, o, none⟩ v).ownsRow B e s (.slice (some ⟨g, 0, none⟩) n' cap) n xs := by
  refine ⟨h.1, ?_⟩
  rcases h.2 with ⟨h2, _⟩ | ⟨g', cap', cur, e1, e2, e3, e4, e5, e6, e7⟩
  · cases h2
  · cases e1
    refine .inr ⟨g, cap, cur.setIfInBounds o v, rfl, e2, heap_setCell_same w g o cur e v e3, e4, e5, by simpa using e6, ?_⟩
    rw [Array.toList_setIfInBounds, List.take_set_of_le (by omega)]
    exact e7
theorem own_sets {B e s n g n' cap : Nat} {xs : List Value} : ∀ (vs : List Value) (o : Nat) (w : World), w.ownsRow B e s (.slice (some ⟨g, 0, none⟩) n' cap) n xs → n * s ≤ o → (w.setCells g o vs).ownsRow B e s (.slice (some ⟨g, 0, none⟩) n' cap) n xs
  | [], _, _, h, _ => h
  | v :: r, o, w, h, ho => own_sets r (o + 1) _ (own_set h o ho v) (by omega)
theorem grown_sets {W : World} {g : Nat} : ∀ (vs : List Value) (o : Nat) (w : World), W.grownBy w (some g) → W.grownBy (w.setCells g o vs) (some g)
  | [], _, _, h => h
  | v :: r, o, _, h => grown_sets r (o + 1) _ (Lib.grownBy_setB h o v)
theorem own_room {w : World} {B e s n g n' cap : Nat} {xs : List Value} (h : w.ownsRow B e s (.slice (some ⟨g, 0, none⟩) n' cap) n xs) (o : Nat) (ho : o < cap * s) : (w.cell? ⟨g, o, none⟩).isSome = true ∧ w.frozen? ⟨g, o, none⟩ = false := by
  rcases h.2 with ⟨h2, _⟩ | ⟨g', cap', cur, e1, e2, e3, e4, e5, e6, e7⟩
  · cases h2
  · cases e1
    refine ⟨?_, ?_⟩
    · rw [cell_of_row w g o cur e (0, 0) e3, Array.getElem?_eq_getElem (by omega)]
      rfl
    · simp [World.frozen?, e3]
theorem own_at {w : World} {B e s n g n' cap : Nat} {xs : List Value} (h : w.ownsRow B e s (.slice (some ⟨g, 0, none⟩) n' cap) n xs) (o : Nat) (v : Value) : (w.setCell ⟨g, o, none⟩ v).ownsRow B e s (.slice (some ⟨g, 0, none⟩) n' cap) n (xs.set o v) := by
  refine ⟨by rw [List.length_set]; exact h.1, ?_⟩
  rcases h.2 with ⟨h2, _⟩ | ⟨g', cap', cur, e1, e2, e3, e4, e5, e6, e7⟩
  · cases h2
  · cases e1
    refine .inr ⟨g, cap, cur.setIfInBounds o v, rfl, e2, heap_setCell_same w g o cur e v e3, e4, e5, by simpa using e6, ?_⟩
    rw [Array.toList_setIfInBounds, List.take_set, e7]
theorem lis_set : ∀ (ls : List Lis) (i : Nat) (x : Lis), i < ls.length → (((((((((ls.flatMap Lis.c).set (i * 8) (.int .i64 x.id)).set (i * 8 + 1) (.int .i64 x.node)).set (i * 8 + 2) (.string x.typ)).set (i * 8 + 3) (.bool x.cap)).set (i * 8 + 4) (.bool x.once)).set (i * 8 + 5) (.bool x.stops)).set (i * 8 + 6) (.bool x.all)).set (i * 8 + 7) (.bool x.prev)) = (ls.set i x).flatMap Lis.c
  | [], i, x, h => by simp at h
  | l :: ls, 0, x, _ => rfl
  | l :: ls, i + 1, x, h => by
    have ih := lis_set ls i x (by simpa using h)
    have e : ∀ (t : List Value) (k : Nat) (v : Value), (Lis.c l ++ t).set ((i + 1) * 8 + k) v = Lis.c l ++ t.set (i * 8 + k) v := by
      intro t k v
      rw [List.set_append_right _ _ (by rw [Lis.len, Nat.succ_mul]; omega), Lis.len, Nat.succ_mul, show i * 8 + 8 + k - 8 = i * 8 + k by omega]
    have e0 : ∀ (t : List Value) (v : Value), (Lis.c l ++ t).set ((i + 1) * 8) v = Lis.c l ++ t.set (i * 8) v := fun t v => e t 0 v
    rw [List.set_cons_succ, List.flatMap_cons, List.flatMap_cons, e0, e, e, e, e, e, e, e, ih]
/-- One listener stored. -/
def putL (w : World) (g i : Nat) (x : Lis) : World := (((((((w.setCell ⟨g, i * 8, none⟩ (.int .i64 x.id)).setCell ⟨g, i * 8 + 1, none⟩ (.int .i64 x.node)).setCell ⟨g, i * 8 + 2, none⟩ (.string x.typ)).setCell ⟨g, i * 8 + 3, none⟩ (.bool x.cap)).setCell ⟨g, i * 8 + 4, none⟩ (.bool x.once)).setCell ⟨g, i * 8 + 5, none⟩ (.bool x.stops)).setCell ⟨g, i * 8 + 6, none⟩ (.bool x.all)).setCell ⟨g, i * 8 + 7, none⟩ (.bool x.prev)
theorem own_putL {w : World} {B g n cap : Nat} {ls : List Lis} (h : w.ownsRow B 43 8 (.slice (some ⟨g, 0, none⟩) n cap) ls.length (ls.flatMap Lis.c)) (i : Nat) (hi : i < ls.length) (x : Lis) : (putL w g i x).ownsRow B 43 8 (.slice (some ⟨g, 0, none⟩) n cap) (ls.set i x).length ((ls.set i x).flatMap Lis.c) := by
  rw [← lis_set ls i x hi, List.length_set]
  exact own_at (own_at (own_at (own_at (own_at (own_at (own_at (own_at h _ _) _ _) _ _) _ _) _ _) _ _) _ _) _ _
theorem grown_putL (w : World) (g i : Nat) (x : Lis) : w.grownBy (putL w g i x) (some g) :=
  Lib.grownBy_setB (Lib.grownBy_setB (Lib.grownBy_setB (Lib.grownBy_setB (Lib.grownBy_setB (Lib.grownBy_setB (Lib.grownBy_setB (Lib.grownBy_setB (gr_refl w _) _ _) _ _) _ _) _ _) _ _) _ _) _ _) _ _
theorem zero_one : ∀ v ∈ zLis.cells.toList, v.oneCell' = true := by
  intro v hv
  simp only [zLis, Value.cells] at hv
  simp only [List.mem_cons, List.not_mem_nil, or_false] at hv
  rcases hv with rfl | rfl | rfl | rfl | rfl | rfl | rfl | rfl <;> rfl
theorem below_drew {B : Nat} {w w' : World} (h : Below B w w') : Below B w w'.drew := ⟨h.os, h.tape, h.output, h.size, h.block⟩
theorem zeros_one (n : Nat) : ∀ v ∈ (Builtin.zeroCells zLis.cells n).toList, v.oneCell' = true := by
  intro v hv
  simp only [Builtin.zeroCells, Array.toList_map, List.mem_map] at hv
  obtain ⟨i, _, rfl⟩ := hv
  have hs : i % zLis.cells.size < zLis.cells.size := Nat.mod_lt _ (by decide)
  rw [getElem!_pos zLis.cells _ hs]
  exact zero_one _ (by simp)
theorem clear_lis (w : World) (ty : TypeId) (b o n c : Nat) (hn : 0 < n) (hc : ∀ j, j < n * 8 → (w.cell? ⟨b, o + j, none⟩).isSome = true) (hf : ∀ j, j < n * 8 → w.frozen? ⟨b, o + j, none⟩ = false) :
    (Builtin.clear_ #[35] ty #[.slice (some ⟨b, o, none⟩) n c]).run Tryd.prog w = .ok (.tuple #[]) (w.setCells b o (Builtin.zeroCells zLis.cells n).toList) := by
  have hl : (Builtin.zeroCells zLis.cells n).toList.length = n * 8 := by rw [Array.length_toList, size_zeroCells]; rfl
  have hst := run_storeCells_cells (P := Tryd.prog) b o (Builtin.zeroCells zLis.cells n).toList 0 w (by rw [hl]; simpa using hc) (by rw [hl]; simpa using hf) (zeros_one n)
  simp only [Nat.add_zero] at hst
  have hv : ∀ w, (zeroValue 43).run Tryd.prog w = .ok zLis w := Tryd.zeroValue43
  obtain ⟨m, rfl⟩ : ∃ m, n = m + 1 := ⟨n - 1, by omega⟩
  simp [Builtin.clear_, run_underlying Tryd.underlying35, hv, hst]
/-! ### Who is gone. -/
structure GoneAt (w : World) (T S M n : Nat) (gone : List Int) (D : DataW Unit) : Prop where
  t : w.heap[T]? = some (.cells #[.pointer (some ⟨S, 0, none⟩)] 60 (0, 0))
  s : ∃ lv e hc b1 b2 b3, w.heap[S]? = some (sdObj lv e hc M b1 b2 b3)
  map : w.ownsMap Tryd.prog 3 (plainElem Tryd.prog 3) M n D
  at_ : ∀ x, (Lit.int .i64 x).wf = true → D.atKey (.int .i64 x) (.lit (.int .i64 0)) = .lit (.int .i64 (if gone.contains x then 1 else 0))
theorem GoneAt.grown {w w' : World} {T S M n g : Nat} {gone : List Int} {D : DataW Unit} (h : GoneAt w T S M n gone D) (hg : w.grownBy w' (some g)) (h1 : T ≠ g) (h2 : S ≠ g) (h3 : M ≠ g) : GoneAt w' T S M n gone D := by
  obtain ⟨lv, e, hc, b1, b2, b3, hs⟩ := h.s
  exact ⟨(hg.block T (lt_of_heap h.t) (fun e2 => by injection e2 with e2; exact h1 e2)).trans h.t, ⟨lv, e, hc, b1, b2, b3, (hg.block S (lt_of_heap hs) (fun e2 => by injection e2 with e2; exact h2 e2)).trans hs⟩, h.map.kept hg (fun e2 => by injection e2 with e2; exact h3 e2), h.at_⟩
theorem GoneAt.below {w w' : World} {T S M n : Nat} {gone : List Int} {D : DataW Unit} (h : GoneAt w T S M n gone D) (hb : Below w.heap.size w w') : GoneAt w' T S M n gone D := by
  obtain ⟨lv, e, hc, b1, b2, b3, hs⟩ := h.s
  exact ⟨(hb.block T (lt_of_heap h.t)).trans h.t, ⟨lv, e, hc, b1, b2, b3, (hb.block S (lt_of_heap hs)).trans hs⟩, h.map.kept (row := none) ⟨hb.os, hb.tape, hb.output, hb.size, fun k hk _ => hb.block k hk⟩ (by simp), h.at_⟩
theorem call30 (args : Array Value) (w : World) : Sem.run Tryd.prog (callFunc 30 args) w = .ok (.enter 30 args) w := by go_simp
set_option maxRecDepth 100000 in
set_option maxHeartbeats 4000000 in
theorem gone_any (T S M n : Nat) (gone : List Int) (D : DataW Unit) (x : Lis) (w : World) (hx : (Lit.int .i64 x.id).wf = true) (h : GoneAt w T S M n gone D) : Calls Tryd.prog 30 #[Lis.v x, .pointer (some ⟨T, 0, none⟩)] w fun e w' => e = .returned (.bool (gone.contains x.id)) ∧ Below w.heap.size w w' := by
  have H := Lib.hid h
  have HX := Lib.hid hx
  clear h hx
  obtain ⟨id, nd, ty, cp, on, st, al, pv⟩ := x
  show Calls Tryd.prog 30 #[.agg #[.int .i64 id, .int .i64 nd, .string ty, .bool cp, .bool on, .bool st, .bool al, .bool pv], .pointer (some ⟨T, 0, none⟩)] w fun e w' => e = .returned (.bool (gone.contains id)) ∧ Below w.heap.size w w'
  obtain ⟨R, hR⟩ : ∃ R, gone.contains id = R := ⟨_, rfl⟩
  rw [hR]
  have HR := Lib.hid hR
  clear hR
  go_enter Tryd.func30, Tryd.ntmps30
  obtain ⟨A, hA⟩ : ∃ A, w.heap.size = A := ⟨_, rfl⟩
  go_upto_region 1 with fail
  refine code_gen (Φ := fun wy => Hid (Below w.heap.size w wy) ∧ Hid (GoneAt wy T S M n gone D) ∧ Hid (wy.heap[A]? = some (.cells #[.int .i64 id, .int .i64 nd, .string ty, .bool cp, .bool on, .bool st, .bool al, .bool pv] 43 (0, 0)))) ⟨Lib.hid ((Below.refl _ _).alloc (Nat.le_refl _) _), Lib.hid (H.out.below ((Below.refl _ _).alloc (Nat.le_refl _) _)), Lib.hid (alloc_at hA _)⟩ ?_
  rintro w3 ⟨X, Y, Z⟩
  clear hA H
  obtain ⟨c, hrun, hat, _⟩ := Y.out.map.lookup_int law3 Tryd.underlying53 Tryd.underlying3 (zero3 _) (keyOf_int_mk Tryd.underlying3 HX.out)
  obtain ⟨c', hrun', hat', _⟩ := Y.out.map.drew.lookup_int law3 Tryd.underlying53 Tryd.underlying3 (zero3 _) (keyOf_int_mk Tryd.underlying3 HX.out)
  rw [Y.out.at_ id HX.out] at hat hat'
  obtain ⟨lv, e, hc, b1, b2, b3, hs⟩ := Y.out.s
  have t0 : w3.cell? ⟨T, 0, none⟩ = some (.pointer (some ⟨S, 0, none⟩)) := (Lib.cell_of_heap Y.out.t 0).trans rfl
  have l0 := (cells8 Z.out).1
  have s9 := (cells13 hs).2.2.2.2.2.2.2.2.2.1
  clear hs
  rw [HR.out] at hat hat'
  clear HR
  cases R with
  | true =>
    have hc1 : c = 1 := by injection hat with hat; injection hat with _ hat; exact hat.symm
    have hc2 : c' = 1 := by injection hat' with hat'; injection hat' with _ hat'; exact hat'.symm
    subst hc1 hc2
    clear hat hat'
    go_region_with fail
    all_goals
      go_wp2_with fail
      go_ret
      exact ⟨rfl, by first | exact X.out | exact below_drew X.out⟩
  | false =>
    have hc1 : c = 0 := by injection hat with hat; injection hat with _ hat; exact hat.symm
    have hc2 : c' = 0 := by injection hat' with hat'; injection hat' with _ hat'; exact hat'.symm
    subst hc1 hc2
    clear hat hat'
    go_region_with fail
    all_goals
      go_wp2_with fail
      go_ret
      exact ⟨rfl, by first | exact X.out | exact below_drew X.out⟩
end Go.Proofs.YtnnckjgafglgeaaDoor
