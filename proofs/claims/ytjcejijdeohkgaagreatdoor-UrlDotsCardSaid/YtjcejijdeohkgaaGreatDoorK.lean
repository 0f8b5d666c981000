/- Frames: slices that read as lists; blocks of a call's own; worlds by their facts. -/
import Derived.Test.YtjcejijdeohkgaaGreatDoorU7
import Derived.Test.YtjcejijdeohkgaaGreatDoorRows
import Derived.WalkKit
import Derived.WalkSpells
import Derived.WalkLawsBesides
import Derived.Deep.QuietTactic
import Derived.BigQuiet
import Derived.Deep.DeepCutAuto
import Derived.Deep.Draws
import Derived.Outline
import Derived.Deep.RegionHeld3
import Derived.Lib.Hide
import Derived.Lib.SliceRun
import Derived.Lib.OwnBridge
import Derived.Laws.AppendOwn
import Derived.Laws.OwnMore
import Derived.Laws.IdiomCopy
import Derived.Deep.OwnRows
import Derived.Lib.BufferOwn
import Derived.Deep.AppendLies
import Derived.Deep.RegionLaw
namespace Go.Proofs.YtjcejijdeohkgaaGreatDoor
open Go.RowKit

/-- A slice that reads as these items, each of so many cells. -/
def Sl {α : Type} (w : World) (enc : α → List Value) (size : Nat) (v : Value) (l : List α) : Prop :=
  ∃ a c, v = .slice a l.length c ∧ l.length ≤ c ∧ c ≤ maxLen ∧
    (0 < l.length → ∃ b o, a = some ⟨b, o, none⟩ ∧ b < w.heap.size ∧ ∀ k (hk : k < l.length) i, i < size → w.cell? ⟨b, o + k * size + i, none⟩ = (enc l[k])[i]?)
theorem Sl.below {α : Type} {w w' : World} {enc : α → List Value} {size : Nat} {v : Value} {l : List α} (h : Sl w enc size v l) (hb : Below w.heap.size w w') : Sl w' enc size v l := by
  obtain ⟨a, c, h1, h2, h3, h4⟩ := h
  refine ⟨a, c, h1, h2, h3, fun h0 => ?_⟩
  obtain ⟨b, o, h5, h6, h7⟩ := h4 h0
  exact ⟨b, o, h5, Nat.lt_of_lt_of_le h6 hb.size, fun k hk i hi => (World.cell?_of_block (a := ⟨b, _, none⟩) (hb.block b h6)).trans (h7 k hk i hi)⟩
theorem Below.le {B C : Nat} {w w' : World} (h : Below C w w') (hB : B ≤ C) : Below B w w' := ⟨h.os, h.tape, h.output, h.size, fun k hk => h.block k (Nat.lt_of_lt_of_le hk hB)⟩
theorem own_shape {w : World} {B e size n : Nat} {v : Value} {xs : List Value} (h : w.ownsRow B e size v n xs) : ∃ a c, v = .slice a n c := by
  rcases h.2 with ⟨rfl, rfl⟩ | ⟨g, cap, cur, rfl, _⟩
  · exact ⟨_, _, rfl⟩
  · exact ⟨_, _, rfl⟩
/-- The first place that meets it; -1: none. -/
def idxP {α : Type} (p : α → Bool) : List α → Int
  | [] => -1
  | x :: l => if p x then 0 else if idxP p l = -1 then -1 else idxP p l + 1
theorem idxP_ge {α : Type} (p : α → Bool) : ∀ l, -1 ≤ idxP p l
  | [] => by simp [idxP]
  | x :: l => by
    have := idxP_ge p l
    unfold idxP
    split
    · omega
    · split <;> omega
theorem idxP_any {α : Type} (p : α → Bool) : ∀ l, decide (0 ≤ idxP p l) = l.any p
  | [] => by simp [idxP]
  | x :: l => by
    have ih := idxP_any p l
    have hg := idxP_ge p l
    unfold idxP
    rw [List.any_cons, ← ih]
    cases hp : p x with
    | true => simp
    | false =>
      simp only [Bool.false_or]
      split
      · simp at *
      · split
        · rename_i h; simp [h]
        · rw [decide_eq_decide]; omega
/-- Where the places ahead do not meet it. -/
theorem idxP_drop {α : Type} (p : α → Bool) : ∀ (l : List α) (k : Nat), k ≤ l.length → (∀ x ∈ l.take k, p x = false) → idxP p l = if idxP p (l.drop k) = -1 then -1 else idxP p (l.drop k) + k
  | l, 0, _, _ => by
    simp only [List.drop_zero]
    split
    · assumption
    · simp
  | [], k + 1, hk, _ => by simp at hk
  | x :: l, k + 1, hk, h => by
    have hx : p x = false := h x (by simp)
    have ih := idxP_drop p l k (by simpa using hk) (fun y hy => h y (by simp [hy]))
    have hg := idxP_ge p (l.drop k)
    rw [List.drop_succ_cons]
    have e : idxP p (x :: l) = if idxP p l = -1 then -1 else idxP p l + 1 := by
      conv => lhs; unfold idxP
      rw [hx]; rfl
    rw [e, ih]
    by_cases h1 : idxP p (l.drop k) = -1
    · rw [if_pos h1, if_pos rfl, if_pos h1]
    · rw [if_neg h1, if_neg (by omega), if_neg h1]; push_cast; omega
theorem below_drewN {B : Nat} {w w' : World} (h : Below B w w') (n : Nat) : Below B w (w'.drewN n) := ⟨h.os, h.tape, h.output, h.size, h.block⟩
theorem kc {w w9 : World} {b o : Nat} {v : Value} (hb : Below w.heap.size w w9) (h : w.cell? ⟨b, o, none⟩ = some v) : w9.cell? ⟨b, o, none⟩ = some v := by
  have hlt : b < w.heap.size := by
    rcases Nat.lt_or_ge b w.heap.size with h' | h'
    · exact h'
    · simp [World.cell?, Array.getElem?_eq_none h'] at h
  exact (World.cell?_of_block (a := ⟨b, o, none⟩) (hb.block b hlt)).trans h
theorem flat_len {α : Type} (enc : α → List Value) (s : Nat) (he : ∀ x, (enc x).length = s) (l : List α) : (l.flatMap enc).length = l.length * s := by
  induction l with
  | nil => simp
  | cons a l ih => rw [List.flatMap_cons, List.length_append, ih, he, List.length_cons, Nat.succ_mul, Nat.add_comm]
theorem flat_get {α : Type} (enc : α → List Value) (s : Nat) (he : ∀ x, (enc x).length = s) : ∀ (l : List α) (k i : Nat) (h : k < l.length), i < s → (l.flatMap enc)[k * s + i]? = (enc l[k])[i]?
  | a :: l, 0, i, _, hi => by
    rw [List.flatMap_cons, List.getElem?_append_left (by rw [he]; omega)]
    simp
  | a :: l, k + 1, i, h, hi => by
    rw [List.flatMap_cons, List.getElem?_append_right (by rw [he, Nat.succ_mul]; omega)]
    have := flat_get enc s he l k i (by simpa using h) hi
    rw [show (k + 1) * s + i - (enc a).length = k * s + i by rw [he, Nat.succ_mul]; omega, this]
    rfl
/-- The cells of such a slice, one behind the other. -/
theorem Sl.flat {α : Type} {w : World} {enc : α → List Value} {s : Nat} (he : ∀ x, (enc x).length = s) (hs : 0 < s) {b o n c : Nat} {l : List α} (h : Sl w enc s (.slice (some ⟨b, o, none⟩) n c) l) :
    ∀ j u, (l.flatMap enc)[j]? = some u → w.cell? ((⟨b, o, none⟩ : Addr).add j) = some u := by
  intro j u hj
  have hlt : j < l.length * s := by
    have := (List.getElem?_eq_some_iff.1 hj).1
    rwa [flat_len enc s he] at this
  have hk : j / s < l.length := (Nat.div_lt_iff_lt_mul hs).2 hlt
  obtain ⟨a', c', h1, _, _, h4⟩ := h
  injection h1 with h1 _ _
  obtain ⟨b', o', h5, _, h7⟩ := h4 (Nat.lt_of_le_of_lt (Nat.zero_le _) hk)
  rw [← h1] at h5
  injection h5 with h5
  injection h5 with h5 h6 _
  subst h5
  subst h6
  have hjj : j / s * s + j % s = j := by rw [Nat.mul_comm]; exact Nat.div_add_mod j s
  have h8 := h7 (j / s) hk (j % s) (Nat.mod_lt j hs)
  rw [← flat_get enc s he l (j / s) (j % s) hk (Nat.mod_lt j hs), hjj, show o + j / s * s + j % s = o + j by omega] at h8
  have hadd : (⟨b, o, none⟩ : Addr).add j = ⟨b, o + j, none⟩ := by unfold Addr.add; split <;> simp_all
  rw [hadd, h8, hj]
theorem Own.sl {α : Type} {w : World} {enc : α → List Value} {s B : Nat} {e : TypeId} (he : ∀ x, (enc x).length = s) {v : Value} {l : List α} (h : w.ownsRow B e s v l.length (l.flatMap enc)) : Sl w enc s v l := by
  rcases h.2 with ⟨rfl, h0⟩ | ⟨g, cap, cur, rfl, hB, hh, hc, hm, hs, ht⟩
  · have : l = [] := List.eq_nil_of_length_eq_zero h0
    subst this
    exact ⟨none, 0, rfl, Nat.le_refl _, by simp [maxLen], fun h => by simp at h⟩
  · refine ⟨_, cap, rfl, hc, hm, fun _ => ⟨g, 0, rfl, ?_, fun k hk i hi => ?_⟩⟩
    · rcases Nat.lt_or_ge g w.heap.size with h' | h'
      · exact h'
      · simp [Array.getElem?_eq_none h'] at hh
    · have hlt : k * s + i < l.length * s := by
        have : (k + 1) * s ≤ l.length * s := Nat.mul_le_mul_right s hk
        rw [Nat.succ_mul] at this
        omega
      rw [Nat.zero_add, h.cellAt (k * s + i) hlt]
      exact flat_get enc s he l k i hk hi
theorem Sl.some_of {α : Type} {w : World} {enc : α → List Value} {s : Nat} {a : Option Addr} {n c : Nat} {l : List α} (h : Sl w enc s (.slice a n c) l) (hl : l ≠ []) : ∃ b o, a = some ⟨b, o, none⟩ := by
  obtain ⟨a', c', h1, _, _, h4⟩ := h
  injection h1 with h1 _ _
  obtain ⟨b', o', h5, _, _⟩ := h4 (List.length_pos_iff.2 hl)
  exact ⟨b', o', h1.trans h5⟩
theorem own_below {w w' : World} {B C e size n : Nat} {v : Value} {xs : List Value} (h : w.ownsRow B e size v n xs) (hb : Below w.heap.size w w') (hC : C ≤ B) : w'.ownsRow C e size v n xs := by
  refine ⟨h.1, ?_⟩
  rcases h.2 with h2 | ⟨g, cap, cur, e1, e2, e3, e4⟩
  · exact .inl h2
  · have hlt : g < w.heap.size := by
      rcases Nat.lt_or_ge g w.heap.size with h' | h'
      · exact h'
      · simp [Array.getElem?_eq_none h'] at e3
    exact .inr ⟨g, cap, cur, e1, Nat.le_trans hC e2, (hb.block g hlt).trans e3, e4⟩
theorem gr_refl (w : World) (row : Option Nat) : w.grownBy w row := ⟨rfl, rfl, rfl, Nat.le_refl _, fun _ _ _ => rfl⟩
theorem alloc_keep {w : World} {k : Nat} {o : Obj} (h : w.heap[k]? = some o) (o' : Obj) : (w.alloc o').heap[k]? = some o := by
  have hlt : k < w.heap.size := by
    rcases Nat.lt_or_ge k w.heap.size with h' | h'
    · exact h'
    · rw [Array.getElem?_eq_none h'] at h; cases h
  exact (Lib.alloc_old w o' k hlt).trans h
theorem alloc_at {w : World} {k : Nat} (hk : w.heap.size = k) (o : Obj) : (w.alloc o).heap[k]? = some o := by rw [← hk]; exact heap_alloc_new w o
theorem set_heap {w : World} {b : Nat} {c : Array Value} {t : TypeId} (h : w.heap[b]? = some (.cells c t (0, 0))) (i : Nat) (v : Value) (hi : i < c.size) : (w.setCell ⟨b, i, none⟩ v).heap[b]? = some (.cells (c.set i v) t (0, 0)) := by
  have hlt : b < w.heap.size := by
    rcases Nat.lt_or_ge b w.heap.size with h' | h'
    · exact h'
    · rw [Array.getElem?_eq_none h'] at h; cases h
  have hb : w.heap[b] = .cells c t (0, 0) := by rw [Array.getElem?_eq_getElem hlt] at h; injection h
  simp [World.setCell, hlt, hb, hi, Array.setIfInBounds, Array.getElem_modify]
theorem set_far {w : World} {k b : Nat} {o : Obj} (h : w.heap[k]? = some o) (hne : k ≠ b) (i : Nat) (v : Value) : (w.setCell ⟨b, i, none⟩ v).heap[k]? = some o := by
  rw [Below.heap_setCell _ _ _ _ (fun e => hne (show k = b from e))]
  exact h
theorem below_grown {w0 w w' : World} {B b : Nat} (h : Below B w0 w) (hg : w.grownBy w' (some b)) (hb : B ≤ b) (hB : B ≤ w0.heap.size) : Below B w0 w' :=
  ⟨hg.os.trans h.os, hg.tape.trans h.tape, hg.output.trans h.output, Nat.le_trans h.size hg.size, fun k hk => (hg.block k (Nat.lt_of_lt_of_le (Nat.lt_of_lt_of_le hk hB) h.size) (by intro e; injection e with e; omega)).trans (h.block k hk)⟩
theorem calls_gen {P : Program} {f : Nat} {args : Array Value} {W : World} {Q : Ending → World → Prop} (Φ : World → Prop) (h0 : Φ W) (h : ∀ w4, Φ w4 → Calls P f args w4 Q) : Calls P f args W Q := h W h0
theorem own_some {w : World} {B e s n c : Nat} {a : Option Addr} {xs : List Value} (h : w.ownsRow B e s (.slice a n c) n xs) (h0 : 0 < n) : ∃ g, a = some ⟨g, 0, none⟩ := by
  rcases h.2 with ⟨_, h2⟩ | ⟨g, cap, cur, e1, _⟩
  · omega
  · injection e1 with e1
    exact ⟨g, e1⟩
theorem code_gen {P : Program} {c : Code} {Q : Exit → Act → World → Prop} {a : Act} {W : World} (Φ : World → Prop) (h0 : Φ W) (h : ∀ w4, Φ w4 → c.wp P Q a w4) : c.wp P Q a W := h W h0
theorem body_gen {P : Program} {f : Func} {Q : Ending → World → Prop} {x : Exit} {a : Act} {W : World} (Φ : World → Prop) (h0 : Φ W) (h : ∀ w4, Φ w4 → bodyPost P f Q x a w4) : bodyPost P f Q x a W := h W h0
theorem size_set (w : World) (b i : Nat) (v : Value) : (w.setCell ⟨b, i, none⟩ v).heap.size = w.heap.size := by simp
theorem lt_of_heap {wr : World} {b : Nat} {o : Obj} (h : wr.heap[b]? = some o) : b < wr.heap.size := by
  rcases Nat.lt_or_ge b wr.heap.size with h' | h'
  · exact h'
  · rw [Array.getElem?_eq_none h'] at h; cases h
theorem own_lower {w : World} {B C e s n : Nat} {v : Value} {xs : List Value} (h : w.ownsRow B e s v n xs) (hC : C ≤ B) : w.ownsRow C e s v n xs := own_below h (Below.refl _ _) hC
structure Loc (w wx : World) (os : List Obj) : Prop where
  k : ∀ i o, os[i]? = some o → wx.heap[w.heap.size + i]? = some o
  bl : Below w.heap.size w wx
  sz : w.heap.size + os.length ≤ wx.heap.size
section
variable {w wx w' : World} {os : List Obj} {o0 o1 o2 o3 o4 : Obj}
theorem Loc.start : Loc w w [] := ⟨fun i o h => by simp at h, Below.refl _ _, Nat.le_refl _⟩
theorem Loc.push (h : Loc w wx os) (hz : wx.heap.size = w.heap.size + os.length) (o : Obj) : Loc w (wx.alloc o) (os ++ [o]) where
  k i o' hi := by
    rcases Nat.lt_or_ge i os.length with hlt | hge
    · rw [List.getElem?_append_left hlt] at hi
      exact alloc_keep (h.k i o' hi) o
    · rw [List.getElem?_append_right hge] at hi
      have : i = os.length := by
        rcases Nat.lt_or_ge (i - os.length) 1 with h1 | h1
        · omega
        · rw [List.getElem?_eq_none (by simpa using h1)] at hi; cases hi
      subst this
      simp only [Nat.sub_self, List.getElem?_cons_zero, Option.some.injEq] at hi
      subst hi
      exact alloc_at hz _
  bl := h.bl.alloc (by omega) o
  sz := by simp; omega
theorem Loc.call (h : Loc w wx os) (hb : Below wx.heap.size wx w') : Loc w w' os where
  k i o hi := (hb.block _ (by have := h.sz; have : i < os.length := (List.getElem?_eq_some_iff.1 hi).1; omega)).trans (h.k i o hi)
  bl := h.bl.trans (Below.le hb h.bl.size)
  sz := Nat.le_trans h.sz hb.size
theorem Loc.drew (h : Loc w wx os) : Loc w wx.drew os := h.call ⟨rfl, rfl, rfl, Nat.le_refl _, fun _ _ => rfl⟩
theorem Loc.drewN (h : Loc w wx os) (n : Nat) : Loc w (wx.drewN n) os := h.call ⟨rfl, rfl, rfl, Nat.le_refl _, fun _ _ => rfl⟩
theorem Loc.set (h : Loc w wx os) (i : Nat) {c : Array Value} {t : TypeId} (hi : os[i]? = some (.cells c t (0, 0))) (j : Nat) (v : Value) (hj : j < c.size) : Loc w (wx.setCell ⟨w.heap.size + i, j, none⟩ v) (os.set i (.cells (c.set j v) t (0, 0))) := by
  have hg : wx.grownBy (wx.setCell ⟨w.heap.size + i, j, none⟩ v) (some (w.heap.size + i)) := Lib.grownBy_setB (gr_refl wx _) _ _
  have hlt : i < os.length := (List.getElem?_eq_some_iff.1 hi).1
  refine ⟨fun k o hk => ?_, below_grown h.bl hg (by omega) (Nat.le_refl _), by rw [List.length_set]; exact Nat.le_trans h.sz hg.size⟩
  by_cases e : k = i
  · subst e
    rw [List.getElem?_set_self hlt] at hk
    injection hk with hk
    subst hk
    exact set_heap (h.k k _ hi) j v hj
  · rw [List.getElem?_set_ne (fun e2 => e e2.symm)] at hk
    exact set_far (h.k k o hk) (by omega) _ _
theorem Loc.k0 (h : Loc w wx (o0 :: os)) : wx.heap[w.heap.size]? = some o0 := h.k 0 o0 rfl
theorem Loc.k1 (h : Loc w wx (o0 :: o1 :: os)) : wx.heap[w.heap.size + 1]? = some o1 := h.k 1 o1 rfl
theorem Loc.k2 (h : Loc w wx (o0 :: o1 :: o2 :: os)) : wx.heap[w.heap.size + 1 + 1]? = some o2 := h.k 2 o2 rfl
theorem Loc.k3 (h : Loc w wx (o0 :: o1 :: o2 :: o3 :: os)) : wx.heap[w.heap.size + 1 + 1 + 1]? = some o3 := h.k 3 o3 rfl
theorem Loc.k4 (h : Loc w wx (o0 :: o1 :: o2 :: o3 :: o4 :: os)) : wx.heap[w.heap.size + 1 + 1 + 1 + 1]? = some o4 := h.k 4 o4 rfl
theorem Loc.start1 (o0 : Obj) : Loc w (w.alloc o0) [o0] := Loc.start.push rfl o0
theorem Loc.start2 (o0 o1 : Obj) : Loc w ((w.alloc o0).alloc o1) [o0, o1] := (Loc.start1 o0).push (by simp) o1
theorem Loc.start3 (o0 o1 o2 : Obj) : Loc w (((w.alloc o0).alloc o1).alloc o2) [o0, o1, o2] := (Loc.start2 o0 o1).push (by simp) o2
theorem Loc.start4 (o0 o1 o2 o3 : Obj) : Loc w ((((w.alloc o0).alloc o1).alloc o2).alloc o3) [o0, o1, o2, o3] := (Loc.start3 o0 o1 o2).push (by simp) o3
theorem Loc.start5 (o0 o1 o2 o3 o4 : Obj) : Loc w (((((w.alloc o0).alloc o1).alloc o2).alloc o3).alloc o4) [o0, o1, o2, o3, o4] := (Loc.start4 o0 o1 o2 o3).push (by simp) o4
end
theorem Loc.far {w wx w' : World} {os : List Obj} {b : Nat} (h : Loc w wx os) (hg : wx.grownBy w' (some b)) (hb : w.heap.size + os.length ≤ b) : Loc w w' os where
  k i o hi := (hg.block _ (lt_of_heap (h.k i o hi)) (fun e => by injection e with e; have : i < os.length := (List.getElem?_eq_some_iff.1 hi).1; omega)).trans (h.k i o hi)
  bl := below_grown h.bl hg (by omega) (Nat.le_refl _)
  sz := Nat.le_trans h.sz hg.size
theorem cells2 {w : World} {b : Nat} {t : TypeId} {v0 v1 : Value} (h : w.heap[b]? = some (.cells #[v0, v1] t (0, 0))) : w.cell? ⟨b, 0, none⟩ = some v0 ∧ w.cell? ⟨b, 1, none⟩ = some v1 :=
  ⟨(Lib.cell_of_heap h _).trans rfl, (Lib.cell_of_heap h _).trans rfl⟩
theorem cells3 {w : World} {b : Nat} {t : TypeId} {v0 v1 v2 : Value} (h : w.heap[b]? = some (.cells #[v0, v1, v2] t (0, 0))) : w.cell? ⟨b, 0, none⟩ = some v0 ∧ w.cell? ⟨b, 1, none⟩ = some v1 ∧ w.cell? ⟨b, 2, none⟩ = some v2 :=
  ⟨(Lib.cell_of_heap h _).trans rfl, (Lib.cell_of_heap h _).trans rfl, (Lib.cell_of_heap h _).trans rfl⟩
theorem cells6 {w : World} {b : Nat} {t : TypeId} {v0 v1 v2 v3 v4 v5 : Value} (h : w.heap[b]? = some (.cells #[v0, v1, v2, v3, v4, v5] t (0, 0))) : w.cell? ⟨b, 0, none⟩ = some v0 ∧ w.cell? ⟨b, 1, none⟩ = some v1 ∧ w.cell? ⟨b, 2, none⟩ = some v2 ∧ w.cell? ⟨b, 3, none⟩ = some v3 ∧ w.cell? ⟨b, 4, none⟩ = some v4 ∧ w.cell? ⟨b, 5, none⟩ = some v5 :=
  ⟨(Lib.cell_of_heap h _).trans rfl, (Lib.cell_of_heap h _).trans rfl, (Lib.cell_of_heap h _).trans rfl, (Lib.cell_of_heap h _).trans rfl, (Lib.cell_of_heap h _).trans rfl, (Lib.cell_of_heap h _).trans rfl⟩
theorem cells7 {w : World} {b : Nat} {t : TypeId} {v0 v1 v2 v3 v4 v5 v6 : Value} (h : w.heap[b]? = some (.cells #[v0, v1, v2, v3, v4, v5, v6] t (0, 0))) : w.cell? ⟨b, 0, none⟩ = some v0 ∧ w.cell? ⟨b, 1, none⟩ = some v1 ∧ w.cell? ⟨b, 2, none⟩ = some v2 ∧ w.cell? ⟨b, 3, none⟩ = some v3 ∧ w.cell? ⟨b, 4, none⟩ = some v4 ∧ w.cell? ⟨b, 5, none⟩ = some v5 ∧ w.cell? ⟨b, 6, none⟩ = some v6 :=
  ⟨(Lib.cell_of_heap h _).trans rfl, (Lib.cell_of_heap h _).trans rfl, (Lib.cell_of_heap h _).trans rfl, (Lib.cell_of_heap h _).trans rfl, (Lib.cell_of_heap h _).trans rfl, (Lib.cell_of_heap h _).trans rfl, (Lib.cell_of_heap h _).trans rfl⟩
theorem cells8 {w : World} {b : Nat} {t : TypeId} {v0 v1 v2 v3 v4 v5 v6 v7 : Value} (h : w.heap[b]? = some (.cells #[v0, v1, v2, v3, v4, v5, v6, v7] t (0, 0))) : w.cell? ⟨b, 0, none⟩ = some v0 ∧ w.cell? ⟨b, 1, none⟩ = some v1 ∧ w.cell? ⟨b, 2, none⟩ = some v2 ∧ w.cell? ⟨b, 3, none⟩ = some v3 ∧ w.cell? ⟨b, 4, none⟩ = some v4 ∧ w.cell? ⟨b, 5, none⟩ = some v5 ∧ w.cell? ⟨b, 6, none⟩ = some v6 ∧ w.cell? ⟨b, 7, none⟩ = some v7 :=
  ⟨(Lib.cell_of_heap h _).trans rfl, (Lib.cell_of_heap h _).trans rfl, (Lib.cell_of_heap h _).trans rfl, (Lib.cell_of_heap h _).trans rfl, (Lib.cell_of_heap h _).trans rfl, (Lib.cell_of_heap h _).trans rfl, (Lib.cell_of_heap h _).trans rfl, (Lib.cell_of_heap h _).trans rfl⟩
theorem cells13 {w : World} {b : Nat} {t : TypeId} {v0 v1 v2 v3 v4 v5 v6 v7 v8 v9 v10 v11 v12 : Value} (h : w.heap[b]? = some (.cells #[v0, v1, v2, v3, v4, v5, v6, v7, v8, v9, v10, v11, v12] t (0, 0))) : w.cell? ⟨b, 0, none⟩ = some v0 ∧ w.cell? ⟨b, 1, none⟩ = some v1 ∧ w.cell? ⟨b, 2, none⟩ = some v2 ∧ w.cell? ⟨b, 3, none⟩ = some v3 ∧ w.cell? ⟨b, 4, none⟩ = some v4 ∧ w.cell? ⟨b, 5, none⟩ = some v5 ∧ w.cell? ⟨b, 6, none⟩ = some v6 ∧ w.cell? ⟨b, 7, none⟩ = some v7 ∧ w.cell? ⟨b, 8, none⟩ = some v8 ∧ w.cell? ⟨b, 9, none⟩ = some v9 ∧ w.cell? ⟨b, 10, none⟩ = some v10 ∧ w.cell? ⟨b, 11, none⟩ = some v11 ∧ w.cell? ⟨b, 12, none⟩ = some v12 :=
  ⟨(Lib.cell_of_heap h _).trans rfl, (Lib.cell_of_heap h _).trans rfl, (Lib.cell_of_heap h _).trans rfl, (Lib.cell_of_heap h _).trans rfl, (Lib.cell_of_heap h _).trans rfl, (Lib.cell_of_heap h _).trans rfl, (Lib.cell_of_heap h _).trans rfl, (Lib.cell_of_heap h _).trans rfl, (Lib.cell_of_heap h _).trans rfl, (Lib.cell_of_heap h _).trans rfl, (Lib.cell_of_heap h _).trans rfl, (Lib.cell_of_heap h _).trans rfl, (Lib.cell_of_heap h _).trans rfl⟩
/-- A slice whose items read so. -/
def SlR {α : Type} (w : World) (R : World → Nat → Nat → α → Prop) (size : Nat) (v : Value) (l : List α) : Prop :=
  ∃ a c, v = .slice a l.length c ∧ l.length ≤ c ∧ c ≤ maxLen ∧ (0 < l.length → ∃ b o, a = some ⟨b, o, none⟩ ∧ ∀ k (hk : k < l.length), R w b (o + k * size) l[k])
theorem SlR.mono {α : Type} {w w' : World} {R : World → Nat → Nat → α → Prop} {size : Nat} {v : Value} {l : List α} (h : SlR w R size v l) (hm : ∀ b x a, R w b x a → R w' b x a) : SlR w' R size v l := by
  obtain ⟨a, c, h1, h2, h3, h4⟩ := h
  refine ⟨a, c, h1, h2, h3, fun h0 => ?_⟩
  obtain ⟨b, o, h5, h6⟩ := h4 h0
  exact ⟨b, o, h5, fun k hk => hm _ _ _ (h6 k hk)⟩
theorem SlR.item {α : Type} {w : World} {R : World → Nat → Nat → α → Prop} {size n c : Nat} {a : Option Addr} {l : List α} (h : SlR w R size (.slice a n c) l) (k : Nat) (hk : k < l.length) : ∃ b o, a = some ⟨b, o, none⟩ ∧ R w b (o + k * size) l[k] := by
  obtain ⟨a', c', h1, _, _, h4⟩ := h
  injection h1 with h1 _ _
  subst h1
  obtain ⟨b, o, h5, h6⟩ := h4 (by omega)
  exact ⟨b, o, h5, h6 k hk⟩
theorem cell_lt {w : World} {b o : Nat} {v : Value} (h : w.cell? ⟨b, o, none⟩ = some v) : b < w.heap.size := by
  rcases Nat.lt_or_ge b w.heap.size with h' | h'
  · exact h'
  · simp [World.cell?, Array.getElem?_eq_none h'] at h
def nV (n : Int) : Value := .int .i64 n
def IntAt (w : World) (b x : Nat) (n : Int) : Prop := w.cell? ⟨b, x, none⟩ = some (.int .i64 n)
theorem SlR.cap {α : Type} {w : World} {R : World → Nat → Nat → α → Prop} {size n c : Nat} {a : Option Addr} {l : List α} (h : SlR w R size (.slice a n c) l) : l.length ≤ 9223372036854775807 ∧ l.length ≤ c ∧ c ≤ 9223372036854775807 := by
  obtain ⟨a', c', h1, h2, h3, _⟩ := h
  injection h1 with _ _ h1
  subst h1
  unfold maxLen at h3
  omega
theorem flat_take {α : Type} (enc : α → List Value) (s : Nat) (he : ∀ x, (enc x).length = s) : ∀ (l : List α) (i : Nat), (l.flatMap enc).take (i * s) = (l.take i).flatMap enc
  | [], i => by simp
  | a :: l, 0 => by simp
  | a :: l, i + 1 => by
    rw [List.flatMap_cons, List.take_succ_cons, List.flatMap_cons, List.take_append, he, List.take_of_length_le (by rw [he, Nat.succ_mul]; omega), show (i + 1) * s - s = i * s by rw [Nat.succ_mul]; omega, flat_take enc s he l i]
theorem own_take {α : Type} {w : World} {enc : α → List Value} {s B : Nat} {e : TypeId} (he : ∀ x, (enc x).length = s) {g n cap : Nat} {l : List α} (h : w.ownsRow B e s (.slice (some ⟨g, 0, none⟩) n cap) l.length (l.flatMap enc)) (i : Nat) (hi : i ≤ l.length) :
    w.ownsRow B e s (.slice (some ⟨g, 0, none⟩) i cap) i ((l.take i).flatMap enc) := by
  rcases h.2 with ⟨h2, _⟩ | ⟨g', cap', cur, e1, e2, e3, e4, e5, e6, e7⟩
  · cases h2
  · cases e1
    refine ⟨by rw [flat_len enc s he, List.length_take, Nat.min_eq_left hi], .inr ⟨g, cap, cur, rfl, e2, e3, by omega, e5, e6, ?_⟩⟩
    rw [← flat_take enc s he, ← e7, List.take_take, Nat.min_eq_left (Nat.mul_le_mul_right s hi)]
theorem own_set {w : World} {B e s n g n' cap : Nat} {xs : List Value} (h : w.ownsRow B e s (.slice (some ⟨g, 0, none⟩) n' cap) n xs) (o : Nat) (ho : n * s ≤ o) (v : Value) : (w.setCell ⟨g, o, none⟩ v).ownsRow B e s (.slice (some ⟨g, 0, none⟩) n' cap) n xs := by
  refine ⟨h.1, ?_⟩
  rcases h.2 with ⟨h2, _⟩ | ⟨g', cap', cur, e1, e2, e3, e4, e5, e6, e7⟩
  · cases h2
  · cases e1
    refine .inr ⟨g, cap, cur.setIfInBounds o v, rfl, e2, heap_setCell_same w g o cur e v e3, e4, e5, by simpa using e6, ?_⟩
    rw [Array.toList_setIfInBounds, List.take_set_of_le (by omega)]
    exact e7
theorem own_sets {B e s n g n' cap : Nat} {xs : List Value} : ∀ (vs : List Value) (o : Nat) (w : World), w.ownsRow B e s (.slice (some ⟨g, 0, none⟩) n' cap) n xs → n * s ≤ o → (w.setCells g o vs).ownsRow B e s (.slice (some ⟨g, 0, none⟩) n' cap) n xs
  | [], _, _, h, _ => h
  | v :: r, o, w, h, ho => own_sets r (o + 1) _ (own_set h o ho v) (by omega)
theorem grown_sets {W : World} {g : Nat} : ∀ (vs : List Value) (o : Nat) (w : World), W.grownBy w (some g) → W.grownBy (w.setCells g o vs) (some g)
  | [], _, _, h => h
  | v :: r, o, _, h => grown_sets r (o + 1) _ (Lib.grownBy_setB h o v)
theorem own_room {w : World} {B e s n g n' cap : Nat} {xs : List Value} (h : w.ownsRow B e s (.slice (some ⟨g, 0, none⟩) n' cap) n xs) (o : Nat) (ho : o < cap * s) : (w.cell? ⟨g, o, none⟩).isSome = true ∧ w.frozen? ⟨g, o, none⟩ = false := by
  rcases h.2 with ⟨h2, _⟩ | ⟨g', cap', cur, e1, e2, e3, e4, e5, e6, e7⟩
  · cases h2
  · cases e1
    refine ⟨?_, ?_⟩
    · rw [cell_of_row w g o cur e (0, 0) e3, Array.getElem?_eq_getElem (by omega)]
      rfl
    · simp [World.frozen?, e3]
theorem own_at {w : World} {B e s n g n' cap : Nat} {xs : List Value} (h : w.ownsRow B e s (.slice (some ⟨g, 0, none⟩) n' cap) n xs) (o : Nat) (v : Value) : (w.setCell ⟨g, o, none⟩ v).ownsRow B e s (.slice (some ⟨g, 0, none⟩) n' cap) n (xs.set o v) := by
  refine ⟨by rw [List.length_set]; exact h.1, ?_⟩
  rcases h.2 with ⟨h2, _⟩ | ⟨g', cap', cur, e1, e2, e3, e4, e5, e6, e7⟩
  · cases h2
  · cases e1
    refine .inr ⟨g, cap, cur.setIfInBounds o v, rfl, e2, heap_setCell_same w g o cur e v e3, e4, e5, by simpa using e6, ?_⟩
    rw [Array.toList_setIfInBounds, List.take_set, e7]
theorem own_block {w : World} {g e : Nat} {size n : Nat} {cur : Array Value} {xs : List Value} (h : w.heap[g]? = some (.cells cur e (0, 0))) (hn : n ≤ maxLen) (hs : cur.size = n * size) (hx : cur.toList = xs) : w.ownsRow 0 e size (.slice (some ⟨g, 0, none⟩) n n) n xs := by
  subst hx
  exact ⟨by simpa using hs, .inr ⟨g, n, cur, rfl, Nat.zero_le _, h, Nat.le_refl _, hn, hs, by rw [← hs]; exact List.take_of_length_le (by simp)⟩⟩
theorem below_drew {B : Nat} {w w' : World} (h : Below B w w') : Below B w w'.drew := ⟨h.os, h.tape, h.output, h.size, h.block⟩
theorem al_le {B : Nat} {w : World} (h : B ≤ w.heap.size) (o : Obj) : B ≤ (w.alloc o).heap.size := Nat.le_trans h (World.grownBy_alloc _ _ none).size
theorem SlR.none_nil {α : Type} {w : World} {R : World → Nat → Nat → α → Prop} {size n c : Nat} {l : List α} (h : SlR w R size (.slice none n c) l) : l = [] := by
  obtain ⟨a', c', h1, _, _, h4⟩ := h
  cases l with
  | nil => rfl
  | cons x l =>
    injection h1 with h1 _ _
    obtain ⟨b, o, h5, _⟩ := h4 (by simp)
    rw [← h1] at h5
    cases h5
end Go.Proofs.YtjcejijdeohkgaaGreatDoor
