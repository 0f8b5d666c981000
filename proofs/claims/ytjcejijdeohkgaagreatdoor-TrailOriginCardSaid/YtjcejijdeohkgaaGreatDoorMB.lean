/- Several texts in one: K, W1, W2, W3, W4, W5, W6, W7, W8, W9, W10, W11, W12, W13, W14. -/
import Derived.Test.YtjcejijdeohkgaaGreatDoorMA
import Derived.Test.YtjcejijdeohkgaaGreatDoorRows
import Derived.WalkKit
import Derived.WalkSpells
import Derived.WalkLawsBesides
import Derived.Deep.QuietTactic
import Derived.BigQuiet
import Derived.Deep.DeepCutAuto
import Derived.Deep.Draws
import Derived.Outline
import Derived.Deep.RegionHeld3
import Derived.Lib.Hide
import Derived.Lib.SliceRun
import Derived.Lib.OwnBridge
import Derived.Laws.AppendOwn
import Derived.Laws.OwnMore
import Derived.Laws.IdiomCopy
import Derived.Deep.OwnRows
import Derived.Lib.BufferOwn
import Derived.Deep.AppendLies
import Derived.Deep.RegionLaw
import Derived.Test.YtjcejijdeohkgaaGreatDoorShelf
import Derived.Test.YtjcejijdeohkgaaGreatDoorShelf2
import Derived.Maps.Range
import Derived.Laws.BytesArg
/- K. -/
namespace Go.Proofs.YtjcejijdeohkgaaGreatDoor
open Go.RowKit

/-- A slice that reads as these items, each of so many cells. -/
def Sl {α : Type} (w : World) (enc : α → List Value) (size : Nat) (v : Value) (l : List α) : Prop :=
  ∃ a c, v = .slice a l.length c ∧ l.length ≤ c ∧ c ≤ maxLen ∧
    (0 < l.length → ∃ b o, a = some ⟨b, o, none⟩ ∧ b < w.heap.size ∧ ∀ k (hk : k < l.length) i, i < size → w.cell? ⟨b, o + k * size + i, none⟩ = (enc l[k])[i]?)
theorem Sl.below {α : Type} {w w' : World} {enc : α → List Value} {size : Nat} {v : Value} {l : List α} (h : Sl w enc size v l) (hb : Below w.heap.size w w') : Sl w' enc size v l := by
  obtain ⟨a, c, h1, h2, h3, h4⟩ := h
  refine ⟨a, c, h1, h2, h3, fun h0 => ?_⟩
  obtain ⟨b, o, h5, h6, h7⟩ := h4 h0
  exact ⟨b, o, h5, Nat.lt_of_lt_of_le h6 hb.size, fun k hk i hi => (World.cell?_of_block (a := ⟨b, _, none⟩) (hb.block b h6)).trans (h7 k hk i hi)⟩
theorem Below.le {B C : Nat} {w w' : World} (h : Below C w w') (hB : B ≤ C) : Below B w w' := ⟨h.os, h.tape, h.output, h.size, fun k hk => h.block k (Nat.lt_of_lt_of_le hk hB)⟩
theorem own_shape {w : World} {B e size n : Nat} {v : Value} {xs : List Value} (h : w.ownsRow B e size v n xs) : ∃ a c, v = .slice a n c := by
  rcases h.2 with ⟨rfl, rfl⟩ | ⟨g, cap, cur, rfl, _⟩
  · exact ⟨_, _, rfl⟩
  · exact ⟨_, _, rfl⟩
/-- The first place that meets it; -1: none. -/
def idxP {α : Type} (p : α → Bool) : List α → Int
  | [] => -1
  | x :: l => if p x then 0 else if idxP p l = -1 then -1 else idxP p l + 1
theorem idxP_ge {α : Type} (p : α → Bool) : ∀ l, -1 ≤ idxP p l
  | [] => by simp [idxP]
  | x :: l => by
    have := idxP_ge p l
    unfold idxP
    split
    · omega
    · split <;> omega
theorem idxP_any {α : Type} (p : α → Bool) : ∀ l, decide (0 ≤ idxP p l) = l.any p
  | [] => by simp [idxP]
  | x :: l => by
    have ih := idxP_any p l
    have hg := idxP_ge p l
    unfold idxP
    rw [List.any_cons, ← ih]
    cases hp : p x with
    | true => simp
    | false =>
      simp only [Bool.false_or]
      split
      · simp at *
      · split
        · rename_i h; simp [h]
        · rw [decide_eq_decide]; omega
/-- Where the places ahead do not meet it. -/
theorem idxP_drop {α : Type} (p : α → Bool) : ∀ (l : List α) (k : Nat), k ≤ l.length → (∀ x ∈ l.take k, p x = false) → idxP p l = if idxP p (l.drop k) = -1 then -1 else idxP p (l.drop k) + k
  | l, 0, _, _ => by
    simp only [List.drop_zero]
    split
    · assumption
    · simp
  | [], k + 1, hk, _ => by simp at hk
  | x :: l, k + 1, hk, h => by
    have hx : p x = false := h x (by simp)
    have ih := idxP_drop p l k (by simpa using hk) (fun y hy => h y (by simp [hy]))
    have hg := idxP_ge p (l.drop k)
    rw [List.drop_succ_cons]
    have e : idxP p (x :: l) = if idxP p l = -1 then -1 else idxP p l + 1 := by
      conv => lhs; unfold idxP
      rw [hx]; rfl
    rw [e, ih]
    by_cases h1 : idxP p (l.drop k) = -1
    · rw [if_pos h1, if_pos rfl, if_pos h1]
    · rw [if_neg h1, if_neg (by omega), if_neg h1]; push_cast; omega
theorem below_drewN {B : Nat} {w w' : World} (h : Below B w w') (n : Nat) : Below B w (w'.drewN n) := ⟨h.os, h.tape, h.output, h.size, h.block⟩
theorem kc {w w9 : World} {b o : Nat} {v : Value} (hb : Below w.heap.size w w9) (h : w.cell? ⟨b, o, none⟩ = some v) : w9.cell? ⟨b, o, none⟩ = some v := by
  have hlt : b < w.heap.size := by
    rcases Nat.lt_or_ge b w.heap.size with h' | h'
    · exact h'
    · simp [World.cell?, Array.getElem?_eq_none h'] at h
  exact (World.cell?_of_block (a := ⟨b, o, none⟩) (hb.block b hlt)).trans h
theorem flat_len {α : Type} (enc : α → List Value) (s : Nat) (he : ∀ x, (enc x).length = s) (l : List α) : (l.flatMap enc).length = l.length * s := by
  induction l with
  | nil => simp
  | cons a l ih => rw [List.flatMap_cons, List.length_append, ih, he, List.length_cons, Nat.succ_mul, Nat.add_comm]
theorem flat_get {α : Type} (enc : α → List Value) (s : Nat) (he : ∀ x, (enc x).length = s) : ∀ (l : List α) (k i : Nat) (h : k < l.length), i < s → (l.flatMap enc)[k * s + i]? = (enc l[k])[i]?
  | a :: l, 0, i, _, hi => by
    rw [List.flatMap_cons, List.getElem?_append_left (by rw [he]; omega)]
    simp
  | a :: l, k + 1, i, h, hi => by
    rw [List.flatMap_cons, List.getElem?_append_right (by rw [he, Nat.succ_mul]; omega)]
    have := flat_get enc s he l k i (by simpa using h) hi
    rw [show (k + 1) * s + i - (enc a).length = k * s + i by rw [he, Nat.succ_mul]; omega, this]
    rfl
/-- The cells of such a slice, one behind the other. -/
theorem Sl.flat {α : Type} {w : World} {enc : α → List Value} {s : Nat} (he : ∀ x, (enc x).length = s) (hs : 0 < s) {b o n c : Nat} {l : List α} (h : Sl w enc s (.slice (some ⟨b, o, none⟩) n c) l) :
    ∀ j u, (l.flatMap enc)[j]? = some u → w.cell? ((⟨b, o, none⟩ : Addr).add j) = some u := by
  intro j u hj
  have hlt : j < l.length * s := by
    have := (List.getElem?_eq_some_iff.1 hj).1
    rwa [flat_len enc s he] at this
  have hk : j / s < l.length := (Nat.div_lt_iff_lt_mul hs).2 hlt
  obtain ⟨a', c', h1, _, _, h4⟩ := h
  injection h1 with h1 _ _
  obtain ⟨b', o', h5, _, h7⟩ := h4 (Nat.lt_of_le_of_lt (Nat.zero_le _) hk)
  rw [← h1] at h5
  injection h5 with h5
  injection h5 with h5 h6 _
  subst h5
  subst h6
  have hjj : j / s * s + j % s = j := by rw [Nat.mul_comm]; exact Nat.div_add_mod j s
  have h8 := h7 (j / s) hk (j % s) (Nat.mod_lt j hs)
  rw [← flat_get enc s he l (j / s) (j % s) hk (Nat.mod_lt j hs), hjj, show o + j / s * s + j % s = o + j by omega] at h8
  have hadd : (⟨b, o, none⟩ : Addr).add j = ⟨b, o + j, none⟩ := by unfold Addr.add; split <;> simp_all
  rw [hadd, h8, hj]
theorem Own.sl {α : Type} {w : World} {enc : α → List Value} {s B : Nat} {e : TypeId} (he : ∀ x, (enc x).length = s) {v : Value} {l : List α} (h : w.ownsRow B e s v l.length (l.flatMap enc)) : Sl w enc s v l := by
  rcases h.2 with ⟨rfl, h0⟩ | ⟨g, cap, cur, rfl, hB, hh, hc, hm, hs, ht⟩
  · have : l = [] := List.eq_nil_of_length_eq_zero h0
    subst this
    exact ⟨none, 0, rfl, Nat.le_refl _, by simp [maxLen], fun h => by simp at h⟩
  · refine ⟨_, cap, rfl, hc, hm, fun _ => ⟨g, 0, rfl, ?_, fun k hk i hi => ?_⟩⟩
    · rcases Nat.lt_or_ge g w.heap.size with h' | h'
      · exact h'
      · simp [Array.getElem?_eq_none h'] at hh
    · have hlt : k * s + i < l.length * s := by
        have : (k + 1) * s ≤ l.length * s := Nat.mul_le_mul_right s hk
        rw [Nat.succ_mul] at this
        omega
      rw [Nat.zero_add, h.cellAt (k * s + i) hlt]
      exact flat_get enc s he l k i hk hi
theorem Sl.some_of {α : Type} {w : World} {enc : α → List Value} {s : Nat} {a : Option Addr} {n c : Nat} {l : List α} (h : Sl w enc s (.slice a n c) l) (hl : l ≠ []) : ∃ b o, a = some ⟨b, o, none⟩ := by
  obtain ⟨a', c', h1, _, _, h4⟩ := h
  injection h1 with h1 _ _
  obtain ⟨b', o', h5, _, _⟩ := h4 (List.length_pos_iff.2 hl)
  exact ⟨b', o', h1.trans h5⟩
theorem own_below {w w' : World} {B C e size n : Nat} {v : Value} {xs : List Value} (h : w.ownsRow B e size v n xs) (hb : Below w.heap.size w w') (hC : C ≤ B) : w'.ownsRow C e size v n xs := by
  refine ⟨h.1, ?_⟩
  rcases h.2 with h2 | ⟨g, cap, cur, e1, e2, e3, e4⟩
  · exact .inl h2
  · have hlt : g < w.heap.size := by
      rcases Nat.lt_or_ge g w.heap.size with h' | h'
      · exact h'
      · simp [Array.getElem?_eq_none h'] at e3
    exact .inr ⟨g, cap, cur, e1, Nat.le_trans hC e2, (hb.block g hlt).trans e3, e4⟩
theorem gr_refl (w : World) (row : Option Nat) : w.grownBy w row := ⟨rfl, rfl, rfl, Nat.le_refl _, fun _ _ _ => rfl⟩
theorem alloc_keep {w : World} {k : Nat} {o : Obj} (h : w.heap[k]? = some o) (o' : Obj) : (w.alloc o').heap[k]? = some o := by
  have hlt : k < w.heap.size := by
    rcases Nat.lt_or_ge k w.heap.size with h' | h'
    · exact h'
    · rw [Array.getElem?_eq_none h'] at h; cases h
  exact (Lib.alloc_old w o' k hlt).trans h
theorem alloc_at {w : World} {k : Nat} (hk : w.heap.size = k) (o : Obj) : (w.alloc o).heap[k]? = some o := by rw [← hk]; exact heap_alloc_new w o
theorem set_heap {w : World} {b : Nat} {c : Array Value} {t : TypeId} (h : w.heap[b]? = some (.cells c t (0, 0))) (i : Nat) (v : Value) (hi : i < c.size) : (w.setCell ⟨b, i, none⟩ v).heap[b]? = some (.cells (c.set i v) t (0, 0)) := by
  have hlt : b < w.heap.size := by
    rcases Nat.lt_or_ge b w.heap.size with h' | h'
    · exact h'
    · rw [Array.getElem?_eq_none h'] at h; cases h
  have hb : w.heap[b] = .cells c t (0, 0) := by rw [Array.getElem?_eq_getElem hlt] at h; injection h
  simp [World.setCell, hlt, hb, hi, Array.setIfInBounds, Array.getElem_modify]
theorem set_far {w : World} {k b : Nat} {o : Obj} (h : w.heap[k]? = some o) (hne : k ≠ b) (i : Nat) (v : Value) : (w.setCell ⟨b, i, none⟩ v).heap[k]? = some o := by
  rw [Below.heap_setCell _ _ _ _ (fun e => hne (show k = b from e))]
  exact h
theorem below_grown {w0 w w' : World} {B b : Nat} (h : Below B w0 w) (hg : w.grownBy w' (some b)) (hb : B ≤ b) (hB : B ≤ w0.heap.size) : Below B w0 w' :=
  ⟨hg.os.trans h.os, hg.tape.trans h.tape, hg.output.trans h.output, Nat.le_trans h.size hg.size, fun k hk => (hg.block k (Nat.lt_of_lt_of_le (Nat.lt_of_lt_of_le hk hB) h.size) (by intro e; injection e with e; omega)).trans (h.block k hk)⟩
theorem calls_gen {P : Program} {f : Nat} {args : Array Value} {W : World} {Q : Ending → World → Prop} (Φ : World → Prop) (h0 : Φ W) (h : ∀ w4, Φ w4 → Calls P f args w4 Q) : Calls P f args W Q := h W h0
theorem own_some {w : World} {B e s n c : Nat} {a : Option Addr} {xs : List Value} (h : w.ownsRow B e s (.slice a n c) n xs) (h0 : 0 < n) : ∃ g, a = some ⟨g, 0, none⟩ := by
  rcases h.2 with ⟨_, h2⟩ | ⟨g, cap, cur, e1, _⟩
  · omega
  · injection e1 with e1
    exact ⟨g, e1⟩
theorem code_gen {P : Program} {c : Code} {Q : Exit → Act → World → Prop} {a : Act} {W : World} (Φ : World → Prop) (h0 : Φ W) (h : ∀ w4, Φ w4 → c.wp P Q a w4) : c.wp P Q a W := h W h0
theorem body_gen {P : Program} {f : Func} {Q : Ending → World → Prop} {x : Exit} {a : Act} {W : World} (Φ : World → Prop) (h0 : Φ W) (h : ∀ w4, Φ w4 → bodyPost P f Q x a w4) : bodyPost P f Q x a W := h W h0
theorem size_set (w : World) (b i : Nat) (v : Value) : (w.setCell ⟨b, i, none⟩ v).heap.size = w.heap.size := by simp
theorem lt_of_heap {wr : World} {b : Nat} {o : Obj} (h : wr.heap[b]? = some o) : b < wr.heap.size := by
  rcases Nat.lt_or_ge b wr.heap.size with h' | h'
  · exact h'
  · rw [Array.getElem?_eq_none h'] at h; cases h
theorem own_lower {w : World} {B C e s n : Nat} {v : Value} {xs : List Value} (h : w.ownsRow B e s v n xs) (hC : C ≤ B) : w.ownsRow C e s v n xs := own_below h (Below.refl _ _) hC
structure Loc (w wx : World) (os : List Obj) : Prop where
  k : ∀ i o, os[i]? = some o → wx.heap[w.heap.size + i]? = some o
  bl : Below w.heap.size w wx
  sz : w.heap.size + os.length ≤ wx.heap.size
section
variable {w wx w' : World} {os : List Obj} {o0 o1 o2 o3 o4 : Obj}
theorem Loc.start : Loc w w [] := ⟨fun i o h => by simp at h, Below.refl _ _, Nat.le_refl _⟩
theorem Loc.push (h : Loc w wx os) (hz : wx.heap.size = w.heap.size + os.length) (o : Obj) : Loc w (wx.alloc o) (os ++ [o]) where
  k i o' hi := by
    rcases Nat.lt_or_ge i os.length with hlt | hge
    · rw [List.getElem?_append_left hlt] at hi
      exact alloc_keep (h.k i o' hi) o
    · rw [List.getElem?_append_right hge] at hi
      have : i = os.length := by
        rcases Nat.lt_or_ge (i - os.length) 1 with h1 | h1
        · omega
        · rw [List.getElem?_eq_none (by simpa using h1)] at hi; cases hi
      subst this
      simp only [Nat.sub_self, List.getElem?_cons_zero, Option.some.injEq] at hi
      subst hi
      exact alloc_at hz _
  bl := h.bl.alloc (by omega) o
  sz := by simp; omega
theorem Loc.call (h : Loc w wx os) (hb : Below wx.heap.size wx w') : Loc w w' os where
  k i o hi := (hb.block _ (by have := h.sz; have : i < os.length := (List.getElem?_eq_some_iff.1 hi).1; omega)).trans (h.k i o hi)
  bl := h.bl.trans (Below.le hb h.bl.size)
  sz := Nat.le_trans h.sz hb.size
theorem Loc.drew (h : Loc w wx os) : Loc w wx.drew os := h.call ⟨rfl, rfl, rfl, Nat.le_refl _, fun _ _ => rfl⟩
theorem Loc.drewN (h : Loc w wx os) (n : Nat) : Loc w (wx.drewN n) os := h.call ⟨rfl, rfl, rfl, Nat.le_refl _, fun _ _ => rfl⟩
theorem Loc.set (h : Loc w wx os) (i : Nat) {c : Array Value} {t : TypeId} (hi : os[i]? = some (.cells c t (0, 0))) (j : Nat) (v : Value) (hj : j < c.size) : Loc w (wx.setCell ⟨w.heap.size + i, j, none⟩ v) (os.set i (.cells (c.set j v) t (0, 0))) := by
  have hg : wx.grownBy (wx.setCell ⟨w.heap.size + i, j, none⟩ v) (some (w.heap.size + i)) := Lib.grownBy_setB (gr_refl wx _) _ _
  have hlt : i < os.length := (List.getElem?_eq_some_iff.1 hi).1
  refine ⟨fun k o hk => ?_, below_grown h.bl hg (by omega) (Nat.le_refl _), by rw [List.length_set]; exact Nat.le_trans h.sz hg.size⟩
  by_cases e : k = i
  · subst e
    rw [List.getElem?_set_self hlt] at hk
    injection hk with hk
    subst hk
    exact set_heap (h.k k _ hi) j v hj
  · rw [List.getElem?_set_ne (fun e2 => e e2.symm)] at hk
    exact set_far (h.k k o hk) (by omega) _ _
theorem Loc.k0 (h : Loc w wx (o0 :: os)) : wx.heap[w.heap.size]? = some o0 := h.k 0 o0 rfl
theorem Loc.k1 (h : Loc w wx (o0 :: o1 :: os)) : wx.heap[w.heap.size + 1]? = some o1 := h.k 1 o1 rfl
theorem Loc.k2 (h : Loc w wx (o0 :: o1 :: o2 :: os)) : wx.heap[w.heap.size + 1 + 1]? = some o2 := h.k 2 o2 rfl
theorem Loc.k3 (h : Loc w wx (o0 :: o1 :: o2 :: o3 :: os)) : wx.heap[w.heap.size + 1 + 1 + 1]? = some o3 := h.k 3 o3 rfl
theorem Loc.k4 (h : Loc w wx (o0 :: o1 :: o2 :: o3 :: o4 :: os)) : wx.heap[w.heap.size + 1 + 1 + 1 + 1]? = some o4 := h.k 4 o4 rfl
theorem Loc.start1 (o0 : Obj) : Loc w (w.alloc o0) [o0] := Loc.start.push rfl o0
theorem Loc.start2 (o0 o1 : Obj) : Loc w ((w.alloc o0).alloc o1) [o0, o1] := (Loc.start1 o0).push (by simp) o1
theorem Loc.start3 (o0 o1 o2 : Obj) : Loc w (((w.alloc o0).alloc o1).alloc o2) [o0, o1, o2] := (Loc.start2 o0 o1).push (by simp) o2
theorem Loc.start4 (o0 o1 o2 o3 : Obj) : Loc w ((((w.alloc o0).alloc o1).alloc o2).alloc o3) [o0, o1, o2, o3] := (Loc.start3 o0 o1 o2).push (by simp) o3
theorem Loc.start5 (o0 o1 o2 o3 o4 : Obj) : Loc w (((((w.alloc o0).alloc o1).alloc o2).alloc o3).alloc o4) [o0, o1, o2, o3, o4] := (Loc.start4 o0 o1 o2 o3).push (by simp) o4
end
theorem Loc.far {w wx w' : World} {os : List Obj} {b : Nat} (h : Loc w wx os) (hg : wx.grownBy w' (some b)) (hb : w.heap.size + os.length ≤ b) : Loc w w' os where
  k i o hi := (hg.block _ (lt_of_heap (h.k i o hi)) (fun e => by injection e with e; have : i < os.length := (List.getElem?_eq_some_iff.1 hi).1; omega)).trans (h.k i o hi)
  bl := below_grown h.bl hg (by omega) (Nat.le_refl _)
  sz := Nat.le_trans h.sz hg.size
theorem cells2 {w : World} {b : Nat} {t : TypeId} {v0 v1 : Value} (h : w.heap[b]? = some (.cells #[v0, v1] t (0, 0))) : w.cell? ⟨b, 0, none⟩ = some v0 ∧ w.cell? ⟨b, 1, none⟩ = some v1 :=
  ⟨(Lib.cell_of_heap h _).trans rfl, (Lib.cell_of_heap h _).trans rfl⟩
theorem cells3 {w : World} {b : Nat} {t : TypeId} {v0 v1 v2 : Value} (h : w.heap[b]? = some (.cells #[v0, v1, v2] t (0, 0))) : w.cell? ⟨b, 0, none⟩ = some v0 ∧ w.cell? ⟨b, 1, none⟩ = some v1 ∧ w.cell? ⟨b, 2, none⟩ = some v2 :=
  ⟨(Lib.cell_of_heap h _).trans rfl, (Lib.cell_of_heap h _).trans rfl, (Lib.cell_of_heap h _).trans rfl⟩
theorem cells6 {w : World} {b : Nat} {t : TypeId} {v0 v1 v2 v3 v4 v5 : Value} (h : w.heap[b]? = some (.cells #[v0, v1, v2, v3, v4, v5] t (0, 0))) : w.cell? ⟨b, 0, none⟩ = some v0 ∧ w.cell? ⟨b, 1, none⟩ = some v1 ∧ w.cell? ⟨b, 2, none⟩ = some v2 ∧ w.cell? ⟨b, 3, none⟩ = some v3 ∧ w.cell? ⟨b, 4, none⟩ = some v4 ∧ w.cell? ⟨b, 5, none⟩ = some v5 :=
  ⟨(Lib.cell_of_heap h _).trans rfl, (Lib.cell_of_heap h _).trans rfl, (Lib.cell_of_heap h _).trans rfl, (Lib.cell_of_heap h _).trans rfl, (Lib.cell_of_heap h _).trans rfl, (Lib.cell_of_heap h _).trans rfl⟩
theorem cells7 {w : World} {b : Nat} {t : TypeId} {v0 v1 v2 v3 v4 v5 v6 : Value} (h : w.heap[b]? = some (.cells #[v0, v1, v2, v3, v4, v5, v6] t (0, 0))) : w.cell? ⟨b, 0, none⟩ = some v0 ∧ w.cell? ⟨b, 1, none⟩ = some v1 ∧ w.cell? ⟨b, 2, none⟩ = some v2 ∧ w.cell? ⟨b, 3, none⟩ = some v3 ∧ w.cell? ⟨b, 4, none⟩ = some v4 ∧ w.cell? ⟨b, 5, none⟩ = some v5 ∧ w.cell? ⟨b, 6, none⟩ = some v6 :=
  ⟨(Lib.cell_of_heap h _).trans rfl, (Lib.cell_of_heap h _).trans rfl, (Lib.cell_of_heap h _).trans rfl, (Lib.cell_of_heap h _).trans rfl, (Lib.cell_of_heap h _).trans rfl, (Lib.cell_of_heap h _).trans rfl, (Lib.cell_of_heap h _).trans rfl⟩
theorem cells8 {w : World} {b : Nat} {t : TypeId} {v0 v1 v2 v3 v4 v5 v6 v7 : Value} (h : w.heap[b]? = some (.cells #[v0, v1, v2, v3, v4, v5, v6, v7] t (0, 0))) : w.cell? ⟨b, 0, none⟩ = some v0 ∧ w.cell? ⟨b, 1, none⟩ = some v1 ∧ w.cell? ⟨b, 2, none⟩ = some v2 ∧ w.cell? ⟨b, 3, none⟩ = some v3 ∧ w.cell? ⟨b, 4, none⟩ = some v4 ∧ w.cell? ⟨b, 5, none⟩ = some v5 ∧ w.cell? ⟨b, 6, none⟩ = some v6 ∧ w.cell? ⟨b, 7, none⟩ = some v7 :=
  ⟨(Lib.cell_of_heap h _).trans rfl, (Lib.cell_of_heap h _).trans rfl, (Lib.cell_of_heap h _).trans rfl, (Lib.cell_of_heap h _).trans rfl, (Lib.cell_of_heap h _).trans rfl, (Lib.cell_of_heap h _).trans rfl, (Lib.cell_of_heap h _).trans rfl, (Lib.cell_of_heap h _).trans rfl⟩
theorem cells13 {w : World} {b : Nat} {t : TypeId} {v0 v1 v2 v3 v4 v5 v6 v7 v8 v9 v10 v11 v12 : Value} (h : w.heap[b]? = some (.cells #[v0, v1, v2, v3, v4, v5, v6, v7, v8, v9, v10, v11, v12] t (0, 0))) : w.cell? ⟨b, 0, none⟩ = some v0 ∧ w.cell? ⟨b, 1, none⟩ = some v1 ∧ w.cell? ⟨b, 2, none⟩ = some v2 ∧ w.cell? ⟨b, 3, none⟩ = some v3 ∧ w.cell? ⟨b, 4, none⟩ = some v4 ∧ w.cell? ⟨b, 5, none⟩ = some v5 ∧ w.cell? ⟨b, 6, none⟩ = some v6 ∧ w.cell? ⟨b, 7, none⟩ = some v7 ∧ w.cell? ⟨b, 8, none⟩ = some v8 ∧ w.cell? ⟨b, 9, none⟩ = some v9 ∧ w.cell? ⟨b, 10, none⟩ = some v10 ∧ w.cell? ⟨b, 11, none⟩ = some v11 ∧ w.cell? ⟨b, 12, none⟩ = some v12 :=
  ⟨(Lib.cell_of_heap h _).trans rfl, (Lib.cell_of_heap h _).trans rfl, (Lib.cell_of_heap h _).trans rfl, (Lib.cell_of_heap h _).trans rfl, (Lib.cell_of_heap h _).trans rfl, (Lib.cell_of_heap h _).trans rfl, (Lib.cell_of_heap h _).trans rfl, (Lib.cell_of_heap h _).trans rfl, (Lib.cell_of_heap h _).trans rfl, (Lib.cell_of_heap h _).trans rfl, (Lib.cell_of_heap h _).trans rfl, (Lib.cell_of_heap h _).trans rfl, (Lib.cell_of_heap h _).trans rfl⟩
/-- A slice whose items read so. -/
def SlR {α : Type} (w : World) (R : World → Nat → Nat → α → Prop) (size : Nat) (v : Value) (l : List α) : Prop :=
  ∃ a c, v = .slice a l.length c ∧ l.length ≤ c ∧ c ≤ maxLen ∧ (0 < l.length → ∃ b o, a = some ⟨b, o, none⟩ ∧ ∀ k (hk : k < l.length), R w b (o + k * size) l[k])
theorem SlR.mono {α : Type} {w w' : World} {R : World → Nat → Nat → α → Prop} {size : Nat} {v : Value} {l : List α} (h : SlR w R size v l) (hm : ∀ b x a, R w b x a → R w' b x a) : SlR w' R size v l := by
  obtain ⟨a, c, h1, h2, h3, h4⟩ := h
  refine ⟨a, c, h1, h2, h3, fun h0 => ?_⟩
  obtain ⟨b, o, h5, h6⟩ := h4 h0
  exact ⟨b, o, h5, fun k hk => hm _ _ _ (h6 k hk)⟩
theorem SlR.item {α : Type} {w : World} {R : World → Nat → Nat → α → Prop} {size n c : Nat} {a : Option Addr} {l : List α} (h : SlR w R size (.slice a n c) l) (k : Nat) (hk : k < l.length) : ∃ b o, a = some ⟨b, o, none⟩ ∧ R w b (o + k * size) l[k] := by
  obtain ⟨a', c', h1, _, _, h4⟩ := h
  injection h1 with h1 _ _
  subst h1
  obtain ⟨b, o, h5, h6⟩ := h4 (by omega)
  exact ⟨b, o, h5, h6 k hk⟩
theorem cell_lt {w : World} {b o : Nat} {v : Value} (h : w.cell? ⟨b, o, none⟩ = some v) : b < w.heap.size := by
  rcases Nat.lt_or_ge b w.heap.size with h' | h'
  · exact h'
  · simp [World.cell?, Array.getElem?_eq_none h'] at h
def nV (n : Int) : Value := .int .i64 n
def IntAt (w : World) (b x : Nat) (n : Int) : Prop := w.cell? ⟨b, x, none⟩ = some (.int .i64 n)
theorem SlR.cap {α : Type} {w : World} {R : World → Nat → Nat → α → Prop} {size n c : Nat} {a : Option Addr} {l : List α} (h : SlR w R size (.slice a n c) l) : l.length ≤ 9223372036854775807 ∧ l.length ≤ c ∧ c ≤ 9223372036854775807 := by
  obtain ⟨a', c', h1, h2, h3, _⟩ := h
  injection h1 with _ _ h1
  subst h1
  unfold maxLen at h3
  omega
theorem flat_take {α : Type} (enc : α → List Value) (s : Nat) (he : ∀ x, (enc x).length = s) : ∀ (l : List α) (i : Nat), (l.flatMap enc).take (i * s) = (l.take i).flatMap enc
  | [], i => by simp
  | a :: l, 0 => by simp
  | a :: l, i + 1 => by
    rw [List.flatMap_cons, List.take_succ_cons, List.flatMap_cons, List.take_append, he, List.take_of_length_le (by rw [he, Nat.succ_mul]; omega), show (i + 1) * s - s = i * s by rw [Nat.succ_mul]; omega, flat_take enc s he l i]
theorem own_take {α : Type} {w : World} {enc : α → List Value} {s B : Nat} {e : TypeId} (he : ∀ x, (enc x).length = s) {g n cap : Nat} {l : List α} (h : w.ownsRow B e s (.slice (some ⟨g, 0, none⟩) n cap) l.length (l.flatMap enc)) (i : Nat) (hi : i ≤ l.length) :
    w.ownsRow B e s (.slice (some ⟨g, 0, none⟩) i cap) i ((l.take i).flatMap enc) := by
  rcases h.2 with ⟨h2, _⟩ | ⟨g', cap', cur, e1, e2, e3, e4, e5, e6, e7⟩
  · cases h2
  · cases e1
    refine ⟨by rw [flat_len enc s he, List.length_take, Nat.min_eq_left hi], .inr ⟨g, cap, cur, rfl, e2, e3, by omega, e5, e6, ?_⟩⟩
    rw [← flat_take enc s he, ← e7, List.take_take, Nat.min_eq_left (Nat.mul_le_mul_right s hi)]
theorem own_set {w : World} {B e s n g n' cap : Nat} {xs : List Value} (h : w.ownsRow B e s (.slice (some ⟨g, 0, none⟩) n' cap) n xs) (o : Nat) (ho : n * s ≤ o) (v : Value) : (w.setCell ⟨g, o, none⟩ v).ownsRow B e s (.slice (some ⟨g, 0, none⟩) n' cap) n xs := by
  refine ⟨h.1, ?_⟩
  rcases h.2 with ⟨h2, _⟩ | ⟨g', cap', cur, e1, e2, e3, e4, e5, e6, e7⟩
  · cases h2
  · cases e1
    refine .inr ⟨g, cap, cur.setIfInBounds o v, rfl, e2, heap_setCell_same w g o cur e v e3, e4, e5, by simpa using e6, ?_⟩
    rw [Array.toList_setIfInBounds, List.take_set_of_le (by omega)]
    exact e7
theorem own_sets {B e s n g n' cap : Nat} {xs : List Value} : ∀ (vs : List Value) (o : Nat) (w : World), w.ownsRow B e s (.slice (some ⟨g, 0, none⟩) n' cap) n xs → n * s ≤ o → (w.setCells g o vs).ownsRow B e s (.slice (some ⟨g, 0, none⟩) n' cap) n xs
  | [], _, _, h, _ => h
  | v :: r, o, w, h, ho => own_sets r (o + 1) _ (own_set h o ho v) (by omega)
theorem grown_sets {W : World} {g : Nat} : ∀ (vs : List Value) (o : Nat) (w : World), W.grownBy w (some g) → W.grownBy (w.setCells g o vs) (some g)
  | [], _, _, h => h
  | v :: r, o, _, h => grown_sets r (o + 1) _ (Lib.grownBy_setB h o v)
theorem own_room {w : World} {B e s n g n' cap : Nat} {xs : List Value} (h : w.ownsRow B e s (.slice (some ⟨g, 0, none⟩) n' cap) n xs) (o : Nat) (ho : o < cap * s) : (w.cell? ⟨g, o, none⟩).isSome = true ∧ w.frozen? ⟨g, o, none⟩ = false := by
  rcases h.2 with ⟨h2, _⟩ | ⟨g', cap', cur, e1, e2, e3, e4, e5, e6, e7⟩
  · cases h2
  · cases e1
    refine ⟨?_, ?_⟩
    · rw [cell_of_row w g o cur e (0, 0) e3, Array.getElem?_eq_getElem (by omega)]
      rfl
    · simp [World.frozen?, e3]
theorem own_at {w : World} {B e s n g n' cap : Nat} {xs : List Value} (h : w.ownsRow B e s (.slice (some ⟨g, 0, none⟩) n' cap) n xs) (o : Nat) (v : Value) : (w.setCell ⟨g, o, none⟩ v).ownsRow B e s (.slice (some ⟨g, 0, none⟩) n' cap) n (xs.set o v) := by
  refine ⟨by rw [List.length_set]; exact h.1, ?_⟩
  rcases h.2 with ⟨h2, _⟩ | ⟨g', cap', cur, e1, e2, e3, e4, e5, e6, e7⟩
  · cases h2
  · cases e1
    refine .inr ⟨g, cap, cur.setIfInBounds o v, rfl, e2, heap_setCell_same w g o cur e v e3, e4, e5, by simpa using e6, ?_⟩
    rw [Array.toList_setIfInBounds, List.take_set, e7]
theorem own_block {w : World} {g e : Nat} {size n : Nat} {cur : Array Value} {xs : List Value} (h : w.heap[g]? = some (.cells cur e (0, 0))) (hn : n ≤ maxLen) (hs : cur.size = n * size) (hx : cur.toList = xs) : w.ownsRow 0 e size (.slice (some ⟨g, 0, none⟩) n n) n xs := by
  subst hx
  exact ⟨by simpa using hs, .inr ⟨g, n, cur, rfl, Nat.zero_le _, h, Nat.le_refl _, hn, hs, by rw [← hs]; exact List.take_of_length_le (by simp)⟩⟩
theorem below_drew {B : Nat} {w w' : World} (h : Below B w w') : Below B w w'.drew := ⟨h.os, h.tape, h.output, h.size, h.block⟩
theorem al_le {B : Nat} {w : World} (h : B ≤ w.heap.size) (o : Obj) : B ≤ (w.alloc o).heap.size := Nat.le_trans h (World.grownBy_alloc _ _ none).size
theorem SlR.none_nil {α : Type} {w : World} {R : World → Nat → Nat → α → Prop} {size n c : Nat} {l : List α} (h : SlR w R size (.slice none n c) l) : l = [] := by
  obtain ⟨a', c', h1, _, _, h4⟩ := h
  cases l with
  | nil => rfl
  | cons x l =>
    injection h1 with h1 _ _
    obtain ⟨b, o, h5, _⟩ := h4 (by simp)
    rw [← h1] at h5
    cases h5
end Go.Proofs.YtjcejijdeohkgaaGreatDoor
/- W1. -/
namespace Go.Proofs.YtjcejijdeohkgaaGreatDoor
open Go.RowKit

theorem ret_bool {a b : Bool} (h : a = b) : Ending.returned (.bool a) = .returned (.bool b) := by rw [h]
theorem ret_int {k : IntKind} {a b : Int} (h : a = b) : Ending.returned (.int k a) = .returned (.int k b) := by rw [h]
set_option maxHeartbeats 400000 in
theorem letter_any (c : UInt8) (w : World) : Calls Tryz.prog 86 #[.int .u8 (c.toNat : Int)] w fun e w' => e = .returned (.bool (letP c)) ∧ w = w' := by
  go_enter Tryz.func86, Tryz.ntmps86
  go_wp2
  all_goals
    go_ret
    refine ⟨ret_bool ?_, rfl⟩
    rw [Bool.eq_iff_iff]
    simp [letP]
    omega
set_option maxHeartbeats 400000 in
theorem small1_any (r : Int) (w : World) (h0 : -2147483648 ≤ r) (h1 : r ≤ 2147483647) : Calls Tryz.prog 118 #[.int .i32 r] w fun e w' => e = .returned (.int .i32 (smR r)) ∧ w = w' := by
  go_enter Tryz.func118, Tryz.ntmps118
  by_cases ha : 65 ≤ r
  · by_cases hb : r ≤ 90
    · go_wp2_with fail
      go_ret
      exact ⟨ret_int (by unfold smR; rw [if_pos ⟨ha, hb⟩]; omega), rfl⟩
    · go_wp2_with fail
      go_ret
      exact ⟨ret_int (by unfold smR; rw [if_neg (by omega)]), rfl⟩
  · go_wp2_with fail
    go_ret
    exact ⟨ret_int (by unfold smR; rw [if_neg (by omega)]), rfl⟩
theorem byte_of (c : UInt8) : ((c.toNat : Int)).toNat.toUInt8 = c := by simp
theorem ib_iff : ∀ (l : Bs) (c : UInt8), decide (0 ≤ Lib.indexByte l c) = l.contains c := by
  intro l c
  rw [Bool.eq_iff_iff]
  simp only [decide_eq_true_eq, List.contains_iff_mem]
  constructor
  · intro h
    obtain ⟨o, ho⟩ : ∃ o : Nat, Lib.indexByte l c = o := ⟨(Lib.indexByte l c).toNat, by omega⟩
    exact List.mem_of_getElem? (Lib.indexByte_some ho).1
  · intro h
    rcases Int.lt_or_le (Lib.indexByte l c) 0 with h0 | h0
    · exfalso
      have h1 : Lib.indexByte l c = -1 := by
        have := Lib.indexByte_ge l c
        omega
      obtain ⟨k, hk, e⟩ := List.mem_iff_getElem.1 h
      exact Lib.indexByte_none h1 k (by rw [List.getElem?_eq_getElem hk, e])
    · exact h0
set_option maxHeartbeats 400000 in
theorem in_any (c : UInt8) (l : Bs) (w : World) : Calls Tryz.prog 87 #[.int .u8 (c.toNat : Int), .string (bs l)] w fun e w' => e = .returned (.bool (l.contains c)) ∧ w = w' := by
  go_enter Tryz.func87, Tryz.ntmps87
  go_wp2_with fail
  refine (Tryz.strings_IndexByte _ _ _).mono ?_
  rintro e w' ⟨rfl, rfl⟩
  go_wp2_with fail
  go_ret
  refine ⟨ret_bool ?_, rfl⟩
  rw [← ib_iff, bs_list]
theorem call86 (args : Array Value) (w : World) : Sem.run Tryz.prog (callFunc 86 args) w = .ok (.enter 86 args) w := by go_simp
theorem call87 (args : Array Value) (w : World) : Sem.run Tryz.prog (callFunc 87 args) w = .ok (.enter 87 args) w := by go_simp
set_option maxHeartbeats 400000 in
theorem plain_any (c : UInt8) (w : World) : Calls Tryz.prog 43 #[.int .u8 (c.toNat : Int)] w fun e w' => e = .returned (.bool (plainP c)) ∧ w = w' := by
  have p86 := call86
  have p87 := call87
  have HP : Hid (plainP c = (letP c || mildSet.contains c)) := Lib.hid rfl
  generalize plainP c = P at *
  go_enter Tryz.func43, Tryz.ntmps43
  go_wp2_with fail
  refine (letter_any _ _).mono ?_
  rintro e w' ⟨rfl, rfl⟩
  generalize letP c = L at *
  cases L with
  | true =>
    go_wp2_with fail
    go_ret
    exact ⟨by rw [HP.out]; rfl, rfl⟩
  | false =>
    go_wp2_with fail
    refine (in_any c mildSet _).mono ?_
    rintro e w' ⟨rfl, rfl⟩
    generalize List.contains mildSet c = M at *
    go_wp2_with fail
    go_ret
    exact ⟨by rw [HP.out]; rfl, rfl⟩
set_option maxHeartbeats 400000 in
theorem value_any (c : UInt8) (w : World) : Calls Tryz.prog 89 #[.int .u8 (c.toNat : Int)] w fun e w' => e = .returned (.int .i64 (valP c)) ∧ w = w' := by
  go_enter Tryz.func89, Tryz.ntmps89
  by_cases ha : (97 : Int) ≤ (c.toNat : Int)
  · by_cases hb : (c.toNat : Int) ≤ 102
    · have hc : upC c = c - 32 := by unfold upC; rw [if_pos ⟨by omega, by omega⟩]
      go_wp2_with fail
      refine (Tryz.strings_IndexByte _ _ _).mono ?_
      rintro e w' ⟨rfl, rfl⟩
      go_wp2_with fail
      go_ret
      refine ⟨ret_int ?_, rfl⟩
      unfold valP
      rw [hc]
      have key : ∀ d : Fin 256, 97 ≤ d.val → UInt8.ofNat ((d.val : Int) - 32).toNat = UInt8.ofNat d.val - 32 := by decide +kernel
      have := key ⟨c.toNat, c.toNat_lt⟩ (by simp only; omega)
      simp only [UInt8.ofNat_toNat] at this
      rw [this]
      rfl
    · have hc : upC c = c := by unfold upC; rw [if_neg (by omega)]
      go_wp2_with fail
      refine (Tryz.strings_IndexByte _ _ _).mono ?_
      rintro e w' ⟨rfl, rfl⟩
      go_wp2_with fail
      go_ret
      refine ⟨ret_int ?_, rfl⟩
      unfold valP
      rw [hc]
      rfl
  · have hc : upC c = c := by unfold upC; rw [if_neg (by omega)]
    go_wp2_with fail
    refine (Tryz.strings_IndexByte _ _ _).mono ?_
    rintro e w' ⟨rfl, rfl⟩
    go_wp2_with fail
    go_ret
    refine ⟨ret_int ?_, rfl⟩
    unfold valP
    rw [hc]
    rfl
theorem call89 (args : Array Value) (w : World) : Sem.run Tryz.prog (callFunc 89 args) w = .ok (.enter 89 args) w := by go_simp
theorem call118 (args : Array Value) (w : World) : Sem.run Tryz.prog (callFunc 118 args) w = .ok (.enter 118 args) w := by go_simp
theorem bs_get (l : Bs) (i : Nat) (h : i < (bs l).size) : (bs l)[i] = l[i]'(by rwa [bs_size] at h) := by
  have h1 := Lib.data_getElem? (bs l) i h
  rw [bs_list, List.getElem?_eq_getElem (by rwa [bs_size] at h)] at h1
  exact (Option.some.inj h1).symm
theorem http_bs : bs httpB = ⟨#[104, 116, 116, 112]⟩ := rfl
set_option maxHeartbeats 400000 in
theorem own_any (l : Bs) (w : World) : Calls Tryz.prog 107 #[.string (bs l)] w fun e w' => e = .returned (.int .i64 (ownP l)) ∧ w = w' := by
  have e0 : (bs l).toList = l := by rw [Lib.toList_data, bs_list]
  have HO : Hid (ownP l = if l = httpB then 80 else if l = httpB ++ [115] then 443 else 0) := Lib.hid rfl
  generalize ownP l = O at *
  go_enter Tryz.func107, Tryz.ntmps107
  cases h1 : (l == [104, 116, 116, 112]) with
  | true =>
    have k1 : l = httpB := eq_of_beq h1
    rw [if_pos k1] at HO
    clear k1
    go_wp2_with fail
    go_ret
    exact ⟨by rw [HO.out]; rfl, rfl⟩
  | false =>
    have k1 : ¬ l = httpB := by rintro rfl; revert h1; decide
    cases h2 : (l == [104, 116, 116, 112, 115]) with
    | true =>
      have k2 : l = httpB ++ [115] := eq_of_beq h2
      rw [if_neg k1, if_pos k2] at HO
      clear k1 k2
      go_wp2_with fail
      go_ret
      exact ⟨by rw [HO.out]; rfl, rfl⟩
    | false =>
      have k2 : ¬ l = httpB ++ [115] := by rintro rfl; revert h2; decide
      rw [if_neg k1, if_neg k2] at HO
      clear k1 k2
      go_wp2_with fail
      go_ret
      exact ⟨by rw [HO.out]; rfl, rfl⟩
theorem and15_all : ∀ n : Fin 256, bits .and .u8 (n.val : Int) 15 = (n.val : Int) % 16 := by decide +kernel
theorem and15 (c : UInt8) : bits .and .u8 (c.toNat : Int) 15 = (c.toNat : Int) % 16 := and15_all ⟨c.toNat, UInt8.toNat_lt c⟩
theorem hex_mod (c : UInt8) : (c.toNat % 16 + 1) % 256 = c.toNat % 16 + 1 := by omega
theorem hex_one : ∀ n : Fin 16, (⟨#[48, 49, 50, 51, 52, 53, 54, 55, 56, 57, 65, 66, 67, 68, 69, 70]⟩ : ByteArray).extract n.val (n.val + 1) = ⟨#[hexAt n.val]⟩ := by
  decide +kernel
theorem tri_str (c : UInt8) : ((⟨#[37]⟩ : ByteArray) ++ (⟨#[48, 49, 50, 51, 52, 53, 54, 55, 56, 57, 65, 66, 67, 68, 69, 70]⟩ : ByteArray).extract (c.toNat / 16) (c.toNat / 16 + 1) ++ (⟨#[48, 49, 50, 51, 52, 53, 54, 55, 56, 57, 65, 66, 67, 68, 69, 70]⟩ : ByteArray).extract (c.toNat % 16) (c.toNat % 16 + 1)) = bs (tri c) := by
  have h := UInt8.toNat_lt c
  rw [hex_one ⟨c.toNat / 16, by omega⟩, hex_one ⟨c.toNat % 16, by omega⟩]
  rfl
set_option maxRecDepth 100000 in
set_option maxHeartbeats 4000000 in
theorem triple_any (b : UInt8) (w : World) : Calls Tryz.prog 46 #[.int .u8 (b.toNat : Int)] w fun e w' => e = .returned (.string (bs (tri b))) ∧ Below w.heap.size w w' := by
  have hc255 := UInt8.toNat_lt b
  have e3 : (b.toNat : Int) < 256 := by omega
  have e4 : (0 : Int) ≤ (b.toNat : Int) := by omega
  have HS := Lib.hid (tri_str b)
  have hb15 := and15 b
  have hw1 : IntKind.u8.wrap ((b.toNat : Int) / 16 + 1) = (b.toNat : Int) / 16 + 1 := by simp only [IntKind.wrap, IntKind.bits, IntKind.signed]; simp; omega
  have hw2 : IntKind.u8.wrap ((b.toNat : Int) % 16 + 1) = (b.toNat : Int) % 16 + 1 := by simp only [IntKind.wrap, IntKind.bits, IntKind.signed]; simp; omega
  have hv1 : ((b.toNat : Int) % 16 + 1) % 256 = (b.toNat : Int) % 16 + 1 := by omega
  have hv2 : (0 : Int) ≤ (b.toNat : Int) % 16 + 1 := by omega
  have hv3 : (b.toNat : Int) % 16 ≤ (b.toNat : Int) % 16 + 1 := by omega
  have hw3 : (b.toNat : Int) / 16 + 1 ≤ 16 := by omega
  have hw4 : (b.toNat : Int) % 16 + 1 ≤ 16 := by omega
  have hw5 : (0 : Int) ≤ (b.toNat : Int) / 16 := by omega
  have hw6 : (0 : Int) ≤ (b.toNat : Int) % 16 := by omega
  have hw7 : ((b.toNat : Int) / 16).toNat = b.toNat / 16 := by omega
  have hw8 : ((b.toNat : Int) % 16).toNat = b.toNat % 16 := by omega
  have hw9 : ((b.toNat : Int) / 16 + 1).toNat = b.toNat / 16 + 1 := by omega
  have hw0 : ((b.toNat : Int) % 16 + 1).toNat = b.toNat % 16 + 1 := by omega
  go_enter Tryz.func46, Tryz.ntmps46
  go_upto_region 1 with fail
  go_region_with fail
  all_goals
    go_wp2_with fail
    go_ret
    exact ⟨by rw [← HS.out]; rfl, by first | exact below_drew (Below.refl _ _) | exact below_drewN (Below.refl _ _) _⟩
theorem valP_ge (c : UInt8) : -1 ≤ valP c := Lib.indexByte_ge _ _
theorem valP_lt (c : UInt8) : valP c < 16 := by
  unfold valP
  rcases Int.lt_or_le (Lib.indexByte six (upC c)) 0 with h | h
  · omega
  · obtain ⟨o, ho⟩ : ∃ o : Nat, Lib.indexByte six (upC c) = o := ⟨(Lib.indexByte six (upC c)).toNat, by omega⟩
    have := (Lib.indexByte_some ho).1
    have h2 : o < six.length := by
      rcases Nat.lt_or_ge o six.length with h3 | h3
      · exact h3
      · rw [List.getElem?_eq_none h3] at this; cases this
    have h4 : six.length = 16 := rfl
    omega
end Go.Proofs.YtjcejijdeohkgaaGreatDoor
/- W2. -/
namespace Go.Proofs.YtjcejijdeohkgaaGreatDoor
open Go.RowKit

set_option maxRecDepth 100000 in
set_option maxHeartbeats 4000000 in
theorem read_any (c : UInt8) (r : Bs) (w : World) : Calls Tryz.prog 48 #[.string (bs (c :: r))] w fun e w' => e = .returned (.tuple #[.int .u8 ((readP (c :: r)).1.toNat : Int), .int .i64 ((readP (c :: r)).2 : Int)]) ∧ Below w.heap.size w w' := by
  have p89 := call89
  obtain ⟨R, hR⟩ : ∃ R, readP (c :: r) = R := ⟨_, rfl⟩
  rw [hR]
  have HR := Lib.hid hR
  clear hR
  have hs : (bs (c :: r)).size = r.length + 1 := by rw [bs_size]; rfl
  have h0 : 0 < (bs (c :: r)).size := by omega
  have g0 : (bs (c :: r))[0]'h0 = c := bs_get (c :: r) 0 h0
  by_cases hc : c = 37
  · subst hc
    have e37 : (((37 : UInt8).toNat : Int)) = 37 := rfl
    by_cases hl : r.length < 2
    · have h3 : ((bs (37 :: r)).size : Int) < 3 := by omega
      have hr : R = (0, 0) := by
        rw [← HR.out]
        match r, hl with
        | [], _ => rfl
        | [_], _ => rfl
        | _ :: _ :: _, h => simp at h; omega
      subst hr
      generalize bs (37 :: r) = S at *
      clear HR
      go_enter Tryz.func48, Tryz.ntmps48
      go_wp2_with fail
      go_ret2
      exact ⟨rfl, Below.refl _ _⟩
    · obtain ⟨a, b, t, rfl⟩ : ∃ a b t, r = a :: b :: t := by
        match r, hl with
        | [], h => exact absurd (by decide) h
        | [_], h => exact absurd (by simp) h
        | a :: b :: t, _ => exact ⟨a, b, t, rfl⟩
      iterate 1
        have hz : (bs (37 :: a :: b :: t)).size = t.length + 3 := by rw [bs_size]; rfl
        have h3 : (3 : Int) ≤ ((bs (37 :: a :: b :: t)).size : Int) := by omega
        have h1 : 1 < (bs (37 :: a :: b :: t)).size := by omega
        have h2 : 2 < (bs (37 :: a :: b :: t)).size := by omega
        have g1 : (bs (37 :: a :: b :: t))[1]'h1 = a := bs_get _ 1 h1
        have g2 : (bs (37 :: a :: b :: t))[2]'h2 = b := bs_get _ 2 h2
        have HV : Hid (R = if valP a < 0 ∨ valP b < 0 then (0, 0) else (UInt8.ofNat ((valP a).toNat * 16 + (valP b).toNat), 3)) := Lib.hid (by rw [← HR.out]; rfl)
        generalize bs (37 :: a :: b :: t) = S at *
        have HA := Lib.hid (fun w => value_any a w)
        have HB := Lib.hid (fun w => value_any b w)
        have ra := And.intro (valP_ge a) (valP_lt a)
        have rb := And.intro (valP_ge b) (valP_lt b)
        generalize valP a = x at *
        generalize valP b = y at *
        clear HR hs hz
        go_enter Tryz.func48, Tryz.ntmps48
        go_wp2_with fail
        refine (HA.out _).mono ?_
        rintro e w' ⟨rfl, rfl⟩
        by_cases hx : x < 0
        · rw [if_pos (.inl hx)] at HV
          clear ra rb
          go_wp2_with fail
          go_ret2
          exact ⟨by rw [HV.out]; rfl, Below.refl _ _⟩
        · go_wp2_with fail
          refine (HB.out _).mono ?_
          rintro e w' ⟨rfl, rfl⟩
          by_cases hy : y < 0
          · rw [if_pos (.inr hy)] at HV
            clear ra rb
            go_wp2_with fail
            go_ret2
            exact ⟨by rw [HV.out]; rfl, Below.refl _ _⟩
          · rw [if_neg (by omega)] at HV
            obtain ⟨m, rfl⟩ : ∃ m : Nat, x = (m : Int) := ⟨x.toNat, by omega⟩
            obtain ⟨k, rfl⟩ : ∃ k : Nat, y = (k : Int) := ⟨y.toNat, by omega⟩
            have hm : m < 16 := by omega
            have hk : k < 16 := by omega
            have hor : bits .or .i64 ((m : Int) * 16) (k : Int) = ((m * 16 + k : Nat) : Int) := by
              have key : ∀ m k : Fin 16, bits .or .i64 ((m.val : Int) * 16) (k.val : Int) = ((m.val * 16 + k.val : Nat) : Int) := by decide +kernel
              exact key ⟨m, hm⟩ ⟨k, hk⟩
            have hw : IntKind.i64.wrap ((m : Int) * 16) = (m : Int) * 16 := by rw [IntKind.wrap_i64]; omega
            have hv : IntKind.u8.wrap ((m * 16 + k : Nat) : Int) = ((m * 16 + k : Nat) : Int) := by rw [IntKind.wrap_u8]; omega
            have HU := Lib.hid (show ((UInt8.ofNat (m * 16 + k)).toNat : Int) = (m : Int) * 16 + (k : Int) by
              rw [UInt8.toNat_ofNat']
              omega)
            clear ra rb hx hy
            rw [Int.toNat_natCast, Int.toNat_natCast] at HV
            go_upto_region 5 with fail
            go_quiet ((first | (with_reducible exact Calls.quiet_of_same ((HA.out _).mono fun _ _ ⟨a, b⟩ => ⟨a, b.symm⟩)) | (with_reducible exact Calls.quiet_of_same ((HB.out _).mono fun _ _ ⟨a, b⟩ => ⟨a, b.symm⟩))))
            all_goals
              go_wp2_with fail
              go_ret2
              refine ⟨?_, below_drewN (Below.refl _ _) _⟩
              rw [HV.out, HU.out]
              rfl
  · have hcb : ((c.toNat : Int) == 37) = false := by
      rw [beq_eq_false_iff_ne]
      intro e
      apply hc
      rw [← UInt8.toNat_inj]
      show c.toNat = 37
      omega
    have hcn : ¬ (c.toNat : Int) = 37 := by simpa using hcb
    have hr : R = (c, 1) := by rw [← HR.out]; simp only [readP]; rw [if_neg hc]
    subst hr
    clear HR
    generalize bs (c :: r) = S at *
    go_enter Tryz.func48, Tryz.ntmps48
    go_wp2_with fail
    go_ret2
    exact ⟨rfl, Below.refl _ _⟩
end Go.Proofs.YtjcejijdeohkgaaGreatDoor
/- W3. -/
namespace Go.Proofs.YtjcejijdeohkgaaGreatDoor
open Go.RowKit

theorem bld_size : (Tryz.prog.info? 77).map (·.size) = some 2 := by kernel_rfl
theorem bld_lies : liesAt Tryz.prog Tryz.prog.depth 77 (2 / Tryz.prog.cellsOf 77) 0 77 1 = true := by kernel_rfl
theorem bld_byte : (Tryz.prog.info? 5).map (fun i => (i.zero, i.size, i.bytes)) = some (some (.int .u8 0), 1, 1) := by kernel_rfl
set_option maxHeartbeats 1000000 in
set_option maxRecDepth 100000 in
theorem copyCheck_used (b : Nat) (w : World) (h0 : w.cell? ⟨b, 0, none⟩ = some (.pointer (some ⟨b, 0, none⟩))) :
    Calls Tryz.prog 88 #[.pointer (some ⟨b, 0, none⟩)] w fun e w' => e = .returned (.tuple #[]) ∧ w' = w := by
  obtain ⟨j, hj, _⟩ := Option.map_eq_some_iff.1 bld_size
  go_enter Tryz.func88, Tryz.ntmps88
  go_wp2
  rw [Lib.run_neq_ptr_same w _ Tryz.underlying74 hj]
  go_wp2
  go_end0
  exact ⟨rfl, rfl⟩
set_option maxHeartbeats 1000000 in
set_option maxRecDepth 100000 in
theorem copyCheck_fresh (b : Nat) (w : World) (h0 : w.cell? ⟨b, 0, none⟩ = some (.pointer none)) (hsh : w.shape? b = some (77, 2)) (hfz : w.frozen? ⟨b, 0, none⟩ = false) :
    Calls Tryz.prog 88 #[.pointer (some ⟨b, 0, none⟩)] w fun e w' => e = .returned (.tuple #[]) ∧ w' = w.setCell ⟨b, 0, none⟩ (.pointer (some ⟨b, 0, none⟩)) := by
  obtain ⟨j, hj, hjs⟩ := Option.map_eq_some_iff.1 bld_size
  go_enter Tryz.func88, Tryz.ntmps88
  go_wp2
  rw [Lib.run_to_unsafe w ⟨b, 0, none⟩ Tryz.underlying74 Tryz.underlying150 hj (by rw [hjs]; decide) hsh (Nat.zero_lt_succ 1)]
  simp only [Result.andThen]
  rw [Oper.upon_value]
  go_wp2
  rw [run_callFunc_extern Tryz.func114 (by kernel_rfl) (by kernel_rfl) (by kernel_rfl) (e := Extern.AbiNoEscape.same) (by kernel_rfl)]
  rw [Lib.run_noEscape]
  simp only [Result.andThen]
  rw [Oper.upon_value]
  go_wp2
  rw [Lib.run_from_unsafe w ⟨b, 0, none⟩ Tryz.underlying150 Tryz.underlying74 hj hsh bld_lies]
  simp only [Result.andThen]
  rw [Oper.upon_value]
  go_wp2
  go_end0
  exact ⟨rfl, rfl⟩
theorem copyCheck_any (B b : Nat) (bs : List Value) (w : World) (h : Lib.IsBuilder 77 5 B b bs w) :
    Calls Tryz.prog 88 #[.pointer (some ⟨b, 0, none⟩)] w fun e w' => e = .returned (.tuple #[]) ∧ (Lib.BuilderAt 77 5 B b (.pointer (some ⟨b, 0, none⟩)) bs w' ∧ Below B w w') := by
  rcases h with h | h
  · refine (copyCheck_fresh b w h.cell0 h.shape h.frozen0).mono ?_
    rintro e w' ⟨rfl, rfl⟩
    exact ⟨rfl, h.used _, (Below.refl B w).setCell (p := ⟨b, 0, none⟩) h.1 _⟩
  · refine (copyCheck_used b w h.cell0).mono ?_
    rintro e w' ⟨rfl, rfl⟩
    exact ⟨rfl, h, Below.refl B _⟩

set_option maxHeartbeats 2000000 in
set_option maxRecDepth 100000 in
theorem wbyte_any (B b : Nat) (bs : List Value) (c : Int) (w : World) (h : Lib.IsBuilder 77 5 B b bs w) (hlen : bs.length + 1 ≤ 140737488355328) (hBw : B ≤ w.heap.size) :
    Calls Tryz.prog 44 #[.pointer (some ⟨b, 0, none⟩), .int .u8 c] w fun e w' => e = .returned .nilIface ∧ (Lib.BuilderAt 77 5 B b (.pointer (some ⟨b, 0, none⟩)) (bs ++ [.int .u8 c]) w' ∧ Below B w w') := by
  obtain ⟨i0, hi, hz0, hz1, hz2⟩ := info_parts bld_byte
  go_enter Tryz.func44, Tryz.ntmps44
  go_wp2_with (go_at_call 88; refine (copyCheck_any B b bs _ h).mono ?_)
  rintro e w1 ⟨rfl, h1, hb1⟩
  obtain ⟨hB, v, hbk, hown, hne⟩ := h1
  have c0 : w1.cell? ⟨b, 0, none⟩ = some (.pointer (some ⟨b, 0, none⟩)) := by rw [Lib.cell_of_heap hbk]; rfl
  have c1 : w1.cell? ⟨b, 1, none⟩ = some v := by rw [Lib.cell_of_heap hbk]; rfl
  go_wp2_with (at_builtin; refine wpList_append_own _ rfl _ _ 75 rfl B 5 i0 (.int .u8 0) 1 1 Tryz.underlying75 hi hz0 hz1 hz2 rfl (by decide) _ _ _ rfl (hown.alloc _) ⟨w1.heap.size, 0, none⟩ 1 1 [.int .u8 c] rfl rfl ?c1 ?c2 ?c3 ?c4 ?c5 ?_)
  case c1 =>
    intro j u hj
    match j, hj with
    | 0, hj => simp at hj; subst hj; simp [Addr.add]
  case c2 => intro u hu; simp at hu; subst hu; rfl
  case c3 => unfold maxLen; omega
  case c4 => omega
  case c5 => have := hb1.size; simp; omega
  intro v' w2 hown' hgrow _
  have hlt : b < w1.heap.size := by
    rcases Nat.lt_or_ge b w1.heap.size with h' | h'
    · exact h'
    · simp [Array.getElem?_eq_none h'] at hbk
  have hb2 : w2.heap[b]? = some (.cells #[.pointer (some ⟨b, 0, none⟩), v] 77 (0, 0)) := by
    rw [hgrow.block b (by simp; omega) (fun e => hne e.symm), Lib.alloc_old w1 _ b hlt]
    exact hbk
  have d0 : w2.cell? ⟨b, 0, none⟩ = some (.pointer (some ⟨b, 0, none⟩)) := by rw [Lib.cell_of_heap hb2]; rfl
  have d1 : w2.cell? ⟨b, 1, none⟩ = some v := by rw [Lib.cell_of_heap hb2]; rfl
  have f1 : w2.frozen? ⟨b, 1, none⟩ = false := Lib.frozen_of_heap hb2 1
  obtain ⟨g, cap, rfl⟩ : ∃ g cap, v' = .slice (some ⟨g, 0, none⟩) (bs.length + 1) cap := by
    rcases hown'.2 with ⟨_, h0⟩ | ⟨g, cap, cur, hv, _⟩
    · omega
    · exact ⟨g, cap, hv⟩
  go_wp2
  go_ret
  refine ⟨rfl, ?_, ?_⟩
  · exact Lib.BuilderAt.put (T := 77) (e := 5) hB hb2 (bs' := bs ++ [.int .u8 c]) (by simpa using hown') (by decide)
  · exact ((hb1.alloc (by have := hb1.size; omega) _).grown hgrow (by have := hb1.size; simp; omega) (fun k hk => (hown.lt k hk).1)).setCell (p := ⟨b, 1, none⟩) hB _

set_option maxHeartbeats 2000000 in
set_option maxRecDepth 100000 in
theorem wstring_any (B b : Nat) (bs : List Value) (s : ByteArray) (w : World) (h : Lib.IsBuilder 77 5 B b bs w) (hlen : bs.length + s.size ≤ 140737488355328) (hBw : B ≤ w.heap.size) :
    Calls Tryz.prog 45 #[.pointer (some ⟨b, 0, none⟩), .string s] w fun e w' => e = .returned (.tuple #[.int .i64 s.size, .nilIface]) ∧ (Lib.BuilderAt 77 5 B b (.pointer (some ⟨b, 0, none⟩)) (bs ++ Lib.strCells s) w' ∧ Below B w w') := by
  obtain ⟨i0, hi, hz0, hz1, hz2⟩ := info_parts bld_byte
  go_enter Tryz.func45, Tryz.ntmps45
  go_wp2_with (go_at_call 88; refine (copyCheck_any B b bs _ h).mono ?_)
  rintro e w1 ⟨rfl, h1, hb1⟩
  obtain ⟨hB, v, hbk, hown, hne⟩ := h1
  have c0 : w1.cell? ⟨b, 0, none⟩ = some (.pointer (some ⟨b, 0, none⟩)) := by rw [Lib.cell_of_heap hbk]; rfl
  have c1 : w1.cell? ⟨b, 1, none⟩ = some v := by rw [Lib.cell_of_heap hbk]; rfl
  go_wp2_with (at_builtin; refine Lib.wpList_append_own_string _ rfl _ _ 75 9 rfl B 5 i0 Tryz.underlying75 Tryz.underlying9 hi hz0 hz1 hz2 _ _ _ rfl hown s rfl ?c3 ?c4 ?c5 ?_)
  case c3 => unfold maxLen; omega
  case c4 => omega
  case c5 => have := hb1.size; omega
  intro v' w2 hown' hgrow _
  have hlt : b < w1.heap.size := by
    rcases Nat.lt_or_ge b w1.heap.size with h' | h'
    · exact h'
    · simp [Array.getElem?_eq_none h'] at hbk
  have hb2 : w2.heap[b]? = some (.cells #[.pointer (some ⟨b, 0, none⟩), v] 77 (0, 0)) := by
    rw [hgrow.block b hlt (fun e => hne e.symm)]
    exact hbk
  have d0 : w2.cell? ⟨b, 0, none⟩ = some (.pointer (some ⟨b, 0, none⟩)) := by rw [Lib.cell_of_heap hb2]; rfl
  have d1 : w2.cell? ⟨b, 1, none⟩ = some v := by rw [Lib.cell_of_heap hb2]; rfl
  have f1 : w2.frozen? ⟨b, 1, none⟩ = false := Lib.frozen_of_heap hb2 1
  obtain ⟨ao, n', cap, rfl⟩ : ∃ ao n' cap, v' = .slice ao n' cap := by
    rcases hown'.2 with ⟨hv, _⟩ | ⟨g, cap, cur, hv, _⟩
    · exact ⟨_, _, _, hv⟩
    · exact ⟨_, _, _, hv⟩
  go_wp2
  go_ret2
  refine ⟨rfl, ?_, ?_⟩
  · exact Lib.BuilderAt.put (T := 77) (e := 5) hB hb2 (bs' := bs ++ Lib.strCells s) (by simpa [Lib.strCells_length] using hown') (by decide)
  · exact (hb1.grown hgrow (by have := hb1.size; omega) (fun k hk => (hown.lt k hk).1)).setCell (p := ⟨b, 1, none⟩) hB _
end Go.Proofs.YtjcejijdeohkgaaGreatDoor
/- W4. -/
namespace Go.Proofs.YtjcejijdeohkgaaGreatDoor
open Go.RowKit

/-- The listed tables, as they are laid. -/
structure TB (w : World) : Prop where
  u : Lib.Utf8Tabs 1 2 w
  p : Lib.TabIs Tryz.prog w "internal/strconv.uint64pow10" .u64 Lib.pow10Tab
  m : ∃ m : Int, w.cell? ⟨0, 0, none⟩ = some (.int .i64 m)
theorem tab_below {n : String} {g : Nat} {k : IntKind} {zs : List Int} {w w' : World} (hg : Tryz.prog.globalNamed n = some g) (h : Lib.TabIs Tryz.prog w n k zs) (hb : Below w.heap.size w w') : Lib.TabIs Tryz.prog w' n k zs := by
  unfold Lib.TabIs World.var? at h ⊢
  rw [hg] at h ⊢
  simp only [Option.bind_some] at h ⊢
  have hlt : g < w.heap.size := by
    rcases Nat.lt_or_ge g w.heap.size with h' | h'
    · exact h'
    · rw [Array.getElem?_eq_none h'] at h; cases h
  rw [hb.block g hlt]
  exact h
theorem TB.below {w w' : World} (h : TB w) (hb : Below w.heap.size w w') : TB w' := by
  refine ⟨Utf8Tabs_below h.u hb, tab_below (g := 5) (by kernel_rfl) h.p hb, ?_⟩
  obtain ⟨m, hm⟩ := h.m
  exact ⟨m, kc hb hm⟩
theorem call117 (args : Array Value) (w : World) : Sem.run Tryz.prog (callFunc 117 args) w = .ok (.enter 117 args) w := by go_simp
set_option maxHeartbeats 1000000 in
theorem small_any (l : Bs) (w : World) (hT : TB w) (hl : l.length < 35184372088832) : Calls Tryz.prog 94 #[.string (bs l)] w fun e w' => e = .returned (.string (bs (smallP l))) ∧ Below w.heap.size w w' := by
  have HM := Lib.hid (Any.strings_Map_runes Tryz.big230 Tryz.bigX 118 #[] call118 smR (bs l) w (by rw [bs_size]; exact hl) (fun W x hx _ => (small1_any (x : Int) W (by omega) (by omega)).mono fun e w' ⟨h1, h2⟩ => ⟨h1, 0, by rw [← h2]; rfl⟩) (fun x hx => by unfold smR; split <;> omega) hT.u)
  have p117 := call117
  go_enter Tryz.func94, Tryz.ntmps94
  go_wp2_with fail
  refine HM.out.mono ?_
  rintro e w' ⟨rfl, hb⟩
  rw [bs_list]
  go_wp2_with fail
  go_ret
  exact ⟨rfl, hb⟩
end Go.Proofs.YtjcejijdeohkgaaGreatDoor
/- W5. -/
namespace Go.Proofs.YtjcejijdeohkgaaGreatDoor
open Go.RowKit

theorem bld_alloc {B b : Nat} {xs : List Value} {w : World} (h : Lib.IsBuilder 77 5 B b xs w) (o : Obj) : Lib.IsBuilder 77 5 B b xs (w.alloc o) := by
  have H : ∀ p, Lib.BuilderAt 77 5 B b p xs w → Lib.BuilderAt 77 5 B b p xs (w.alloc o) := by
    rintro p ⟨hB, v, hb, hown, hne⟩
    refine ⟨hB, v, ?_, hown.alloc _, hne⟩
    rw [Lib.alloc_old w o b ?_]
    · exact hb
    · rcases Nat.lt_or_ge b w.heap.size with h' | h'
      · exact h'
      · simp [Array.getElem?_eq_none h'] at hb
  rcases h with h | h
  · exact .inl (H _ h)
  · exact .inr (H _ h)
/-- A builder at block w.heap.size that holds these bytes. -/
def Bld (w : World) (l : Bs) (wr : World) : Prop :=
  Lib.IsBuilder 77 5 w.heap.size w.heap.size (Lib.byteCells l) wr ∧ Below w.heap.size w wr
theorem bld_put {w wr w' : World} {l m : Bs} (h : Below w.heap.size w wr) {x : List Value} (hx : x = Lib.byteCells (l ++ m))
    (h1 : Lib.BuilderAt 77 5 w.heap.size w.heap.size (.pointer (some ⟨w.heap.size, 0, none⟩)) x w') (h2 : Below w.heap.size wr w') : Bld w (l ++ m) w' := by
  subst hx
  exact ⟨.inr h1, h.trans h2⟩
/-- A call that leaves all that lay below its begin. -/
theorem Bld.call {w wr w' : World} {l : Bs} (h : Bld w l wr) (hb : Below wr.heap.size wr w') : Bld w l w' := by
  have H : ∀ p, Lib.BuilderAt 77 5 w.heap.size w.heap.size p (Lib.byteCells l) wr → Lib.BuilderAt 77 5 w.heap.size w.heap.size p (Lib.byteCells l) w' := by
    rintro p ⟨hB, v, hbk, hown, hne⟩
    exact ⟨hB, v, (hb.block _ (lt_of_heap hbk)).trans hbk, own_below hown hb (Nat.le_refl _), hne⟩
  refine ⟨?_, h.2.trans (Below.le hb h.2.size)⟩
  rcases h.1 with h | h
  · exact .inl (H _ h)
  · exact .inr (H _ h)
theorem bld_start (w : World) : Bld w [] (w.alloc (.cells #[.pointer none, .slice none 0 0] 77)) := ⟨Lib.fresh_isBuilder 77 5 w, (Below.refl _ _).alloc (Nat.le_refl _) _⟩
theorem call43 (args : Array Value) (w : World) : Sem.run Tryz.prog (callFunc 43 args) w = .ok (.enter 43 args) w := by go_simp
theorem call44 (args : Array Value) (w : World) : Sem.run Tryz.prog (callFunc 44 args) w = .ok (.enter 44 args) w := by go_simp
theorem call45 (args : Array Value) (w : World) : Sem.run Tryz.prog (callFunc 45 args) w = .ok (.enter 45 args) w := by go_simp
theorem call46 (args : Array Value) (w : World) : Sem.run Tryz.prog (callFunc 46 args) w = .ok (.enter 46 args) w := by go_simp
theorem call47 (args : Array Value) (w : World) : Sem.run Tryz.prog (callFunc 47 args) w = .ok (.enter 47 args) w := by go_simp
theorem call48 (args : Array Value) (w : World) : Sem.run Tryz.prog (callFunc 48 args) w = .ok (.enter 48 args) w := by go_simp
theorem tri_len (c : UInt8) : (tri c).length = 3 := rfl
theorem enc_len : ∀ (l : Bs), (encP l).length ≤ 3 * l.length
  | [] => Nat.le_refl _
  | c :: l => by
    have := enc_len l
    unfold encP at this ⊢
    rw [List.flatMap_cons, List.length_append, List.length_cons]
    split
    · simp only [List.length_cons, List.length_nil]; omega
    · rw [tri_len]; omega
theorem enc_snoc (l : Bs) (c : UInt8) : encP (l ++ [c]) = encP l ++ (if plainP c then [c] else tri c) := by simp [encP]
set_option maxRecDepth 100000 in
set_option maxHeartbeats 4000000 in
theorem encode_any (l : Bs) (w : World) (hl : l.length ≤ 1048576) : Calls Tryz.prog 15 #[.string (bs l)] w fun e w' => e = .returned (.string (bs (encP l))) ∧ Below w.heap.size w w' := by
  have p43 := call43
  have p44 := call44
  have p45 := call45
  have p46 := call46
  have p47 := call47
  have HG : Hid (∀ i (h1 : i < l.length) (h : i < (bs l).size), (bs l)[i]'h = l[i]'h1) := Lib.hid (fun i _ h => bs_get l i h)
  have hsz : (bs l).size = l.length := bs_size l
  generalize bs l = S at *
  have HL := Lib.hid hl
  have HZ := Lib.hid hsz
  have hli : (l.length : Int) ≤ 1048576 := by omega
  clear hl hsz
  go_enter Tryz.func15, Tryz.ntmps15
  go_wp2_with fail
  have B0 := Lib.hid (bld_start w)
  rw [HZ.out]
  go_loopg [7] l.length (fun n vk wr => ∃ k : Nat, n = l.length - k ∧ k ≤ l.length ∧ vk = .int .i64 (k : Int) ∧ Bld w (encP (l.take k)) wr)
  case atStart => exact ⟨0, rfl, Nat.zero_le _, rfl, B0.out⟩
  case round =>
    obtain ⟨k, hg, hk, rfl, hbl⟩ := hrel
    have G := Lib.hid hg
    have X := Lib.hid hbl
    clear hg hbl B0
    have LN := Lib.hid (show (encP (l.take k)).length ≤ 3145728 by
      have h1 := enc_len (l.take k)
      have h2 : (l.take k).length ≤ l.length := by rw [List.length_take]; omega
      have := HL.out
      omega)
    by_cases hlt : k < l.length
    · have hki : (k : Int) < (l.length : Int) := by omega
      have h0 : k < S.size := by have := HZ.out; omega
      have hkz : (k : Int) < (S.size : Int) := by omega
      have gk : S[k]'h0 = l[k] := HG.out k hlt h0
      have TK := Lib.hid (show l.take (k + 1) = l.take k ++ [l[k]] by rw [List.take_add_one, List.getElem?_eq_getElem hlt]; rfl)
      generalize l[k] = c at *
      have HPL := Lib.hid (fun w => plain_any c w)
      have ES := Lib.hid (enc_snoc (l.take k) c)
      rw [← TK.out] at ES
      clear TK
      go_wp2_with fail
      refine (HPL.out _).mono ?_
      rintro e w' ⟨rfl, rfl⟩
      generalize plainP c = P at *
      cases P with
      | true =>
        go_wp2_with fail
        refine (wbyte_any w.heap.size w.heap.size _ _ _ X.out.1 (by rw [Lib.byteCells_length]; have := LN.out; omega) X.out.2.size).mono ?_
        rintro e w2 ⟨rfl, h1, h2⟩
        have Y := Lib.hid (bld_put (m := [c]) X.out.2 (by rw [Lib.byteCells_append]; rfl) h1 h2)
        clear h1 h2
        go_wp2_with fail
        go_roundg (l.length - (k + 1))
        case measure => rw [G.out]; omega
        case rel => exact ⟨k + 1, rfl, by omega, by simp, by rw [ES.out]; exact Y.out⟩
      | false =>
        go_wp2_with fail
        refine (triple_any c _).mono ?_
        rintro e w2 ⟨rfl, hb⟩
        have Z := Lib.hid (X.out.call hb)
        clear hb
        go_wp2_with fail
        refine (wstring_any w.heap.size w.heap.size _ _ _ Z.out.1 (by rw [Lib.byteCells_length, bs_size, tri_len]; have := LN.out; omega) Z.out.2.size).mono ?_
        rintro e w3 ⟨rfl, h1, h2⟩
        have Y := Lib.hid (bld_put (m := tri c) Z.out.2 (by rw [Lib.byteCells_append]; rfl) h1 h2)
        clear h1 h2
        go_wp2_with fail
        go_roundg (l.length - (k + 1))
        case measure => rw [G.out]; omega
        case rel => exact ⟨k + 1, rfl, by omega, by simp, by rw [ES.out]; exact Y.out⟩
    · have hke : k = l.length := by omega
      have hnl : ¬ ((k : Int) < (l.length : Int)) := by omega
      have XF := Lib.hid (show Bld w (encP l) wr from by
        have h1 := X.out
        rwa [hke, List.take_length] at h1)
      clear hke hlt X LN
      go_wp2_with fail
      refine (Tryz.Builder_String_any w.heap.size w.heap.size _ _ XF.out.1 XF.out.2.size).mono ?_
      rintro e w3 ⟨rfl, h3⟩
      have H3 := Lib.hid (XF.out.2.trans h3)
      clear h3
      go_wp2_with fail
      go_ret
      exact ⟨rfl, H3.out⟩
end Go.Proofs.YtjcejijdeohkgaaGreatDoor
/- W6. -/
namespace Go.Proofs.YtjcejijdeohkgaaGreatDoor
open Go.RowKit

def bV (c : UInt8) : Value := .int .u8 (c.toNat : Int)
theorem convRow {w : World} {B : Nat} {v : Value} {l : List UInt8} (h : w.ownsRow B 5 1 v l.length (l.map bV)) :
    (convert 75 9 v).run Tryz.prog w = .ok (.string (bs l)) w := by
  rcases h.2 with ⟨rfl, hn⟩ | ⟨g, cap, cur, rfl, _⟩
  · have e : l = [] := List.eq_nil_of_length_eq_zero hn
    subst e
    rw [run_convert_bytes_nil w 75 5 Tryz.underlying75 Tryz.underlying5 0 0 9 Tryz.underlying9]
    rfl
  · have hc := h.cells (g := g) rfl
    rw [run_convert_bytes_arg w 75 5 Tryz.underlying75 Tryz.underlying5 g 0 l.length cap (l.map fun c => (c.toNat : Int)) (by simp) (fun i hi => by
      have := hc i (bV l[i]) (by simp [hi])
      have e : ((⟨g, 0, none⟩ : Addr).add i) = ⟨g, 0 + i, none⟩ := by unfold Addr.add; split <;> simp_all
      rw [e] at this
      rw [this]
      simp [bV, List.getD_eq_getElem?_getD, hi]) 9 Tryz.underlying9]
    congr 2
    simp [strOfNums, Function.comp_def, bs]
theorem cell_byte (w : World) (b : UInt8) : ∀ j u, [bV b][j]? = some u → (w.alloc (.cells #[.int .u8 (b.toNat : Int)] 5)).cell? ((⟨w.heap.size, 0, none⟩ : Addr).add j) = some u := cell_one_new w (bV b) 5
theorem one_byte' (b : UInt8) : ∀ u ∈ [bV b], u.oneCell' = true := by
  intro u hu; rw [List.mem_singleton] at hu; subst hu; rfl
theorem read_le (c : UInt8) (r : Bs) : (readP (c :: r)).2 ≤ r.length + 1 := by
  simp only [readP]
  split
  · match r with
    | [] => simp
    | [_] => simp
    | a :: b :: t =>
      simp only
      split
      · simp
      · simp
  · simp
theorem dec_cons (c : UInt8) (r : Bs) : decP (c :: r) = if (readP (c :: r)).2 = 0 then none else (decP ((c :: r).drop (readP (c :: r)).2)).map ((readP (c :: r)).1 :: ·) := by
  unfold decP
  rw [units_cons]
  split
  · rfl
  · cases units ((c :: r).drop (readP (c :: r)).2) <;> rfl
theorem bs_drop (l : Bs) (n : Nat) : (bs l).extract n (bs l).size = bs (l.drop n) := by
  have h := Lib.extract_to_end (bs l) n
  rw [bs_list] at h
  rw [← h, bs_of]
def decR (l : Bs) : Bs × Int := match decP l with
  | some d => (d, 0)
  | none => ([], 3)
theorem byte_info : (Tryz.prog.info? 5).map (fun i => (i.zero, i.size, i.bytes)) = some (some (.int .u8 0), 1, 1) := by kernel_rfl
set_option maxRecDepth 100000 in
set_option maxHeartbeats 4000000 in
theorem decode_any (l : Bs) (w : World) (hl : l.length ≤ 3145728) : Calls Tryz.prog 16 #[.string (bs l)] w fun e w' => e = .returned (.tuple #[.string (bs (decR l).1), .int .i64 (decR l).2]) ∧ Below w.heap.size w w' := by
  obtain ⟨i0, hi0, hz0, hz1, hz2⟩ := info_parts byte_info
  have p48 := call48
  obtain ⟨R, hR⟩ : ∃ R, decR l = R := ⟨_, rfl⟩
  rw [hR]
  have HR := Lib.hid hR
  have HL := Lib.hid hl
  clear hR hl
  go_enter Tryz.func16, Tryz.ntmps16
  go_upto_region 2 with fail
  go_loopg [0, 4] l.length (fun n v0 v4 wr => ∃ r d : Bs, n = r.length ∧ v0 = .string (bs r) ∧ d.length + r.length ≤ l.length ∧ decP l = (decP r).map (d ++ ·) ∧ wr.ownsRow w.heap.size 5 1 v4 d.length (d.map bV) ∧ Below w.heap.size w wr)
  case atStart => exact ⟨l, [], rfl, rfl, by simp, by cases decP l <;> rfl, World.ownsRow_nil _ _ _ _, Below.refl _ _⟩
  case round =>
    obtain ⟨r, d, hg, rfl, hlen, hdec, hown, hb⟩ := hrel
    obtain ⟨ov, hov⟩ : ∃ v, v = u4 := ⟨_, rfl⟩
    subst hov
    have G := Lib.hid hg
    have LN := Lib.hid hlen
    have DC := Lib.hid hdec
    have O := Lib.hid hown
    have X := Lib.hid hb
    clear hg hlen hdec hown hb
    cases r with
    | nil =>
      have e0 : (bs []).toList.isEmpty = true := by rw [Lib.toList_data, bs_list]; rfl
      have HV := Lib.hid (show R = (d, 0) by
        rw [← HR.out]
        unfold decR
        rw [DC.out]
        show (d ++ [], (0 : Int)) = _
        rw [List.append_nil])
      have hcv := convRow O.out
      go_wp2_with fail
      go_ret2
      exact ⟨by rw [HV.out]; rfl, X.out⟩
    | cons c r =>
      have hS : (bs (c :: r)).toList.isEmpty = false := by rw [Lib.toList_data, bs_list]; rfl
      have HRD := Lib.hid (read_any c r wr)
      have HD := Lib.hid (dec_cons c r)
      have RL := Lib.hid (read_le c r)
      have HX := Lib.hid (bs_drop (c :: r) (readP (c :: r)).2)
      have HZ := Lib.hid (show (bs (c :: r)).size = r.length + 1 by rw [bs_size]; rfl)
      generalize readP (c :: r) = P at *
      obtain ⟨b, n⟩ := P
      simp only at HRD HD RL HX
      have HD2 := Lib.hid (show decP l = (if n = 0 then none else (decP ((c :: r).drop n)).map (b :: ·)).map (d ++ ·) by rw [DC.out, HD.out])
      have hdl : ((c :: r).drop n).length = r.length + 1 - n := by rw [List.length_drop]; rfl
      have DL := Lib.hid hdl
      clear hdl HD DC
      have G2 := Lib.hid (show gk = r.length + 1 from G.out)
      have LN2 := Lib.hid (show d.length + (r.length + 1) ≤ l.length from LN.out)
      clear G LN
      generalize (c :: r).drop n = r2 at *
      generalize bs (c :: r) = S at *
      go_wp2_with fail
      refine HRD.out.mono ?_
      rintro e w2 ⟨rfl, hb2⟩
      have X2 := Lib.hid (X.out.trans (Below.le hb2 X.out.size))
      have O2 := Lib.hid (own_below O.out hb2 (Nat.le_refl _))
      clear hb2 X O HRD
      by_cases hn : n = 0
      · subst hn
        have HV := Lib.hid (show R = ([], 3) by
          rw [← HR.out]
          unfold decR
          rw [HD2.out, if_pos rfl]
          rfl)
        go_wp2_with fail
        go_ret2
        exact ⟨by rw [HV.out]; rfl, X2.out⟩
      · rw [if_neg hn] at HD2
        have hnb : ((n : Int) == 0) = false := by rw [beq_eq_false_iff_ne]; omega
        have hni : ¬ (n : Int) = 0 := by omega
        have hns : (n : Int) ≤ (S.size : Int) := by have := HZ.out; have := RL.out; omega
        have hdn : d.length + 1 ≤ 3145728 := by have := LN2.out; have := HL.out; omega
        have HDL := Lib.hid hdn
        clear hdn hn
        go_wp2_with (at_builtin; refine wpList_append_own _ rfl _ _ 75 rfl w.heap.size 5 i0 (.int .u8 0) 1 1 Tryz.underlying75 hi0 hz0 hz1 hz2 rfl (by decide) _ _ _ rfl (O2.out.alloc _) ⟨_, 0, none⟩ 1 1 [bV b] rfl rfl (cell_byte w2 b) (one_byte' b) (by have := HDL.out; unfold maxLen; omega) (by have := HDL.out; omega) (al_le X2.out.size _) ?_)
        intro v' w3 hown' hgrow _
        have B3 := Lib.hid ((X2.out.alloc X2.out.size (.cells #[.int .u8 (b.toNat : Int)] 5)).grown hgrow (al_le X2.out.size _) (fun k hk => (O2.out.lt k hk).1))
        have O3 : Hid (w3.ownsRow w.heap.size 5 1 v' (d ++ [b]).length ((d ++ [b]).map bV)) := Lib.hid (by rw [List.length_append, List.map_append]; exact hown')
        clear hown' hgrow X2 O2
        go_wp2_with fail
        go_roundg r2.length
        case measure => rw [G2.out, DL.out]; omega
        case rel => exact ⟨r2, d ++ [b], rfl, by rw [← HX.out], by rw [List.length_append, DL.out]; have := LN2.out; have := RL.out; simp only [List.length_cons, List.length_nil]; omega, by rw [HD2.out]; cases decP r2 <;> simp, O3.out, B3.out⟩
end Go.Proofs.YtjcejijdeohkgaaGreatDoor
/- W7. -/
namespace Go.Proofs.YtjcejijdeohkgaaGreatDoor
open Go.RowKit

theorem clean_cons (c : UInt8) (r : Bs) : cleanP (c :: r) = if (readP (c :: r)).2 = 0 then none else (cleanP ((c :: r).drop (readP (c :: r)).2)).map (clU (readP (c :: r)) ++ ·) := by
  unfold cleanP
  rw [units_cons]
  split
  · rfl
  · cases units ((c :: r).drop (readP (c :: r)).2) <;> rfl
theorem clU_len (u : UInt8 × Nat) : (clU u).length ≤ 3 := by
  unfold clU
  split
  · simp
  · rw [tri_len]; omega
def cleanR (l : Bs) : Bs × Bool := match cleanP l with
  | some d => (d, true)
  | none => ([], false)
set_option maxRecDepth 100000 in
set_option maxHeartbeats 4000000 in
theorem clean_any (l : Bs) (w : World) (hl : l.length ≤ 1048576) : Calls Tryz.prog 108 #[.string (bs l)] w fun e w' => e = .returned (.tuple #[.string (bs (cleanR l).1), .bool (cleanR l).2]) ∧ Below w.heap.size w w' := by
  have p48 := call48
  have p43 := call43
  have p44 := call44
  have p45 := call45
  have p46 := call46
  have p47 := call47
  have p87 := call87
  obtain ⟨R, hR⟩ : ∃ R, cleanR l = R := ⟨_, rfl⟩
  rw [hR]
  have HR := Lib.hid hR
  have HL := Lib.hid hl
  clear hR hl
  go_enter Tryz.func108, Tryz.ntmps108
  go_upto_region 2 with fail
  have B0 := Lib.hid (bld_start w)
  go_loopg [0] l.length (fun n v0 wr => ∃ r d : Bs, n = r.length ∧ v0 = .string (bs r) ∧ d.length + 3 * r.length ≤ 3 * l.length ∧ cleanP l = (cleanP r).map (d ++ ·) ∧ Bld w d wr)
  case atStart => exact ⟨l, [], rfl, rfl, by simp, by cases cleanP l <;> rfl, B0.out⟩
  case round =>
    clear B0
    obtain ⟨r, d, hg, rfl, hlen, hdec, hb⟩ := hrel
    have G := Lib.hid hg
    have LN := Lib.hid hlen
    have DC := Lib.hid hdec
    have X := Lib.hid hb
    clear hg hlen hdec hb
    cases r with
    | nil =>
      have e0 : (bs []).toList.isEmpty = true := by rw [Lib.toList_data, bs_list]; rfl
      have HV := Lib.hid (show R = (d, true) by
        rw [← HR.out]
        unfold cleanR
        rw [DC.out]
        show (d ++ [], true) = _
        rw [List.append_nil])
      go_wp2_with fail
      refine (Tryz.Builder_String_any w.heap.size w.heap.size _ _ X.out.1 X.out.2.size).mono ?_
      rintro e w3 ⟨rfl, h3⟩
      have H3 := Lib.hid (X.out.2.trans h3)
      clear h3
      go_wp2_with fail
      go_ret2
      exact ⟨by rw [HV.out]; rfl, H3.out⟩
    | cons c r =>
      have hS : (bs (c :: r)).toList.isEmpty = false := by rw [Lib.toList_data, bs_list]; rfl
      have HRD := Lib.hid (read_any c r wr)
      have HD := Lib.hid (clean_cons c r)
      have RL := Lib.hid (read_le c r)
      have HX := Lib.hid (bs_drop (c :: r) (readP (c :: r)).2)
      have HZ := Lib.hid (show (bs (c :: r)).size = r.length + 1 by rw [bs_size]; rfl)
      generalize readP (c :: r) = P at *
      obtain ⟨b, n⟩ := P
      simp only at HRD HD RL HX
      have HD2 := Lib.hid (show cleanP l = (if n = 0 then none else (cleanP ((c :: r).drop n)).map (clU (b, n) ++ ·)).map (d ++ ·) by rw [DC.out, HD.out])
      have hdl : ((c :: r).drop n).length = r.length + 1 - n := by rw [List.length_drop]; rfl
      have DL := Lib.hid hdl
      clear hdl HD DC
      have G2 := Lib.hid (show gk = r.length + 1 from G.out)
      have LN2 := Lib.hid (show d.length + 3 * (r.length + 1) ≤ 3 * l.length from LN.out)
      clear G LN
      generalize (c :: r).drop n = r2 at *
      generalize bs (c :: r) = S at *
      go_wp2_with fail
      refine HRD.out.mono ?_
      rintro e w2 ⟨rfl, hb2⟩
      have Y := Lib.hid (X.out.call hb2)
      clear hb2 X HRD
      by_cases hn : n = 0
      · subst hn
        have HV := Lib.hid (show R = ([], false) by
          rw [← HR.out]
          unfold cleanR
          rw [HD2.out, if_pos rfl]
          rfl)
        go_wp2_with fail
        go_ret2
        exact ⟨by rw [HV.out]; rfl, Y.out.2⟩
      · rw [if_neg hn] at HD2
        have hnb : ((n : Int) == 0) = false := by rw [beq_eq_false_iff_ne]; omega
        have hni : ¬ (n : Int) = 0 := by omega
        have hns : (n : Int) ≤ (S.size : Int) := by have := HZ.out; have := RL.out; omega
        have HDL := Lib.hid (show d.length + 3 ≤ 3145728 by have := LN2.out; have := HL.out; omega)
        have HN := Lib.hid (show 0 < n by omega)
        have HCU : Hid (clU (b, n) = if plainP b || (n == 1 && keptSet.contains b) then [b] else tri b) := Lib.hid rfl
        have HRL : Hid (∀ m : Bs, m.length ≤ 3 → (d ++ m).length + 3 * r2.length ≤ 3 * l.length) := Lib.hid (fun m hm => by
          rw [List.length_append, DL.out]
          have := LN2.out
          have := RL.out
          omega)
        have HCM := Lib.hid (show cleanP l = (cleanP r2).map ((d ++ clU (b, n)) ++ ·) by rw [HD2.out]; cases cleanP r2 <;> simp)
        have hG : r2.length < gk := by rw [G2.out, DL.out]; omega
        have HG := Lib.hid hG
        clear hn hG HD2 LN2 RL
        have HPL := Lib.hid (fun w => plain_any b w)
        have HIN := Lib.hid (fun w => in_any b keptSet w)
        go_wp2_with fail
        refine (HPL.out _).mono ?_
        rintro e w' ⟨rfl, rfl⟩
        generalize clU (b, n) = CU at *
        generalize plainP b = PB at *
        generalize List.contains keptSet b = KB at *
        cases PB with
        | true =>
          have hcu := Lib.hid (show CU = [b] by rw [HCU.out]; rfl)
          go_wp2_with fail
          refine (wbyte_any w.heap.size w.heap.size _ _ _ Y.out.1 (by rw [Lib.byteCells_length]; have := HDL.out; omega) Y.out.2.size).mono ?_
          rintro e w4 ⟨rfl, h1, h2⟩
          have Z := Lib.hid (bld_put (m := [b]) Y.out.2 (by rw [Lib.byteCells_append]; rfl) h1 h2)
          clear h1 h2
          go_wp2_with fail
          go_roundg r2.length
          case measure => exact HG.out
          case rel => exact ⟨r2, d ++ CU, rfl, by rw [← HX.out], HRL.out _ (by rw [hcu.out]; simp), HCM.out, by rw [hcu.out]; exact Z.out⟩
        | false =>
          by_cases hn1 : n = 1
          · subst hn1
            have hb1 : (((1 : Nat) : Int) == 1) = true := rfl
            go_wp2_with fail
            refine (HIN.out _).mono ?_
            rintro e w' ⟨rfl, rfl⟩
            cases KB with
            | true =>
              have hcu := Lib.hid (show CU = [b] by rw [HCU.out]; rfl)
              go_wp2_with fail
              refine (wbyte_any w.heap.size w.heap.size _ _ _ Y.out.1 (by rw [Lib.byteCells_length]; have := HDL.out; omega) Y.out.2.size).mono ?_
              rintro e w4 ⟨rfl, h1, h2⟩
              have Z := Lib.hid (bld_put (m := [b]) Y.out.2 (by rw [Lib.byteCells_append]; rfl) h1 h2)
              clear h1 h2
              go_wp2_with fail
              go_roundg r2.length
              case measure => exact HG.out
              case rel => exact ⟨r2, d ++ CU, rfl, by rw [← HX.out], HRL.out _ (by rw [hcu.out]; simp), HCM.out, by rw [hcu.out]; exact Z.out⟩
            | false =>
              have hcu := Lib.hid (show CU = tri b by rw [HCU.out]; rfl)
              go_wp2_with fail
              refine (triple_any b _).mono ?_
              rintro e w4 ⟨rfl, hb4⟩
              have Y4 := Lib.hid (Y.out.call hb4)
              clear hb4
              go_wp2_with fail
              refine (wstring_any w.heap.size w.heap.size _ _ _ Y4.out.1 (by rw [Lib.byteCells_length, bs_size, tri_len]; have := HDL.out; omega) Y4.out.2.size).mono ?_
              rintro e w5 ⟨rfl, h1, h2⟩
              have Z := Lib.hid (bld_put (m := tri b) Y4.out.2 (by rw [Lib.byteCells_append]; rfl) h1 h2)
              clear h1 h2
              go_wp2_with fail
              go_roundg r2.length
              case measure => exact HG.out
              case rel => exact ⟨r2, d ++ CU, rfl, by rw [← HX.out], HRL.out _ (by rw [hcu.out, tri_len]; omega), HCM.out, by rw [hcu.out]; exact Z.out⟩
          · have hb1 : ((n : Int) == 1) = false := by rw [beq_eq_false_iff_ne]; omega
            have hi1 : ¬ (n : Int) = 1 := by omega
            have hn2 := Lib.hid (show (n == 1) = false by simpa using hn1)
            clear hn1
            have hcu := Lib.hid (show CU = tri b by rw [HCU.out]; rw [hn2.out]; rfl)
            go_wp2_with fail
            refine (triple_any b _).mono ?_
            rintro e w4 ⟨rfl, hb4⟩
            have Y4 := Lib.hid (Y.out.call hb4)
            clear hb4
            go_wp2_with fail
            refine (wstring_any w.heap.size w.heap.size _ _ _ Y4.out.1 (by rw [Lib.byteCells_length, bs_size, tri_len]; have := HDL.out; omega) Y4.out.2.size).mono ?_
            rintro e w5 ⟨rfl, h1, h2⟩
            have Z := Lib.hid (bld_put (m := tri b) Y4.out.2 (by rw [Lib.byteCells_append]; rfl) h1 h2)
            clear h1 h2
            go_wp2_with fail
            go_roundg r2.length
            case measure => exact HG.out
            case rel => exact ⟨r2, d ++ CU, rfl, by rw [← HX.out], HRL.out _ (by rw [hcu.out, tri_len]; omega), HCM.out, by rw [hcu.out]; exact Z.out⟩
end Go.Proofs.YtjcejijdeohkgaaGreatDoor
/- W8. -/
namespace Go.Proofs.YtjcejijdeohkgaaGreatDoor
open Go.RowKit

theorem call94 (args : Array Value) (w : World) : Sem.run Tryz.prog (callFunc 94 args) w = .ok (.enter 94 args) w := by go_simp
def schR (l : Bs) : Bs × Bs × Bool := match schP l with
  | some (a, b) => (a, b, true)
  | none => ([], [], false)
theorem schK_cons (k : Nat) (c : UInt8) (r : Bs) : schK k (c :: r) = if c = 58 ∧ 0 < k then some k else if letP c = false ∧ (k = 0 ∨ schSet.contains c = false) then none else schK (k + 1) r := by
  rw [schK]
theorem bs_take (l : Bs) (n : Nat) : (bs l).extract 0 n = bs (l.take n) := by
  have h : ((bs l).extract 0 n).data.toList = l.take n := by simp [bs]
  rw [← h, bs_of]
set_option maxRecDepth 100000 in
set_option maxHeartbeats 4000000 in
theorem scheme_any (l : Bs) (w : World) (hT : TB w) (hl : l.length ≤ 1048576) : Calls Tryz.prog 56 #[.string (bs l)] w fun e w' => e = .returned (.tuple #[.string (bs (schR l).1), .string (bs (schR l).2.1), .bool (schR l).2.2]) ∧ Below w.heap.size w w' := by
  have p94 := call94
  have p86 := call86
  have p87 := call87
  have HTB := Lib.hid hT
  obtain ⟨R, hR⟩ : ∃ R, schR l = R := ⟨_, rfl⟩
  rw [hR]
  have HR := Lib.hid hR
  have HG : Hid (∀ i (h1 : i < l.length) (h : i < (bs l).size), (bs l)[i]'h = l[i]'h1) := Lib.hid (fun i _ h => bs_get l i h)
  have hsz : (bs l).size = l.length := bs_size l
  have HX := Lib.hid (fun n => bs_drop l n)
  have HY := Lib.hid (fun n => bs_take l n)
  generalize bs l = S at *
  have HL := Lib.hid hl
  have HZ := Lib.hid hsz
  have hli : (l.length : Int) ≤ 1048576 := by omega
  clear hl hsz hR hT
  go_enter Tryz.func56, Tryz.ntmps56
  go_wp2_with fail
  rw [HZ.out]
  go_loopg [9] l.length (fun n vk wr => ∃ k : Nat, n = l.length - k ∧ k ≤ l.length ∧ vk = .int .i64 (k : Int) ∧ schK 0 l = schK k (l.drop k) ∧ Below w.heap.size w wr)
  case atStart => exact ⟨0, rfl, Nat.zero_le _, rfl, rfl, Below.refl _ _⟩
  case round =>
    obtain ⟨k, hg, hk, rfl, hsk, hb⟩ := hrel
    have G := Lib.hid hg
    have SK := Lib.hid hsk
    have X := Lib.hid hb
    clear hg hsk hb
    by_cases hlt : k < l.length
    · have hki : (k : Int) < (l.length : Int) := by omega
      have h0 : k < S.size := by have := HZ.out; omega
      have hkz : (k : Int) < (S.size : Int) := by omega
      have gk' : S[k]'h0 = l[k] := HG.out k hlt h0
      have SK2 := Lib.hid (show schK 0 l = schK k (l[k] :: l.drop (k + 1)) by rw [SK.out, List.drop_eq_getElem_cons hlt])
      rw [schK_cons] at SK2
      generalize l[k] = c at *
      clear SK
      have HLT := Lib.hid (fun w => letter_any c w)
      have HIN := Lib.hid (fun w => in_any c schSet w)
      by_cases h58 : c = 58
      · subst h58
        have e58 : (((58 : UInt8).toNat : Int)) = 58 := rfl
        have l58 := Lib.hid (show letP 58 = false from rfl)
        rw [l58.out] at HLT
        by_cases hk0 : 0 < k
        · have hk1 : (0 : Int) < (k : Int) := by omega
          rw [if_pos ⟨rfl, hk0⟩] at SK2
          have HV := Lib.hid (show R = (smallP (l.take k), l.drop (k + 1), true) by
            rw [← HR.out]
            unfold schR schP
            rw [SK2.out]
            rfl)
          have HSM := Lib.hid (fun (w9 : World) (hb : Below wr.heap.size wr w9) => small_any (l.take k) w9 ((HTB.out.below X.out).below hb) (by rw [List.length_take]; have := HL.out; omega))
          rw [← HY.out k] at HSM
          have hk2 : (k : Int) + 1 ≤ (S.size : Int) := by omega
          have hk3 : k ≤ S.size := by omega
          have hk4 : k + 1 ≤ S.size := by omega
          have hk5 : (0 : Int) ≤ (k : Int) + 1 := by omega
          have hw1 : IntKind.i64.wrap ((k : Int) + 1) = (k : Int) + 1 := by rw [IntKind.wrap_i64]; omega
          clear SK2 HLT HIN hk0
          go_upto_region 6 with fail
          go_region_law (first | (go_simp; go_at_call 94; refine (HSM.out _ (by first | exact Below.refl _ _ | exact below_drew (Below.refl _ _))).mono ?_; rintro e w25 ⟨rfl, hb⟩; have CB := Lib.hid (Below.trans (show Below wr.heap.size wr _ from by first | exact Below.refl _ _ | exact below_drew (Below.refl _ _)) (Below.le hb (Nat.le_refl _))); clear hb))
          all_goals
            go_wp2_with fail
            refine bodyPost_ret (v := .tuple #[.string (bs (smallP (l.take k))), .string (S.extract (k + 1) S.size), .bool true]) (by simp [results, Tryz.results56, go_sem]) rfl ?_
            rw [HV.out, HX.out]
            exact ⟨rfl, X.out.trans (Below.le (by first | exact CB.out | exact below_drew CB.out | exact below_drewN CB.out _) X.out.size)⟩
        · have hk0' : k = 0 := by omega
          subst hk0'
          rw [if_neg (by simp), if_pos ⟨l58.out, .inl rfl⟩] at SK2
          have HV := Lib.hid (show R = ([], [], false) by
            rw [← HR.out]
            unfold schR schP
            rw [SK2.out]
            rfl)
          clear SK2 hk0
          go_wp2_with fail
          refine (HLT.out _).mono ?_
          rintro e w' ⟨rfl, rfl⟩
          go_wp2_with fail
          refine bodyPost_ret (v := .tuple #[.string ⟨#[]⟩, .string ⟨#[]⟩, .bool false]) (by simp [results, Tryz.results56, go_sem]) rfl ?_
          rw [HV.out]
          exact ⟨rfl, X.out⟩
      · have hcb : ((c.toNat : Int) == 58) = false := by
          rw [beq_eq_false_iff_ne]
          intro e
          apply h58
          rw [← UInt8.toNat_inj]
          show c.toNat = 58
          omega
        have hci : ¬ (c.toNat : Int) = 58 := by simpa using hcb
        rw [if_neg (fun e => h58 e.1)] at SK2
        clear h58
        go_wp2_with fail
        refine (HLT.out _).mono ?_
        rintro e w' ⟨rfl, rfl⟩
        generalize letP c = LP at *
        cases LP with
        | true =>
          rw [if_neg (by simp)] at SK2
          go_wp2_with fail
          go_roundg (l.length - (k + 1))
          case measure => rw [G.out]; omega
          case rel => exact ⟨k + 1, rfl, by omega, by simp, SK2.out, X.out⟩
        | false =>
          by_cases hk0 : k = 0
          · subst hk0
            rw [if_pos ⟨rfl, .inl rfl⟩] at SK2
            have HV := Lib.hid (show R = ([], [], false) by
              rw [← HR.out]
              unfold schR schP
              rw [SK2.out]
              rfl)
            clear SK2
            go_wp2_with fail
            refine bodyPost_ret (v := .tuple #[.string ⟨#[]⟩, .string ⟨#[]⟩, .bool false]) (by simp [results, Tryz.results56, go_sem]) rfl ?_
            rw [HV.out]
            exact ⟨rfl, X.out⟩
          · have hkb : ((k : Int) == 0) = false := by rw [beq_eq_false_iff_ne]; omega
            have hkn : ¬ (k : Int) = 0 := by omega
            go_wp2_with fail
            refine (HIN.out _).mono ?_
            rintro e w' ⟨rfl, rfl⟩
            generalize List.contains schSet c = KB at *
            cases KB with
            | true =>
              rw [if_neg (by simp [hk0])] at SK2
              clear hk0
              go_wp2_with fail
              go_roundg (l.length - (k + 1))
              case measure => rw [G.out]; omega
              case rel => exact ⟨k + 1, rfl, by omega, by simp, SK2.out, X.out⟩
            | false =>
              rw [if_pos (by simp)] at SK2
              have HV := Lib.hid (show R = ([], [], false) by
                rw [← HR.out]
                unfold schR schP
                rw [SK2.out]
                rfl)
              clear SK2 hk0
              go_wp2_with fail
              refine bodyPost_ret (v := .tuple #[.string ⟨#[]⟩, .string ⟨#[]⟩, .bool false]) (by simp [results, Tryz.results56, go_sem]) rfl ?_
              rw [HV.out]
              exact ⟨rfl, X.out⟩
    · have hke : k = l.length := by omega
      have hnl : ¬ ((k : Int) < (l.length : Int)) := by omega
      have HV := Lib.hid (show R = ([], [], false) by
        rw [← HR.out]
        unfold schR schP
        rw [SK.out, hke, List.drop_length]
        rfl)
      clear hke hlt SK
      go_wp2_with fail
      refine bodyPost_ret (v := .tuple #[.string ⟨#[]⟩, .string ⟨#[]⟩, .bool false]) (by simp [results, Tryz.results56, go_sem]) rfl ?_
      rw [HV.out]
      exact ⟨rfl, X.out⟩
end Go.Proofs.YtjcejijdeohkgaaGreatDoor
/- W9. -/
namespace Go.Proofs.YtjcejijdeohkgaaGreatDoor
open Go.RowKit

theorem ib_cut {l : Bs} {c : UInt8} {o : Nat} (h : Lib.indexByte l c = o) : o < l.length ∧ frontC c l = l.take o ∧ backC c l = l.drop (o + 1) ∧ l.contains c = true := by
  obtain ⟨h1, h2⟩ := Lib.indexByte_some h
  have hl : o < l.length := by
    rcases Nat.lt_or_ge o l.length with h3 | h3
    · exact h3
    · rw [List.getElem?_eq_none h3] at h1; cases h1
  have e : l = l.take o ++ c :: l.drop (o + 1) := by
    have e1 := (List.take_append_drop o l).symm
    rw [List.drop_eq_getElem_cons hl] at e1
    rw [List.getElem?_eq_getElem hl] at h1
    rw [Option.some.inj h1] at e1
    exact e1
  have hn : c ∉ l.take o := by
    intro hm
    obtain ⟨k, hk, e2⟩ := List.mem_iff_getElem.1 hm
    rw [List.length_take] at hk
    refine h2 k (by omega) ?_
    rw [← e2, List.getElem_take, List.getElem?_eq_getElem]
  obtain ⟨f1, f2⟩ := front_cut (l.drop (o + 1)) hn
  rw [← e] at f1 f2
  exact ⟨hl, f1, f2, by simpa using List.mem_of_getElem? h1⟩
theorem ib_none {l : Bs} {c : UInt8} (h : Lib.indexByte l c = -1) : frontC c l = l ∧ backC c l = [] ∧ l.contains c = false := by
  have hn : c ∉ l := by
    intro hm
    obtain ⟨k, hk, e⟩ := List.mem_iff_getElem.1 hm
    exact Lib.indexByte_none h k (by rw [List.getElem?_eq_getElem hk, e])
  obtain ⟨f1, f2⟩ := front_not hn
  exact ⟨f1, f2, by simpa using hn⟩
theorem call61 (args : Array Value) (w : World) : Sem.run Tryz.prog (callFunc 61 args) w = .ok (.enter 61 args) w := by go_simp
theorem call101 (args : Array Value) (w : World) : Sem.run Tryz.prog (callFunc 101 args) w = .ok (.enter 101 args) w := by go_simp
set_option maxRecDepth 100000 in
set_option maxHeartbeats 4000000 in
theorem cut1_any (c : UInt8) (l : Bs) (w : World) (hl : l.length < 9223372036854775807) : Calls Tryz.prog 61 #[.string (bs l), .string ⟨#[c]⟩] w fun e w' => e = .returned (.tuple #[.string (bs (frontC c l)), .string (bs (backC c l)), .bool (l.contains c)]) ∧ ∃ q, w' = w.drewN q := by
  have p101 := call101
  have HI := Lib.hid (Tryz.stringslite_Index_one (bs l) c w)
  rw [bs_list] at HI
  have hsz : (bs l).size = l.length := bs_size l
  have HX := Lib.hid (fun n => bs_drop l n)
  have HY := Lib.hid (fun n => bs_take l n)
  have hge := Lib.indexByte_ge l c
  rcases Int.lt_or_le (Lib.indexByte l c) 0 with h0 | h0
  · have e : Lib.indexByte l c = -1 := by omega
    obtain ⟨f1, f2, f3⟩ := ib_none e
    rw [e] at HI
    rw [f1, f2, f3]
    clear h0 e f1 f2 f3 hge
    generalize bs l = S at *
    go_enter Tryz.func61, Tryz.ntmps61
    go_wp2_with fail
    refine HI.out.mono ?_
    rintro e w' ⟨rfl, rfl⟩
    go_wp2_with fail
    refine bodyPost_ret (v := .tuple #[.string S, .string ⟨#[]⟩, .bool false]) (by simp [results, Tryz.results61, go_sem]) rfl ?_
    exact ⟨rfl, 0, rfl⟩
  · obtain ⟨o, ho⟩ : ∃ o : Nat, Lib.indexByte l c = o := ⟨(Lib.indexByte l c).toNat, by omega⟩
    obtain ⟨f0, f1, f2, f3⟩ := ib_cut ho
    rw [ho] at HI
    rw [f1, f2, f3, ← HX.out, ← HY.out]
    have h1 : o ≤ (bs l).size := by omega
    have h2 : o + 1 ≤ (bs l).size := by omega
    have h3 : (0 : Int) ≤ (o : Int) + 1 := by omega
    have h4 : (o : Int) + 1 ≤ ((bs l).size : Int) := by omega
    have hw1 : IntKind.i64.wrap ((o : Int) + 1) = (o : Int) + 1 := by rw [IntKind.wrap_i64]; omega
    have hz : (⟨#[c]⟩ : ByteArray).size = 1 := rfl
    clear h0 ho f0 f1 f2 f3 hge HX HY hsz hl
    generalize bs l = S at *
    go_enter Tryz.func61, Tryz.ntmps61
    go_wp2_with fail
    refine HI.out.mono ?_
    rintro e w' ⟨rfl, rfl⟩
    go_wp2_with fail
    go_quiet (fail)
    all_goals
      go_wp2_with fail
      refine bodyPost_ret (v := .tuple #[.string (S.extract 0 o), .string (S.extract (o + 1) S.size), .bool true]) (by simp [results, Tryz.results61, go_sem]) rfl ?_
      exact ⟨rfl, _, rfl⟩
set_option maxHeartbeats 1000000 in
theorem cut_any (c : UInt8) (l : Bs) (w : World) (hl : l.length < 9223372036854775807) : Calls Tryz.prog 24 #[.string (bs l), .string ⟨#[c]⟩] w fun e w' => e = .returned (.tuple #[.string (bs (frontC c l)), .string (bs (backC c l)), .bool (l.contains c)]) ∧ ∃ q, w' = w.drewN q := by
  have p61 := call61
  have HC := Lib.hid (cut1_any c l w hl)
  generalize List.contains l c = K at *
  go_enter Tryz.func24, Tryz.ntmps24
  go_wp2_with fail
  refine HC.out.mono ?_
  rintro e w' ⟨rfl, q, rfl⟩
  go_wp2_with fail
  refine bodyPost_ret (v := .tuple #[.string (bs (frontC c l)), .string (bs (backC c l)), .bool K]) (by simp [results, Tryz.results24, go_sem]) rfl ?_
  exact ⟨rfl, q, rfl⟩
end Go.Proofs.YtjcejijdeohkgaaGreatDoor
/- W10. -/
namespace Go.Proofs.YtjcejijdeohkgaaGreatDoor
open Go.RowKit

theorem trim_any (l cs : Bs) (w : World) (hl : l.length ≤ 9223372036854775807) (hc : cs.length < 4294967281) (ha : ∀ b ∈ cs, b.toNat < 128) : Calls Tryz.prog 18 #[.string (bs l), .string (bs cs)] w fun e w' => e = .returned (.string (bs (Lib.trimS l cs))) ∧ Below w.heap.size w w' := by
  have h := Any.strings_Trim_ascii Tryz.lays160 (fun w => by kernel_rfl) (by kernel_rfl) (bs l) (bs cs) w (by rw [bs_size]; exact hl) (by rw [bs_size]; exact hc) (fun j b hb => ha b (by rw [bs_list] at hb; exact List.mem_of_getElem? hb))
  rw [bs_list, bs_list] at h
  exact h
theorem split_eq (c : UInt8) : ∀ (n : Nat) (l : Bs), l.length ≤ n → Lib.splitB ⟨#[c]⟩ 0 (Lib.countB (bs l) ⟨#[c]⟩) (bs l) = (splitC c l).map bs
  | n, l, hn => by
    have hi : Lib.indexB (bs l) ⟨#[c]⟩ = Lib.indexByte l c := by
      have := Lib.index_one l c
      unfold Lib.indexB
      rw [bs_list]
      exact this
    have hge := Lib.indexByte_ge l c
    rcases Int.lt_or_le (Lib.indexByte l c) 0 with h0 | h0
    · have e : Lib.indexByte l c = -1 := by omega
      rw [Lib.countB_miss _ _ (by rw [hi, e]), Lib.splitB_zero]
      have hn : c ∉ l := by
        have := (ib_none e).2.2
        simpa using this
      rw [splitC_not hn]
      rfl
    · obtain ⟨o, ho⟩ : ∃ o : Nat, Lib.indexByte l c = o := ⟨(Lib.indexByte l c).toNat, by omega⟩
      obtain ⟨f0, f1, f2, _⟩ := ib_cut ho
      have hc := Lib.countB_hit (bs l) ⟨#[c]⟩ o (Nat.le_refl 1) (by rw [hi, ho])
      rw [hc, Nat.add_comm, Lib.splitB_hit _ _ _ _ o (by rw [hi, ho])]
      have e1 : (bs l).extract (o + (⟨#[c]⟩ : ByteArray).size) (bs l).size = bs (l.drop (o + 1)) := bs_drop l (o + 1)
      have e2 : (bs l).extract 0 (o + 0) = bs (l.take o) := bs_take l o
      rw [e1, e2]
      match n, hn with
      | 0, hn => omega
      | n + 1, hn =>
        rw [split_eq c n (l.drop (o + 1)) (by rw [List.length_drop]; omega)]
        have e3 : l = l.take o ++ c :: l.drop (o + 1) := by
          have e1 := (List.take_append_drop o l).symm
          rw [List.drop_eq_getElem_cons f0] at e1
          have h1 := (Lib.indexByte_some ho).1
          rw [List.getElem?_eq_getElem f0] at h1
          rw [Option.some.inj h1] at e1
          exact e1
        have hnm : c ∉ l.take o := by
          rw [← f1]
          exact front_free c l
        have e4 := splitC_cut (l.drop (o + 1)) hnm
        rw [← e3] at e4
        rw [e4]
        rfl
def StrB (w : World) (b x : Nat) (s : Bs) : Prop := w.cell? ⟨b, x, none⟩ = some (.string (bs s))
theorem split_any (c : UInt8) (l : Bs) (w : World) (hT : TB w) (hl : l.length ≤ 1048576) : Calls Tryz.prog 109 #[.string (bs l), .string ⟨#[c]⟩] w fun e w' => ∃ a cp, e = .returned (.slice a (splitC c l).length cp) ∧ SlR w' StrB 1 (.slice a (splitC c l).length cp) (splitC c l) ∧ Below w.heap.size w w' ∧ (splitC c l).length ≤ l.length + 1 := by
  obtain ⟨m, hm⟩ := hT.m
  have he := split_eq c l.length l (Nat.le_refl _)
  have hlen : (splitC c l).length = Lib.countB (bs l) ⟨#[c]⟩ + 1 := by
    have := congrArg List.length he
    rw [Lib.splitB_all ⟨#[c]⟩ (Nat.le_refl 1) 0 _ _ rfl, List.length_map] at this
    exact this.symm
  have hle := Lib.countB_le ⟨#[c]⟩ (Nat.le_refl 1) (bs l).size (bs l) (Nat.le_refl _)
  rw [bs_size] at hle
  refine (Tryz.strings_Split (bs l) ⟨#[c]⟩ m w (by rw [bs_size]; omega) hm (Nat.le_refl 1)).mono ?_
  rintro e w' ⟨rfl, rfl⟩
  rw [he, ← hlen]
  refine ⟨_, _, rfl, ?_, (Below.refl _ _).alloc (Nat.le_refl _) _, by omega⟩
  refine ⟨_, _, rfl, Nat.le_refl _, by unfold maxLen; omega, fun _ => ⟨w.heap.size, 0, rfl, fun k hk => ?_⟩⟩
  show World.cell? _ ⟨w.heap.size, 0 + k * 1, none⟩ = _
  rw [Nat.zero_add, Nat.mul_one]
  refine (Lib.cell_of_heap (alloc_at rfl _) _).trans ?_
  simp [hk]
end Go.Proofs.YtjcejijdeohkgaaGreatDoor
/- W11. -/
namespace Go.Proofs.YtjcejijdeohkgaaGreatDoor
open Go.RowKit

theorem call109 (args : Array Value) (w : World) : Sem.run Tryz.prog (callFunc 109 args) w = .ok (.enter 109 args) w := by go_simp
theorem call18 (args : Array Value) (w : World) : Sem.run Tryz.prog (callFunc 18 args) w = .ok (.enter 18 args) w := by go_simp
theorem call105 (args : Array Value) (w : World) : Sem.run Tryz.prog (callFunc 105 args) w = .ok (.enter 105 args) w := by go_simp
def pieceP (p : Bs) : Bool := !p.isEmpty && (Lib.trimS p hostSet).isEmpty
theorem splitC_len (c : UInt8) : ∀ (l p : Bs), p ∈ splitC c l → p.length ≤ l.length
  | [], p, h => by
    simp [splitC] at h
    subst h
    simp
  | b :: r, p, h => by
    unfold splitC at h
    split at h
    · rcases List.mem_cons.1 h with rfl | h
      · simp
      · have := splitC_len c r p h
        simp only [List.length_cons]
        omega
    · split at h
      · rw [List.mem_singleton] at h
        subst h
        simp
      · rename_i q ps hq
        rcases List.mem_cons.1 h with rfl | h
        · have := splitC_len c r q (by rw [hq]; simp)
          simp only [List.length_cons]
          omega
        · have := splitC_len c r p (by rw [hq]; exact List.mem_cons_of_mem _ h)
          simp only [List.length_cons]
          omega
set_option maxRecDepth 100000 in
set_option maxHeartbeats 4000000 in
theorem host_any (l : Bs) (w : World) (hT : TB w) (hl : l.length ≤ 1048576) : Calls Tryz.prog 105 #[.string (bs l)] w fun e w' => e = .returned (.bool (hostP l)) ∧ Below w.heap.size w w' := by
  have p109 := call109
  have p18 := call18
  obtain ⟨R, hR⟩ : ∃ R, hostP l = R := ⟨_, rfl⟩
  rw [hR]
  have HR := Lib.hid hR
  have HSP := Lib.hid (split_any 46 l w hT hl)
  have HLE := Lib.hid (splitC_len 46 l)
  have hsz : (bs l).size = l.length := bs_size l
  have HL := Lib.hid hl
  clear hR hT hl
  by_cases h100 : l.length ≤ 100
  · have HV := Lib.hid (show R = (splitC 46 l).all pieceP by
      rw [← HR.out]
      unfold hostP
      rw [decide_eq_true h100, Bool.true_and]
      rfl)
    have hsi : ¬ (100 : Int) < ((bs l).size : Int) := by omega
    generalize bs l = S at *
    clear HR hsz h100
    generalize splitC 46 l = P at *
    go_enter Tryz.func105, Tryz.ntmps105
    go_wp2_with fail
    refine HSP.out.mono ?_
    rintro e w2 ⟨a, cp, rfl, hs, hb, hn⟩
    have SP := Lib.hid hs
    have X := Lib.hid hb
    have PN := Lib.hid hn
    have hpi : (P.length : Int) ≤ 1048577 := by have := HL.out; omega
    obtain ⟨s1, s2, s3⟩ := SlR.cap hs
    clear hs hb hn HSP
    go_wp2_with fail
    go_loopg [11] P.length (fun n vk wr => ∃ k : Nat, n = P.length - k ∧ k ≤ P.length ∧ vk = .int .i64 (k : Int) ∧ (P.take k).all pieceP = true ∧ Below w2.heap.size w2 wr)
    case atStart => exact ⟨0, rfl, Nat.zero_le _, rfl, rfl, Below.refl _ _⟩
    case round =>
      obtain ⟨k, hg, hk, rfl, hall, hb⟩ := hrel
      have G := Lib.hid hg
      have ALL := Lib.hid hall
      have Y := Lib.hid hb
      have Z := Lib.hid (X.out.trans (Below.le hb X.out.size))
      clear hg hall hb
      by_cases hlt : k < P.length
      · have hki : (k : Int) < (P.length : Int) := by omega
        obtain ⟨b, o, rfl, hi⟩ := SP.out.item k hlt
        have x0 : wr.cell? ⟨b, o + k, none⟩ = some (.string (bs P[k])) := by have := kc Y.out hi; rwa [Nat.mul_one] at this
        have HA := Lib.hid (show (P.take (k + 1)).all pieceP = pieceP P[k] by
          rw [List.take_add_one, List.getElem?_eq_getElem hlt, List.all_append, ALL.out]
          simp)
        have HB : Hid (pieceP P[k] = false → R = false) := Lib.hid (fun h => by
          rw [HV.out, List.all_eq_false]
          exact ⟨P[k], List.getElem_mem hlt, by rw [h]; simp⟩)
        have HPL := Lib.hid (HLE.out P[k] (List.getElem_mem hlt))
        clear hi
        generalize P[k] = p at *
        have HE : Hid ((bs p).toList = p) := Lib.hid (by rw [Lib.toList_data, bs_list])
        have HTR := Lib.hid (trim_any p hostSet wr (by have := HPL.out; have := HL.out; omega) (by decide) (by decide))
        cases hp : p.isEmpty with
        | true =>
          have e1 : (bs p).toList.isEmpty = true := by rw [HE.out, hp]
          have hr := HB.out (by unfold pieceP; rw [hp]; rfl)
          subst hr
          generalize bs p = S2 at *
          clear hp HA HB HV
          go_wp2_with fail
          go_ret
          exact ⟨rfl, Z.out⟩
        | false =>
          have e1 : (bs p).toList.isEmpty = false := by rw [HE.out, hp]
          have HA2 := Lib.hid (show (P.take (k + 1)).all pieceP = (Lib.trimS p hostSet).isEmpty by rw [HA.out]; unfold pieceP; rw [hp]; rfl)
          have HB2 : Hid ((Lib.trimS p hostSet).isEmpty = false → R = false) := Lib.hid (fun h => HB.out (by unfold pieceP; rw [hp, h]; rfl))
          clear HA HB
          generalize Lib.trimS p hostSet = T at *
          have HE2 : Hid ((bs T).toList = T) := Lib.hid (by rw [Lib.toList_data, bs_list])
          generalize bs p = S2 at *
          go_wp2_with fail
          refine HTR.out.mono ?_
          rintro e w5 ⟨rfl, hb5⟩
          have Y5 := Lib.hid (Y.out.trans (Below.le hb5 Y.out.size))
          have Z5 := Lib.hid (Z.out.trans (Below.le hb5 Z.out.size))
          clear hb5 HTR
          cases ht : T.isEmpty with
          | true =>
            have e2 : (bs T).toList.isEmpty = true := by rw [HE2.out, ht]
            rw [ht] at HA2
            generalize bs T = S3 at *
            clear ht
            go_wp2_with fail
            go_roundg (P.length - (k + 1))
            case measure => rw [G.out]; omega
            case rel => exact ⟨k + 1, rfl, by omega, by simp, HA2.out, Y5.out⟩
          | false =>
            have e2 : (bs T).toList.isEmpty = false := by rw [HE2.out, ht]
            have hr := HB2.out ht
            subst hr
            generalize bs T = S3 at *
            clear ht
            go_wp2_with fail
            go_ret
            exact ⟨rfl, Z5.out⟩
      · have hke : k = P.length := by omega
        have hnl : ¬ ((k : Int) < (P.length : Int)) := by omega
        have hr : R = true := by
          rw [HV.out]
          have := ALL.out
          rwa [hke, List.take_length] at this
        subst hr
        clear hke hlt
        go_wp2_with fail
        go_ret
        exact ⟨rfl, Z.out⟩
  · have hr : R = false := by
      rw [← HR.out]
      unfold hostP
      rw [decide_eq_false h100]
      rfl
    subst hr
    have hsi : (100 : Int) < ((bs l).size : Int) := by omega
    generalize bs l = S at *
    clear hsz h100
    go_enter Tryz.func105, Tryz.ntmps105
    go_wp2_with fail
    go_ret
    exact ⟨rfl, Below.refl _ _⟩
end Go.Proofs.YtjcejijdeohkgaaGreatDoor
/- W12. -/
namespace Go.Proofs.YtjcejijdeohkgaaGreatDoor
open Go.RowKit

theorem call16 (args : Array Value) (w : World) : Sem.run Tryz.prog (callFunc 16 args) w = .ok (.enter 16 args) w := by go_simp
def sB (p : Bs) : Value := .string (bs p)
theorem str_info : (Tryz.prog.info? 9).map (fun i => (i.zero, i.size, i.bytes)) = some (some (.string ⟨#[]⟩), 1, 16) := by kernel_rfl
theorem cell_str (w : World) (p : Bs) : ∀ j u, [sB p][j]? = some u → (w.alloc (.cells #[.string (bs p)] 9)).cell? ((⟨w.heap.size, 0, none⟩ : Addr).add j) = some u := cell_one_new w (sB p) 9
theorem one_str (p : Bs) : ∀ u ∈ [sB p], u.oneCell' = true := by
  intro u hu; rw [List.mem_singleton] at hu; subst hu; rfl
def segO (l : Bs) : List Bs × Bool := match segsP (splitC 47 l) with
  | some ds => (ds, true)
  | none => ([], false)
theorem segs_cons (p : Bs) (ps : List Bs) : segsP (p :: ps) = match decP p with
    | none => none
    | some d => (segsP ps).map (d :: ·) := by rw [segsP]; rfl
set_option maxRecDepth 100000 in
set_option maxHeartbeats 4000000 in
theorem segments_any (l : Bs) (w : World) (hT : TB w) (hl : l.length ≤ 1048576) : Calls Tryz.prog 68 #[.string (bs l)] w fun e w' => ∃ v, e = .returned (.tuple #[v, .bool (segO l).2]) ∧ w'.ownsRow w.heap.size 9 1 v (segO l).1.length ((segO l).1.map sB) ∧ Below w.heap.size w w' := by
  obtain ⟨i0, hi0, hz0, hz1, hz2⟩ := info_parts str_info
  have p109 := call109
  have p16 := call16
  obtain ⟨R, hR⟩ : ∃ R, segO l = R := ⟨_, rfl⟩
  rw [hR]
  have HR := Lib.hid (show (match segsP (splitC 47 l) with
    | some ds => (ds, true)
    | none => ([], false)) = R from hR)
  have HSP := Lib.hid (split_any 47 l w hT hl)
  have HLE := Lib.hid (splitC_len 47 l)
  have HL := Lib.hid hl
  clear hR hT hl
  generalize splitC 47 l = P at *
  go_enter Tryz.func68, Tryz.ntmps68
  go_wp2_with fail
  refine HSP.out.mono ?_
  rintro e w2 ⟨a, cp, rfl, hs, hb, hn⟩
  have SP := Lib.hid hs
  have X := Lib.hid hb
  have PN := Lib.hid hn
  have hpi : (P.length : Int) ≤ 1048577 := by have := HL.out; omega
  obtain ⟨s1, s2, s3⟩ := SlR.cap hs
  clear hs hb hn HSP
  go_wp2_with fail
  go_loopg [12, 4] P.length (fun n vk v4 wr => ∃ (k : Nat) (ds : List Bs), n = P.length - k ∧ k ≤ P.length ∧ vk = .int .i64 (k : Int) ∧ ds.length = k ∧ segsP P = (segsP (P.drop k)).map (ds ++ ·) ∧ wr.ownsRow w2.heap.size 9 1 v4 ds.length (ds.map sB) ∧ Below w2.heap.size w2 wr)
  case atStart => exact ⟨0, [], rfl, Nat.zero_le _, rfl, rfl, by rw [List.drop_zero]; cases segsP P <;> rfl, World.ownsRow_nil _ _ _ _, Below.refl _ _⟩
  case round =>
    obtain ⟨k, ds, hg, hk, rfl, hdl, hsg, hown, hb⟩ := hrel
    obtain ⟨ov, hov⟩ : ∃ v, v = u4 := ⟨_, rfl⟩
    subst hov
    have G := Lib.hid hg
    have DL := Lib.hid hdl
    have SG := Lib.hid hsg
    have O := Lib.hid hown
    have Y := Lib.hid hb
    have Z := Lib.hid (X.out.trans (Below.le hb X.out.size))
    clear hg hdl hsg hown hb
    by_cases hlt : k < P.length
    · have hki : (k : Int) < (P.length : Int) := by omega
      obtain ⟨b, o, rfl, hi⟩ := SP.out.item k hlt
      have x0 : wr.cell? ⟨b, o + k, none⟩ = some (.string (bs P[k])) := by have := kc Y.out hi; rwa [Nat.mul_one] at this
      have SG2 := Lib.hid (show segsP P = (segsP (P[k] :: P.drop (k + 1))).map (ds ++ ·) by rw [SG.out, List.drop_eq_getElem_cons hlt])
      rw [segs_cons] at SG2
      have HPL := Lib.hid (HLE.out P[k] (List.getElem_mem hlt))
      clear hi SG
      generalize P[k] = p at *
      have HDE := Lib.hid (decode_any p wr (by have := HPL.out; have := HL.out; omega))
      have HD : Hid (decR p = match decP p with
        | some d => (d, 0)
        | none => ([], 3)) := Lib.hid rfl
      generalize decR p = DR at *
      go_wp2_with fail
      refine HDE.out.mono ?_
      rintro e w4 ⟨rfl, hb4⟩
      have Y4 := Lib.hid (Y.out.trans (Below.le hb4 Y.out.size))
      have Z4 := Lib.hid (Z.out.trans (Below.le hb4 Z.out.size))
      have O4 := Lib.hid (own_below O.out hb4 (Nat.le_refl _))
      clear hb4 HDE Y Z O x0
      cases hdp : decP p with
      | none =>
        rw [hdp] at HD SG2
        have hdr := HD.out
        subst hdr
        have hr : R = ([], false) := by rw [← HR.out, SG2.out]; rfl
        subst hr
        clear hdp HD SG2 HR
        go_wp2_with fail
        go_ret2
        exact ⟨_, rfl, World.ownsRow_nil _ _ _ _, Z4.out⟩
      | some d =>
        rw [hdp] at HD SG2
        have hdr := HD.out
        subst hdr
        have HDL := Lib.hid (show ds.length + 1 ≤ 1048577 by have := DL.out; have := PN.out; have := HL.out; omega)
        have SG3 := Lib.hid (show segsP P = (segsP (P.drop (k + 1))).map ((ds ++ [d]) ++ ·) by
          rw [SG2.out]
          cases segsP (P.drop (k + 1)) <;> simp)
        clear hdp HD SG2
        go_wp2_with (at_builtin; refine wpList_append_own _ rfl _ _ 38 rfl w2.heap.size 9 i0 (.string ⟨#[]⟩) 1 16 Tryz.underlying38 hi0 hz0 hz1 hz2 rfl (by decide) _ _ _ rfl (O4.out.alloc _) ⟨_, 0, none⟩ 1 1 [sB d] rfl rfl (cell_str w4 d) (one_str d) (by have := HDL.out; unfold maxLen; omega) (by have := HDL.out; omega) (al_le Y4.out.size _) ?_)
        intro v' w5 hown' hgrow _
        have Y5 := Lib.hid ((Y4.out.alloc Y4.out.size (.cells #[.string (bs d)] 9)).grown hgrow (al_le Y4.out.size _) (fun k hk => (O4.out.lt k hk).1))
        have O5 : Hid (w5.ownsRow w2.heap.size 9 1 v' (ds ++ [d]).length ((ds ++ [d]).map sB)) := Lib.hid (by rw [List.length_append, List.map_append]; exact hown')
        clear hown' hgrow O4 Z4 Y4
        go_wp2_with fail
        go_roundg (P.length - (k + 1))
        case measure => rw [G.out]; omega
        case rel => exact ⟨k + 1, ds ++ [d], rfl, by omega, by simp, by rw [List.length_append, DL.out]; rfl, SG3.out, O5.out, Y5.out⟩
    · have hke : k = P.length := by omega
      have hnl : ¬ ((k : Int) < (P.length : Int)) := by omega
      have hr : R = (ds, true) := by
        rw [← HR.out, SG.out, hke, List.drop_length]
        show ((ds ++ [] : List Bs), true) = _
        rw [List.append_nil]
      subst hr
      clear hke hlt SG HR
      go_wp2_with fail
      go_ret2
      exact ⟨_, rfl, own_lower O.out X.out.size, Z.out⟩
end Go.Proofs.YtjcejijdeohkgaaGreatDoor
/- W13. -/
namespace Go.Proofs.YtjcejijdeohkgaaGreatDoor
open Go.RowKit

theorem own_blockB' {w : World} {B g e : Nat} {size n : Nat} {cur : Array Value} {xs : List Value} (h : w.heap[g]? = some (.cells cur e (0, 0))) (hB : B ≤ g) (hn : n ≤ maxLen) (hs : cur.size = n * size) (hx : cur.toList = xs) : w.ownsRow B e size (.slice (some ⟨g, 0, none⟩) n n) n xs := by
  subst hx
  exact ⟨by simpa using hs, .inr ⟨g, n, cur, rfl, hB, h, Nat.le_refl _, hn, hs, by rw [← hs]; exact List.take_of_length_le (by simp)⟩⟩
theorem own_cut {w : World} {B e g n cap : Nat} {xs : List Value} (h : w.ownsRow B e 1 (.slice (some ⟨g, 0, none⟩) (n + 1) cap) (n + 1) xs) : w.ownsRow B e 1 (.slice (some ⟨g, 0, none⟩) n cap) n (xs.take n) := by
  obtain ⟨h1, h2⟩ := h
  rcases h2 with ⟨e1, e2⟩ | ⟨g', cap', cur, e1, hB, hh, hc, hm, hs, ht⟩
  · cases e1
  · injection e1 with e1 e2 e3
    injection e1 with e1
    injection e1 with e1 _ _
    subst e1 e3
    refine ⟨by rw [List.length_take]; omega, .inr ⟨g, cap, cur, rfl, hB, hh, by omega, hm, hs, ?_⟩⟩
    rw [← ht, List.take_take]
    congr 1
    omega
theorem own_someS {w : World} {B e n : Nat} {v : Value} {xs : List Value} (h : w.ownsRow B e 1 v (n + 1) xs) : ∃ g cap, v = .slice (some ⟨g, 0, none⟩) (n + 1) cap ∧ n + 1 ≤ cap ∧ cap ≤ maxLen := by
  obtain ⟨h1, h2⟩ := h
  rcases h2 with ⟨e1, e2⟩ | ⟨g', cap', cur, e1, hB, hh, hc, hm, hs, ht⟩
  · omega
  · exact ⟨g', cap', e1, hc, hm⟩
theorem tidyF_cons (out : List Bs) (s : Bs) (r : List Bs) : tidyF out (s :: r) = if s = [46] ∨ s = [46, 46] then (if r = [] then tidyF ((if s = [46, 46] then out.dropLast else out) ++ [[]]) r else tidyF (if s = [46, 46] then out.dropLast else out) r) else tidyF (out ++ [s]) r := by
  rw [tidyF]
theorem tidyF_dot (out : List Bs) {s : Bs} (r : List Bs) (h : s = [46]) : tidyF out (s :: r) = if r = [] then tidyF (out ++ [[]]) r else tidyF out r := by
  subst h
  rw [tidyF_cons, if_pos (.inl rfl), if_neg (show ¬ (([46] : Bs) = [46, 46]) by decide)]
theorem tidyF_dots (out : List Bs) {s : Bs} (r : List Bs) (h : s = [46, 46]) : tidyF out (s :: r) = if r = [] then tidyF (out.dropLast ++ [[]]) r else tidyF out.dropLast r := by
  subst h
  rw [tidyF_cons, if_pos (.inr rfl), if_pos rfl]
theorem tidyF_word (out : List Bs) {s : Bs} (r : List Bs) (h : ¬ (s = [46] ∨ s = [46, 46])) : tidyF out (s :: r) = tidyF (out ++ [s]) r := by
  rw [tidyF_cons, if_neg h]
theorem tidyF_nil (out : List Bs) : tidyF out [] = out := by rw [tidyF]
theorem drop_last_map (ds : List Bs) (n : Nat) (h : ds.length = n + 1) : (ds.map sB).take n = ds.dropLast.map sB := by
  rw [List.dropLast_eq_take, ← List.map_take]
  congr 2
  omega
set_option maxRecDepth 100000 in
set_option maxHeartbeats 4000000 in
theorem tidy_any (a : Option Addr) (c : Nat) (l : List Bs) (w : World) (hs : SlR w StrB 1 (.slice a l.length c) l) (hl : l.length ≤ 2097152) : Calls Tryz.prog 70 #[.slice a l.length c] w fun e w' => ∃ v, e = .returned v ∧ w'.ownsRow w.heap.size 9 1 v (tidyP l).length ((tidyP l).map sB) ∧ Below w.heap.size w w' := by
  obtain ⟨i0, hi0, hz0, hz1, hz2⟩ := info_parts str_info
  have SP := Lib.hid hs
  obtain ⟨s1, s2, s3⟩ := SlR.cap hs
  have HL := Lib.hid hl
  have hli : (l.length : Int) ≤ 2097152 := by omega
  obtain ⟨R, hR⟩ : ∃ R, tidyP l = R := ⟨_, rfl⟩
  rw [hR]
  have HR := Lib.hid hR
  clear hs hl hR
  go_enter Tryz.func70, Tryz.ntmps70
  go_wp2_with fail
  go_loopg [8, 3] l.length (fun n vk v3 wr => ∃ (k : Nat) (out : List Bs), n = l.length - k ∧ k ≤ l.length ∧ vk = .int .i64 (k : Int) ∧ out.length ≤ k ∧ tidyF [] l = tidyF out (l.drop k) ∧ wr.ownsRow w.heap.size 9 1 v3 out.length (out.map sB) ∧ Below w.heap.size w wr)
  case atStart => exact ⟨0, [], rfl, Nat.zero_le _, rfl, Nat.le_refl _, rfl, World.ownsRow_nil _ _ _ _, Below.refl _ _⟩
  case round =>
    obtain ⟨k, out, hg, hk, rfl, hol, htf, hown, hb⟩ := hrel
    obtain ⟨ov, hov⟩ : ∃ v, v = u3 := ⟨_, rfl⟩
    subst hov
    have G := Lib.hid hg
    have OL := Lib.hid hol
    have TF := Lib.hid htf
    have O := Lib.hid hown
    have Y := Lib.hid hb
    clear hg hol htf hown hb
    by_cases hlt : k < l.length
    · have hki : (k : Int) < (l.length : Int) := by omega
      obtain ⟨b, o, rfl, hi⟩ := SP.out.item k hlt
      have x0 : wr.cell? ⟨b, o + k, none⟩ = some (.string (bs l[k])) := by have := kc Y.out hi; rwa [Nat.mul_one] at this
      have TF2 := Lib.hid (show tidyF [] l = tidyF out (l[k] :: l.drop (k + 1)) by rw [TF.out, List.drop_eq_getElem_cons hlt])
      have hdr := Lib.hid (show l.drop (k + 1) = [] ↔ k + 1 = l.length by rw [List.drop_eq_nil_iff]; omega)
      clear hi TF
      generalize l[k] = p at *
      have e0 : (bs p).toList = p := by rw [Lib.toList_data, bs_list]
      have HOL := Lib.hid (show out.length + 1 ≤ 2097152 by have := OL.out; have := HL.out; omega)
      cases h1 : (p == [46]) with
      | true =>
        have hp : p = [46] := eq_of_beq h1
        have h2 : (p == [46, 46]) = false := by rw [hp]; decide
        have hw1 : IntKind.i64.wrap ((l.length : Int) - 1) = (l.length : Int) - 1 := by rw [IntKind.wrap_i64]; omega
        rw [tidyF_dot out _ hp] at TF2
        clear hp
        by_cases hlast : k + 1 = l.length
        · have hkb : ((k : Int) == (l.length : Int) - 1) = true := by rw [beq_iff_eq]; omega
          rw [if_pos (hdr.out.2 hlast)] at TF2
          clear hlast
          go_wp2_with (at_builtin; refine wpList_append_own _ rfl _ _ 38 rfl w.heap.size 9 i0 (.string ⟨#[]⟩) 1 16 Tryz.underlying38 hi0 hz0 hz1 hz2 rfl (by decide) _ _ _ rfl (O.out.alloc _) ⟨_, 0, none⟩ 1 1 [sB []] rfl rfl (cell_str wr []) (one_str []) (by have := HOL.out; unfold maxLen; omega) (by have := HOL.out; omega) (al_le Y.out.size _) ?_)
          intro v' w5 hown' hgrow _
          have Y5 := Lib.hid ((Y.out.alloc Y.out.size (.cells #[.string (bs [])] 9)).grown hgrow (al_le Y.out.size _) (fun k hk => (O.out.lt k hk).1))
          have O5 : Hid (w5.ownsRow w.heap.size 9 1 v' (out ++ [[]]).length ((out ++ [[]]).map sB)) := Lib.hid (by rw [List.length_append, List.map_append]; exact hown')
          clear hown' hgrow O Y x0
          go_wp2_with fail
          go_roundg (l.length - (k + 1))
          case measure => rw [G.out]; omega
          case rel => exact ⟨k + 1, out ++ [[]], rfl, by omega, by simp, by rw [List.length_append]; have := OL.out; simp only [List.length_cons, List.length_nil]; omega, TF2.out, O5.out, Y5.out⟩
        · have hkb : ((k : Int) == (l.length : Int) - 1) = false := by rw [beq_eq_false_iff_ne]; omega
          have hkn : ¬ (k : Int) = (l.length : Int) - 1 := by omega
          rw [if_neg (fun h => hlast (hdr.out.1 h))] at TF2
          clear hlast
          go_wp2_with fail
          go_roundg (l.length - (k + 1))
          case measure => rw [G.out]; omega
          case rel => exact ⟨k + 1, out, rfl, by omega, by simp, by have := OL.out; omega, TF2.out, O.out, Y.out⟩
      | false =>
        cases h2 : (p == [46, 46]) with
        | true =>
          have hp : p = [46, 46] := eq_of_beq h2
          have hw1 : IntKind.i64.wrap ((l.length : Int) - 1) = (l.length : Int) - 1 := by rw [IntKind.wrap_i64]; omega
          rw [tidyF_dots out _ hp] at TF2
          clear hp
          cases out with
          | nil =>
            obtain ⟨va, vc, rfl⟩ := own_shape O.out
            have TF3 := Lib.hid (show tidyF [] l = if l.drop (k + 1) = [] then tidyF ([] ++ [[]]) (l.drop (k + 1)) else tidyF [] (l.drop (k + 1)) from TF2.out)
            clear TF2
            have TF2 := TF3
            clear TF3
            by_cases hlast : k + 1 = l.length
            · have hkb : ((k : Int) == (l.length : Int) - 1) = true := by rw [beq_iff_eq]; omega
              rw [if_pos (hdr.out.2 hlast)] at TF2
              clear hlast
              go_wp2_with (at_builtin; refine wpList_append_own _ rfl _ _ 38 rfl w.heap.size 9 i0 (.string ⟨#[]⟩) 1 16 Tryz.underlying38 hi0 hz0 hz1 hz2 rfl (by decide) _ _ _ rfl (O.out.alloc _) ⟨_, 0, none⟩ 1 1 [sB []] rfl rfl (cell_str wr []) (one_str []) (by have := HOL.out; unfold maxLen; omega) (by have := HOL.out; omega) (al_le Y.out.size _) ?_)
              intro v' w5 hown' hgrow _
              have Y5 := Lib.hid ((Y.out.alloc Y.out.size (.cells #[.string (bs [])] 9)).grown hgrow (al_le Y.out.size _) (fun k hk => (O.out.lt k hk).1))
              have O5 : Hid (w5.ownsRow w.heap.size 9 1 v' (([] : List Bs) ++ [[]]).length ((([] : List Bs) ++ [[]]).map sB)) := Lib.hid (by rw [List.length_append, List.map_append]; exact hown')
              clear hown' hgrow O Y x0
              go_wp2_with fail
              go_roundg (l.length - (k + 1))
              case measure => rw [G.out]; omega
              case rel => exact ⟨k + 1, ([] : List Bs) ++ [[]], rfl, by omega, by simp, by rw [List.length_append]; have := OL.out; simp only [List.length_cons, List.length_nil]; omega, TF2.out, O5.out, Y5.out⟩
            · have hkb : ((k : Int) == (l.length : Int) - 1) = false := by rw [beq_eq_false_iff_ne]; omega
              have hkn : ¬ (k : Int) = (l.length : Int) - 1 := by omega
              rw [if_neg (fun h => hlast (hdr.out.1 h))] at TF2
              clear hlast
              go_wp2_with fail
              go_roundg (l.length - (k + 1))
              case measure => rw [G.out]; omega
              case rel => exact ⟨k + 1, ([] : List Bs), rfl, by omega, by simp, by have := OL.out; omega, TF2.out, O.out, Y.out⟩
          | cons q qs =>
            obtain ⟨g, cap, rfl, hc1, hc2⟩ := own_someS (n := qs.length) O.out
            have O2 := Lib.hid (show wr.ownsRow w.heap.size 9 1 (.slice (some ⟨g, 0, none⟩) qs.length cap) (q :: qs).dropLast.length ((q :: qs).dropLast.map sB) from by
              have h := own_cut (n := qs.length) O.out
              rw [drop_last_map (q :: qs) qs.length rfl] at h
              have e : (q :: qs).dropLast.length = qs.length := by rw [List.length_dropLast]; rfl
              rw [e]
              exact h)
            have OL2 := Lib.hid (show (q :: qs).dropLast.length + 1 ≤ k by have := OL.out; rw [List.length_dropLast]; simp only [List.length_cons] at this ⊢; omega)
            have hq0 : (0 : Int) < (qs.length : Int) + 1 := by omega
            have hq1 : (qs.length : Int) ≤ 2097152 := by have := HOL.out; simp only [List.length_cons] at this; omega
            have hq3 : IntKind.i64.wrap (qs.length : Int) = (qs.length : Int) := by rw [IntKind.wrap_i64]; omega
            have hq2 : qs.length ≤ cap := by omega
            have HOL2 := Lib.hid (show (q :: qs).dropLast.length + 1 ≤ 2097152 by have := HOL.out; have := OL2.out; have := OL.out; rw [List.length_dropLast] at *; simp only [List.length_cons] at *; omega)
            clear OL HOL
            have OL := Lib.hid (show (q :: qs).dropLast.length ≤ k by have := OL2.out; omega)
            have HOL := HOL2
            clear OL2 HOL2
            generalize hD : (q :: qs).dropLast = D at *
            have hDl := Lib.hid (show qs.length = D.length by rw [← hD, List.length_dropLast]; rfl)
            clear hD
            by_cases hlast : k + 1 = l.length
            · have hkb : ((k : Int) == (l.length : Int) - 1) = true := by rw [beq_iff_eq]; omega
              rw [if_pos (hdr.out.2 hlast)] at TF2
              clear hlast
              go_wp2_with (at_builtin; refine wpList_append_own _ rfl _ _ 38 rfl w.heap.size 9 i0 (.string ⟨#[]⟩) 1 16 Tryz.underlying38 hi0 hz0 hz1 hz2 rfl (by decide) _ _ _ rfl (O2.out.alloc _) ⟨_, 0, none⟩ 1 1 [sB []] rfl rfl (cell_str wr []) (one_str []) (by have := HOL.out; unfold maxLen; omega) (by have := HOL.out; omega) (al_le Y.out.size _) ?_)
              intro v' w5 hown' hgrow _
              have Y5 := Lib.hid ((Y.out.alloc Y.out.size (.cells #[.string (bs [])] 9)).grown hgrow (al_le Y.out.size _) (fun k hk => (O2.out.lt k hk).1))
              have O5 : Hid (w5.ownsRow w.heap.size 9 1 v' (D ++ [[]]).length ((D ++ [[]]).map sB)) := Lib.hid (by rw [List.length_append, List.map_append]; exact hown')
              clear hown' hgrow O Y x0
              go_wp2_with fail
              go_roundg (l.length - (k + 1))
              case measure => rw [G.out]; omega
              case rel => exact ⟨k + 1, D ++ [[]], rfl, by omega, by simp, by rw [List.length_append]; have := OL.out; simp only [List.length_cons, List.length_nil]; omega, TF2.out, O5.out, Y5.out⟩
            · have hkb : ((k : Int) == (l.length : Int) - 1) = false := by rw [beq_eq_false_iff_ne]; omega
              have hkn : ¬ (k : Int) = (l.length : Int) - 1 := by omega
              rw [if_neg (fun h => hlast (hdr.out.1 h))] at TF2
              clear hlast
              go_wp2_with fail
              go_roundg (l.length - (k + 1))
              case measure => rw [G.out]; omega
              case rel => exact ⟨k + 1, D, rfl, by omega, by simp, by have := OL.out; omega, TF2.out, O2.out, Y.out⟩
        | false =>
          have k1 : ¬ (p = [46] ∨ p = [46, 46]) := by
            rintro (e | e)
            · rw [e] at h1; cases h1
            · rw [e] at h2; cases h2
          rw [tidyF_word out _ k1] at TF2
          clear k1
          go_wp2_with (at_builtin; refine wpList_append_own _ rfl _ _ 38 rfl w.heap.size 9 i0 (.string ⟨#[]⟩) 1 16 Tryz.underlying38 hi0 hz0 hz1 hz2 rfl (by decide) _ _ _ rfl (O.out.alloc _) ⟨_, 0, none⟩ 1 1 [sB p] rfl rfl (cell_str wr p) (one_str p) (by have := HOL.out; unfold maxLen; omega) (by have := HOL.out; omega) (al_le Y.out.size _) ?_)
          intro v' w5 hown' hgrow _
          have Y5 := Lib.hid ((Y.out.alloc Y.out.size (.cells #[.string (bs p)] 9)).grown hgrow (al_le Y.out.size _) (fun k hk => (O.out.lt k hk).1))
          have O5 : Hid (w5.ownsRow w.heap.size 9 1 v' (out ++ [p]).length ((out ++ [p]).map sB)) := Lib.hid (by rw [List.length_append, List.map_append]; exact hown')
          clear hown' hgrow O Y x0
          go_wp2_with fail
          go_roundg (l.length - (k + 1))
          case measure => rw [G.out]; omega
          case rel => exact ⟨k + 1, out ++ [p], rfl, by omega, by simp, by rw [List.length_append]; have := OL.out; simp only [List.length_cons, List.length_nil]; omega, TF2.out, O5.out, Y5.out⟩
    · have hke : k = l.length := by omega
      have hnl : ¬ ((k : Int) < (l.length : Int)) := by omega
      have HT := Lib.hid (show R = if out = [] then [[]] else out by
        rw [← HR.out]
        unfold tidyP
        rw [TF.out, hke, List.drop_length, tidyF_nil])
      clear hke hlt TF
      cases out with
      | nil =>
        have HV := Lib.hid (show R = [[]] from HT.out)
        obtain ⟨va, vc, rfl⟩ := own_shape O.out
        go_wp2_with fail
        go_ret
        refine ⟨_, rfl, ?_, Y.out.alloc Y.out.size _⟩
        rw [HV.out]
        exact own_blockB' (alloc_at rfl _) Y.out.size (by decide) rfl rfl
      | cons q qs =>
        have HV := Lib.hid (show R = q :: qs from HT.out)
        obtain ⟨va, vc, rfl⟩ := own_shape O.out
        have hq : ((qs.length : Int) + 1 == 0) = false := by rw [beq_eq_false_iff_ne]; omega
        have hq2 : ¬ ((qs.length : Int) + 1 = 0) := by omega
        go_wp2_with fail
        go_ret
        refine ⟨_, rfl, ?_, Y.out⟩
        rw [HV.out]
        exact O.out
end Go.Proofs.YtjcejijdeohkgaaGreatDoor
/- W14. -/
namespace Go.Proofs.YtjcejijdeohkgaaGreatDoor
open Go.RowKit

theorem bs_app (a b : Bs) : bs a ++ bs b = bs (a ++ b) := by
  have h : (bs a ++ bs b).data.toList = a ++ b := by simp [bs]
  rw [← h, bs_of]
def Ur.v (u : Ur) (pv : Value) : Value := .agg #[.string (bs u.sch), .string (bs u.host), .int .i64 u.port, pv, .string (bs u.query), .bool u.asks, .string (bs u.frag), .bool u.points]
def Ur.c (u : Ur) (pv : Value) : Array Value := #[.string (bs u.sch), .string (bs u.host), .int .i64 u.port, pv, .string (bs u.query), .bool u.asks, .string (bs u.frag), .bool u.points]
theorem call100 (args : Array Value) (w : World) : Sem.run Tryz.prog (callFunc 100 args) w = .ok (.enter 100 args) w := by go_simp
theorem call60 (args : Array Value) (w : World) : Sem.run Tryz.prog (callFunc 60 args) w = .ok (.enter 60 args) w := by go_simp
theorem below_grow (w : World) (q : Nat) (os : Array Obj) : Below w.heap.size w (Sort.grow (w.drewN q) os) := by
  refine ⟨rfl, rfl, rfl, ?_, fun k hk => ?_⟩
  · show w.heap.size ≤ (w.heap ++ os).size
    rw [Array.size_append]
    omega
  · show (w.heap ++ os)[k]? = w.heap[k]?
    rw [Array.getElem?_append_left hk]
theorem itoa_any (n : Int) (w : World) (hT : TB w) (h0 : -9223372036854775808 ≤ n) (h1 : n ≤ 9223372036854775807) : Calls Tryz.prog 100 #[.int .i64 n] w fun e w' => e = .returned (.string (bs (Lib.itoa n))) ∧ Below w.heap.size w w' :=
  (Tryz.strconv_Itoa n h0 h1 w hT.p).mono fun e w' ⟨h1, k, os, h2⟩ => ⟨h1, by rw [h2]; exact below_grow w k os⟩
set_option maxRecDepth 100000 in
set_option maxHeartbeats 4000000 in
theorem origin_any (u : Ur) (pv : Value) (w : World) (hT : TB w) (hs : u.sch.length ≤ 1048576) (hh : u.host.length ≤ 1048576) (hp : 0 ≤ u.port ∧ u.port ≤ 65535) (hv : ∃ a n c, pv = .slice a n c) : Calls Tryz.prog 60 #[u.v pv] w fun e w' => e = .returned (.string (bs (origP u))) ∧ Below w.heap.size w w' := by
  have p100 := call100
  obtain ⟨va, vn, vc, rfl⟩ := hv
  obtain ⟨R, hR⟩ : ∃ R, bs (origP u) = R := ⟨_, rfl⟩
  rw [hR]
  have HR := Lib.hid hR
  have HTB := Lib.hid hT
  clear hR hT
  obtain ⟨sch, host, port, path, query, asks, frag, points⟩ := u
  simp only at hs hh hp HR
  show Calls Tryz.prog 60 #[.agg #[.string (bs sch), .string (bs host), .int .i64 port, .slice va vn vc, .string (bs query), .bool asks, .string (bs frag), .bool points]] w _
  have h1 : (bs sch).size ≤ 1048576 := by rw [bs_size]; exact hs
  have h2 : (bs host).size ≤ 1048576 := by rw [bs_size]; exact hh
  have HE : Hid (R = bs sch ++ (⟨#[58, 47, 47]⟩ : ByteArray) ++ bs host ++ (if port = 0 then bs [] else (⟨#[58]⟩ : ByteArray) ++ bs (Lib.itoa port))) := Lib.hid (by
    rw [← HR.out]
    unfold origP portT
    have e1 : (⟨#[58, 47, 47]⟩ : ByteArray) = bs [58, 47, 47] := rfl
    have e2 : (⟨#[58]⟩ : ByteArray) = bs [58] := rfl
    simp only
    rw [e1, e2, bs_app, bs_app]
    split
    · rw [bs_app]; simp
    · rw [bs_app, bs_app]; simp)
  have HI := Lib.hid (fun (w9 : World) (hb : Below w.heap.size w w9) => itoa_any port w9 (HTB.out.below hb) (by omega) (by omega))
  have HIL := Lib.hid (show (bs (Lib.itoa port)).size ≤ 5 from by
    rw [bs_size]
    unfold Lib.itoa
    rw [if_neg (by omega)]
    exact dec_len 4 port.toNat (by omega))
  clear HR hs hh
  generalize bs sch = S at *
  generalize bs host = H at *
  generalize bs (Lib.itoa port) = I at *
  have h3 := HIL.out
  go_enter Tryz.func60, Tryz.ntmps60
  by_cases h0 : port = 0
  · subst h0
    have HE2 := Lib.hid (show R = S ++ (⟨#[58, 47, 47]⟩ : ByteArray) ++ H from by rw [HE.out, if_pos rfl]; exact ByteArray.append_empty)
    go_wp2_with fail
    go_ret
    rw [HE2.out]
    exact ⟨rfl, (Below.refl _ _).alloc (Nat.le_refl _) _⟩
  · have hb : (port == 0) = false := by simpa using h0
    have HE2 := Lib.hid (show R = S ++ (⟨#[58, 47, 47]⟩ : ByteArray) ++ H ++ ((⟨#[58]⟩ : ByteArray) ++ I) from by rw [HE.out, if_neg h0])
    go_wp2_with fail
    refine (HI.out _ ((Below.refl _ _).alloc (Nat.le_refl _) _)).mono ?_
    rintro e w2 ⟨rfl, hb2⟩
    have X := Lib.hid (((Below.refl w.heap.size w).alloc (Nat.le_refl _) (.cells #[.string S, .string H, .int .i64 port, .slice va vn vc, .string (bs query), .bool asks, .string (bs frag), .bool points] 47)).trans (Below.le hb2 (al_le (Nat.le_refl _) _)))
    clear hb2
    go_wp2_with fail
    go_ret
    rw [HE2.out]
    exact ⟨rfl, X.out⟩
end Go.Proofs.YtjcejijdeohkgaaGreatDoor
