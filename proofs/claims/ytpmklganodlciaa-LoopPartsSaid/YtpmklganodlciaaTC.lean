/- A frame without a loop: blocks of the call's own. -/
import Derived.Test.YtpmklganodlciaaTB
namespace Go.Proofs.Ytpmklganodlciaa
open Go.RowKit

structure Loc (w wx : World) (os : List Obj) : Prop where
  k : ∀ i o, os[i]? = some o → wx.heap[w.heap.size + i]? = some o
  bl : Below w.heap.size w wx
  sz : w.heap.size + os.length ≤ wx.heap.size
section
variable {w wx w' : World} {os : List Obj} {o0 o1 o2 o3 o4 : Obj}
theorem Loc.start : Loc w w [] := ⟨fun i o h => by simp at h, Below.refl _ _, Nat.le_refl _⟩
theorem Loc.push (h : Loc w wx os) (hz : wx.heap.size = w.heap.size + os.length) (o : Obj) : Loc w (wx.alloc o) (os ++ [o]) where
  k i o' hi := by
    rcases Nat.lt_or_ge i os.length with hlt | hge
    · rw [List.getElem?_append_left hlt] at hi
      exact alloc_keep (h.k i o' hi) o
    · rw [List.getElem?_append_right hge] at hi
      have : i = os.length := by
        rcases Nat.lt_or_ge (i - os.length) 1 with h1 | h1
        · omega
        · rw [List.getElem?_eq_none (by simpa using h1)] at hi; cases hi
      subst this
      simp only [Nat.sub_self, List.getElem?_cons_zero, Option.some.injEq] at hi
      subst hi
      exact alloc_at hz _
  bl := h.bl.alloc (by omega) o
  sz := by simp; omega
theorem Loc.call (h : Loc w wx os) (hb : Below wx.heap.size wx w') : Loc w w' os where
  k i o hi := (hb.block _ (by have := h.sz; have : i < os.length := (List.getElem?_eq_some_iff.1 hi).1; omega)).trans (h.k i o hi)
  bl := h.bl.trans (Below.le hb h.bl.size)
  sz := Nat.le_trans h.sz hb.size
theorem Loc.drew (h : Loc w wx os) : Loc w wx.drew os := h.call ⟨rfl, rfl, rfl, Nat.le_refl _, fun _ _ => rfl⟩
theorem Loc.drewN (h : Loc w wx os) (n : Nat) : Loc w (wx.drewN n) os := h.call ⟨rfl, rfl, rfl, Nat.le_refl _, fun _ _ => rfl⟩
theorem Loc.set (h : Loc w wx os) (i : Nat) {c : Array Value} {t : TypeId} (hi : os[i]? = some (.cells c t (0, 0))) (j : Nat) (v : Value) (hj : j < c.size) : Loc w (wx.setCell ⟨w.heap.size + i, j, none⟩ v) (os.set i (.cells (c.set j v) t (0, 0))) := by
  have hg : wx.grownBy (wx.setCell ⟨w.heap.size + i, j, none⟩ v) (some (w.heap.size + i)) := Lib.grownBy_setB (gr_refl wx _) _ _
  have hlt : i < os.length := (List.getElem?_eq_some_iff.1 hi).1
  refine ⟨fun k o hk => ?_, below_grown h.bl hg (by omega) (Nat.le_refl _), by rw [List.length_set]; exact Nat.le_trans h.sz hg.size⟩
  by_cases e : k = i
  · subst e
    rw [List.getElem?_set_self hlt] at hk
    injection hk with hk
    subst hk
    exact set_heap (h.k k _ hi) j v hj
  · rw [List.getElem?_set_ne (fun e2 => e e2.symm)] at hk
    exact set_far (h.k k o hk) (by omega) _ _
theorem Loc.k0 (h : Loc w wx (o0 :: os)) : wx.heap[w.heap.size]? = some o0 := h.k 0 o0 rfl
theorem Loc.k1 (h : Loc w wx (o0 :: o1 :: os)) : wx.heap[w.heap.size + 1]? = some o1 := h.k 1 o1 rfl
theorem Loc.k2 (h : Loc w wx (o0 :: o1 :: o2 :: os)) : wx.heap[w.heap.size + 1 + 1]? = some o2 := h.k 2 o2 rfl
theorem Loc.k3 (h : Loc w wx (o0 :: o1 :: o2 :: o3 :: os)) : wx.heap[w.heap.size + 1 + 1 + 1]? = some o3 := h.k 3 o3 rfl
theorem Loc.k4 (h : Loc w wx (o0 :: o1 :: o2 :: o3 :: o4 :: os)) : wx.heap[w.heap.size + 1 + 1 + 1 + 1]? = some o4 := h.k 4 o4 rfl
theorem Loc.start1 (o0 : Obj) : Loc w (w.alloc o0) [o0] := Loc.start.push rfl o0
theorem Loc.start2 (o0 o1 : Obj) : Loc w ((w.alloc o0).alloc o1) [o0, o1] := (Loc.start1 o0).push (by simp) o1
theorem Loc.start3 (o0 o1 o2 : Obj) : Loc w (((w.alloc o0).alloc o1).alloc o2) [o0, o1, o2] := (Loc.start2 o0 o1).push (by simp) o2
theorem Loc.start4 (o0 o1 o2 o3 : Obj) : Loc w ((((w.alloc o0).alloc o1).alloc o2).alloc o3) [o0, o1, o2, o3] := (Loc.start3 o0 o1 o2).push (by simp) o3
theorem Loc.start5 (o0 o1 o2 o3 o4 : Obj) : Loc w (((((w.alloc o0).alloc o1).alloc o2).alloc o3).alloc o4) [o0, o1, o2, o3, o4] := (Loc.start4 o0 o1 o2 o3).push (by simp) o4
theorem Loc.own {B : Nat} {ts ss : List Job} {ms : List Tim} {vt vs vm : Value} (h : Loc w wx os) (ho : LpOwn wx B ts ss ms vt vs vm) (hB : w.heap.size + os.length ≤ B) : Fx B [] w wx ts ss ms vt vs vm os := Fx.fresh ho hB h.k h.bl h.sz
/-- Behind writes into a block of the call's own. -/
theorem Loc.done (h : Loc w wx os) {b : Nat} (hb1 : w.heap.size ≤ b) (hg : wx.grownBy w' (some b)) : Below w.heap.size w w' := below_grown h.bl hg hb1 (Nat.le_refl _)
end
theorem Fx.loc {B : Nat} {w wx : World} {ts ss : List Job} {ms : List Tim} {vt vs vm : Value} {os : List Obj} (h : Fx B [] w wx ts ss ms vt vs vm os) : Loc w wx os := ⟨h.k, h.bl.toBelow (Nat.le_refl _) (fun k hk => by simp at hk), h.sz⟩
theorem bl_nil {w wx : World} (h : Bl w wx []) : Below w.heap.size w wx := h.toBelow (Nat.le_refl _) (fun k hk => by simp at hk)
theorem own_nil (w : World) (B : Nat) : LpOwn w B [] [] [] (.slice none 0 0) (.slice none 0 0) (.slice none 0 0) :=
  ⟨⟨by simp, .inl ⟨rfl, rfl⟩⟩, ⟨by simp, .inl ⟨rfl, rfl⟩⟩, ⟨by simp, .inl ⟨rfl, rfl⟩⟩, fun g h => by simp [Value.ownBlock] at h, fun g h => by simp [Value.ownBlock] at h, fun g h => by simp [Value.ownBlock] at h⟩
end Go.Proofs.Ytpmklganodlciaa
