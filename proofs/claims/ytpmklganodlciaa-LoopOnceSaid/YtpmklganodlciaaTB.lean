/- A frame: blocks of the call's own, beside a loop that lies in memory of its own. -/
import Derived.Test.YtpmklganodlciaaT17
namespace Go.Proofs.Ytpmklganodlciaa
open Go.RowKit

structure Fx (B : Nat) (u : List (Option Nat)) (w wx : World) (ts ss : List Job) (ms : List Tim) (vt vs vm : Value) (os : List Obj) : Prop where
  k : ∀ i o, os[i]? = some o → wx.heap[w.heap.size + i]? = some o
  own : LpOwn wx B ts ss ms vt vs vm
  bl : Bl w wx u
  sz : w.heap.size + os.length ≤ wx.heap.size
  no : ∀ k, w.heap.size ≤ k → k < w.heap.size + os.length → vt.ownBlock ≠ some k ∧ vs.ownBlock ≠ some k ∧ vm.ownBlock ≠ some k
  at_ : At w u vt vs vm
theorem own3_mem {vt vs vm : Value} {k : Nat} (h : some k ∈ own3 vt vs vm) : vt.ownBlock = some k ∨ vs.ownBlock = some k ∨ vm.ownBlock = some k := by
  simp only [own3, List.mem_cons, List.not_mem_nil, or_false] at h
  rcases h with e | e | e
  · exact .inl e.symm
  · exact .inr (.inl e.symm)
  · exact .inr (.inr e.symm)
section
variable {B : Nat} {u : List (Option Nat)} {w wx w' : World} {ts ss : List Job} {ms : List Tim} {vt vs vm : Value} {os : List Obj}
theorem Fx.start (h : LpOwn w B ts ss ms vt vs vm) : Fx B (own3 vt vs vm) w w ts ss ms vt vs vm [] where
  k i o h := by simp at h
  own := h
  bl := Bl.of_below (Below.refl _ _)
  sz := Nat.le_refl _
  no k h1 h2 := by simp at h2; omega
  at_ := At.refl
theorem Fx.push (h : Fx B u w wx ts ss ms vt vs vm os) (hz : wx.heap.size = w.heap.size + os.length) (o : Obj) : Fx B u w (wx.alloc o) ts ss ms vt vs vm (os ++ [o]) where
  k i o' hi := by
    rcases Nat.lt_or_ge i os.length with hlt | hge
    · rw [List.getElem?_append_left hlt] at hi
      exact alloc_keep (h.k i o' hi) o
    · rw [List.getElem?_append_right hge] at hi
      have : i = os.length := by
        rcases Nat.lt_or_ge (i - os.length) 1 with h1 | h1
        · omega
        · rw [List.getElem?_eq_none (by simpa using h1)] at hi; cases hi
      subst this
      simp only [Nat.sub_self, List.getElem?_cons_zero, Option.some.injEq] at hi
      subst hi
      exact alloc_at hz _
  own := h.own.alloc o
  bl := h.bl.trans_below ((Below.refl _ _).alloc (Nat.le_refl _) _)
  sz := by simp; omega
  no k h1 h2 := by
    rcases Nat.lt_or_ge k wx.heap.size with hlt | hge
    · exact h.no k h1 (by omega)
    · exact h.own.not hge
  at_ := h.at_
theorem Fx.call (h : Fx B u w wx ts ss ms vt vs vm os) (hb : Below wx.heap.size wx w') : Fx B u w w' ts ss ms vt vs vm os where
  k i o hi := (hb.block _ (by have := h.sz; have : i < os.length := (List.getElem?_eq_some_iff.1 hi).1; omega)).trans (h.k i o hi)
  own := h.own.below hb
  bl := h.bl.trans_below hb
  sz := Nat.le_trans h.sz hb.size
  no := h.no
  at_ := h.at_
theorem Fx.drew (h : Fx B u w wx ts ss ms vt vs vm os) : Fx B u w wx.drew ts ss ms vt vs vm os := h.call ⟨rfl, rfl, rfl, Nat.le_refl _, fun _ _ => rfl⟩
theorem Fx.set (h : Fx B u w wx ts ss ms vt vs vm os) (i : Nat) {c : Array Value} {t : TypeId} (hi : os[i]? = some (.cells c t (0, 0))) (j : Nat) (v : Value) (hj : j < c.size) : Fx B u w (wx.setCell ⟨w.heap.size + i, j, none⟩ v) ts ss ms vt vs vm (os.set i (.cells (c.set j v) t (0, 0))) := by
  have hg : wx.grownBy (wx.setCell ⟨w.heap.size + i, j, none⟩ v) (some (w.heap.size + i)) := Lib.grownBy_setB (gr_refl wx _) _ _
  have hlt : i < os.length := (List.getElem?_eq_some_iff.1 hi).1
  obtain ⟨n1, n2, n3⟩ := h.no (w.heap.size + i) (by omega) (by omega)
  refine ⟨fun k o hk => ?_, h.own.far hg n1 n2 n3, h.bl.grown hg (fun k e => .inr (by injection e with e; omega)), by rw [List.length_set]; exact Nat.le_trans h.sz hg.size, fun k h1 h2 => h.no k h1 (by rw [List.length_set] at h2; exact h2), h.at_⟩
  by_cases e : k = i
  · subst e
    rw [List.getElem?_set_self hlt] at hk
    injection hk with hk
    subst hk
    exact set_heap (h.k k _ hi) j v hj
  · rw [List.getElem?_set_ne (fun e2 => e e2.symm)] at hk
    exact set_far (h.k k o hk) (by omega) _ _
/-- Behind a call that takes the loop and gives another one. -/
theorem Fx.ask {ts' ss' : List Job} {ms' : List Tim} {vt' vs' vm' : Value} (h : Fx B u w wx ts ss ms vt vs vm os) (ho : LpOwn w' B ts' ss' ms' vt' vs' vm') (hb : Bl wx w' (own3 vt vs vm)) (ha : At wx (own3 vt vs vm) vt' vs' vm') : Fx B u w w' ts' ss' ms' vt' vs' vm' os where
  k i o hi := by
    have hlt : i < os.length := (List.getElem?_eq_some_iff.1 hi).1
    have hz := h.sz
    refine (hb.block _ (by omega) (fun e => ?_)).trans (h.k i o hi)
    obtain ⟨n1, n2, n3⟩ := h.no (w.heap.size + i) (by omega) (by omega)
    rcases own3_mem e with e | e | e
    · exact n1 e
    · exact n2 e
    · exact n3 e
  own := ho
  bl := ⟨hb.os.trans h.bl.os, hb.tape.trans h.bl.tape, hb.output.trans h.bl.output, Nat.le_trans h.bl.size hb.size, fun k hk hu => by
    refine (hb.block k (Nat.lt_of_lt_of_le hk h.bl.size) (fun e => ?_)).trans (h.bl.block k hk hu)
    rcases h.at_ k e with h1 | h1
    · exact hu h1
    · omega⟩
  sz := Nat.le_trans h.sz hb.size
  no k h1 h2 := by
    have hz := h.sz
    refine ha.not (by omega) (fun e => ?_)
    obtain ⟨n1, n2, n3⟩ := h.no k h1 h2
    rcases own3_mem e with e | e | e
    · exact n1 e
    · exact n2 e
    · exact n3 e
  at_ k hk := by
    rcases ha k hk with h1 | h1
    · exact h.at_ k h1
    · exact .inr (Nat.le_trans h.bl.size h1)
theorem bl_of_grown {u : List (Option Nat)} {r : Option Nat} (hg : wx.grownBy w' r) (hr : ∀ k, r = some k → some k ∈ u) : Bl wx w' u := ⟨hg.os, hg.tape, hg.output, hg.size, fun k hk hu => hg.block k hk (fun e => hu (e ▸ hr k e.symm))⟩
theorem Fx.setM {ms' : List Tim} {vm' : Value} (h : Fx B u w wx ts ss ms vt vs vm os) (ho : w'.ownsRow B 49 5 vm' ms'.length (ms'.flatMap Tim.c)) (hg : wx.grownBy w' vm.ownBlock) (ha : ∀ k, vm'.ownBlock = some k → vm.ownBlock = some k ∨ wx.heap.size ≤ k) : Fx B u w w' ts ss ms' vt vs vm' os :=
  h.ask (h.own.setM ho hg ha) (bl_of_grown hg (fun k e => by rw [← e]; simp [own3])) (At.mk3 (fun k e => .inl (by rw [← e]; simp [own3])) (fun k e => .inl (by rw [← e]; simp [own3])) (fun k e => by
    rcases ha k e with h1 | h1
    · exact .inl (by rw [← h1]; simp [own3])
    · exact .inr h1))
theorem Fx.setT {ts' : List Job} {vt' : Value} (h : Fx B u w wx ts ss ms vt vs vm os) (ho : w'.ownsRow B 39 7 vt' ts'.length (ts'.flatMap Job.c)) (hg : wx.grownBy w' vt.ownBlock) (ha : ∀ k, vt'.ownBlock = some k → vt.ownBlock = some k ∨ wx.heap.size ≤ k) : Fx B u w w' ts' ss ms vt' vs vm os :=
  h.ask (h.own.setT ho hg ha) (bl_of_grown hg (fun k e => by rw [← e]; simp [own3])) (At.mk3 (fun k e => by
    rcases ha k e with h1 | h1
    · exact .inl (by rw [← h1]; simp [own3])
    · exact .inr h1) (fun k e => .inl (by rw [← e]; simp [own3])) (fun k e => .inl (by rw [← e]; simp [own3])))
theorem Fx.setS {ss' : List Job} {vs' : Value} (h : Fx B u w wx ts ss ms vt vs vm os) (ho : w'.ownsRow B 39 7 vs' ss'.length (ss'.flatMap Job.c)) (hg : wx.grownBy w' vs.ownBlock) (ha : ∀ k, vs'.ownBlock = some k → vs.ownBlock = some k ∨ wx.heap.size ≤ k) : Fx B u w w' ts ss' ms vt vs' vm os :=
  h.ask (h.own.setS ho hg ha) (bl_of_grown hg (fun k e => by rw [← e]; simp [own3])) (At.mk3 (fun k e => .inl (by rw [← e]; simp [own3])) (fun k e => by
    rcases ha k e with h1 | h1
    · exact .inl (by rw [← h1]; simp [own3])
    · exact .inr h1) (fun k e => .inl (by rw [← e]; simp [own3])))
/-- Behind writes into a block of the call's own. -/
theorem Fx.done (h : Fx B u w wx ts ss ms vt vs vm os) {b : Nat} (hb1 : w.heap.size ≤ b) (hb2 : b < w.heap.size + os.length) (hg : wx.grownBy w' (some b)) : LpOwn w' B ts ss ms vt vs vm ∧ Bl w w' u ∧ At w u vt vs vm := by
  obtain ⟨n1, n2, n3⟩ := h.no b hb1 hb2
  exact ⟨h.own.far hg n1 n2 n3, h.bl.grown hg (fun k e => .inr (by injection e with e; omega)), h.at_⟩
/-- A copy that was just made. -/
theorem Fx.fresh (ho : LpOwn wx B ts ss ms vt vs vm) (hB : w.heap.size + os.length ≤ B) (hk : ∀ i o, os[i]? = some o → wx.heap[w.heap.size + i]? = some o) (hb : Below w.heap.size w wx) (hz : w.heap.size + os.length ≤ wx.heap.size) : Fx B [] w wx ts ss ms vt vs vm os where
  k := hk
  own := ho
  bl := Bl.of_below hb
  sz := hz
  no k h1 h2 := ⟨fun e => by have := (ho.t.lt k e).1; omega, fun e => by have := (ho.s.lt k e).1; omega, fun e => by have := (ho.m.lt k e).1; omega⟩
  at_ k hk := .inr (by have := ho.ge k hk; omega)
end
section
variable {B : Nat} {u : List (Option Nat)} {w wx w' : World} {ts ss : List Job} {ms : List Tim} {vt vs vm : Value} {o0 o1 o2 o3 : Obj} {os : List Obj}
theorem Fx.k0 (h : Fx B u w wx ts ss ms vt vs vm (o0 :: os)) : wx.heap[w.heap.size]? = some o0 := h.k 0 o0 rfl
theorem Fx.k1 (h : Fx B u w wx ts ss ms vt vs vm (o0 :: o1 :: os)) : wx.heap[w.heap.size + 1]? = some o1 := h.k 1 o1 rfl
theorem Fx.k2 (h : Fx B u w wx ts ss ms vt vs vm (o0 :: o1 :: o2 :: os)) : wx.heap[w.heap.size + 1 + 1]? = some o2 := h.k 2 o2 rfl
theorem Fx.k3 (h : Fx B u w wx ts ss ms vt vs vm (o0 :: o1 :: o2 :: o3 :: os)) : wx.heap[w.heap.size + 1 + 1 + 1]? = some o3 := h.k 3 o3 rfl
theorem Fx.start1 (h : LpOwn w B ts ss ms vt vs vm) (o0 : Obj) : Fx B (own3 vt vs vm) w (w.alloc o0) ts ss ms vt vs vm [o0] := (Fx.start h).push rfl o0
theorem Fx.start2 (h : LpOwn w B ts ss ms vt vs vm) (o0 o1 : Obj) : Fx B (own3 vt vs vm) w ((w.alloc o0).alloc o1) ts ss ms vt vs vm [o0, o1] := (Fx.start1 h o0).push (by simp) o1
theorem Fx.start3 (h : LpOwn w B ts ss ms vt vs vm) (o0 o1 o2 : Obj) : Fx B (own3 vt vs vm) w (((w.alloc o0).alloc o1).alloc o2) ts ss ms vt vs vm [o0, o1, o2] := (Fx.start2 h o0 o1).push (by simp) o2
theorem Fx.start4 (h : LpOwn w B ts ss ms vt vs vm) (o0 o1 o2 o3 : Obj) : Fx B (own3 vt vs vm) w ((((w.alloc o0).alloc o1).alloc o2).alloc o3) ts ss ms vt vs vm [o0, o1, o2, o3] := (Fx.start3 h o0 o1 o2).push (by simp) o3
end
end Go.Proofs.Ytpmklganodlciaa
