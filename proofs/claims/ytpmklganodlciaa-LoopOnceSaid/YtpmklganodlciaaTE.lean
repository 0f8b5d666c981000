/- What holds at the heads of Play's loops. -/
import Derived.Test.YtpmklganodlciaaP3
namespace Go.Proofs.Ytpmklganodlciaa
open Go.RowKit

def Qst.c (a : Qst) : List Value := [.int .i64 a.do_, .int .i64 a.src, .int .i64 a.n, .string a.call, .int .i64 a.ak, .int .i64 a.an, .string a.as_]
theorem Qst.len (a : Qst) : (Qst.c a).length = 7 := rfl
def zero26 : Obj := .cells #[.int .i64 0, .int .i64 0, .slice none 0 0, .slice none 0 0, .slice none 0 0] 26 (0, 0)
structure PX (w wr : World) (N : Nat) (now next : Int) (ts ss : List Job) (ms : List Tim) (vt vs vm : Value) (out : List Job) (vo : Value) : Prop where
  k0 : wr.heap[w.heap.size]? = some (.cells #[.int .i64 0, .int .i64 0, .slice none 0 0, .slice none 0 0, .slice none 0 0] 26 (0, 0))
  k7 : wr.heap[N]? = some (.cells #[.int .i64 now, .int .i64 next, vt, vs, vm] 26 (0, 0))
  hN : w.heap.size < N
  own : LpOwn wr (N + 1) ts ss ms vt vs vm
  row : wr.ownsRow (N + 1) 39 7 vo out.length (out.flatMap Job.c)
  dj : ∀ g, vo.ownBlock = some g → some g ∉ own3 vt vs vm
  bl : Below w.heap.size w wr
section
variable {w wr w' : World} {N : Nat} {now next : Int} {ts ss : List Job} {ms : List Tim} {vt vs vm : Value} {out : List Job} {vo : Value}
theorem lt_of_heap {wr : World} {b : Nat} {o : Obj} (h : wr.heap[b]? = some o) : b < wr.heap.size := by
  rcases Nat.lt_or_ge b wr.heap.size with h' | h'
  · exact h'
  · rw [Array.getElem?_eq_none h'] at h; cases h
theorem own_bl {w w' : World} {u : List (Option Nat)} {B e s n : Nat} {v : Value} {xs : List Value} (h : w.ownsRow B e s v n xs) (hb : Bl w w' u) (hd : ∀ g, v.ownBlock = some g → some g ∉ u) : w'.ownsRow B e s v n xs := by
  refine ⟨h.1, ?_⟩
  rcases h.2 with h2 | ⟨g, cap, cur, e1, e2, e3, e4⟩
  · exact .inl h2
  · refine .inr ⟨g, cap, cur, e1, e2, ?_, e4⟩
    exact (hb.block g (lt_of_heap e3) (hd g (by rw [e1]; rfl))).trans e3
theorem own_lower {w : World} {B C e s n : Nat} {v : Value} {xs : List Value} (h : w.ownsRow B e s v n xs) (hC : C ≤ B) : w.ownsRow C e s v n xs := own_below h (Below.refl _ _) hC
theorem PX.ltN (h : PX w wr N now next ts ss ms vt vs vm out vo) : N < wr.heap.size := lt_of_heap h.k7
theorem PX.notN (h : PX w wr N now next ts ss ms vt vs vm out vo) : vt.ownBlock ≠ some N ∧ vs.ownBlock ≠ some N ∧ vm.ownBlock ≠ some N :=
  ⟨fun e => by have := (h.own.t.lt _ e).1; omega, fun e => by have := (h.own.s.lt _ e).1; omega, fun e => by have := (h.own.m.lt _ e).1; omega⟩
theorem PX.call (h : PX w wr N now next ts ss ms vt vs vm out vo) (hb : Below wr.heap.size wr w') : PX w w' N now next ts ss ms vt vs vm out vo where
  k0 := (hb.block _ (lt_of_heap h.k0)).trans h.k0
  k7 := (hb.block _ h.ltN).trans h.k7
  hN := h.hN
  own := h.own.below hb
  row := own_below h.row hb (Nat.le_refl _)
  dj := h.dj
  bl := h.bl.trans (Below.le hb h.bl.size)
theorem PX.alloc (h : PX w wr N now next ts ss ms vt vs vm out vo) (o : Obj) : PX w (wr.alloc o) N now next ts ss ms vt vs vm out vo := h.call ((Below.refl _ _).alloc (Nat.le_refl _) _)
theorem PX.at_ (h : PX w wr N now next ts ss ms vt vs vm out vo) : LpAt wr ⟨now, next, ts, ss, ms⟩ vt vs vm := ⟨Own.sl Job.len h.own.t, Own.sl Job.len h.own.s, Own.sl Tim.len h.own.m⟩
/-- Five cells at block N. -/
theorem put5N {w : World} {N : Nat} {t : TypeId} {x0 x1 x2 x3 x4 : Value} (h : w.heap[N]? = some (.cells #[x0, x1, x2, x3, x4] t (0, 0))) (v0 v1 v2 v3 v4 : Value) {w8 : World} (h8 : w8 = ((((w.setCell ⟨N, 0, none⟩ v0).setCell ⟨N, 1, none⟩ v1).setCell ⟨N, 2, none⟩ v2).setCell ⟨N, 3, none⟩ v3).setCell ⟨N, 4, none⟩ v4) :
    w8.heap[N]? = some (.cells #[v0, v1, v2, v3, v4] t (0, 0)) ∧ w.grownBy w8 (some N) := by subst h8; exact sets5 h v0 v1 v2 v3 v4
/-- Behind Ask, and a store of its answer. -/
theorem PX.asked {w1 w3 w8 : World} {n1 x1 : Int} {ts1 ss1 : List Job} {ms1 : List Tim} {vt1 vs1 vm1 : Value} (h : PX w w1 N now next ts ss ms vt vs vm out vo) (hb : Below w1.heap.size w1 w3) (ho : LpOwn w3 w1.heap.size ts1 ss1 ms1 vt1 vs1 vm1)
    (h8 : w8.heap[N]? = some (.cells #[.int .i64 n1, .int .i64 x1, vt1, vs1, vm1] 26 (0, 0))) (hg : w3.grownBy w8 (some N)) : PX w w8 N n1 x1 ts1 ss1 ms1 vt1 vs1 vm1 out vo := by
  have h3 := h.call hb
  have hlt := h.ltN
  have hge := ho.ge
  refine ⟨?_, h8, h.hN, (ho.far hg ?_ ?_ ?_).low (by omega), h3.row.kept hg (.inr fun e => by have := (h.row.lt _ e).1; omega), fun g hg2 hm => ?_, ?_⟩
  · rw [hg.block _ (lt_of_heap h3.k0) (fun e => by injection e with e; have := h.hN; omega)]
    exact h3.k0
  · intro e; have := (ho.t.lt _ e).1; omega
  · intro e; have := (ho.s.lt _ e).1; omega
  · intro e; have := (ho.m.lt _ e).1; omega
  · have := hge g hm
    have := (h.row.lt g hg2).2
    omega
  · exact below_grown h3.bl hg (Nat.le_of_lt h.hN) (Nat.le_refl _)
/-- Behind next, and a store of its answer. -/
theorem PX.taken {w1 w2 w8 : World} {n1 x1 : Int} {ts1 ss1 : List Job} {ms1 : List Tim} {vt1 vs1 vm1 : Value} (h : PX w w1 N now next ts ss ms vt vs vm out vo) (hb : Bl w1 w2 (own3 vt vs vm)) (ho : LpOwn w2 (N + 1) ts1 ss1 ms1 vt1 vs1 vm1) (ha : At w1 (own3 vt vs vm) vt1 vs1 vm1)
    (h8 : w8.heap[N]? = some (.cells #[.int .i64 n1, .int .i64 x1, vt1, vs1, vm1] 26 (0, 0))) (hg : w2.grownBy w8 (some N)) : PX w w8 N n1 x1 ts1 ss1 ms1 vt1 vs1 vm1 out vo := by
  have hlt := h.ltN
  have hrow := own_bl h.row hb h.dj
  have hN := h.hN
  have hn0 : some w.heap.size ∉ own3 vt vs vm := fun e => by have := h.own.ge _ e; omega
  have hk0 := (hb.block _ (lt_of_heap h.k0) hn0).trans h.k0
  refine ⟨?_, h8, h.hN, ho.far hg ?_ ?_ ?_, hrow.kept hg (.inr fun e => by have := (h.row.lt _ e).1; omega), fun g hg2 hm => ?_, ?_⟩
  · rw [hg.block _ (lt_of_heap hk0) (fun e => by injection e with e; omega)]
    exact hk0
  · intro e; have := (ho.t.lt _ e).1; omega
  · intro e; have := (ho.s.lt _ e).1; omega
  · intro e; have := (ho.m.lt _ e).1; omega
  · rcases ha g hm with h1 | h1
    · exact h.dj g hg2 h1
    · have := (h.row.lt g hg2).2
      omega
  · have h2 : Below w.heap.size w w2 := ⟨hb.os.trans h.bl.os, hb.tape.trans h.bl.tape, hb.output.trans h.bl.output, Nat.le_trans h.bl.size hb.size, fun k hk => (hb.block k (Nat.lt_of_lt_of_le hk h.bl.size) (fun e => by have := h.own.ge _ e; omega)).trans (h.bl.block k hk)⟩
    exact below_grown h2 hg (Nat.le_of_lt h.hN) (Nat.le_refl _)
/-- A write into a block of no concern. -/
theorem PX.far {b : Nat} (h : PX w wr N now next ts ss ms vt vs vm out vo) (hg : wr.grownBy w' (some b)) (hb : N < b) (h3 : some b ∉ own3 vt vs vm) (ho : vo.ownBlock ≠ some b) : PX w w' N now next ts ss ms vt vs vm out vo where
  k0 := (hg.block _ (lt_of_heap h.k0) (fun e => by injection e with e; have := h.hN; omega)).trans h.k0
  k7 := (hg.block _ h.ltN (fun e => by injection e with e; omega)).trans h.k7
  hN := h.hN
  own := h.own.far hg (fun e => h3 (by rw [← e]; simp [own3])) (fun e => h3 (by rw [← e]; simp [own3])) (fun e => h3 (by rw [← e]; simp [own3]))
  row := h.row.kept hg (.inr ho)
  dj := h.dj
  bl := below_grown h.bl hg (by have := h.hN; omega) (Nat.le_refl _)
/-- Behind an append. -/
theorem PX.push {j : Job} {vo' : Value} (h : PX w wr N now next ts ss ms vt vs vm out vo) (hrow : w'.ownsRow (N + 1) 39 7 vo' (out.length + 1) (out.flatMap Job.c ++ Job.c j)) (hg : wr.grownBy w' vo.ownBlock) (ha : ∀ k, vo'.ownBlock = some k → vo.ownBlock = some k ∨ wr.heap.size ≤ k) : PX w w' N now next ts ss ms vt vs vm (out ++ [j]) vo' where
  k0 := (hg.block _ (lt_of_heap h.k0) (fun e => by have := (h.row.lt _ e.symm).1; have := h.hN; omega)).trans h.k0
  k7 := (hg.block _ h.ltN (fun e => by have := (h.row.lt _ e.symm).1; omega)).trans h.k7
  hN := h.hN
  own := by
    have hn : ∀ v : Value, v.ownBlock ∈ own3 vt vs vm → v.ownBlock = none ∨ wr.grownBy w' vo.ownBlock ∧ v.ownBlock ≠ vo.ownBlock := fun v hv => by
      cases e : v.ownBlock with
      | none => exact .inl rfl
      | some g => exact .inr ⟨hg, fun e2 => h.dj g e2.symm (e ▸ hv)⟩
    have h1 : ∀ v : Value, v.ownBlock ∈ own3 vt vs vm → v.ownBlock = none ∨ v.ownBlock ≠ vo.ownBlock := fun v hv => by
      rcases hn v hv with e | e
      · exact .inl e
      · exact .inr e.2
    exact ⟨h.own.t.kept hg (h1 vt (by simp [own3])), h.own.s.kept hg (h1 vs (by simp [own3])), h.own.m.kept hg (h1 vm (by simp [own3])), h.own.d1, h.own.d2, h.own.d3⟩
  row := by rw [List.length_append, List.flatMap_append]; simpa using hrow
  dj g hg2 hm := by
    rcases ha g hg2 with h1 | h1
    · exact h.dj g h1 hm
    · rcases own3_mem hm with e | e | e
      · have := (h.own.t.lt _ e).2; omega
      · have := (h.own.s.lt _ e).2; omega
      · have := (h.own.m.lt _ e).2; omega
  bl := ⟨hg.os.trans h.bl.os, hg.tape.trans h.bl.tape, hg.output.trans h.bl.output, Nat.le_trans h.bl.size hg.size, fun k hk => (hg.block k (Nat.lt_of_lt_of_le hk h.bl.size) (fun e => by have := (h.row.lt _ e.symm).1; have := h.hN; omega)).trans (h.bl.block k hk)⟩
end
end Go.Proofs.Ytpmklganodlciaa
