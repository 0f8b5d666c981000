/- loop.full, post. -/
import Derived.Test.YtpmklganodlciaaT14
import Derived.Deep.AppendLies
import Derived.Deep.RegionLaw
namespace Go.Proofs.Ytpmklganodlciaa
open Go.RowKit

structure Qst where
  do_ : Int
  src : Int
  n : Int
  call : ByteArray
  ak : Int
  an : Int
  as_ : ByteArray
def full (next n : Int) : Bool := decide (100 ≤ n) || next == 1000000000
def askedV (now next : Int) (vt vs vm : Value) (a : Qst) : Value :=
  .agg #[.int .i64 now, .int .i64 next, vt, vs, vm, .int .i64 a.do_, .int .i64 a.src, .int .i64 a.n, .string a.call, .int .i64 a.ak, .int .i64 a.an, .string a.as_]
set_option maxRecDepth 100000 in
set_option maxHeartbeats 2000000 in
theorem full_any (now next : Int) (vt vs vm : Value) (a : Qst) (n : Int) (w : World) : Calls Try.prog 47 #[askedV now next vt vs vm a, .int .i64 n] w fun e w' => e = .returned (.bool (full next n)) ∧ Below w.heap.size w w' := by
  obtain ⟨q0, q1, q2, q3, q4, q5, q6⟩ := a
  unfold askedV full
  simp only
  go_enter Try.func47, Try.ntmps47
  by_cases h : 100 ≤ n
  · go_wp2_with fail
    go_ret
    exact ⟨by simp [h], (Below.refl _ _).alloc (Nat.le_refl _) _⟩
  · have h' : decide (100 ≤ n) = false := decide_eq_false h
    go_wp2_with fail
    go_ret
    exact ⟨by rfl, (Below.refl _ _).alloc (Nat.le_refl _) _⟩

theorem alloc_keep {w : World} {k : Nat} {o : Obj} (h : w.heap[k]? = some o) (o' : Obj) : (w.alloc o').heap[k]? = some o := by
  have hlt : k < w.heap.size := by
    rcases Nat.lt_or_ge k w.heap.size with h' | h'
    · exact h'
    · rw [Array.getElem?_eq_none h'] at h; cases h
  exact (Lib.alloc_old w o' k hlt).trans h
theorem alloc_at {w : World} {k : Nat} (hk : w.heap.size = k) (o : Obj) : (w.alloc o).heap[k]? = some o := by rw [← hk]; exact heap_alloc_new w o
theorem cells5 {w : World} {b : Nat} {t : TypeId} {v0 v1 v2 v3 v4 : Value} (h : w.heap[b]? = some (.cells #[v0, v1, v2, v3, v4] t (0, 0))) : w.cell? ⟨b, 0, none⟩ = some v0 ∧ w.cell? ⟨b, 1, none⟩ = some v1 ∧ w.cell? ⟨b, 2, none⟩ = some v2 ∧ w.cell? ⟨b, 3, none⟩ = some v3 ∧ w.cell? ⟨b, 4, none⟩ = some v4 :=
  ⟨(Lib.cell_of_heap h _).trans rfl, (Lib.cell_of_heap h _).trans rfl, (Lib.cell_of_heap h _).trans rfl, (Lib.cell_of_heap h _).trans rfl, (Lib.cell_of_heap h _).trans rfl⟩
theorem frz5 {w : World} {b : Nat} {t : TypeId} {c : Array Value} (h : w.heap[b]? = some (.cells c t (0, 0))) : w.frozen? ⟨b, 0, none⟩ = false ∧ w.frozen? ⟨b, 1, none⟩ = false ∧ w.frozen? ⟨b, 2, none⟩ = false ∧ w.frozen? ⟨b, 3, none⟩ = false ∧ w.frozen? ⟨b, 4, none⟩ = false :=
  ⟨Lib.frozen_of_heap h _, Lib.frozen_of_heap h _, Lib.frozen_of_heap h _, Lib.frozen_of_heap h _, Lib.frozen_of_heap h _⟩
theorem cells7 {w : World} {b : Nat} {t : TypeId} {v0 v1 v2 v3 v4 v5 v6 : Value} (h : w.heap[b]? = some (.cells #[v0, v1, v2, v3, v4, v5, v6] t (0, 0))) : w.cell? ⟨b, 0, none⟩ = some v0 ∧ w.cell? ⟨b, 1, none⟩ = some v1 ∧ w.cell? ⟨b, 2, none⟩ = some v2 ∧ w.cell? ⟨b, 3, none⟩ = some v3 ∧ w.cell? ⟨b, 4, none⟩ = some v4 ∧ w.cell? ⟨b, 5, none⟩ = some v5 ∧ w.cell? ⟨b, 6, none⟩ = some v6 :=
  ⟨(Lib.cell_of_heap h _).trans rfl, (Lib.cell_of_heap h _).trans rfl, (Lib.cell_of_heap h _).trans rfl, (Lib.cell_of_heap h _).trans rfl, (Lib.cell_of_heap h _).trans rfl, (Lib.cell_of_heap h _).trans rfl, (Lib.cell_of_heap h _).trans rfl⟩
theorem cells12 {w : World} {b : Nat} {t : TypeId} {v0 v1 v2 v3 v4 v5 v6 v7 v8 v9 v10 v11 : Value} (h : w.heap[b]? = some (.cells #[v0, v1, v2, v3, v4, v5, v6, v7, v8, v9, v10, v11] t (0, 0))) : w.cell? ⟨b, 0, none⟩ = some v0 ∧ w.cell? ⟨b, 1, none⟩ = some v1 ∧ w.cell? ⟨b, 2, none⟩ = some v2 ∧ w.cell? ⟨b, 3, none⟩ = some v3 ∧ w.cell? ⟨b, 4, none⟩ = some v4 ∧ w.cell? ⟨b, 5, none⟩ = some v5 ∧ w.cell? ⟨b, 6, none⟩ = some v6 ∧ w.cell? ⟨b, 7, none⟩ = some v7 ∧ w.cell? ⟨b, 8, none⟩ = some v8 ∧ w.cell? ⟨b, 9, none⟩ = some v9 ∧ w.cell? ⟨b, 10, none⟩ = some v10 ∧ w.cell? ⟨b, 11, none⟩ = some v11 :=
  ⟨(Lib.cell_of_heap h _).trans rfl, (Lib.cell_of_heap h _).trans rfl, (Lib.cell_of_heap h _).trans rfl, (Lib.cell_of_heap h _).trans rfl, (Lib.cell_of_heap h _).trans rfl, (Lib.cell_of_heap h _).trans rfl, (Lib.cell_of_heap h _).trans rfl, (Lib.cell_of_heap h _).trans rfl, (Lib.cell_of_heap h _).trans rfl, (Lib.cell_of_heap h _).trans rfl, (Lib.cell_of_heap h _).trans rfl, (Lib.cell_of_heap h _).trans rfl⟩
theorem set_heap {w : World} {b : Nat} {c : Array Value} {t : TypeId} (h : w.heap[b]? = some (.cells c t (0, 0))) (i : Nat) (v : Value) (hi : i < c.size) : (w.setCell ⟨b, i, none⟩ v).heap[b]? = some (.cells (c.set i v) t (0, 0)) := by
  have hlt : b < w.heap.size := by
    rcases Nat.lt_or_ge b w.heap.size with h' | h'
    · exact h'
    · rw [Array.getElem?_eq_none h'] at h; cases h
  have hb : w.heap[b] = .cells c t (0, 0) := by rw [Array.getElem?_eq_getElem hlt] at h; injection h
  simp [World.setCell, hlt, hb, hi, Array.setIfInBounds, Array.getElem_modify]
theorem set_far {w : World} {k b : Nat} {o : Obj} (h : w.heap[k]? = some o) (hne : k ≠ b) (i : Nat) (v : Value) : (w.setCell ⟨b, i, none⟩ v).heap[k]? = some o := by
  rw [Below.heap_setCell _ _ _ _ (fun e => hne (show k = b from e))]
  exact h
theorem sets5 {w : World} {b : Nat} {t : TypeId} {x0 x1 x2 x3 x4 : Value} (h : w.heap[b]? = some (.cells #[x0, x1, x2, x3, x4] t (0, 0))) (v0 v1 v2 v3 v4 : Value) :
    (((((w.setCell ⟨b, 0, none⟩ v0).setCell ⟨b, 1, none⟩ v1).setCell ⟨b, 2, none⟩ v2).setCell ⟨b, 3, none⟩ v3).setCell ⟨b, 4, none⟩ v4).heap[b]? = some (.cells #[v0, v1, v2, v3, v4] t (0, 0)) ∧ w.grownBy (((((w.setCell ⟨b, 0, none⟩ v0).setCell ⟨b, 1, none⟩ v1).setCell ⟨b, 2, none⟩ v2).setCell ⟨b, 3, none⟩ v3).setCell ⟨b, 4, none⟩ v4) (some b) :=
  ⟨set_heap (set_heap (set_heap (set_heap (set_heap h 0 v0 (by simp)) 1 v1 (by simp)) 2 v2 (by simp)) 3 v3 (by simp)) 4 v4 (by simp),
    Lib.grownBy_setB (Lib.grownBy_setB (Lib.grownBy_setB (Lib.grownBy_setB (Lib.grownBy_setB (gr_refl w _) _ _) _ _) _ _) _ _) _ _⟩
theorem below_grown {w0 w w' : World} {B b : Nat} (h : Below B w0 w) (hg : w.grownBy w' (some b)) (hb : B ≤ b) (hB : B ≤ w0.heap.size) : Below B w0 w' :=
  ⟨hg.os.trans h.os, hg.tape.trans h.tape, hg.output.trans h.output, Nat.le_trans h.size hg.size, fun k hk => (hg.block k (Nat.lt_of_lt_of_le (Nat.lt_of_lt_of_le hk hB) h.size) (by intro e; injection e with e; omega)).trans (h.block k hk)⟩
theorem LpOwn.far {w w' : World} {B b : Nat} {ts ss : List Job} {ms : List Tim} {vt vs vm : Value} (h : LpOwn w B ts ss ms vt vs vm) (hg : w.grownBy w' (some b)) (h1 : vt.ownBlock ≠ some b) (h2 : vs.ownBlock ≠ some b) (h3 : vm.ownBlock ≠ some b) : LpOwn w' B ts ss ms vt vs vm :=
  ⟨h.t.kept hg (.inr h1), h.s.kept hg (.inr h2), h.m.kept hg (.inr h3), h.d1, h.d2, h.d3⟩
theorem LpOwn.not {w : World} {B b : Nat} {ts ss : List Job} {ms : List Tim} {vt vs vm : Value} (h : LpOwn w B ts ss ms vt vs vm) (hb : w.heap.size ≤ b) : vt.ownBlock ≠ some b ∧ vs.ownBlock ≠ some b ∧ vm.ownBlock ≠ some b :=
  ⟨fun e => by have := (h.t.lt _ e).2; omega, fun e => by have := (h.s.lt _ e).2; omega, fun e => by have := (h.m.lt _ e).2; omega⟩
theorem LpOwn.setT {w w' : World} {B : Nat} {ts ts' ss : List Job} {ms : List Tim} {vt vt' vs vm : Value} (h : LpOwn w B ts ss ms vt vs vm) (ho : w'.ownsRow B 39 7 vt' ts'.length (ts'.flatMap Job.c)) (hg : w.grownBy w' vt.ownBlock) (ha : ∀ k, vt'.ownBlock = some k → vt.ownBlock = some k ∨ w.heap.size ≤ k) : LpOwn w' B ts' ss ms vt' vs vm where
  t := ho
  s := h.s.kept hg (by
    cases e : vs.ownBlock with
    | none => exact .inl rfl
    | some k => exact .inr fun e2 => h.d1 k e2.symm e)
  m := h.m.kept hg (by
    cases e : vm.ownBlock with
    | none => exact .inl rfl
    | some k => exact .inr fun e2 => h.d2 k e2.symm e)
  d1 g hgk e := by
    rcases ha g hgk with h1 | h1
    · exact h.d1 g h1 e
    · have := (h.s.lt g e).2; omega
  d2 g hgk e := by
    rcases ha g hgk with h1 | h1
    · exact h.d2 g h1 e
    · have := (h.m.lt g e).2; omega
  d3 := h.d3
theorem LpOwn.setS {w w' : World} {B : Nat} {ts ss ss' : List Job} {ms : List Tim} {vt vs vs' vm : Value} (h : LpOwn w B ts ss ms vt vs vm) (ho : w'.ownsRow B 39 7 vs' ss'.length (ss'.flatMap Job.c)) (hg : w.grownBy w' vs.ownBlock) (ha : ∀ k, vs'.ownBlock = some k → vs.ownBlock = some k ∨ w.heap.size ≤ k) : LpOwn w' B ts ss' ms vt vs' vm where
  t := h.t.kept hg (by
    cases e : vt.ownBlock with
    | none => exact .inl rfl
    | some k => exact .inr fun e2 => h.d1 k e e2.symm)
  s := ho
  m := h.m.kept hg (by
    cases e : vm.ownBlock with
    | none => exact .inl rfl
    | some k => exact .inr fun e2 => h.d3 k e2.symm e)
  d1 g hgk e := by
    rcases ha g e with h1 | h1
    · exact h.d1 g hgk h1
    · have := (h.t.lt g hgk).2; omega
  d2 := h.d2
  d3 g hgk e := by
    rcases ha g hgk with h1 | h1
    · exact h.d3 g h1 e
    · have := (h.m.lt g e).2; omega
theorem LpOwn.setM {w w' : World} {B : Nat} {ts ss : List Job} {ms ms' : List Tim} {vt vs vm vm' : Value} (h : LpOwn w B ts ss ms vt vs vm) (ho : w'.ownsRow B 49 5 vm' ms'.length (ms'.flatMap Tim.c)) (hg : w.grownBy w' vm.ownBlock) (ha : ∀ k, vm'.ownBlock = some k → vm.ownBlock = some k ∨ w.heap.size ≤ k) : LpOwn w' B ts ss ms' vt vs vm' where
  t := h.t.kept hg (by
    cases e : vt.ownBlock with
    | none => exact .inl rfl
    | some k => exact .inr fun e2 => h.d2 k e e2.symm)
  s := h.s.kept hg (by
    cases e : vs.ownBlock with
    | none => exact .inl rfl
    | some k => exact .inr fun e2 => h.d3 k e e2.symm)
  m := ho
  d1 := h.d1
  d2 g hgk e := by
    rcases ha g e with h1 | h1
    · exact h.d2 g hgk h1
    · have := (h.t.lt g hgk).2; omega
  d3 g hgk e := by
    rcases ha g e with h1 | h1
    · exact h.d3 g hgk h1
    · have := (h.s.lt g hgk).2; omega
theorem LpOwn.below {w w' : World} {B : Nat} {ts ss : List Job} {ms : List Tim} {vt vs vm : Value} (h : LpOwn w B ts ss ms vt vs vm) (hb : Below w.heap.size w w') : LpOwn w' B ts ss ms vt vs vm :=
  ⟨own_below h.t hb (Nat.le_refl _), own_below h.s hb (Nat.le_refl _), own_below h.m hb (Nat.le_refl _), h.d1, h.d2, h.d3⟩
theorem LpOwn.alloc {w : World} {B : Nat} {ts ss : List Job} {ms : List Tim} {vt vs vm : Value} (h : LpOwn w B ts ss ms vt vs vm) (o : Obj) : LpOwn (w.alloc o) B ts ss ms vt vs vm := ⟨h.t.alloc o, h.s.alloc o, h.m.alloc o, h.d1, h.d2, h.d3⟩
theorem LpOwn.shape {w : World} {B : Nat} {ts ss : List Job} {ms : List Tim} {vt vs vm : Value} (h : LpOwn w B ts ss ms vt vs vm) : ∃ ta sa ma tc sc mc, vt = .slice ta ts.length tc ∧ vs = .slice sa ss.length sc ∧ vm = .slice ma ms.length mc := by
  obtain ⟨a, c, e1⟩ := own_shape h.t
  obtain ⟨a2, c2, e2⟩ := own_shape h.s
  obtain ⟨a3, c3, e3⟩ := own_shape h.m
  exact ⟨a, a2, a3, c, c2, c3, e1, e2, e3⟩
/-- All blocks are as they were but these. -/
structure Bl (w wx : World) (u : List (Option Nat)) : Prop where
  os : wx.os = w.os
  tape : wx.tape = w.tape
  output : wx.output = w.output
  size : w.heap.size ≤ wx.heap.size
  block : ∀ k, k < w.heap.size → some k ∉ u → wx.heap[k]? = w.heap[k]?
theorem Bl.of_below {w wx : World} {u : List (Option Nat)} (h : Below w.heap.size w wx) : Bl w wx u := ⟨h.os, h.tape, h.output, h.size, fun k hk _ => h.block k hk⟩
theorem Bl.toBelow {w wx : World} {u : List (Option Nat)} {B : Nat} (h : Bl w wx u) (hB : B ≤ w.heap.size) (hu : ∀ k, some k ∈ u → B ≤ k) : Below B w wx := ⟨h.os, h.tape, h.output, h.size, fun k hk => h.block k (by omega) (fun e => by have := hu k e; omega)⟩
theorem Bl.trans_below {w wx w' : World} {u : List (Option Nat)} (h : Bl w wx u) (hb : Below wx.heap.size wx w') : Bl w w' u :=
  ⟨hb.os.trans h.os, hb.tape.trans h.tape, hb.output.trans h.output, Nat.le_trans h.size hb.size, fun k hk hu => (hb.block k (Nat.lt_of_lt_of_le hk h.size)).trans (h.block k hk hu)⟩
theorem Bl.grown {w wx w' : World} {u : List (Option Nat)} {r : Option Nat} (h : Bl w wx u) (hg : wx.grownBy w' r) (hr : ∀ k, r = some k → some k ∈ u ∨ w.heap.size ≤ k) : Bl w w' u :=
  ⟨hg.os.trans h.os, hg.tape.trans h.tape, hg.output.trans h.output, Nat.le_trans h.size hg.size, fun k hk hu => (hg.block k (Nat.lt_of_lt_of_le hk h.size) (fun e => by rcases hr k e.symm with h1 | h1; exact hu h1; omega)).trans (h.block k hk hu)⟩
theorem Bl.drew {w wx : World} {u : List (Option Nat)} (h : Bl w wx u) : Bl w wx.drew u := ⟨h.os, h.tape, h.output, h.size, h.block⟩
/-- The three rows' blocks. -/
def own3 (vt vs vm : Value) : List (Option Nat) := [vt.ownBlock, vs.ownBlock, vm.ownBlock]
theorem LpOwn.ge {w : World} {B : Nat} {ts ss : List Job} {ms : List Tim} {vt vs vm : Value} (h : LpOwn w B ts ss ms vt vs vm) : ∀ k, some k ∈ own3 vt vs vm → B ≤ k := by
  intro k hk
  simp only [own3, List.mem_cons, List.not_mem_nil, or_false] at hk
  rcases hk with e | e | e
  · exact (h.t.lt _ e.symm).1
  · exact (h.s.lt _ e.symm).1
  · exact (h.m.lt _ e.symm).1
/-- Each row lies in one of these blocks, or in a new one. -/
def At (w : World) (u : List (Option Nat)) (vt vs vm : Value) : Prop := ∀ k, some k ∈ own3 vt vs vm → some k ∈ u ∨ w.heap.size ≤ k
theorem At.refl {w : World} {vt vs vm : Value} : At w (own3 vt vs vm) vt vs vm := fun _ h => .inl h
theorem At.mk3 {w : World} {u : List (Option Nat)} {vt vs vm : Value} (h1 : ∀ k, vt.ownBlock = some k → some k ∈ u ∨ w.heap.size ≤ k) (h2 : ∀ k, vs.ownBlock = some k → some k ∈ u ∨ w.heap.size ≤ k) (h3 : ∀ k, vm.ownBlock = some k → some k ∈ u ∨ w.heap.size ≤ k) : At w u vt vs vm := by
  intro k hk
  simp only [own3, List.mem_cons, List.not_mem_nil, or_false] at hk
  rcases hk with e | e | e
  · exact h1 k e.symm
  · exact h2 k e.symm
  · exact h3 k e.symm
theorem At.not {w : World} {u : List (Option Nat)} {vt vs vm : Value} (h : At w u vt vs vm) {b : Nat} (hb : b < w.heap.size) (hu : some b ∉ u) : vt.ownBlock ≠ some b ∧ vs.ownBlock ≠ some b ∧ vm.ownBlock ≠ some b :=
  ⟨fun e => by rcases h b (by rw [← e]; simp [own3]) with h1 | h1; exact hu h1; omega, fun e => by rcases h b (by rw [← e]; simp [own3]) with h1 | h1; exact hu h1; omega, fun e => by rcases h b (by rw [← e]; simp [own3]) with h1 | h1; exact hu h1; omega⟩
/-- What post, timer and do answer. -/
def AskSaid (w : World) (B : Nat) (u : List (Option Nat)) (r : Lp × Int × Int) (e : Ending) (w' : World) : Prop :=
  ∃ vt vs vm, e = .returned (.tuple #[r.1.v vt vs vm, .int .i64 r.2.1, .int .i64 r.2.2]) ∧ LpOwn w' B r.1.tasks r.1.smalls r.1.tims vt vs vm ∧ Bl w w' u ∧ At w u vt vs vm
def jobOf (id src : Int) (small : Bool) (a : Qst) : Job := ⟨id, src, small, a.call, a.ak, a.an, a.as_⟩
def Lp.post (q : Lp) (a : Qst) (small : Bool) : Lp × Int × Int :=
  if small then if full q.next q.smalls.length then (q, 0, 2) else ({ q with smalls := q.smalls ++ [jobOf q.next 0 true a], next := q.next + 1 }, q.next, 0)
  else if !within a.src 1 4 then (q, 0, 1)
  else if full q.next q.tasks.length then (q, 0, 2) else ({ q with tasks := q.tasks ++ [jobOf q.next a.src false a], next := q.next + 1 }, q.next, 0)

/-- What holds behind post's append. -/
structure PostX (B : Nat) (u : List (Option Nat)) (w wx : World) (ts ss : List Job) (ms : List Tim) (vt vs vm : Value) (o1 o3 : Obj) : Prop where
  k1 : wx.heap[w.heap.size + 1]? = some o1
  k3 : wx.heap[w.heap.size + 1 + 1 + 1]? = some o3
  own : LpOwn wx B ts ss ms vt vs vm
  bl : Bl w wx u
  sz : w.heap.size + 4 ≤ wx.heap.size
  no : ∀ k, k < 4 → vt.ownBlock ≠ some (w.heap.size + k) ∧ vs.ownBlock ≠ some (w.heap.size + k) ∧ vm.ownBlock ≠ some (w.heap.size + k)
  at_ : At w u vt vs vm
theorem PostX.set {B : Nat} {u : List (Option Nat)} {w wx : World} {ts ss : List Job} {ms : List Tim} {vt vs vm : Value} {o1 o3 : Obj} (h : PostX B u w wx ts ss ms vt vs vm o1 o3) (i : Nat) (v : Value) : PostX B u w (wx.setCell ⟨w.heap.size, i, none⟩ v) ts ss ms vt vs vm o1 o3 := by
  have hg : wx.grownBy (wx.setCell ⟨w.heap.size, i, none⟩ v) (some w.heap.size) := Lib.grownBy_setB (gr_refl wx _) _ _
  have hz := h.sz
  obtain ⟨n1, n2, n3⟩ := h.no 0 (by omega)
  exact ⟨(hg.block _ (by omega) (by intro e; injection e with e; omega)).trans h.k1, (hg.block _ (by omega) (by intro e; injection e with e; omega)).trans h.k3, h.own.far hg n1 n2 n3, h.bl.grown hg (fun k e => .inr (by injection e with e; omega)), Nat.le_trans h.sz hg.size, h.no, h.at_⟩
theorem PostX.done {B : Nat} {u : List (Option Nat)} {w wx w8 : World} {ts ss : List Job} {ms : List Tim} {vt vs vm : Value} {o1 o3 : Obj} (h : PostX B u w wx ts ss ms vt vs vm o1 o3) (hg : wx.grownBy w8 (some (w.heap.size + 1))) : LpOwn w8.drew B ts ss ms vt vs vm ∧ Bl w w8.drew u ∧ At w u vt vs vm := by
  obtain ⟨n1, n2, n3⟩ := h.no 1 (by omega)
  have h1 := h.own.far hg n1 n2 n3
  have h2 := h.bl.grown hg (fun k e => .inr (by injection e with e; omega))
  exact ⟨⟨h1.t, h1.s, h1.m, h1.d1, h1.d2, h1.d3⟩, ⟨h2.os, h2.tape, h2.output, h2.size, h2.block⟩, h.at_⟩
theorem post_keepT {B : Nat} {w w5 : World} {ts ss : List Job} {ms : List Tim} {vt vs vm : Value} {o0 o1 o3 : Obj} {Jb : Job} (h0 : LpOwn w B ts ss ms vt vs vm) (hb : Below w.heap.size w w5) (hsz : w.heap.size + 4 ≤ w5.heap.size) (hL : LpOwn w5 B ts ss ms vt vs vm)
    (k0 : w5.heap[w.heap.size]? = some o0) (k1 : w5.heap[w.heap.size + 1]? = some o1) (k3 : w5.heap[w.heap.size + 1 + 1 + 1]? = some o3) (JO : Obj) :
    ∀ g cap w6, w6.ownsRow B 39 7 (.slice (some ⟨g, 0, none⟩) (ts.length + 1) cap) (ts.length + 1) (ts.flatMap Job.c ++ Job.c Jb) → (w5.drew.alloc JO).grownBy w6 vt.ownBlock → (vt.ownBlock = some g ∨ g = (w5.drew.alloc JO).heap.size) →
      w6.heap[w.heap.size]? = some o0 ∧ PostX B (own3 vt vs vm) w w6 (ts ++ [Jb]) ss ms (.slice (some ⟨g, 0, none⟩) (ts.length + 1) cap) vs vm o1 o3 := by
  intro g cap w6 hown hgrow hat
  have hne : ∀ k, some (w.heap.size + k) ≠ vt.ownBlock := fun k e => by have := (h0.t.lt _ e.symm).2; omega
  have hbl : ∀ k o, k < 4 → w5.heap[w.heap.size + k]? = some o → w6.heap[w.heap.size + k]? = some o := fun k o hk h => by
    rw [hgrow.block (w.heap.size + k) (by simp; omega) (hne k)]
    exact alloc_keep (w := w5.drew) h JO
  have hL2 : LpOwn (w5.drew.alloc JO) B ts ss ms vt vs vm := LpOwn.alloc (w := w5.drew) ⟨hL.t, hL.s, hL.m, hL.d1, hL.d2, hL.d3⟩ JO
  refine ⟨hbl 0 _ (by omega) k0, hbl 1 _ (by omega) k1, hbl 3 _ (by omega) k3, ?_, ?_, ?_, ?_, ?_⟩
  · refine hL2.setT (by rw [List.length_append, List.flatMap_append]; simpa using hown) hgrow ?_
    intro k hk
    injection hk with hk
    simp only at hk
    subst hk
    rcases hat with h | h
    · exact .inl h
    · exact .inr (by omega)
  · refine ⟨hgrow.os.trans hb.os, hgrow.tape.trans hb.tape, hgrow.output.trans hb.output, Nat.le_trans hb.size (Nat.le_trans (by simp) hgrow.size), fun k hk hu => ?_⟩
    rw [hgrow.block k (by simp; omega) (fun e => hu (by rw [e]; simp [own3]))]
    exact (Lib.alloc_old w5.drew JO k (by simp; omega)).trans (hb.block k hk)
  · exact Nat.le_trans hsz (Nat.le_trans (by simp) hgrow.size)
  · intro k hk
    obtain ⟨n1, n2, n3⟩ := h0.not (b := w.heap.size + k) (by omega)
    refine ⟨fun e => ?_, n2, n3⟩
    injection e with e
    simp only at e
    rcases hat with h | h
    · exact hne k (by rw [h, e])
    · simp at h; omega
  · refine At.mk3 ?_ (fun k e => .inl (by rw [← e]; simp [own3])) (fun k e => .inl (by rw [← e]; simp [own3]))
    intro k hk
    injection hk with hk
    simp only at hk
    subst hk
    rcases hat with h | h
    · exact .inl (by rw [← h]; simp [own3])
    · refine .inr ?_
      simp at h
      omega
theorem post_keepS {B : Nat} {w w5 : World} {ts ss : List Job} {ms : List Tim} {vt vs vm : Value} {o0 o1 o3 : Obj} {Jb : Job} (h0 : LpOwn w B ts ss ms vt vs vm) (hb : Below w.heap.size w w5) (hsz : w.heap.size + 4 ≤ w5.heap.size) (hL : LpOwn w5 B ts ss ms vt vs vm)
    (k0 : w5.heap[w.heap.size]? = some o0) (k1 : w5.heap[w.heap.size + 1]? = some o1) (k3 : w5.heap[w.heap.size + 1 + 1 + 1]? = some o3) (JO : Obj) :
    ∀ g cap w6, w6.ownsRow B 39 7 (.slice (some ⟨g, 0, none⟩) (ss.length + 1) cap) (ss.length + 1) (ss.flatMap Job.c ++ Job.c Jb) → (w5.drew.alloc JO).grownBy w6 vs.ownBlock → (vs.ownBlock = some g ∨ g = (w5.drew.alloc JO).heap.size) →
      w6.heap[w.heap.size]? = some o0 ∧ PostX B (own3 vt vs vm) w w6 ts (ss ++ [Jb]) ms vt (.slice (some ⟨g, 0, none⟩) (ss.length + 1) cap) vm o1 o3 := by
  intro g cap w6 hown hgrow hat
  have hne : ∀ k, some (w.heap.size + k) ≠ vs.ownBlock := fun k e => by have := (h0.s.lt _ e.symm).2; omega
  have hbl : ∀ k o, k < 4 → w5.heap[w.heap.size + k]? = some o → w6.heap[w.heap.size + k]? = some o := fun k o hk h => by
    rw [hgrow.block (w.heap.size + k) (by simp; omega) (hne k)]
    exact alloc_keep (w := w5.drew) h JO
  have hL2 : LpOwn (w5.drew.alloc JO) B ts ss ms vt vs vm := LpOwn.alloc (w := w5.drew) ⟨hL.t, hL.s, hL.m, hL.d1, hL.d2, hL.d3⟩ JO
  refine ⟨hbl 0 _ (by omega) k0, hbl 1 _ (by omega) k1, hbl 3 _ (by omega) k3, ?_, ?_, ?_, ?_, ?_⟩
  · refine hL2.setS (by rw [List.length_append, List.flatMap_append]; simpa using hown) hgrow ?_
    intro k hk
    injection hk with hk
    simp only at hk
    subst hk
    rcases hat with h | h
    · exact .inl h
    · exact .inr (by omega)
  · refine ⟨hgrow.os.trans hb.os, hgrow.tape.trans hb.tape, hgrow.output.trans hb.output, Nat.le_trans hb.size (Nat.le_trans (by simp) hgrow.size), fun k hk hu => ?_⟩
    rw [hgrow.block k (by simp; omega) (fun e => hu (by rw [e]; simp [own3]))]
    exact (Lib.alloc_old w5.drew JO k (by simp; omega)).trans (hb.block k hk)
  · exact Nat.le_trans hsz (Nat.le_trans (by simp) hgrow.size)
  · intro k hk
    obtain ⟨n1, n2, n3⟩ := h0.not (b := w.heap.size + k) (by omega)
    refine ⟨n1, fun e => ?_, n3⟩
    injection e with e
    simp only at e
    rcases hat with h | h
    · exact hne k (by rw [h, e])
    · simp at h; omega
  · refine At.mk3 (fun k e => .inl (by rw [← e]; simp [own3])) ?_ (fun k e => .inl (by rw [← e]; simp [own3]))
    intro k hk
    injection hk with hk
    simp only at hk
    subst hk
    rcases hat with h | h
    · exact .inl (by rw [← h]; simp [own3])
    · refine .inr ?_
      simp at h
      omega
set_option maxRecDepth 100000 in
set_option maxHeartbeats 4000000 in
theorem post_task (B : Nat) (now next : Int) (ts ss : List Job) (ms : List Tim) (vt vs vm : Value) (a : Qst) (w : World) (h : LpOwn w B ts ss ms vt vs vm) (hB : B ≤ w.heap.size) (h1 : ts.length ≤ 100) (hn1 : 0 ≤ next) (hn2 : next ≤ 1000000000) :
    Calls Try.prog 39 #[askedV now next vt vs vm a, .bool false] w (AskSaid w B (own3 vt vs vm) ((⟨now, next, ts, ss, ms⟩ : Lp).post a false)) := by
  obtain ⟨ta, sa, ma, tc, sc, mc, rfl, rfl, rfl⟩ := h.shape
  obtain ⟨q0, q1, q2, q3, q4, q5, q6⟩ := a
  have HO := Lib.hid h
  clear h
  unfold askedV
  simp only
  have HFU := Lib.hid (fun now next vt vs vm a n w => full_any now next vt vs vm a n w)
  unfold askedV at HFU
  go_enter Try.func39, Try.ntmps39
  obtain ⟨b, hb⟩ : ∃ b, within q1 1 4 = b := ⟨_, rfl⟩
  have HW : Hid (∀ w, Calls Try.prog 24 #[.int .i64 q1, .int .i64 1, .int .i64 4] w fun e w' => e = .returned (.bool b) ∧ w = w') := Lib.hid (fun w => by rw [← hb]; exact within_any q1 1 4 w)
  cases b
  · go_wp2_with (go_at_call 24; refine (HW.out _).mono ?_; rintro e w2 ⟨rfl, rfl⟩)
    refine bodyPost_ret (v := _) (by simp [results, Try.results39, go_sem]; rfl) rfl ?_
    refine ⟨.slice ta ts.length tc, .slice sa ss.length sc, .slice ma ms.length mc, ?_, ?_, ?_⟩
    · simp [Lp.post, hb]; rfl
    · simp only [Lp.post, hb]; exact (((HO.out.alloc _).alloc _).alloc _).alloc _
    · exact ⟨Bl.of_below (((((Below.refl _ _).alloc (Nat.le_refl _) _).alloc (by simp <;> omega) _).alloc (by simp <;> omega) _).alloc (by simp <;> omega) _), At.refl⟩
  · go_wp2_with (go_at_call 24; refine (HW.out _).mono ?_; rintro e w2 ⟨rfl, rfl⟩)
    obtain ⟨w4, hw4, H0, H1, H2, H3, HL, HB⟩ : ∃ w4, w4 = ((((w.alloc (.cells #[.int .i64 now, .int .i64 next, .slice ta ts.length tc, .slice sa ss.length sc, .slice ma ms.length mc, .int .i64 q0, .int .i64 q1, .int .i64 q2, .string q3, .int .i64 q4, .int .i64 q5, .string q6] 64)).alloc (.cells #[.int .i64 0, .int .i64 0, .slice none 0 0, .slice none 0 0, .slice none 0 0] 26)).alloc (.cells #[.int .i64 now, .int .i64 next, .slice ta ts.length tc, .slice sa ss.length sc, .slice ma ms.length mc] 26)).alloc (.cells #[.int .i64 next, .int .i64 q1, .bool false, .string q3, .int .i64 q4, .int .i64 q5, .string q6] 39)) ∧
      Hid (w4.heap[w.heap.size]? = some (.cells #[.int .i64 now, .int .i64 next, .slice ta ts.length tc, .slice sa ss.length sc, .slice ma ms.length mc, .int .i64 q0, .int .i64 q1, .int .i64 q2, .string q3, .int .i64 q4, .int .i64 q5, .string q6] 64 (0, 0))) ∧ Hid (w4.heap[w.heap.size + 1]? = some (.cells #[.int .i64 0, .int .i64 0, .slice none 0 0, .slice none 0 0, .slice none 0 0] 26 (0, 0))) ∧ Hid (w4.heap[w.heap.size + 1 + 1]? = some (.cells #[.int .i64 now, .int .i64 next, .slice ta ts.length tc, .slice sa ss.length sc, .slice ma ms.length mc] 26 (0, 0))) ∧ Hid (w4.heap[w.heap.size + 1 + 1 + 1]? = some (.cells #[.int .i64 next, .int .i64 q1, .bool false, .string q3, .int .i64 q4, .int .i64 q5, .string q6] 39 (0, 0))) ∧ Hid (LpOwn w4 B ts ss ms (.slice ta ts.length tc) (.slice sa ss.length sc) (.slice ma ms.length mc)) ∧ Hid (Below w.heap.size w w4 ∧ w4.heap.size = w.heap.size + 4) :=
      ⟨_, rfl, Lib.hid (alloc_keep (alloc_keep (alloc_keep (alloc_at rfl _) _) _) _), Lib.hid (alloc_keep (alloc_keep (alloc_at (by simp) _) _) _), Lib.hid (alloc_keep (alloc_at (by simp) _) _), Lib.hid (alloc_at (by simp) _), Lib.hid ((((HO.out.alloc _).alloc _).alloc _).alloc _), Lib.hid ⟨((((Below.refl _ _).alloc (Nat.le_refl _) _).alloc (by simp <;> omega) _).alloc (by simp <;> omega) _).alloc (by simp <;> omega) _, by simp⟩⟩
    rw [← hw4]
    clear hw4
    obtain ⟨f, hf⟩ : ∃ f, full next ts.length = f := ⟨_, rfl⟩
    obtain ⟨c0, c1, c2, c3, c4, c5, c6, c7, c8, c9, c10, c11⟩ := cells12 H0.out
    have HF : Hid (∀ w, Calls Try.prog 47 #[.agg #[.int .i64 now, .int .i64 next, .slice ta ts.length tc, .slice sa ss.length sc, .slice ma ms.length mc, .int .i64 q0, .int .i64 q1, .int .i64 q2, .string q3, .int .i64 q4, .int .i64 q5, .string q6], .int .i64 (ts.length : Int)] w fun e w' => e = .returned (.bool f) ∧ Below w.heap.size w w') := Lib.hid (fun w => by rw [← hf]; exact HFU.out now next _ _ _ ⟨q0, q1, q2, q3, q4, q5, q6⟩ _ w)
    go_cut [41] (fun v wx => v = .bool f ∧ Below w4.heap.size w4 wx)
    case first =>
      go_region_with ((go_at_call 47; refine (HF.out _).mono ?_; rintro e w5 ⟨rfl, hb5⟩))
      all_goals
        go_wp2_with fail
        go_meet
        exact ⟨rfl, ⟨hb5.os, hb5.tape, hb5.output, hb5.size, hb5.block⟩⟩
    case rest =>
      obtain ⟨rfl, hb5⟩ := hcut
      have hsz := HB.out.2
      obtain ⟨w5, hw5⟩ : ∃ w5, w5 = wc := ⟨_, rfl⟩
      rw [← hw5] at hb5 ⊢
      clear hw5
      have K0 := Lib.hid ((hb5.block w.heap.size (by omega)).trans H0.out)
      have K1 := Lib.hid ((hb5.block (w.heap.size + 1) (by omega)).trans H1.out)
      have K2 := Lib.hid ((hb5.block (w.heap.size + 1 + 1) (by omega)).trans H2.out)
      have K3 := Lib.hid ((hb5.block (w.heap.size + 1 + 1 + 1) (by omega)).trans H3.out)
      have KL := Lib.hid (HL.out.below hb5)
      have KB := Lib.hid (⟨HB.out.1.trans (Below.le hb5 (by omega)), Nat.le_trans (by omega) hb5.size⟩ : Below w.heap.size w w5 ∧ w.heap.size + 4 ≤ w5.heap.size)
      clear c0 c1 c2 c3 c4 c5 c6 c7 c8 c9 c10 c11 hb5 H0 H1 H2 H3 HL HB HF HFU HW
      cases f
      · obtain ⟨c0, c1, c2, c3, c4, c5, c6, c7, c8, c9, c10, c11⟩ := cells12 K0.out
        obtain ⟨d0, d1, d2, d3, d4, d5, d6⟩ := cells7 K3.out
        obtain ⟨i0, hi0, hz0, hz1, hz2⟩ := info_parts job_info
        obtain ⟨JO, hJO⟩ : ∃ JO, Obj.cells #[.int .i64 next, .int .i64 q1, .bool false, .string q3, .int .i64 q4, .int .i64 q5, .string q6] 39 (0, 0) = JO := ⟨_, rfl⟩
        have KEEP := Lib.hid (post_keepT HO.out KB.out.1 KB.out.2 KL.out K0.out K1.out K3.out JO (Jb := jobOf next q1 false ⟨q0, q1, q2, q3, q4, q5, q6⟩))
        have HROW : Hid ((w5.drew.alloc JO).ownsRow B 39 7 (.slice ta ts.length tc) ts.length (ts.flatMap Job.c)) := Lib.hid (World.ownsRow.alloc (own_drew KL.out.t) _)
        have HNW : Hid (∀ j u, (Job.c (jobOf next q1 false ⟨q0, q1, q2, q3, q4, q5, q6⟩))[j]? = some u → (w5.drew.alloc JO).cell? ((⟨w5.heap.size, 0, none⟩ : Addr).add j) = some u) := Lib.hid (World.news_of_block (by rw [← hJO]; exact heap_alloc_new w5.drew _))
        have H1C : Hid (∀ u ∈ Job.c (jobOf next q1 false ⟨q0, q1, q2, q3, q4, q5, q6⟩), u.oneCell' = true) := Lib.hid (by have := job_one [jobOf next q1 false ⟨q0, q1, q2, q3, q4, q5, q6⟩]; simpa using this)
        have hBB : B ≤ (w5.drew.alloc JO).heap.size := by have := KB.out.2; simp; omega
        have ca2 : (w5.alloc JO).cell? ⟨w.heap.size, 2, none⟩ = some (.slice ta ts.length tc) := (cells12 (alloc_keep K0.out JO)).2.2.1
        subst hJO
        go_wp2_with fail
        clear c0 c1 c3 c4 c5 c6 c7 c8 c9 c10 c11
        go_cut [] (fun wx => ∃ (g cap : Nat), wx.heap[w.heap.size]? = some (.cells #[.int .i64 now, .int .i64 next, .slice (some ⟨g, 0, none⟩) (ts.length + 1) cap, .slice sa ss.length sc, .slice ma ms.length mc, .int .i64 q0, .int .i64 q1, .int .i64 q2, .string q3, .int .i64 q4, .int .i64 q5, .string q6] 64 (0, 0)) ∧ PostX B (own3 (.slice ta ts.length tc) (.slice sa ss.length sc) (.slice ma ms.length mc)) w wx (ts ++ [jobOf next q1 false ⟨q0, q1, q2, q3, q4, q5, q6⟩]) ss ms (.slice (some ⟨g, 0, none⟩) (ts.length + 1) cap) (.slice sa ss.length sc) (.slice ma ms.length mc) (.cells #[.int .i64 0, .int .i64 0, .slice none 0 0, .slice none 0 0, .slice none 0 0] 26 (0, 0)) (.cells #[.int .i64 next, .int .i64 q1, .bool false, .string q3, .int .i64 q4, .int .i64 q5, .string q6] 39 (0, 0)))
        case first =>
          go_region_law ((refine step_append_lies _ (by rfl) (.tmp 46) (.tmp 48) 23 (by rfl) B 39 i0 zJob 7 72 Try.underlying23 hi0 hz0 hz1 hz2 (by rfl) (by decide) (.slice ta ts.length tc) ts.length (ts.flatMap Job.c) (by rfl) HROW.out ⟨w5.heap.size, 0, none⟩ 1 1 (Job.c (jobOf next q1 false ⟨q0, q1, q2, q3, q4, q5, q6⟩)) (by rfl) (by rfl) HNW.out H1C.out (by decide) (by unfold maxLen; omega) (by omega) hBB _ rfl ?_; intro g cap w6 hown hgrow hat _; have KP := Lib.hid (KEEP.out g cap w6 hown hgrow hat); have g2 := (cells12 KP.out.1).2.2.1; have z2 := Lib.frozen_of_heap KP.out.1 2; clear hown hgrow hat))
          all_goals
            go_wp2_with fail
            go_meet
            exact ⟨g, cap, set_heap KP.out.1 2 _ (by simp), KP.out.2.set 2 _⟩
        case rest =>
          obtain ⟨g, cap, x0, X⟩ := hcut
          have X0 := Lib.hid x0
          have XX := Lib.hid X
          obtain ⟨c0, c1, c2, c3, c4, c5, c6, c7, c8, c9, c10, c11⟩ := cells12 x0
          obtain ⟨d0, d1, d2, d3, d4, d5, d6⟩ := cells7 X.k3
          obtain ⟨e0, e1, e2, e3, e4⟩ := cells5 X.k1
          obtain ⟨z0, z1, z2, z3, z4⟩ := frz5 X.k1
          have y1 := Lib.frozen_of_heap x0 1
          clear x0 X
          go_wp2_with fail
          obtain ⟨W7, hW7, Y0, YX⟩ : ∃ W7, W7 = wc.setCell ⟨w.heap.size, 1, none⟩ (.int .i64 (next + 1)) ∧ Hid (W7.heap[w.heap.size]? = some (.cells #[.int .i64 now, .int .i64 (next + 1), .slice (some ⟨g, 0, none⟩) (ts.length + 1) cap, .slice sa ss.length sc, .slice ma ms.length mc, .int .i64 q0, .int .i64 q1, .int .i64 q2, .string q3, .int .i64 q4, .int .i64 q5, .string q6] 64 (0, 0))) ∧ Hid (PostX B (own3 (.slice ta ts.length tc) (.slice sa ss.length sc) (.slice ma ms.length mc)) w W7 (ts ++ [jobOf next q1 false ⟨q0, q1, q2, q3, q4, q5, q6⟩]) ss ms (.slice (some ⟨g, 0, none⟩) (ts.length + 1) cap) (.slice sa ss.length sc) (.slice ma ms.length mc) (.cells #[.int .i64 0, .int .i64 0, .slice none 0 0, .slice none 0 0, .slice none 0 0] 26 (0, 0)) (.cells #[.int .i64 next, .int .i64 q1, .bool false, .string q3, .int .i64 q4, .int .i64 q5, .string q6] 39 (0, 0))) := ⟨_, rfl, Lib.hid (set_heap X0.out 1 _ (by simp)), Lib.hid (PostX.set XX.out 1 _)⟩
          rw [← hW7]
          clear hW7 c0 c1 c2 c3 c4 c5 c6 c7 c8 c9 c10 c11 d0 d1 d2 d3 d4 d5 d6 e0 e1 e2 e3 e4 z0 z1 z2 z3 z4 y1
          obtain ⟨c0, c1, c2, c3, c4, c5, c6, c7, c8, c9, c10, c11⟩ := cells12 Y0.out
          obtain ⟨d0, d1, d2, d3, d4, d5, d6⟩ := cells7 YX.out.k3
          obtain ⟨e0, e1, e2, e3, e4⟩ := cells5 YX.out.k1
          obtain ⟨z0, z1, z2, z3, z4⟩ := frz5 YX.out.k1
          clear c5 c6 c7 c8 c9 c10 c11 d1 d2 d3 d4 d5 d6
          go_region
          all_goals
            go_wp2_with fail
            obtain ⟨hh, hg⟩ := sets5 YX.out.k1 (.int .i64 now) (.int .i64 (next + 1)) (.slice (some ⟨g, 0, none⟩) (ts.length + 1) cap) (.slice sa ss.length sc) (.slice ma ms.length mc)
            obtain ⟨W8, hW8⟩ : ∃ W8, W8 = (((((W7.setCell ⟨w.heap.size + 1, 0, none⟩ (.int .i64 now)).setCell ⟨w.heap.size + 1, 1, none⟩ (.int .i64 (next + 1))).setCell ⟨w.heap.size + 1, 2, none⟩ (.slice (some ⟨g, 0, none⟩) (ts.length + 1) cap)).setCell ⟨w.heap.size + 1, 3, none⟩ (.slice sa ss.length sc)).setCell ⟨w.heap.size + 1, 4, none⟩ (.slice ma ms.length mc)) := ⟨_, rfl⟩
            rw [← hW8] at hh hg ⊢
            clear c0 c1 c2 c3 c4 d0 e0 e1 e2 e3 e4 z0 z1 z2 z3 z4
            obtain ⟨e0, e1, e2, e3, e4⟩ := cells5 hh
            refine bodyPost_ret (v := _) (by simp [results, Try.results39, go_sem, e0, e1, e2, e3, e4]; rfl) rfl ?_
            obtain ⟨r1, r2⟩ := YX.out.done hg
            refine ⟨.slice (some ⟨g, 0, none⟩) (ts.length + 1) cap, .slice sa ss.length sc, .slice ma ms.length mc, ?_, ?_, r2⟩
            · simp [Lp.post, hb, hf]; rfl
            · simp only [Lp.post, hb, hf]; exact r1
      · obtain ⟨c0, c1, c2, c3, c4⟩ := cells5 K2.out
        obtain ⟨d0, d1, d2, d3, d4⟩ := cells5 K1.out
        obtain ⟨f0, f1, f2, f3, f4⟩ := frz5 K1.out
        go_wp2_with fail
        obtain ⟨hh, hg⟩ := sets5 K1.out (.int .i64 now) (.int .i64 next) (.slice ta ts.length tc) (.slice sa ss.length sc) (.slice ma ms.length mc)
        obtain ⟨W6, hW6⟩ : ∃ W6, W6 = (((((w5.setCell ⟨w.heap.size + 1, 0, none⟩ (.int .i64 now)).setCell ⟨w.heap.size + 1, 1, none⟩ (.int .i64 next)).setCell ⟨w.heap.size + 1, 2, none⟩ (.slice ta ts.length tc)).setCell ⟨w.heap.size + 1, 3, none⟩ (.slice sa ss.length sc)).setCell ⟨w.heap.size + 1, 4, none⟩ (.slice ma ms.length mc)) := ⟨_, rfl⟩
        rw [← hW6] at hh hg ⊢
        obtain ⟨e0, e1, e2, e3, e4⟩ := cells5 hh
        refine bodyPost_ret (v := _) (by simp [results, Try.results39, go_sem, e0, e1, e2, e3, e4]; rfl) rfl ?_
        obtain ⟨n1, n2, n3⟩ := HO.out.not (b := w.heap.size + 1) (by omega)
        refine ⟨.slice ta ts.length tc, .slice sa ss.length sc, .slice ma ms.length mc, ?_, ?_, (Bl.of_below KB.out.1).grown hg (fun k e => .inr (by injection e with e; omega)), At.refl⟩
        · simp [Lp.post, hb, hf]; rfl
        · simp only [Lp.post, hb, hf]; exact KL.out.far hg n1 n2 n3
end Go.Proofs.Ytpmklganodlciaa
