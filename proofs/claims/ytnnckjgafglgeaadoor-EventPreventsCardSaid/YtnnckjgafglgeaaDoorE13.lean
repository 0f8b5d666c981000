/- The world while an event is sent: the sending's block, its map, its row. -/
import Derived.Test.YtnnckjgafglgeaaDoorE12
import Derived.Maps.Own
import Derived.Maps.OwnOps
import Derived.Maps.Views
namespace Go.Proofs.YtnnckjgafglgeaaDoor
open Go.RowKit Go.Maps

structure Hd where
  lis : Int
  node : Int
  phase : Int
def Hd.c (h : Hd) : List Value := [.int .i64 h.lis, .int .i64 h.node, .int .i64 h.phase]
theorem Hd.len (h : Hd) : (Hd.c h).length = 3 := rfl
def zHd : Value := .agg #[.int .i64 0, .int .i64 0, .int .i64 0]
theorem hd_info : (Tryd.prog.info? 46).map (fun i => (i.zero, i.size, i.bytes)) = some (some zHd, 3, 24) := by kernel_rfl
theorem cell_hd (s : Hd) (t : TypeId) (w : World) : ∀ j u, (Hd.c s)[j]? = some u → (w.alloc (.cells #[.int .i64 s.lis, .int .i64 s.node, .int .i64 s.phase] t)).cell? ((⟨w.heap.size, 0, none⟩ : Addr).add j) = some u := World.news_of_block (heap_alloc_new w _)
theorem one_hd (s : Hd) : ∀ u ∈ Hd.c s, u.oneCell' = true := by
  intro u hu
  simp only [Hd.c, List.mem_cons, List.not_mem_nil, or_false] at hu
  rcases hu with rfl | rfl | rfl <;> rfl
/-- What a sending has come to. -/
structure Sd where
  heard : List Hd
  gone : List Int
  stops : Bool
  all : Bool
  no : Bool
def hearS (can : Bool) (s : Sd) (x : Lis) (a : St) : Sd := ⟨s.heard ++ [⟨x.id, a.node, a.phase⟩], if x.once then s.gone ++ [x.id] else s.gone, s.stops || x.stops, s.all || x.all, s.no || (x.prev && can)⟩
def hearsAt (ev : Ev) (a : St) (x : Lis) : Bool := decide (x.node = a.node) && (decide (x.typ = ev.typ) && (x.cap == a.down))
def doStep (ev : Ev) (a : St) (s : Sd) (x : Lis) : Sd := if !s.all && hearsAt ev a x then hearS ev.can s x a else s
def doS (ev : Ev) (ls : List Lis) (s : Sd) (a : St) : Sd := ls.foldl (doStep ev a) s
def sdStep (ev : Ev) (ls : List Lis) (s : Sd) (a : St) : Sd := if !s.stops && !s.all then doS ev ls s a else s
def sendS (ev : Ev) (ls : List Lis) (sts : List St) : Sd := sts.foldl (sdStep ev ls) ⟨[], [], false, false, false⟩
def Ev.cs (e : Ev) : List Value := [.string e.typ, .int .i64 e.target, .int .i64 e.x, .int .i64 e.y, .string e.key, .bool e.bub, .bool e.can]
/-- The sending's block. -/
def sdObj (lv : Value) (e : Ev) (hc : Value) (M : Nat) (b1 b2 b3 : Bool) : Obj :=
  .cells #[lv, .string e.typ, .int .i64 e.target, .int .i64 e.x, .int .i64 e.y, .string e.key, .bool e.bub, .bool e.can, hc, .map (some M), .bool b1, .bool b2, .bool b3] 62 (0, 0)
structure SD (w0 wr : World) (S M P : Nat) (lv : Value) (e : Ev) (K : List (Nat × Obj)) (hc hv : Value) (hl : List Hd) (gone : List Int) (D : DataW Unit) (b1 b2 b3 : Bool) : Prop where
  bl : Below w0.heap.size w0 wr
  blk : wr.heap[S]? = some (sdObj lv e hc M b1 b2 b3)
  map : wr.ownsMap Tryd.prog 3 (plainElem Tryd.prog 3) M gone.length D
  at_ : ∀ x, (Lit.int .i64 x).wf = true → D.atKey (.int .i64 x) (.lit (.int .i64 0)) = .lit (.int .i64 (if gone.contains x then 1 else 0))
  own : wr.ownsRow P 46 3 hv hl.length (hl.flatMap Hd.c)
  keep : ∀ p ∈ K, wr.heap[p.1]? = some p.2 ∧ p.1 ≠ S ∧ p.1 ≠ M ∧ hv.ownBlock ≠ some p.1
  hS : w0.heap.size ≤ S
  hM : w0.heap.size ≤ M
  hSM : S ≠ M
  hSP : S < P
  hMP : M < P
  sz : P ≤ wr.heap.size
section
variable {w0 wr w' : World} {S M P : Nat} {lv hc hv : Value} {e : Ev} {K : List (Nat × Obj)} {hl : List Hd} {gone : List Int} {D : DataW Unit} {b1 b2 b3 : Bool}
theorem SD.ltS (h : SD w0 wr S M P lv e K hc hv hl gone D b1 b2 b3) : S < wr.heap.size := lt_of_heap h.blk
theorem SD.row (h : SD w0 wr S M P lv e K hc hv hl gone D b1 b2 b3) : ∀ k, hv.ownBlock = some k → P ≤ k ∧ k < wr.heap.size := h.own.lt
theorem SD.call (h : SD w0 wr S M P lv e K hc hv hl gone D b1 b2 b3) (hb : Below wr.heap.size wr w') : SD w0 w' S M P lv e K hc hv hl gone D b1 b2 b3 where
  bl := h.bl.trans (Below.le hb h.bl.size)
  blk := (hb.block S h.ltS).trans h.blk
  map := h.map.kept (row := none) ⟨hb.os, hb.tape, hb.output, hb.size, fun k hk _ => hb.block k hk⟩ (by simp)
  at_ := h.at_
  own := own_below h.own hb (Nat.le_refl _)
  keep p hp := ⟨(hb.block _ (lt_of_heap (h.keep p hp).1)).trans (h.keep p hp).1, (h.keep p hp).2⟩
  hS := h.hS
  hM := h.hM
  hSM := h.hSM
  hSP := h.hSP
  hMP := h.hMP
  sz := Nat.le_trans h.sz hb.size
theorem SD.alloc (h : SD w0 wr S M P lv e K hc hv hl gone D b1 b2 b3) (o : Obj) : SD w0 (wr.alloc o) S M P lv e K hc hv hl gone D b1 b2 b3 :=
  h.call ((Below.refl _ _).alloc (Nat.le_refl _) _)
theorem SD.drew (h : SD w0 wr S M P lv e K hc hv hl gone D b1 b2 b3) : SD w0 wr.drew S M P lv e K hc hv hl gone D b1 b2 b3 := h.call ⟨rfl, rfl, rfl, Nat.le_refl _, fun _ _ => rfl⟩
theorem SD.drewN (h : SD w0 wr S M P lv e K hc hv hl gone D b1 b2 b3) (n : Nat) : SD w0 (wr.drewN n) S M P lv e K hc hv hl gone D b1 b2 b3 := h.call ⟨rfl, rfl, rfl, Nat.le_refl _, fun _ _ => rfl⟩
/-- One block more that stays. -/
theorem SD.also (h : SD w0 wr S M P lv e K hc hv hl gone D b1 b2 b3) (o : Obj) : SD w0 (wr.alloc o) S M P lv e ((wr.heap.size, o) :: K) hc hv hl gone D b1 b2 b3 :=
  { h.alloc o with
    keep := by
      intro p hp
      rcases List.mem_cons.1 hp with rfl | hp
      · exact ⟨alloc_at rfl o, fun e2 => by have := h.ltS; have e3 : wr.heap.size = S := e2; omega, fun e2 => by have := h.map.lt; have e3 : wr.heap.size = M := e2; omega, fun e2 => Nat.lt_irrefl _ (h.row _ e2).2⟩
      · exact (h.alloc o).keep p hp }
/-- A block that stands stays, too. -/
theorem SD.hold (h : SD w0 wr S M P lv e K hc hv hl gone D b1 b2 b3) {b : Nat} {o : Obj} (hb : wr.heap[b]? = some o) (h1 : b ≠ S) (h2 : b ≠ M) (h3 : hv.ownBlock ≠ some b) : SD w0 wr S M P lv e ((b, o) :: K) hc hv hl gone D b1 b2 b3 :=
  { h with
    keep := by
      intro p hp
      rcases List.mem_cons.1 hp with rfl | hp
      · exact ⟨hb, h1, h2, h3⟩
      · exact h.keep p hp }
theorem SD.less {K2 : List (Nat × Obj)} (h : SD w0 wr S M P lv e K hc hv hl gone D b1 b2 b3) (hk : ∀ p ∈ K2, p ∈ K) : SD w0 wr S M P lv e K2 hc hv hl gone D b1 b2 b3 :=
  { h with keep := fun p hp => h.keep p (hk p hp) }
theorem SD.k0 {b : Nat} {o : Obj} (h : SD w0 wr S M P lv e ((b, o) :: K) hc hv hl gone D b1 b2 b3) : wr.heap[b]? = some o := (h.keep (b, o) (by simp)).1
/-- A store into the sending's own block. -/
theorem SD.set (h : SD w0 wr S M P lv e K hc hv hl gone D b1 b2 b3) (i : Nat) (v : Value) {hc' : Value} {c1 c2 c3 : Bool} (hh : ∀ w2 : World, w2.heap[S]? = some (sdObj lv e hc M b1 b2 b3) → (w2.setCell ⟨S, i, none⟩ v).heap[S]? = some (sdObj lv e hc' M c1 c2 c3)) : SD w0 (wr.setCell ⟨S, i, none⟩ v) S M P lv e K hc' hv hl gone D c1 c2 c3 := by
  have hg : wr.grownBy (wr.setCell ⟨S, i, none⟩ v) (some S) := Lib.grownBy_setB (gr_refl wr _) _ _
  refine ⟨below_grown h.bl hg h.hS (Nat.le_refl _), hh wr h.blk, h.map.kept hg (fun e2 => by injection e2 with e2; exact h.hSM e2.symm), h.at_, h.own.kept hg (.inr fun e2 => by have := (h.row _ e2).1; have := h.hSP; omega), fun p hp => ?_, h.hS, h.hM, h.hSM, h.hSP, h.hMP, Nat.le_trans h.sz hg.size⟩
  obtain ⟨a1, a2, a3, a4⟩ := h.keep p hp
  exact ⟨(hg.block _ (lt_of_heap a1) (fun e2 => by injection e2 with e2; exact a2 e2)).trans a1, a2, a3, a4⟩
theorem SD.set8 (h : SD w0 wr S M P lv e K hc hv hl gone D b1 b2 b3) (v : Value) : SD w0 (wr.setCell ⟨S, 8, none⟩ v) S M P lv e K v hv hl gone D b1 b2 b3 := h.set 8 v fun _ h2 => set_heap h2 8 v (by simp)
theorem SD.set10 (h : SD w0 wr S M P lv e K hc hv hl gone D b1 b2 b3) (c : Bool) : SD w0 (wr.setCell ⟨S, 10, none⟩ (.bool c)) S M P lv e K hc hv hl gone D c b2 b3 := h.set 10 _ fun _ h2 => set_heap h2 10 _ (by simp)
theorem SD.set11 (h : SD w0 wr S M P lv e K hc hv hl gone D b1 b2 b3) (c : Bool) : SD w0 (wr.setCell ⟨S, 11, none⟩ (.bool c)) S M P lv e K hc hv hl gone D b1 c b3 := h.set 11 _ fun _ h2 => set_heap h2 11 _ (by simp)
theorem SD.set12 (h : SD w0 wr S M P lv e K hc hv hl gone D b1 b2 b3) (c : Bool) : SD w0 (wr.setCell ⟨S, 12, none⟩ (.bool c)) S M P lv e K hc hv hl gone D b1 b2 c := h.set 12 _ fun _ h2 => set_heap h2 12 _ (by simp)
/-- One more heard. -/
theorem SD.push (h : SD w0 wr S M P lv e K hc hv hl gone D b1 b2 b3) (x : Hd) {g cap H : Nat} (hH : wr.heap.size = H) (hown : w'.ownsRow P 46 3 (.slice (some ⟨g, 0, none⟩) (hl.length + 1) cap) (hl.length + 1) (hl.flatMap Hd.c ++ Hd.c x)) (hg : wr.grownBy w' hv.ownBlock) (hgg : hv.ownBlock = some g ∨ g = H) : SD w0 w' S M P lv e K hc (.slice (some ⟨g, 0, none⟩) (hl.length + 1) cap) (hl ++ [x]) gone D b1 b2 b3 where
  bl := h.bl.grown hg h.bl.size (fun k hk => by have := (h.row k hk).1; have := h.hS; have := h.hSP; omega)
  blk := (hg.block S h.ltS (fun e2 => by have := (h.row S e2.symm).1; have := h.hSP; omega)).trans h.blk
  map := h.map.kept hg (fun e2 => by have := (h.row M e2.symm).1; have := h.hMP; omega)
  at_ := h.at_
  own := by simpa using hown
  keep p hp := by
    obtain ⟨a1, a2, a3, a4⟩ := h.keep p hp
    refine ⟨(hg.block _ (lt_of_heap a1) (fun e2 => a4 e2.symm)).trans a1, a2, a3, fun e2 => ?_⟩
    have e3 : g = p.1 := by simpa [Value.ownBlock] using e2
    rcases hgg with hgg | hgg
    · exact a4 (by rw [hgg, e3])
    · have := lt_of_heap a1
      omega
  hS := h.hS
  hM := h.hM
  hSM := h.hSM
  hSP := h.hSP
  hMP := h.hMP
  sz := Nat.le_trans h.sz hg.size
/-- One more gone. -/
theorem SD.put (h : SD w0 wr S M P lv e K hc hv hl gone D b1 b2 b3) (x : Int) (hm : w'.ownsMap Tryd.prog 3 (plainElem Tryd.prog 3) M (gone.length + 1) (D.put (.int .i64 x) (.lit (.int .i64 1)))) (hg : wr.grownBy w' (some M)) : SD w0 w' S M P lv e K hc hv hl (gone ++ [x]) (D.put (.int .i64 x) (.lit (.int .i64 1))) b1 b2 b3 where
  bl := below_grown h.bl hg h.hM (Nat.le_refl _)
  blk := (hg.block S h.ltS (fun e2 => by injection e2 with e2; exact h.hSM e2)).trans h.blk
  map := by rw [List.length_append]; exact hm
  at_ y hy := by
    by_cases e2 : y = x
    · subst e2
      rw [atKey_put_same h.map.isMap (show WideAt.IsKeyLit (.int .i64 y) from trivial), if_pos (by simp)]
    · rw [atKey_put_other (by intro e3; injection e3 with _ e3; exact e2 e3), h.at_ y hy]
      congr 2
      simp [e2]
  own := h.own.kept hg (.inr fun e2 => by have := (h.row _ e2).1; have := h.hMP; omega)
  keep p hp := by
    obtain ⟨a1, a2, a3, a4⟩ := h.keep p hp
    exact ⟨(hg.block _ (lt_of_heap a1) (fun e2 => by injection e2 with e2; exact a3 e2)).trans a1, a2, a3, a4⟩
  hS := h.hS
  hM := h.hM
  hSM := h.hSM
  hSP := h.hSP
  hMP := h.hMP
  sz := Nat.le_trans h.sz hg.size
end
/-- The sending has come to s. -/
def SDX (w0 wr : World) (S M P : Nat) (lv : Value) (e : Ev) (K : List (Nat × Obj)) (s : Sd) : Prop := ∃ hv D, SD w0 wr S M P lv e K hv hv s.heard s.gone D s.stops s.all s.no
theorem SDX.less {w0 wr : World} {S M P : Nat} {lv : Value} {e : Ev} {K K2 : List (Nat × Obj)} {s : Sd} (h : SDX w0 wr S M P lv e K s) (hk : ∀ p ∈ K2, p ∈ K) : SDX w0 wr S M P lv e K2 s := by
  obtain ⟨hv, D, h⟩ := h
  exact ⟨hv, D, h.less hk⟩
end Go.Proofs.YtnnckjgafglgeaaDoor
