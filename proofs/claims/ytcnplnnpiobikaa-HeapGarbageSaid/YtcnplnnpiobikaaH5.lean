/- The frame of a walk over the heap: the walker's block and its two rows. -/
import Derived.Test.YtcnplnnpiobikaaH4
namespace Go.Proofs.Ytcnplnnpiobikaa
open Go.RowKit

/-- The new place of each cell. -/
def toOf (n : Nat) (all : List Int) : List Int := (List.range n).map fun (i : Nat) => idxP (fun x => x == (i : Int)) all
theorem toOf_len (n : Nat) (all : List Int) : (toOf n all).length = n := by simp [toOf]
theorem toOf_get (n : Nat) (all : List Int) (m : Nat) (h : m < n) : (toOf n all)[m]'(by rw [toOf_len]; exact h) = idxP (fun x => x == (m : Int)) all := by simp [toOf]
theorem idx_in (all : List Int) (m : Int) : 0 ≤ idxP (fun x => x == m) all ↔ m ∈ all := by
  have h := idxP_any (fun x => x == m) all
  rw [List.any_beq'] at h
  constructor
  · intro h0
    have : decide (0 ≤ idxP (fun x => x == m) all) = true := by simpa using h0
    rw [h] at this
    simpa using this
  · intro hm
    have : decide (0 ≤ idxP (fun x => x == m) all) = true := by rw [h]; simpa using hm
    simpa using this
theorem idx_snoc_other (m n : Int) (h : m ≠ n) : ∀ all : List Int, idxP (fun x => x == m) (all ++ [n]) = idxP (fun x => x == m) all
  | [] => by
    have : (n == m) = false := by rw [beq_eq_false_iff_ne]; exact fun e => h e.symm
    simp [idxP, this]
  | x :: all => by
    have ih := idx_snoc_other m n h all
    rw [List.cons_append]
    unfold idxP
    rw [ih]
theorem idx_snoc_self (n : Int) : ∀ all : List Int, n ∉ all → idxP (fun x => x == n) (all ++ [n]) = (all.length : Int)
  | [], _ => by simp [idxP]
  | x :: all, h => by
    have hx : (x == n) = false := by rw [beq_eq_false_iff_ne]; exact fun e => h (by simp [e])
    have ih := idx_snoc_self n all (fun hm => h (List.mem_cons_of_mem _ hm))
    rw [List.cons_append]
    unfold idxP
    rw [hx, ih, if_neg (by decide), if_neg (by omega), List.length_cons]
    push_cast
    rfl
theorem toOf_step (n : Nat) (all : List Int) (m : Nat) (hn : (m : Int) ∉ all) : (toOf n all).set m (all.length : Int) = toOf n (all ++ [(m : Int)]) := by
  apply List.ext_getElem
  · simp [toOf]
  · intro i h1 h2
    rw [List.length_set, toOf_len] at h1
    rw [List.getElem_set]
    have e2 : (toOf n (all ++ [(m : Int)]))[i] = idxP (fun x => x == (i : Int)) (all ++ [(m : Int)]) := toOf_get n _ i h1
    rw [e2]
    split
    · rename_i e
      subst e
      exact (idx_snoc_self _ _ hn).symm
    · rename_i e
      rw [show (toOf n all)[i]'(by rw [toOf_len]; exact h1) = idxP (fun x => x == (i : Int)) all from toOf_get n all i h1, idx_snoc_other (i : Int) (m : Int) (by omega)]
/-- While it is walked. -/
structure WK (w0 wr : World) (S : Nat) (hv tv ac av : Value) (tl all : List Int) : Prop where
  bl : Below w0.heap.size w0 wr
  hS : w0.heap.size ≤ S
  blk : wr.heap[S]? = some (.cells #[hv, tv, ac] 53 (0, 0))
  tor : wr.ownsRow w0.heap.size 3 1 tv tl.length (tl.map nV)
  alr : wr.ownsRow w0.heap.size 3 1 av all.length (all.map nV)
  dj : ∀ g, tv.ownBlock = some g → av.ownBlock ≠ some g
  tS : tv.ownBlock ≠ some S
  aS : av.ownBlock ≠ some S
section
variable {w0 wr w' : World} {S : Nat} {hv tv ac av : Value} {tl all : List Int}
theorem WK.ltS (h : WK w0 wr S hv tv ac av tl all) : S < wr.heap.size := lt_of_heap h.blk
theorem WK.call (h : WK w0 wr S hv tv ac av tl all) (hb : Below wr.heap.size wr w') : WK w0 w' S hv tv ac av tl all where
  bl := h.bl.trans (Below.le hb h.bl.size)
  hS := h.hS
  blk := (hb.block S h.ltS).trans h.blk
  tor := own_below h.tor hb (Nat.le_refl _)
  alr := own_below h.alr hb (Nat.le_refl _)
  dj := h.dj
  tS := h.tS
  aS := h.aS
theorem WK.alloc (h : WK w0 wr S hv tv ac av tl all) (o : Obj) : WK w0 (wr.alloc o) S hv tv ac av tl all := h.call ((Below.refl _ _).alloc (Nat.le_refl _) _)
theorem WK.drew (h : WK w0 wr S hv tv ac av tl all) : WK w0 wr.drew S hv tv ac av tl all := h.call (below_drew (Below.refl _ _))
/-- A place is told. -/
theorem WK.tell {g n c : Nat} (h : WK w0 wr S hv (.slice (some ⟨g, 0, none⟩) n c) ac av tl all) (m : Nat) (x : Int) : WK w0 (wr.setCell ⟨g, m, none⟩ (.int .i64 x)) S hv (.slice (some ⟨g, 0, none⟩) n c) ac av (tl.set m x) all := by
  have hg : wr.grownBy (wr.setCell ⟨g, m, none⟩ (.int .i64 x)) (some g) := Lib.grownBy_setB (gr_refl wr _) _ _
  have hlt := h.tor.lt g rfl
  have hgS : g ≠ S := fun e => h.tS (by rw [e]; rfl)
  refine ⟨below_grown h.bl hg hlt.1 (Nat.le_refl _), h.hS, (hg.block S h.ltS (fun e => by injection e with e; exact hgS e.symm)).trans h.blk, ?_, h.alr.kept hg (.inr (h.dj g rfl)), h.dj, h.tS, h.aS⟩
  have := own_at h.tor m (.int .i64 x)
  rw [List.length_set, List.map_set]
  exact this
/-- The row of all, in the walker's block. -/
theorem WK.put (h : WK w0 wr S hv tv ac av tl all) (v : Value) : WK w0 (wr.setCell ⟨S, 2, none⟩ v) S hv tv v av tl all := by
  have hg : wr.grownBy (wr.setCell ⟨S, 2, none⟩ v) (some S) := Lib.grownBy_setB (gr_refl wr _) _ _
  exact ⟨below_grown h.bl hg h.hS (Nat.le_refl _), h.hS, set_heap h.blk 2 v (by simp), h.tor.kept hg (.inr h.tS), h.alr.kept hg (.inr h.aS), h.dj, h.tS, h.aS⟩
/-- One more. -/
theorem WK.push (h : WK w0 wr S hv tv ac av tl all) (x : Int) {g cap H : Nat} (hH : wr.heap.size = H) (hown : w'.ownsRow w0.heap.size 3 1 (.slice (some ⟨g, 0, none⟩) (all.length + 1) cap) (all.length + 1) (all.map nV ++ [.int .i64 x])) (hg : wr.grownBy w' av.ownBlock) (hgg : av.ownBlock = some g ∨ g = H) : WK w0 w' S hv tv ac (.slice (some ⟨g, 0, none⟩) (all.length + 1) cap) tl (all ++ [x]) where
  bl := h.bl.grown hg h.bl.size (fun k hk => (h.alr.lt k hk).1)
  hS := h.hS
  blk := (hg.block S h.ltS (fun e => h.aS e.symm)).trans h.blk
  tor := h.tor.kept hg (by
    by_cases e : tv.ownBlock = none
    · exact .inl e
    · obtain ⟨k, hk⟩ := Option.ne_none_iff_exists'.1 e
      exact .inr (fun e2 => h.dj k hk (by rw [← e2]; exact hk)))
  alr := by simpa [nV] using hown
  dj k hk e := by
    have e3 : g = k := by simpa [Value.ownBlock] using e
    rcases hgg with hgg | hgg
    · exact h.dj k hk (by rw [hgg, e3])
    · have := (h.tor.lt k hk).2
      omega
  tS := h.tS
  aS e := by
    have e3 : g = S := by simpa [Value.ownBlock] using e
    rcases hgg with hgg | hgg
    · exact h.aS (by rw [hgg, e3])
    · have := h.ltS
      omega
end
/-- The walk has come tl these. -/
def WKX (w0 wr : World) (S : Nat) (hv tv : Value) (n : Nat) (all : List Int) : Prop := ∃ av, WK w0 wr S hv tv av av (toOf n all) all
theorem own_int {w : World} {B : Nat} {v : Value} {l : List Int} (h : w.ownsRow B 3 1 v l.length (l.map nV)) : SlR w IntAt 1 v l := by
  have e : l.map nV = l.flatMap (fun x => [nV x]) := by
    clear h
    induction l with
    | nil => rfl
    | cons x l ih => rw [List.flatMap_cons, ← ih]; rfl
  rw [e] at h
  obtain ⟨a, c, h1, h2, h3, h4⟩ := Own.sl (enc := fun x => [nV x]) (fun _ => rfl) h
  refine ⟨a, c, h1, h2, h3, fun h0 => ?_⟩
  obtain ⟨b, o, h5, _, h6⟩ := h4 h0
  exact ⟨b, o, h5, fun k hk => h6 k hk 0 (by decide)⟩
theorem int_info : (Try.prog.info? 3).map (fun i => (i.zero, i.size, i.bytes)) = some (some (.int .i64 0), 1, 8) := by kernel_rfl
theorem cell_new (x : Int) (t : TypeId) (w : World) : ∀ j u, [Value.int .i64 x][j]? = some u → (w.alloc (.cells #[.int .i64 x] t)).cell? ((⟨w.heap.size, 0, none⟩ : Addr).add j) = some u := World.news_of_block (heap_alloc_new w _)
theorem one_int (x : Int) : ∀ u ∈ [Value.int .i64 x], u.oneCell' = true := by intro u hu; simp at hu; subst hu; rfl
end Go.Proofs.Ytcnplnnpiobikaa
