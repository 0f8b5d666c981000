/- The contract of value.Binary. -/
import Derived.Test.YtdabikbeoanhpaaDoorV1
import Derived.Test.YtdabikbeoanhpaaDoorShelf
import Derived.Deep.QuietTactic
import Derived.BigQuiet
import Derived.Deep.RegionWith
import Derived.Deep.DeepCutAuto
import Derived.Outline
namespace Go.Proofs.YtdabikbeoanhpaaDoor
open Go.RowKit

/-- What 'right' makes of a value. -/
def rk (k n : Int) (s : ByteArray) : Int := if chk k n s then k else 0
def rn (k n : Int) (s : ByteArray) : Int := if chk k n s then n else 0
def rs (k n : Int) (s : ByteArray) : ByteArray := if chk k n s then s else ⟨#[]⟩

theorem right_any (k n : Int) (s : ByteArray) (w : World) (hs : s.size ≤ maxLen) :
    Calls Tryd.prog 17 #[.agg #[.int .i64 k, .int .i64 n, .string s]] w fun e w' => e = .returned (.agg #[.int .i64 (rk k n s), .int .i64 (rn k n s), .string (rs k n s)]) ∧ Below w.heap.size w w' := by
  cases h : chk k n s
  · simpa [rk, rn, rs, h] using right_no k n s w hs h
  · simpa [rk, rn, rs, h] using right_yes k n s w hs h

/-- A new JVal lies at block b. -/
structure Box (w : World) (b : Nat) (k n : Int) (s : ByteArray) : Prop where
  c : w.cell? ⟨b, 0, none⟩ = some (.int .i64 k) ∧ w.cell? ⟨b, 1, none⟩ = some (.int .i64 n) ∧ w.cell? ⟨b, 2, none⟩ = some (.string s)
  f : w.frozen? ⟨b, 0, none⟩ = false ∧ w.frozen? ⟨b, 1, none⟩ = false ∧ w.frozen? ⟨b, 2, none⟩ = false
  l : b < w.heap.size

theorem Box.below {w w1 : World} {b : Nat} {k n : Int} {s : ByteArray} (h : Box w b k n s) (hb : Below w.heap.size w w1) : Box w1 b k n s := by
  obtain ⟨hc, hf⟩ := bcell hb
  have hl := h.l
  refine ⟨?_, ?_, Nat.lt_of_lt_of_le hl hb.size⟩
  · rw [hc _ _ hl, hc _ _ hl, hc _ _ hl]; exact h.c
  · rw [hf _ _ hl, hf _ _ hl, hf _ _ hl]; exact h.f

theorem Box.new (w : World) (k n : Int) (s : ByteArray) : Box (w.alloc (.cells #[.int .i64 k, .int .i64 n, .string s] 23)) w.heap.size k n s := by
  refine ⟨?_, ?_, ?_⟩ <;> simp [go_sem]
theorem Box.alloc {w : World} {b : Nat} {k n : Int} {s : ByteArray} (h : Box w b k n s) (o : Obj) : Box (w.alloc o) b k n s :=
  h.below ((Below.refl _ _).alloc (Nat.le_refl _) o)

theorem set3 {w w1 : World} {B : Nat} (h : Below B w w1) (b : Nat) (hb : B ≤ b) (u v x : Value) :
    Below B w (((w1.setCell ⟨b, 0, none⟩ u).setCell ⟨b, 1, none⟩ v).setCell ⟨b, 2, none⟩ x) :=
  ((h.setCell hb _).setCell hb _).setCell hb _

theorem Box.set {w : World} {b : Nat} {k n : Int} {s : ByteArray} (h : Box w b k n s) (k' n' : Int) (s' : ByteArray) :
    Box (((w.setCell ⟨b, 0, none⟩ (.int .i64 k')).setCell ⟨b, 1, none⟩ (.int .i64 n')).setCell ⟨b, 2, none⟩ (.string s')) b k' n' s' := by
  obtain ⟨hc, hf, hl⟩ := h
  refine ⟨?_, ?_, ?_⟩
  all_goals first
    | (go_simp; done)
    | (go_simp; omega)
theorem Box.other {w : World} {b b' : Nat} {k n : Int} {s : ByteArray} (h : Box w b k n s) (hne : b ≠ b') (u v x : Value) :
    Box (((w.setCell ⟨b', 0, none⟩ u).setCell ⟨b', 1, none⟩ v).setCell ⟨b', 2, none⟩ x) b k n s := by
  have hB : ∀ a : Nat × Nat, (((w.setCell ⟨b', 0, none⟩ u).setCell ⟨b', 1, none⟩ v).setCell ⟨b', 2, none⟩ x).heap[b]? = w.heap[b]? := fun _ => by
    rw [Below.heap_setCell _ _ _ _ hne, Below.heap_setCell _ _ _ _ hne, Below.heap_setCell _ _ _ _ hne]
  have hc := fun o => World.cell?_of_block (a := ⟨b, o, none⟩) (hB (0, 0))
  have hf := fun o => World.frozen?_of_block (a := ⟨b, o, none⟩) (hB (0, 0))
  refine ⟨?_, ?_, ?_⟩
  · rw [hc, hc, hc]; exact h.c
  · rw [hf, hf, hf]; exact h.f
  · have := h.l; simpa [World.setCell] using this

/-- Three of them, one behind the other, and nothing below has turned. -/
structure Three (w0 w : World) (k n k' n' : Int) (s s' : ByteArray) : Prop where
  a : Box w w0.heap.size k n s
  b : Box w (w0.heap.size + 1) k' n' s'
  r : Box w (w0.heap.size + 1 + 1) 0 0 ⟨#[]⟩
  u : Below w0.heap.size w0 w

theorem Three.below {w0 w w1 : World} {k n k' n' : Int} {s s' : ByteArray} (h : Three w0 w k n k' n' s s') (hb : Below w.heap.size w w1) : Three w0 w1 k n k' n' s s' :=
  ⟨h.a.below hb, h.b.below hb, h.r.below hb, h.u.trans (hb.mono h.u.size)⟩
theorem Three.drew {w0 w : World} {k n k' n' : Int} {s s' : ByteArray} (h : Three w0 w k n k' n' s s') : Three w0 w.drew k n k' n' s s' :=
  h.below (Below.drew (Below.refl _ _))

theorem three_new (w : World) (k n k' n' : Int) (s s' : ByteArray) : Three w (((w.alloc (Obj.cells #[Value.int IntKind.i64 k, Value.int IntKind.i64 n, Value.string s] 23)).alloc
      (Obj.cells #[Value.int IntKind.i64 k', Value.int IntKind.i64 n', Value.string s'] 23)).alloc
  (Obj.cells #[Value.int IntKind.i64 0, Value.int IntKind.i64 0, Value.string { data := #[] }] 23)) k n k' n' s s' := by
  refine ⟨⟨?_, ?_, ?_⟩, ⟨?_, ?_, ?_⟩, ⟨?_, ?_, ?_⟩, ?_⟩
  all_goals first
    | exact ((((Below.refl _ _).alloc (Nat.le_refl _) _).alloc (by simp) _).alloc (by simp; omega) _)
    | go_simp
  all_goals omega

/-- What 'right' makes of both. -/
theorem Three.cut {w0 W : World} {k n k' n' : Int} {s s' : ByteArray} (h : Three w0 W k n k' n' s s') (k1 n1 k2 n2 : Int) (s1 s2 : ByteArray) :
    Three w0 ((((((((W).setCell ⟨w0.heap.size, 0, none⟩ (.int .i64 k1)).setCell ⟨w0.heap.size, 1, none⟩ (.int .i64 n1)).setCell ⟨w0.heap.size, 2, none⟩ (.string s1))).setCell ⟨w0.heap.size + 1, 0, none⟩ (.int .i64 k2)).setCell ⟨w0.heap.size + 1, 1, none⟩ (.int .i64 n2)).setCell ⟨w0.heap.size + 1, 2, none⟩ (.string s2)) k1 n1 k2 n2 s1 s2 := by
  obtain ⟨⟨a0, a1, a2⟩, ⟨b0, b1, b2⟩, ⟨c0, c1, c2⟩, hu⟩ := h
  refine ⟨⟨?_, ?_, ?_⟩, ⟨?_, ?_, ?_⟩, ⟨?_, ?_, ?_⟩, ?_⟩
  all_goals first
    | exact (((((hu.setCell (by simp) _).setCell (by simp) _).setCell (by simp) _).setCell (by simp) _).setCell (by simp) _).setCell (by simp) _
    | (go_simp; done)
    | (go_simp; omega)
theorem Three.cut' {w0 W : World} {k n k' n' : Int} {s s' : ByteArray} (h : Three w0 W k n k' n' s s') (k1 n1 k2 n2 : Int) (s1 s2 : ByteArray) :
    Three w0 ((((((((W).setCell ⟨w0.heap.size + 1, 0, none⟩ (.int .i64 k2)).setCell ⟨w0.heap.size + 1, 1, none⟩ (.int .i64 n2)).setCell ⟨w0.heap.size + 1, 2, none⟩ (.string s2))).setCell ⟨w0.heap.size, 0, none⟩ (.int .i64 k1)).setCell ⟨w0.heap.size, 1, none⟩ (.int .i64 n1)).setCell ⟨w0.heap.size, 2, none⟩ (.string s1)) k1 n1 k2 n2 s1 s2 := by
  obtain ⟨⟨a0, a1, a2⟩, ⟨b0, b1, b2⟩, ⟨c0, c1, c2⟩, hu⟩ := h
  refine ⟨⟨?_, ?_, ?_⟩, ⟨?_, ?_, ?_⟩, ⟨?_, ?_, ?_⟩, ?_⟩
  all_goals first
    | exact (((((hu.setCell (by simp) _).setCell (by simp) _).setCell (by simp) _).setCell (by simp) _).setCell (by simp) _).setCell (by simp) _
    | (go_simp; done)
    | (go_simp; omega)
end Go.Proofs.YtdabikbeoanhpaaDoor
