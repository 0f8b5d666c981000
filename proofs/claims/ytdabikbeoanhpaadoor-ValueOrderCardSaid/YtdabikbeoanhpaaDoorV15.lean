/- The law ValueSame: true. -/
import Derived.Test.YtdabikbeoanhpaaDoorV9
import Derived.Lib.QuietBelow
namespace Go.Proofs.YtdabikbeoanhpaaDoor
open Go.RowKit
attribute [local go_sem ↓] Go.wp_at_zero Go.wp_at_succ

theorem Box.regrown {w : World} {b : Nat} {k n : Int} {s : ByteArray} (h : Box w b k n s) (d : Nat) (os : Array Obj) :
    (Sort.grow (redrawn w d) os).cell? ⟨b, 0, none⟩ = some (.int .i64 k) ∧ (Sort.grow (redrawn w d) os).cell? ⟨b, 1, none⟩ = some (.int .i64 n) ∧ (Sort.grow (redrawn w d) os).cell? ⟨b, 2, none⟩ = some (.string s) :=
  (h.below (below_regrown w d os)).c
theorem empties : (⟨#[]⟩ : ByteArray) ++ ⟨#[]⟩ = ⟨#[]⟩ := by decide +kernel
/-- The two arguments' boxes, and the two turns'. -/
structure KeepS (w0 w : World) (ba bb bn bm : Nat) (ka na : Int) (sa : ByteArray) (kb nb : Int) (sb : ByteArray) (nn nm : Int) : Prop where
  a : Box w ba ka na sa
  b : Box w bb kb nb sb
  n : Box w bn 1 nn ⟨#[]⟩
  m : Box w bm 1 nm ⟨#[]⟩
  u : Below w0.heap.size w0 w
theorem KeepS.below {w0 w w1 : World} {ba bb bn bm : Nat} {ka na : Int} {sa : ByteArray} {kb nb : Int} {sb : ByteArray} {nn nm : Int} (h : KeepS w0 w ba bb bn bm ka na sa kb nb sb nn nm) (hb : Below w.heap.size w w1) : KeepS w0 w1 ba bb bn bm ka na sa kb nb sb nn nm :=
  ⟨h.a.below hb, h.b.below hb, h.n.below hb, h.m.below hb, h.u.trans (hb.mono h.u.size)⟩
theorem keepS {w0 w w1 : World} {ba bb bn bm : Nat} {ka na : Int} {sa : ByteArray} {kb nb : Int} {sb : ByteArray} {nn nm : Int} (h : KeepS w0 w ba bb bn bm ka na sa kb nb sb nn nm ∧ (w.cell? ⟨ba, 0, none⟩ = some (.int .i64 ka) ∧ w.cell? ⟨ba, 1, none⟩ = some (.int .i64 na) ∧ w.cell? ⟨ba, 2, none⟩ = some (.string sa)) ∧ (w.cell? ⟨bb, 0, none⟩ = some (.int .i64 kb) ∧ w.cell? ⟨bb, 1, none⟩ = some (.int .i64 nb) ∧ w.cell? ⟨bb, 2, none⟩ = some (.string sb)) ∧ (w.cell? ⟨bn, 0, none⟩ = some (.int .i64 1) ∧ w.cell? ⟨bn, 1, none⟩ = some (.int .i64 nn) ∧ w.cell? ⟨bn, 2, none⟩ = some (.string ⟨#[]⟩)) ∧ (w.cell? ⟨bm, 0, none⟩ = some (.int .i64 1) ∧ w.cell? ⟨bm, 1, none⟩ = some (.int .i64 nm) ∧ w.cell? ⟨bm, 2, none⟩ = some (.string ⟨#[]⟩))) (hb : Below w.heap.size w w1) :
    KeepS w0 w1 ba bb bn bm ka na sa kb nb sb nn nm ∧ (w1.cell? ⟨ba, 0, none⟩ = some (.int .i64 ka) ∧ w1.cell? ⟨ba, 1, none⟩ = some (.int .i64 na) ∧ w1.cell? ⟨ba, 2, none⟩ = some (.string sa)) ∧ (w1.cell? ⟨bb, 0, none⟩ = some (.int .i64 kb) ∧ w1.cell? ⟨bb, 1, none⟩ = some (.int .i64 nb) ∧ w1.cell? ⟨bb, 2, none⟩ = some (.string sb)) ∧ (w1.cell? ⟨bn, 0, none⟩ = some (.int .i64 1) ∧ w1.cell? ⟨bn, 1, none⟩ = some (.int .i64 nn) ∧ w1.cell? ⟨bn, 2, none⟩ = some (.string ⟨#[]⟩)) ∧ (w1.cell? ⟨bm, 0, none⟩ = some (.int .i64 1) ∧ w1.cell? ⟨bm, 1, none⟩ = some (.int .i64 nm) ∧ w1.cell? ⟨bm, 2, none⟩ = some (.string ⟨#[]⟩)) :=
  have k := h.1.below hb
  ⟨k, k.a.c, k.b.c, k.n.c, k.m.c⟩
theorem keepS_below {w0 w : World} {ba bb bn bm : Nat} {ka na : Int} {sa : ByteArray} {kb nb : Int} {sb : ByteArray} {nn nm : Int} (h : KeepS w0 w ba bb bn bm ka na sa kb nb sb nn nm ∧ (w.cell? ⟨ba, 0, none⟩ = some (.int .i64 ka) ∧ w.cell? ⟨ba, 1, none⟩ = some (.int .i64 na) ∧ w.cell? ⟨ba, 2, none⟩ = some (.string sa)) ∧ (w.cell? ⟨bb, 0, none⟩ = some (.int .i64 kb) ∧ w.cell? ⟨bb, 1, none⟩ = some (.int .i64 nb) ∧ w.cell? ⟨bb, 2, none⟩ = some (.string sb)) ∧ (w.cell? ⟨bn, 0, none⟩ = some (.int .i64 1) ∧ w.cell? ⟨bn, 1, none⟩ = some (.int .i64 nn) ∧ w.cell? ⟨bn, 2, none⟩ = some (.string ⟨#[]⟩)) ∧ (w.cell? ⟨bm, 0, none⟩ = some (.int .i64 1) ∧ w.cell? ⟨bm, 1, none⟩ = some (.int .i64 nm) ∧ w.cell? ⟨bm, 2, none⟩ = some (.string ⟨#[]⟩))) : Below w0.heap.size w0 w := h.1.u
theorem keepS_at {w0 w : World} {ba bb bn bm : Nat} {ka na : Int} {sa : ByteArray} {kb nb : Int} {sb : ByteArray} {nn nm : Int} (h : KeepS w0 w ba bb bn bm ka na sa kb nb sb nn nm ∧ (w.cell? ⟨ba, 0, none⟩ = some (.int .i64 ka) ∧ w.cell? ⟨ba, 1, none⟩ = some (.int .i64 na) ∧ w.cell? ⟨ba, 2, none⟩ = some (.string sa)) ∧ (w.cell? ⟨bb, 0, none⟩ = some (.int .i64 kb) ∧ w.cell? ⟨bb, 1, none⟩ = some (.int .i64 nb) ∧ w.cell? ⟨bb, 2, none⟩ = some (.string sb)) ∧ (w.cell? ⟨bn, 0, none⟩ = some (.int .i64 1) ∧ w.cell? ⟨bn, 1, none⟩ = some (.int .i64 nn) ∧ w.cell? ⟨bn, 2, none⟩ = some (.string ⟨#[]⟩)) ∧ (w.cell? ⟨bm, 0, none⟩ = some (.int .i64 1) ∧ w.cell? ⟨bm, 1, none⟩ = some (.int .i64 nm) ∧ w.cell? ⟨bm, 2, none⟩ = some (.string ⟨#[]⟩))) : KeepS w0 w ba bb bn bm ka na sa kb nb sb nn nm := h.1

theorem tru_bS (t : Bool) : tru 1 (b2i t) ⟨#[]⟩ = t := by cases t <;> decide +kernel
theorem tru_atS (t : Bool) (w : World) : Calls Tryd.prog 11 #[.agg #[.int .i64 1, .int .i64 (b2i t), .string ⟨#[]⟩]] w fun e w' => e = .returned (.bool t) ∧ Below w.heap.size w w' := by
  have h := tru_any 1 (b2i t) ⟨#[]⟩ w maxLen_0
  rw [tru_bS] at h
  exact h
theorem not_at (t : Bool) (w : World) : Calls Tryd.prog 12 #[.string ⟨#[33]⟩, .agg #[.int .i64 1, .int .i64 (b2i t), .string ⟨#[]⟩]] w fun e w' => e = .returned (.tuple #[.agg #[.int .i64 1, .int .i64 (b2i (!t)), .string ⟨#[]⟩], .string ⟨#[]⟩]) ∧ Below w.heap.size w w' := by
  have h := not_any 1 (b2i t) ⟨#[]⟩ w maxLen_0
  rw [tru_bS] at h
  exact h
/-- A call in whatever world. -/
def Says (f : Nat) (args : Array Value) (v : Value) : Prop := ∀ w, Tab w → Calls Tryd.prog f args w fun e w' => e = .returned v ∧ Below w.heap.size w w'
theorem Says.at {f : Nat} {args : Array Value} {v : Value} (h : Says f args v) {w : World} (ht : Tab w) : Calls Tryd.prog f args w fun e w' => e = .returned v ∧ Below w.heap.size w w' := h w ht

end Go.Proofs.YtdabikbeoanhpaaDoor
