/- The contracts of value.Same and value.Binary. -/
import Derived.Test.YtdabikbeoanhpaaDoorV4
namespace Go.Proofs.YtdabikbeoanhpaaDoor
open Go.RowKit

/-- Two values are one. -/
def eqB (k n : Int) (s : ByteArray) (k' n' : Int) (s' : ByteArray) : Bool := k == k' && (n == n' && s.toList == s'.toList)

theorem eq_jval (w : World) (k n k' n' : Int) (s s' : ByteArray) : (binOp .eql 23 (.agg #[.int .i64 k, .int .i64 n, .string s]) (.agg #[.int .i64 k', .int .i64 n', .string s'])).run Tryd.prog w = .ok (.bool (eqB k n s k' n' s')) w := by
  unfold eqB
  go_simp
  cases h1 : k == k' <;> cases h2 : n == n' <;> cases h3 : s.toList == s'.toList <;> simp_all
attribute [local go_sem ↓] eq_jval

structure Two (w0 w : World) (k n k' n' : Int) (s s' : ByteArray) : Prop where
  a : Box w w0.heap.size k n s
  b : Box w (w0.heap.size + 1) k' n' s'
  u : Below w0.heap.size w0 w
theorem Two.below {w0 w w1 : World} {k n k' n' : Int} {s s' : ByteArray} (h : Two w0 w k n k' n' s s') (hb : Below w.heap.size w w1) : Two w0 w1 k n k' n' s s' :=
  ⟨h.a.below hb, h.b.below hb, h.u.trans (hb.mono h.u.size)⟩
theorem two_new (w : World) (k n k' n' : Int) (s s' : ByteArray) : Two w ((w.alloc (Obj.cells #[Value.int IntKind.i64 k, Value.int IntKind.i64 n, Value.string s] 23)).alloc
      (Obj.cells #[Value.int IntKind.i64 k', Value.int IntKind.i64 n', Value.string s'] 23)) k n k' n' s s' :=
  ⟨(Box.new w k n s).alloc _, by simpa using Box.new (w.alloc (Obj.cells #[Value.int IntKind.i64 k, Value.int IntKind.i64 n, Value.string s] 23)) k' n' s', ((Below.refl _ _).alloc (Nat.le_refl _) _).alloc (by simp) _⟩

set_option maxHeartbeats 400000 in
theorem same_any (k n k' n' : Int) (s s' : ByteArray) (w : World) (hs : s.size ≤ maxLen) (hs' : s'.size ≤ maxLen) :
    Calls Tryd.prog 13 #[.agg #[.int .i64 k, .int .i64 n, .string s], .agg #[.int .i64 k', .int .i64 n', .string s']] w fun e w' => e = .returned (.bool (eqB (rk k n s) (rn k n s) (rs k n s) (rk k' n' s') (rn k' n' s') (rs k' n' s'))) ∧ Below w.heap.size w w' := by
  have T0 := two_new w k n k' n' s s'
  go_enter Tryd.func13, Tryd.ntmps13
  go_upto_region 1 with fail
  go_cut [4] (fun v wx => v = .bool (eqB (rk k n s) (rn k n s) (rs k n s) (rk k' n' s') (rn k' n' s') (rs k' n' s')) ∧ Below w.heap.size w wx)
  case first =>
    generalize ((w.alloc (Obj.cells #[Value.int IntKind.i64 k, Value.int IntKind.i64 n, Value.string s] 23)).alloc
      (Obj.cells #[Value.int IntKind.i64 k', Value.int IntKind.i64 n', Value.string s'] 23)) = W at *
    have T1 : Two w W.drew k n k' n' s s' := T0.below (Below.drew (Below.refl _ _))
    have F0 := T0.a.c
    have F1 := T0.b.c
    clear T0
    go_region_with (go_at_call 17; (first | (with_reducible refine (right_any k n s _ hs).mono ?_) | (with_reducible refine (right_any k' n' s' _ hs').mono ?_)); rintro e w1 ⟨rfl, hb⟩; have T2 := Two.below (by assumption) hb; have F3 := T2.a.c; have F4 := T2.b.c; clear hb)
    all_goals go_wp2_with fail
    all_goals go_meet
    all_goals exact ⟨rfl, T2.u⟩
  case rest =>
    obtain ⟨rfl, hb⟩ := hcut
    go_wp2
    go_ret
    exact ⟨rfl, hb⟩
end Go.Proofs.YtdabikbeoanhpaaDoor
