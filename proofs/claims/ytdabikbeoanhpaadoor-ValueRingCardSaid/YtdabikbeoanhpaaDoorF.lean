/- What the listed variables give the walks: the table of powers of ten. -/
import Derived.Test.YtdabikbeoanhpaaDoorV4
import Derived.ProofKit
import Derived.LaidMore
import Derived.OpenShut
import Derived.Stop.Joined
import Derived.Lib.LaidTab
namespace Go.Proofs.YtdabikbeoanhpaaDoor
open Go.ChangeShapes Go.WideShapes Go.ChangeAt Go.RowKit

theorem own : ownKnob Tryd.prog.godebug = none := by kernel_rfl
theorem cells23 : Tryd.prog.cellsOf 23 = 3 := by kernel_rfl
theorem laidOut : laidOutB Tryd.prog = true := by kernel_rfl
/-- The three tables, as the rows list them. -/
def laid3 {H : Type} : List (String × DataW H) := [("math/bits.deBruijn32tab", Rows.laid_math_bits_deBruijn32tab), ("math/bits.deBruijn64tab", Rows.laid_math_bits_deBruijn64tab), ("internal/strconv.uint64pow10", Rows.laid_internal_strconv_uint64pow10)]

/-- The door's own heap meets the condition. -/
theorem door_met (os : Os) (args : Array Value) : laidMetH Tryd.prog laid3 ((World.doorLaid Tryd.prog 400 os).forCall (fun _ _ => 0) ⟨#[], args, []⟩).memory :=
  laidMetH_of_parts3 (fuel := 8) (laidMet_of_run' 8 (by kernel_rfl) (by kernel_rfl)) (by kernel_rfl) (by kernel_rfl)

theorem pow_data : (Rows.laid_internal_strconv_uint64pow10 : DataW Unit) = Lib.tabData .u64 Lib.pow10Tab := by kernel_rfl

theorem gPow : Tryd.prog.globalNamed "internal/strconv.uint64pow10" = some 1 := by kernel_rfl
theorem tPow : (Tryd.prog.globals[1]?).map (·.type) = some 63 := by kernel_rfl

theorem tab_of_laid {W : World} (h : laidMetH Tryd.prog laid3 W) : Tab W := by
  rw [MakeChecks.laidMetH_plain _ _ _ (by kernel_rfl)] at h
  obtain ⟨ps, ⟨g0, t0, cs0, f0, p0, q0, hg0, ht0, hv0, hd0, ⟨g1, t1, cs1, f1, p1, q1, hg1, ht1, hv1, hd1, ⟨g2, t2, cs2, f2, p2, q2, hg2, ht2, hv2, hd2, _, _⟩, _⟩, _⟩, _, _⟩ := h
  obtain rfl := Option.some.inj (gPow.symm.trans hg2)
  obtain rfl := Option.some.inj (tPow.symm.trans ht2)
  rw [pow_data] at hd2
  show W.var? Tryd.prog _ = _
  rw [hv2, ← Lib.cells_of_tab (n := 20) (e := 50) Tryd.underlying63 Tryd.underlying50 (by kernel_rfl) (by kernel_rfl) hd2]
/-- What the reach says of two JVals' texts. -/
theorem reach2 {H : Type} {k0 n0 k1 n1 : Int} {s0 s1 : ByteArray}
    (h : (DataW.weightsEach Tryd.prog (#[23, 23].toList ++ []) (([DataW.agg [.lit (.int .i64 k0), .lit (.int .i64 n0), .lit (.string s0.data.toList)], DataW.agg [.lit (.int .i64 k1), .lit (.int .i64 n1), .lit (.string s1.data.toList)]] : List (DataW H)) ++ [])).all (· ≤ reachBytes) = true) :
    s0.size ≤ 140737488351232 ∧ s1.size ≤ 140737488351232 := by
  simp [DataW.weightsEach, DataW.weights, Tryd.underlying23, reachBytes] at h
  exact ⟨of_decide_eq_true h.1, of_decide_eq_true h.2⟩
end Go.Proofs.YtdabikbeoanhpaaDoor
