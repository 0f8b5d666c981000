/-
  No cell of these rows narrows 'for every input' (looked for: loops, veiled, ifaces, maps, wideKeys, modest, calm, conditions, laid).
  DERIVED. THE GIVEN ROWS OF THIS SEAT. 5 by the template 'for every input the law returns true; each argument reads behind the call as it read before'; 0 by the template 'total and deterministic' (their statements: YtcnplnnpiobikaaTotals.lean).
  GIVEN WITH THE SEED: the statements are not yours to turn. If you find one false, say at which input.
  Laid BY PROGRAM, IN A SANDBOX (cutbox-rows.mjs): the forced cells as the released guide's own fill.sh prints them over the translation 48fc0fff1e6be9e0… (all of the seat's roots in one cut). By AI agents, Wed Nov 11 2026. No macro, syntax, notation, axiom, sorry.
-/
import Derived.Test.YtcnplnnpiobikaaChecked
import GoSem.Claim
import GoSem.ClaimJoined
import GoSem.ClaimMapViews
import Derived.JoinedTies
import Derived.KernelRfl
namespace Go.Proofs.Ytcnplnnpiobikaa
/- THE CELL 'sum', in the pinned program and in every row, IS THE sha256 OF THE DUMP (.gsa) THAT YtcnplnnpiobikaaProg.lean LOADS. Nothing in Lean hashes anything: it is a label: what it is worth is what the hold of that sum in a sandbox is worth. -/
noncomputable def Try.pinned : Pinned := { name := "ytcnplnnpiobikaa", sum := "48fc0fff1e6be9e00e1837e6372410ae74d32a78065d73cf22ed04f965b3db38", checked := Try.checked }
namespace Rows
def none {H : Type} : Left H := { results := [], args := [] }

/-- 'clerestorykeep4.HeapReach': WHATEVER THE INPUT: true; the input reads as it did. -/
def heapReachSpec : ChangeSpec := { name := "heapReach", fn := fun _ => fun
  | [d1, d2] => { results := [.lit (.bool true)], args := [d1, d2] }
  | _ => none }
def heapReachRow : OpenClaim := { program := "ytcnplnnpiobikaa", sum := "48fc0fff1e6be9e00e1837e6372410ae74d32a78065d73cf22ed04f965b3db38", func := "clerestory/clerestorykeep4.HeapReach", spec := "heapReach", unfollowed := true, recurses := true, apart := false }
def HeapReachSaid : Prop := heapReachRow.holds Try.pinned (OpenSpec.ofChange heapReachSpec)

/-- ITS FALSE NEIGHBOUR: 'it returns false'. Refute it at one input. -/
def heapReachWrong : ChangeSpec := { name := "heapReach", fn := fun _ => fun
  | [d1, d2] => { results := [.lit (.bool false)], args := [d1, d2] }
  | _ => none }
def HeapReachWrongFalsely : Prop := heapReachRow.holds Try.pinned (OpenSpec.ofChange heapReachWrong)

/-- 'clerestorykeep4.HeapMoved': WHATEVER THE INPUT: true; the input reads as it did. -/
def heapMovedSpec : ChangeSpec := { name := "heapMoved", fn := fun _ => fun
  | [d1, d2] => { results := [.lit (.bool true)], args := [d1, d2] }
  | _ => none }
def heapMovedRow : OpenClaim := { program := "ytcnplnnpiobikaa", sum := "48fc0fff1e6be9e00e1837e6372410ae74d32a78065d73cf22ed04f965b3db38", func := "clerestory/clerestorykeep4.HeapMoved", spec := "heapMoved", unfollowed := true, recurses := true, apart := false }
def HeapMovedSaid : Prop := heapMovedRow.holds Try.pinned (OpenSpec.ofChange heapMovedSpec)

/-- ITS FALSE NEIGHBOUR: 'it returns false'. Refute it at one input. -/
def heapMovedWrong : ChangeSpec := { name := "heapMoved", fn := fun _ => fun
  | [d1, d2] => { results := [.lit (.bool false)], args := [d1, d2] }
  | _ => none }
def HeapMovedWrongFalsely : Prop := heapMovedRow.holds Try.pinned (OpenSpec.ofChange heapMovedWrong)

/-- 'clerestorykeep4.HeapSame': WHATEVER THE INPUT: true; the input reads as it did. -/
def heapSameSpec : ChangeSpec := { name := "heapSame", fn := fun _ => fun
  | [d1, d2, d3, d4] => { results := [.lit (.bool true)], args := [d1, d2, d3, d4] }
  | _ => none }
def heapSameRow : OpenClaim := { program := "ytcnplnnpiobikaa", sum := "48fc0fff1e6be9e00e1837e6372410ae74d32a78065d73cf22ed04f965b3db38", func := "clerestory/clerestorykeep4.HeapSame", spec := "heapSame", unfollowed := true, recurses := true, apart := false }
def HeapSameSaid : Prop := heapSameRow.holds Try.pinned (OpenSpec.ofChange heapSameSpec)

/-- ITS FALSE NEIGHBOUR: 'it returns false'. Refute it at one input. -/
def heapSameWrong : ChangeSpec := { name := "heapSame", fn := fun _ => fun
  | [d1, d2, d3, d4] => { results := [.lit (.bool false)], args := [d1, d2, d3, d4] }
  | _ => none }
def HeapSameWrongFalsely : Prop := heapSameRow.holds Try.pinned (OpenSpec.ofChange heapSameWrong)

/-- 'clerestorykeep4.HeapGarbage': WHATEVER THE INPUT: true; the input reads as it did. -/
def heapGarbageSpec : ChangeSpec := { name := "heapGarbage", fn := fun _ => fun
  | [d1, d2, d3] => { results := [.lit (.bool true)], args := [d1, d2, d3] }
  | _ => none }
def heapGarbageRow : OpenClaim := { program := "ytcnplnnpiobikaa", sum := "48fc0fff1e6be9e00e1837e6372410ae74d32a78065d73cf22ed04f965b3db38", func := "clerestory/clerestorykeep4.HeapGarbage", spec := "heapGarbage", unfollowed := true, recurses := true, apart := false }
def HeapGarbageSaid : Prop := heapGarbageRow.holds Try.pinned (OpenSpec.ofChange heapGarbageSpec)

/-- ITS FALSE NEIGHBOUR: 'it returns false'. Refute it at one input. -/
def heapGarbageWrong : ChangeSpec := { name := "heapGarbage", fn := fun _ => fun
  | [d1, d2, d3] => { results := [.lit (.bool false)], args := [d1, d2, d3] }
  | _ => none }
def HeapGarbageWrongFalsely : Prop := heapGarbageRow.holds Try.pinned (OpenSpec.ofChange heapGarbageWrong)

/-- 'clerestorykeep4.HeapSwept': WHATEVER THE INPUT: true; the input reads as it did. -/
def heapSweptSpec : ChangeSpec := { name := "heapSwept", fn := fun _ => fun
  | [d1, d2] => { results := [.lit (.bool true)], args := [d1, d2] }
  | _ => none }
def heapSweptRow : OpenClaim := { program := "ytcnplnnpiobikaa", sum := "48fc0fff1e6be9e00e1837e6372410ae74d32a78065d73cf22ed04f965b3db38", func := "clerestory/clerestorykeep4.HeapSwept", spec := "heapSwept", unfollowed := true, recurses := true, apart := false }
def HeapSweptSaid : Prop := heapSweptRow.holds Try.pinned (OpenSpec.ofChange heapSweptSpec)

/-- ITS FALSE NEIGHBOUR: 'it returns false'. Refute it at one input. -/
def heapSweptWrong : ChangeSpec := { name := "heapSwept", fn := fun _ => fun
  | [d1, d2] => { results := [.lit (.bool false)], args := [d1, d2] }
  | _ => none }
def HeapSweptWrongFalsely : Prop := heapSweptRow.holds Try.pinned (OpenSpec.ofChange heapSweptWrong)

/- THE SECOND FORM. 'bulk': how many values and letters a reading holds, each counted each time it is reached (what is shared counts as often as it is met; a slice's spare places count too). A statement '..UptoSaid' is the law's where the arguments, and the package variables that the reading takes, are together of bulk at most 1048576: NARROWER than '..Said'. Prove '..Said' where nothing that the law and all that it calls make is longer than what came in: it says more and counts as full. Else prove '..UptoSaid'. A law counts once. -/
mutual
def uptoBulk {H : Type} : DataW H → Nat
  | .lit (.string bytes) => bytes.length + 1
  | .lit _ => 1
  | .nil => 1
  | .ptr d => uptoBulk d + 1
  | .slice elems spare => uptoBulkAll elems + uptoBulkAll spare + 1
  | .agg parts => uptoBulkAll parts + 1
  | .iface _ d => uptoBulk d + 1
  | .map entries => uptoBulkEntries entries + 1
  | .held _ => 1
def uptoBulkAll {H : Type} : List (DataW H) → Nat
  | [] => 0
  | d :: r => uptoBulk d + uptoBulkAll r
def uptoBulkEntries {H : Type} : List (Lit × DataW H) → Nat
  | [] => 0
  | x :: r => uptoBulkEntry x + uptoBulkEntries r
def uptoBulkEntry {H : Type} : Lit × DataW H → Nat
  | (.string bytes, d) => bytes.length + uptoBulk d + 1
  | (_, d) => uptoBulk d + 1
 end
def uptoSmall : (H : Type) → List (DataW H) → Bool := fun _ ds => decide (uptoBulkAll ds ≤ 1048576)
def OpenSpec.upto (s : _root_.Go.ChangeSpec) : _root_.Go.OpenSpec := { _root_.Go.OpenSpec.ofChange s with cond := some uptoSmall }

/-- 'clerestorykeep4.HeapReach', WHERE WHAT IT READS IS OF BULK AT MOST 1048576: true; the input reads as it did. -/
def heapReachUptoRow : OpenClaim := { program := "ytcnplnnpiobikaa", sum := "48fc0fff1e6be9e00e1837e6372410ae74d32a78065d73cf22ed04f965b3db38", func := "clerestory/clerestorykeep4.HeapReach", spec := "heapReach", unfollowed := true, recurses := true, apart := false, narrowed := true }
def HeapReachUptoSaid : Prop := heapReachUptoRow.holds Try.pinned (OpenSpec.upto heapReachSpec)

/-- 'clerestorykeep4.HeapMoved', WHERE WHAT IT READS IS OF BULK AT MOST 1048576: true; the input reads as it did. -/
def heapMovedUptoRow : OpenClaim := { program := "ytcnplnnpiobikaa", sum := "48fc0fff1e6be9e00e1837e6372410ae74d32a78065d73cf22ed04f965b3db38", func := "clerestory/clerestorykeep4.HeapMoved", spec := "heapMoved", unfollowed := true, recurses := true, apart := false, narrowed := true }
def HeapMovedUptoSaid : Prop := heapMovedUptoRow.holds Try.pinned (OpenSpec.upto heapMovedSpec)

/-- 'clerestorykeep4.HeapSame', WHERE WHAT IT READS IS OF BULK AT MOST 1048576: true; the input reads as it did. -/
def heapSameUptoRow : OpenClaim := { program := "ytcnplnnpiobikaa", sum := "48fc0fff1e6be9e00e1837e6372410ae74d32a78065d73cf22ed04f965b3db38", func := "clerestory/clerestorykeep4.HeapSame", spec := "heapSame", unfollowed := true, recurses := true, apart := false, narrowed := true }
def HeapSameUptoSaid : Prop := heapSameUptoRow.holds Try.pinned (OpenSpec.upto heapSameSpec)

/-- 'clerestorykeep4.HeapGarbage', WHERE WHAT IT READS IS OF BULK AT MOST 1048576: true; the input reads as it did. -/
def heapGarbageUptoRow : OpenClaim := { program := "ytcnplnnpiobikaa", sum := "48fc0fff1e6be9e00e1837e6372410ae74d32a78065d73cf22ed04f965b3db38", func := "clerestory/clerestorykeep4.HeapGarbage", spec := "heapGarbage", unfollowed := true, recurses := true, apart := false, narrowed := true }
def HeapGarbageUptoSaid : Prop := heapGarbageUptoRow.holds Try.pinned (OpenSpec.upto heapGarbageSpec)

/-- 'clerestorykeep4.HeapSwept', WHERE WHAT IT READS IS OF BULK AT MOST 1048576: true; the input reads as it did. -/
def heapSweptUptoRow : OpenClaim := { program := "ytcnplnnpiobikaa", sum := "48fc0fff1e6be9e00e1837e6372410ae74d32a78065d73cf22ed04f965b3db38", func := "clerestory/clerestorykeep4.HeapSwept", spec := "heapSwept", unfollowed := true, recurses := true, apart := false, narrowed := true }
def HeapSweptUptoSaid : Prop := heapSweptUptoRow.holds Try.pinned (OpenSpec.upto heapSweptSpec)

end Rows
end Go.Proofs.Ytcnplnnpiobikaa
