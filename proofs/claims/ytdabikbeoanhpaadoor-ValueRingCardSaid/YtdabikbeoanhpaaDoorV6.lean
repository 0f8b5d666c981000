/- The contract of value.Binary. -/
import Derived.Test.YtdabikbeoanhpaaDoorV5
namespace Go.Proofs.YtdabikbeoanhpaaDoor
open Go.RowKit
attribute [local go_sem ↓] eq_jval

/-- What two values come to: kind, number, text, and what is thrown. -/
structure Res where
  K : Int
  N : Int
  S : ByteArray
  E : ByteArray

def sLarge : ByteArray := ⟨#[108, 97, 114, 103, 101]⟩
def sKind : ByteArray := ⟨#[107, 105, 110, 100]⟩
def sSign : ByteArray := ⟨#[115, 105, 103, 110]⟩
def sEmpty : ByteArray := ⟨#[]⟩

/-- Two values that are right, by a sign. -/
def binR (sg : List UInt8) (k n : Int) (s : ByteArray) (k' n' : Int) (s' : ByteArray) : Res :=
  if sg == [61, 61] || sg == [33, 61] then ⟨1, b2i (eqB k n s k' n' s' == (sg == [61, 61])), sEmpty, sEmpty⟩
  else if sg == [43] || (sg == [45] || (sg == [42] || (sg == [47] || sg == [37]))) then
    if k == 2 && k' == 2 then ⟨reckK sg n n', reckV sg n n', sEmpty, reckE sg n n'⟩
    else if sg == [43] && (k == 3 || k' == 3) then
      if 2000 < (txt k n s ++ txt k' n' s').size then ⟨0, 0, sEmpty, sLarge⟩ else ⟨3, 0, txt k n s ++ txt k' n' s', sEmpty⟩
    else ⟨0, 0, sEmpty, sKind⟩
  else if sg == [60] || (sg == [60, 61] || (sg == [62] || sg == [62, 61])) then
    if k == 2 && k' == 2 then ⟨1, b2i (ordB sg (Lib.compareInt n n')), sEmpty, sEmpty⟩
    else if k == 3 && k' == 3 then ⟨1, b2i (ordB sg (Lib.compareBytes s.data.toList s'.data.toList)), sEmpty, sEmpty⟩
    else ⟨0, 0, sEmpty, sKind⟩
  else ⟨0, 0, sEmpty, sSign⟩

def BinPost (R : Res) (w : World) (e : Ending) (w' : World) : Prop :=
  e = .returned (.tuple #[.agg #[.int .i64 R.K, .int .i64 R.N, .string R.S], .string R.E]) ∧ Below w.heap.size w w'

theorem binPost_of {R : Res} {a b : Int} {c d : ByteArray} {w w' : World} (h : R = ⟨a, b, c, d⟩) (hb : Below w.heap.size w w') :
    BinPost R w (.returned (.tuple #[.agg #[.int .i64 a, .int .i64 b, .string c], .string d])) w' := by subst h; exact ⟨rfl, hb⟩

end Go.Proofs.YtdabikbeoanhpaaDoor
