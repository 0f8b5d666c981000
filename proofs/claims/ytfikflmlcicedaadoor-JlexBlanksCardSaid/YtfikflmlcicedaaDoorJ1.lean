/- The contracts of jlex's small functions: letter, digit, peek, hex, skip. -/
import Derived.Test.YtfikflmlcicedaaDoorRows
import Derived.Test.YtfikflmlcicedaaDoorShelf
import Derived.Test.YtfikflmlcicedaaDoorP
import Derived.WalkKit
import Derived.WalkSpells
import Derived.WalkLawsBesides
import Derived.Deep.QuietTactic
import Derived.BigQuiet
import Derived.Deep.DeepCutAuto
import Derived.Deep.Draws
import Derived.Outline
import Derived.Lib.Hide
import Derived.Lib.IndexLaws
import Derived.Maps.AppendAt
namespace Go.Proofs.YtfikflmlcicedaaDoor
open Go.RowKit

theorem ret_bool {a b : Bool} (h : a = b) : Ending.returned (.bool a) = .returned (.bool b) := by rw [h]
theorem ret_int {k : IntKind} {a b : Int} (h : a = b) : Ending.returned (.int k a) = .returned (.int k b) := by rw [h]

set_option maxHeartbeats 400000 in
theorem digit_any (c : Int) (w : World) : Calls Tryd.prog 24 #[.int .u8 c] w fun e w' => e = .returned (.bool (isDigit c)) ∧ w = w' := by
  go_enter Tryd.func24, Tryd.ntmps24
  go_wp2
  all_goals (go_ret; exact ⟨ret_bool (by simp [isDigit]; omega), rfl⟩)

set_option maxHeartbeats 400000 in
theorem letter_any (c : Int) (w : World) : Calls Tryd.prog 22 #[.int .u8 c] w fun e w' => e = .returned (.bool (isLetter c)) ∧ w = w' := by
  go_enter Tryd.func22, Tryd.ntmps22
  go_wp2
  all_goals
    go_ret
    refine ⟨ret_bool ?_, rfl⟩
    rw [Bool.eq_iff_iff]
    simp [isLetter]
    omega

/-- What is left of a text from a place on. -/
def rest (s : ByteArray) (i : Nat) : List UInt8 := s.data.toList.drop i
theorem pk_at (s : ByteArray) (i n : Nat) (h : i + n < s.size) : s[i + n] = pk (rest s i) n := by
  have h' : i + n < s.data.toList.length := by simpa using h
  unfold pk rest
  rw [List.getD_eq_getElem?_getD, List.getElem?_drop, List.getElem?_eq_getElem h']
  rfl
theorem pk_end (s : ByteArray) (i n : Nat) (h : ¬ i + n < s.size) : pk (rest s i) n = 0 := by
  have h' : s.data.toList.length ≤ i + n := by simp; exact Nat.not_lt.1 h
  unfold pk rest
  rw [List.getD_eq_getElem?_getD, List.getElem?_drop, List.getElem?_eq_none h']
  rfl

/-- The reader at block R: its text, where it is, what it has. -/
structure Rd (w : World) (R : Nat) (s : ByteArray) (i : Nat) (out : Value) : Prop where
  c0 : w.cell? ⟨R, 0, none⟩ = some (.string s)
  c1 : w.cell? ⟨R, 1, none⟩ = some (.int .i64 (i : Int))
  c2 : w.cell? ⟨R, 2, none⟩ = some out
  f1 : w.frozen? ⟨R, 1, none⟩ = false
  f2 : w.frozen? ⟨R, 2, none⟩ = false
  l : R < w.heap.size
theorem Rd.drewN {w : World} {R : Nat} {s : ByteArray} {i : Nat} {out : Value} (h : Rd w R s i out) (q : Nat) : Rd (w.drewN q) R s i out :=
  ⟨h.c0, h.c1, h.c2, h.f1, h.f2, h.l⟩
theorem Rd.at {w : World} {R : Nat} {s : ByteArray} {i : Nat} {out : Value} (h : Rd w R s i out) (j : Nat) : Rd (w.setCell ⟨R, 1, none⟩ (.int .i64 (j : Int))) R s j out := by
  obtain ⟨c0, c1, c2, f1, f2, l⟩ := h
  refine ⟨?_, ?_, ?_, ?_, ?_, ?_⟩
  all_goals first
    | (go_simp; done)
    | (go_simp; omega)

theorem grow_drewN {w w' : World} {r : Option Nat} (h : w.grownBy w' r) (q : Nat) : w.grownBy (w'.drewN q) r := ⟨h.os, h.tape, h.output, h.size, h.block⟩
theorem grow_drew {w w' : World} {r : Option Nat} (h : w.grownBy w' r) : w.grownBy w'.drew r := ⟨h.os, h.tape, h.output, h.size, h.block⟩
theorem grow_set {w w' : World} {R : Nat} (h : w.grownBy w' (some R)) (o : Nat) (v : Value) : w.grownBy (w'.setCell ⟨R, o, none⟩ v) (some R) :=
  ⟨h.os, h.tape, h.output, by simpa [World.setCell] using h.size, fun k hk hne => (Below.heap_setCell w' _ v k (fun e => hne (by rw [e]))).trans (h.block k hk hne)⟩

set_option maxHeartbeats 400000 in
theorem peek_any (R : Nat) (s : ByteArray) (i n : Nat) (out : Value) (w : World) (hr : Rd w R s i out) (hi : i ≤ 2000) (hs : s.size ≤ 2000) (hn : n ≤ 2) :
    Calls Tryd.prog 20 #[.pointer (some ⟨R, 0, none⟩), .int .i64 (n : Int)] w fun e w' => e = .returned (.int .u8 ((pk (rest s i) n).toNat : Int)) ∧ ∃ q, w' = w.drewN q := by
  have c0 := hr.c0
  have c1 := hr.c1
  clear hr
  by_cases hlt : i + n < s.size
  · have h1 : (i : Int) + (n : Int) < (s.size : Int) := by omega
    have h2 : (0 : Int) ≤ (i : Int) + (n : Int) := by omega
    have hp := Lib.hid (pk_at s i n hlt)
    go_enter Tryd.func20, Tryd.ntmps20
    go_wp2_with fail
    go_quiet (fail)
    go_wp2_with fail
    go_quiet (fail)
    go_wp2_with fail
    go_ret
    exact ⟨ret_int (by rw [← hp.out]), _, World.drewN_drewN _ _ _⟩
  · have h1 : (s.size : Int) ≤ (i : Int) + (n : Int) := by omega
    have hp := Lib.hid (pk_end s i n hlt)
    clear hlt
    go_enter Tryd.func20, Tryd.ntmps20
    go_wp2_with fail
    go_quiet (fail)
    go_wp2_with fail
    go_ret
    exact ⟨ret_int (by rw [hp.out]; rfl), _, rfl⟩

theorem place_eq : ∀ (l : List UInt8) (c : UInt8), Lib.indexByte l c = placeOf l c
  | [], _ => rfl
  | b :: l, c => by unfold Lib.indexByte placeOf; rw [place_eq l c]

set_option maxHeartbeats 400000 in
theorem hex_any (c : UInt8) (w : World) : Calls Tryd.prog 43 #[.int .u8 (c.toNat : Int)] w fun e w' => e = .returned (.int .i64 (hexv c)) ∧ w = w' := by
  go_enter Tryd.func43, Tryd.ntmps43
  go_wp2_with fail
  refine (Tryd.strings_IndexByte _ _ _).mono ?_
  rintro e w' ⟨rfl, rfl⟩
  go_wp2_with fail
  go_ret
  refine ⟨ret_int ?_, rfl⟩
  rw [place_eq]
  simp [hexv, hexL]
end Go.Proofs.YtfikflmlcicedaaDoor
