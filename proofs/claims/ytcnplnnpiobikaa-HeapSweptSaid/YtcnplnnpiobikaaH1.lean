/- The contracts of value.within, value.Check, heap.ref, heap.fits. -/
import Derived.Test.YtcnplnnpiobikaaK
namespace Go.Proofs.Ytcnplnnpiobikaa
open Go.RowKit

theorem ret_bool {a b : Bool} (h : a = b) : Ending.returned (.bool a) = .returned (.bool b) := by rw [h]
def JV.c (v : JV) : List Value := [.int .i64 v.k, .int .i64 v.n, .string v.s]
def JV.v (v : JV) : Value := .agg #[.int .i64 v.k, .int .i64 v.n, .string v.s]
theorem JV.len (v : JV) : (JV.c v).length = 3 := rfl
structure JvAt (w : World) (b x : Nat) (v : JV) : Prop where
  c0 : w.cell? ⟨b, x, none⟩ = some (.int .i64 v.k)
  c1 : w.cell? ⟨b, x + 1, none⟩ = some (.int .i64 v.n)
  c2 : w.cell? ⟨b, x + 2, none⟩ = some (.string v.s)
theorem JvAt.below {w w' : World} {b x : Nat} {v : JV} (h : JvAt w b x v) (hb : Below w.heap.size w w') : JvAt w' b x v := ⟨kc hb h.c0, kc hb h.c1, kc hb h.c2⟩
def StrAt (w : World) (b x : Nat) (s : ByteArray) : Prop := w.cell? ⟨b, x, none⟩ = some (.string s)
/-- A heap's cell. -/
structure ClAt (w : World) (b x : Nat) (c : Cl) : Prop where
  ex : ∃ (na : Option Addr) (nc : Nat) (va : Option Addr) (vc : Nat), w.cell? ⟨b, x, none⟩ = some (.int .i64 c.kind) ∧ w.cell? ⟨b, x + 1, none⟩ = some (.slice na c.names.length nc) ∧ w.cell? ⟨b, x + 2, none⟩ = some (.slice va c.vals.length vc) ∧ SlR w StrAt 1 (.slice na c.names.length nc) c.names ∧ SlR w JvAt 3 (.slice va c.vals.length vc) c.vals
theorem ClAt.below {w w' : World} {b x : Nat} {c : Cl} (h : ClAt w b x c) (hb : Below w.heap.size w w') : ClAt w' b x c := by
  obtain ⟨na, nc, va, vc, h0, h1, h2, h3, h4⟩ := h.ex
  exact ⟨na, nc, va, vc, kc hb h0, kc hb h1, kc hb h2, h3.mono (fun _ _ _ h => kc hb h), h4.mono (fun _ _ _ h => h.below hb)⟩
def HeapAt (w : World) (v : Value) (h : List Cl) : Prop := SlR w ClAt 3 v h
theorem HeapAt.below {w w' : World} {v : Value} {h : List Cl} (hh : HeapAt w v h) (hb : Below w.heap.size w w') : HeapAt w' v h := hh.mono (fun _ _ _ h => h.below hb)
/-- P420 as the code has it. -/
def chk (k n : Int) (s : ByteArray) : Bool :=
  if k = 0 then decide (n = 0) && s.toList.isEmpty
  else if k = 1 then decide (0 ≤ n ∧ n ≤ 1) && s.toList.isEmpty
  else if k = 2 then decide (-9007199254740992 ≤ n ∧ n ≤ 9007199254740992) && s.toList.isEmpty
  else if k = 3 then decide ((s.size : Int) ≤ 2000) && (n == 0)
  else if k = 4 then decide (0 ≤ n) && s.toList.isEmpty
  else if k = 5 then n == 0
  else false
def kindAt (h : List Cl) (n : Int) : Int := ((h[n.toNat]?).map Cl.kind).getD 0
def fits (h : List Cl) (v : JV) : Bool := chk v.k v.n v.s && (decide (refV v < 0) || (decide (refV v < (h.length : Int)) && (kindAt h (refV v) != 0)))
set_option maxHeartbeats 400000 in
theorem within_any (n a b : Int) (w : World) :
    Calls Try.prog 55 #[.int .i64 n, .int .i64 a, .int .i64 b] w fun e w' => e = .returned (.bool (decide (a ≤ n) && decide (n ≤ b))) ∧ w = w' := by
  go_enter Try.func55, Try.ntmps55
  go_wp2
  all_goals (go_ret; exact ⟨ret_bool (by simp; omega), rfl⟩)
set_option maxHeartbeats 1000000 in
theorem vcheck_any (k n : Int) (s : ByteArray) (w : World) :
    Calls Try.prog 43 #[.agg #[.int .i64 k, .int .i64 n, .string s]] w fun e w' => e = .returned (.bool (chk k n s)) ∧ Below w.heap.size w w' := by
  refine (show Calls Try.prog 43 #[.agg #[.int .i64 k, .int .i64 n, .string s]] w fun e w' => e = .returned (.bool (chk k n s)) ∧ w' = w.alloc (.cells #[.int .i64 k, .int .i64 n, .string s] 31) from ?_).mono fun e w' ⟨h1, h2⟩ => ⟨h1, by rw [h2]; exact (Below.refl _ _).alloc (Nat.le_refl _) _⟩
  go_enter Try.func43, Try.ntmps43
  go_wp2_with ((go_at_call 55; refine (within_any _ _ _ _).mono ?_; rintro e w' ⟨rfl, rfl⟩))
  all_goals
    go_ret
    refine ⟨ret_bool ?_, by simp_all⟩
    simp_all [chk]
  all_goals omega
set_option maxHeartbeats 400000 in
theorem ref_any (v : JV) (w : World) : Calls Try.prog 38 #[JV.v v] w fun e w' => e = .returned (.int .i64 (refV v)) ∧ Below w.heap.size w w' := by
  obtain ⟨k, n, s⟩ := v
  show Calls Try.prog 38 #[.agg #[.int .i64 k, .int .i64 n, .string s]] w _
  go_enter Try.func38, Try.ntmps38
  by_cases h4 : k = 4
  · subst h4
    go_wp2_with fail
    go_ret
    exact ⟨by simp [refV], (Below.refl _ _).alloc (Nat.le_refl _) _⟩
  · have h4' : (k == 4) = false := by simpa using h4
    go_wp2_with fail
    go_ret
    exact ⟨by simp [refV, h4], (Below.refl _ _).alloc (Nat.le_refl _) _⟩
theorem kind_cell {w : World} {h : List Cl} {a : Option Addr} {c : Nat} (hh : HeapAt w (.slice a h.length c) h) (m : Nat) (hm : m < h.length) : ∃ b o, a = some ⟨b, o, none⟩ ∧ w.cell? ⟨b, o + m * 3, none⟩ = some (.int .i64 (kindAt h (m : Int))) := by
  obtain ⟨b, o, e, hc⟩ := hh.item m hm
  obtain ⟨_, _, _, _, h0, _⟩ := hc.ex
  refine ⟨b, o, e, ?_⟩
  rw [h0]
  unfold kindAt
  rw [Int.toNat_natCast, List.getElem?_eq_getElem hm]
  rfl
set_option maxRecDepth 100000 in
set_option maxHeartbeats 4000000 in
theorem fits_any (h : List Cl) (a : Option Addr) (c : Nat) (v : JV) (w : World) (hh : HeapAt w (.slice a h.length c) h) :
    Calls Try.prog 32 #[.slice a h.length c, JV.v v] w fun e w' => e = .returned (.bool (fits h v)) ∧ Below w.heap.size w w' := by
  have HH := Lib.hid hh
  have HR := Lib.hid (fun w => ref_any v w)
  have HC := Lib.hid (fun w => vcheck_any v.k v.n v.s w)
  obtain ⟨q1, q2, q3⟩ := SlR.cap hh
  clear hh
  obtain ⟨R, hR⟩ : ∃ R, fits h v = R := ⟨_, rfl⟩
  rw [hR]
  unfold fits at hR
  generalize refV v = r at *
  obtain ⟨k, n, s⟩ := v
  simp only at HC hR
  have HR2 : Hid (∀ w, Calls Try.prog 38 #[.agg #[.int .i64 k, .int .i64 n, .string s]] w fun e w' => e = .returned (.int .i64 r) ∧ Below w.heap.size w w') := Lib.hid HR.out
  clear HR
  generalize chk k n s = C at *
  have HRR := Lib.hid hR
  clear hR
  show Calls Try.prog 32 #[.slice a h.length c, .agg #[.int .i64 k, .int .i64 n, .string s]] w _
  go_enter Try.func32, Try.ntmps32
  obtain ⟨A, hA⟩ : ∃ A, w.heap.size = A := ⟨_, rfl⟩
  go_upto_region 1 with fail
  refine code_gen (Φ := fun wy => Hid (Below w.heap.size w wy) ∧ Hid (wy.heap[A]? = some (.cells #[.int .i64 k, .int .i64 n, .string s] 31 (0, 0)))) ⟨Lib.hid ((Below.refl _ _).alloc (Nat.le_refl _) _), Lib.hid (alloc_at hA _)⟩ ?_
  rintro w3 ⟨X, XA⟩
  clear hA
  obtain ⟨c0, c1, c2⟩ := cells3 XA.out
  go_wp2_with fail
  refine (HR2.out _).mono ?_
  rintro e w4 ⟨rfl, hb4⟩
  have Y := Lib.hid (X.out.trans (Below.le hb4 X.out.size))
  have YA := Lib.hid ((hb4.block A (lt_of_heap XA.out)).trans XA.out)
  clear hb4 X XA c0 c1 c2 HR2
  obtain ⟨c0, c1, c2⟩ := cells3 YA.out
  go_wp2_with fail
  refine (HC.out _).mono ?_
  rintro e w5 ⟨rfl, hb5⟩
  have Z := Lib.hid (Y.out.trans (Below.le hb5 Y.out.size))
  clear hb5 Y YA c0 c1 c2 HC
  cases C with
  | false =>
    have hr : R = false := by rw [← HRR.out]; rfl
    subst hr
    go_wp2_with fail
    go_ret
    exact ⟨rfl, Z.out⟩
  | true =>
    by_cases hr0 : r < 0
    · have hr : R = true := by rw [← HRR.out]; simp [hr0]
      subst hr
      go_wp2_with fail
      go_ret
      exact ⟨rfl, Z.out⟩
    by_cases hr1 : (h.length : Int) ≤ r
    · have hr : R = false := by rw [← HRR.out]; simp [hr0]; omega
      subst hr
      go_wp2_with fail
      go_ret
      exact ⟨ret_bool (by simp [hr0]), Z.out⟩
    obtain ⟨m, rfl⟩ : ∃ m : Nat, r = (m : Int) := ⟨r.toNat, by omega⟩
    have hm : m < h.length := by omega
    have hmi : (m : Int) < (h.length : Int) := by omega
    obtain ⟨b, o, rfl, hk⟩ := kind_cell (HH.out.below Z.out) m hm
    have HR3 := Lib.hid (show (kindAt h (m : Int) != 0) = R by rw [← HRR.out]; simp [hr0, hmi])
    clear HRR
    generalize kindAt h (m : Int) = K at *
    by_cases hk0 : K = 0
    · subst hk0
      have hr : R = false := by rw [← HR3.out]; rfl
      subst hr
      go_wp2_with fail
      go_ret
      exact ⟨rfl, Z.out⟩
    · have hk1 : (K == 0) = false := by simpa using hk0
      have hr : R = true := by rw [← HR3.out]; simpa using hk0
      subst hr
      go_wp2_with fail
      go_ret
      exact ⟨ret_bool (by simp [hk0]), Z.out⟩
end Go.Proofs.Ytcnplnnpiobikaa
