/- The contracts of jlex's escape, text. -/
import Derived.Test.YtfikflmlcicedaaDoorJ4
namespace Go.Proofs.YtfikflmlcicedaaDoor
open Go.RowKit

theorem hexv_ge (c : UInt8) : -1 ≤ hexv c ∧ hexv c < 16 := place_ge hexL c
theorem or16 : ∀ a b : Fin 16, bits BinOp.or IntKind.i64 (((a : Nat) : Int) * 16) ((b : Nat) : Int) % 256 = ((UInt8.ofNat (((a : Nat) : Int) * 16 + ((b : Nat) : Int)).toNat).toNat : Int) := by decide +kernel
theorem or_eq (a b : Int) (ha : 0 ≤ a) (ha' : a < 16) (hb : 0 ≤ b) (hb' : b < 16) : bits BinOp.or IntKind.i64 (a * 16) b % 256 = ((UInt8.ofNat (a * 16 + b).toNat).toNat : Int) := by
  have h := or16 ⟨a.toNat, by omega⟩ ⟨b.toNat, by omega⟩
  simp only [Int.toNat_of_nonneg ha, Int.toNat_of_nonneg hb] at h
  exact h
def escB (l : List UInt8) : Int := match esc l with | none => 0 | some (b, _) => (b.toNat : Int)
def escN (l : List UInt8) : Int := match esc l with | none => 0 | some (_, k) => (k : Int)

set_option maxRecDepth 100000 in
set_option maxHeartbeats 2000000 in
theorem escape_any (R : Nat) (s : ByteArray) (i : Nat) (out : Value) (w : World) (hr : Rd w R s i out) (hi : i ≤ 2000) (hs : s.size ≤ 2000) :
    Calls Tryd.prog 35 #[.pointer (some ⟨R, 0, none⟩)] w fun e w' => e = .returned (.tuple #[.int .u8 (escB (rest s i)), .int .i64 (escN (rest s i))]) ∧ ∃ q, w' = w.drewN q := by
  go_enter Tryd.func35, Tryd.ntmps35
  go_wp2_with fail
  refine (peek_any R s i 0 out _ hr hi hs (by omega)).mono ?_
  rintro e w1 ⟨rfl, q, rfl⟩
  have HR := Lib.hid hr
  clear hr
  obtain ⟨c, hc⟩ : ∃ c, pk (rest s i) 0 = c := ⟨_, rfl⟩
  rw [hc]
  have HC := Lib.hid hc
  clear hc
  have H : c = 34 ∨ c = 92 ∨ c = 110 ∨ c = 116 ∨ c = 120 ∨ (c ≠ 34 ∧ c ≠ 92 ∧ c ≠ 110 ∧ c ≠ 116 ∧ c ≠ 120) := by
    by_cases h1 : c = 34 <;> by_cases h2 : c = 92 <;> by_cases h3 : c = 110 <;> by_cases h4 : c = 116 <;> by_cases h5 : c = 120 <;> simp_all
  rcases H with rfl | rfl | rfl | rfl | rfl | ⟨h1, h2, h3, h4, h5⟩
  · have he : esc (rest s i) = some (34, 1) := by unfold esc; rw [HC.out]; rfl
    go_wp2_with fail
    go_ret2
    exact ⟨by unfold escB escN; rw [he]; rfl, _, rfl⟩
  · have he : esc (rest s i) = some (92, 1) := by unfold esc; rw [HC.out]; rfl
    go_wp2_with fail
    go_ret2
    exact ⟨by unfold escB escN; rw [he]; rfl, _, rfl⟩
  · have he : esc (rest s i) = some (10, 1) := by unfold esc; rw [HC.out]; rfl
    go_wp2_with fail
    go_ret2
    exact ⟨by unfold escB escN; rw [he]; rfl, _, rfl⟩
  · have he : esc (rest s i) = some (9, 1) := by unfold esc; rw [HC.out]; rfl
    go_wp2_with fail
    go_ret2
    exact ⟨by unfold escB escN; rw [he]; rfl, _, rfl⟩
  · have he : esc (rest s i) = if 0 ≤ hexv (pk (rest s i) 1) ∧ 0 ≤ hexv (pk (rest s i) 2) then some (UInt8.ofNat (hexv (pk (rest s i) 1) * 16 + hexv (pk (rest s i) 2)).toNat, 3) else none := by unfold esc; rw [HC.out]; rfl
    have HE := Lib.hid he
    clear he
    go_wp2_with fail
    refine (peek_any R s i 1 out _ (HR.out.drewN _) hi hs (by omega)).mono ?_
    rintro e w1 ⟨rfl, q1, rfl⟩
    go_wp2_with fail
    refine (hex_any _ _).mono ?_
    rintro e w1 ⟨rfl, rfl⟩
    go_wp2_with fail
    refine (peek_any R s i 2 out _ (HR.out.drewN _) hi hs (by omega)).mono ?_
    rintro e w1 ⟨rfl, q2, rfl⟩
    go_wp2_with fail
    refine (hex_any _ _).mono ?_
    rintro e w1 ⟨rfl, rfl⟩
    have g1 := hexv_ge (pk (rest s i) 1)
    have g2 := hexv_ge (pk (rest s i) 2)
    generalize hexv (pk (rest s i) 1) = a at *
    generalize hexv (pk (rest s i) 2) = b at *
    by_cases ha : 0 ≤ a
    · by_cases hb : 0 ≤ b
      · have he : esc (rest s i) = some (UInt8.ofNat (a * 16 + b).toNat, 3) := by rw [HE.out, if_pos ⟨ha, hb⟩]
        go_wp2_with fail
        go_ret2
        exact ⟨by unfold escB escN; rw [he, or_eq a b ha g1.2 hb g2.2]; rfl, _, rfl⟩
      · have he : esc (rest s i) = none := by rw [HE.out, if_neg (fun h => hb h.2)]
        go_wp2_with fail
        go_ret2
        exact ⟨by unfold escB escN; rw [he]; rfl, _, rfl⟩
    · have he : esc (rest s i) = none := by rw [HE.out, if_neg (fun h => ha h.1)]
      go_wp2_with fail
      go_ret2
      exact ⟨by unfold escB escN; rw [he]; rfl, _, rfl⟩
  · have he : esc (rest s i) = none := by unfold esc; rw [HC.out]; simp [h1, h2, h3, h4, h5]
    have e1 : ((c.toNat : Int) == 34) = false := beq_eq_false_iff_ne.2 (u8_ne h1)
    have e2 : ((c.toNat : Int) == 92) = false := beq_eq_false_iff_ne.2 (u8_ne h2)
    have e3 : ((c.toNat : Int) == 110) = false := beq_eq_false_iff_ne.2 (u8_ne h3)
    have e4 : ((c.toNat : Int) == 116) = false := beq_eq_false_iff_ne.2 (u8_ne h4)
    have e5 : ((c.toNat : Int) == 120) = false := beq_eq_false_iff_ne.2 (u8_ne h5)
    clear h1 h2 h3 h4 h5
    go_wp2_with fail
    go_ret2
    exact ⟨by unfold escB escN; rw [he]; rfl, _, rfl⟩
end Go.Proofs.YtfikflmlcicedaaDoor
