/- The contracts of loop's small functions: within, cmp.Compare, cmp.Or, before. -/
import Derived.Test.YtpmklganodlciaaRows
import Derived.WalkKit
import Derived.WalkSpells
import Derived.WalkLawsBesides
import Derived.Deep.QuietTactic
import Derived.BigQuiet
import Derived.Deep.DeepCutAuto
import Derived.Deep.Draws
import Derived.Outline
import Derived.Deep.RegionHeld3
import Derived.Lib.Hide
namespace Go.Proofs.Ytpmklganodlciaa
open Go.RowKit

/-- A timer. -/
structure Tim where
  id : Int
  at_ : Int
  every : Int
  turn : Int
  call : ByteArray
def Tim.v (t : Tim) : Value := .agg #[.int .i64 t.id, .int .i64 t.at_, .int .i64 t.every, .int .i64 t.turn, .string t.call]
def cmpI (a b : Int) : Int := if a < b then -1 else if b < a then 1 else 0
def ordT (a b : Tim) : Int := if cmpI a.at_ b.at_ = 0 then cmpI a.id b.id else cmpI a.at_ b.at_

set_option maxRecDepth 100000 in
set_option maxHeartbeats 1000000 in
theorem within_any (n l h : Int) (w : World) : Calls Try.prog 24 #[.int .i64 n, .int .i64 l, .int .i64 h] w fun e w' => e = .returned (.bool (decide (l ≤ n) && decide (n ≤ h))) ∧ w = w' := by
  obtain ⟨B, hB⟩ : ∃ B, (decide (l ≤ n) && decide (n ≤ h)) = B := ⟨_, rfl⟩
  rw [hB]
  by_cases h1 : l ≤ n
  all_goals by_cases h2 : n ≤ h
  all_goals
    simp only [h1, h2, decide_true, decide_false, Bool.and_true, Bool.and_false] at hB
    subst hB
    go_enter Try.func24, Try.ntmps24
    go_wp2_with fail
    go_ret
    exact ⟨rfl, rfl⟩
set_option maxRecDepth 100000 in
set_option maxHeartbeats 1000000 in
theorem nan_any (n : Int) (w : World) : Calls Try.prog 48 #[.int .i64 n] w fun e w' => e = .returned (.bool false) ∧ w = w' := by
  go_enter Try.func48, Try.ntmps48
  go_wp2_with fail
  go_ret
  exact ⟨rfl, rfl⟩
set_option maxRecDepth 100000 in
set_option maxHeartbeats 1000000 in
theorem cmp_any (a b : Int) (w : World) : Calls Try.prog 45 #[.int .i64 a, .int .i64 b] w fun e w' => e = .returned (.int .i64 (cmpI a b)) ∧ w = w' := by
  obtain ⟨c, hc⟩ : ∃ c, cmpI a b = c := ⟨_, rfl⟩
  rw [hc]
  unfold cmpI at hc
  by_cases h1 : a < b
  · rw [if_pos h1] at hc
    subst hc
    go_enter Try.func45, Try.ntmps45
    go_wp2_with fail
    refine (nan_any a _).mono ?_
    rintro e w' ⟨rfl, rfl⟩
    go_wp2_with fail
    refine (nan_any b _).mono ?_
    rintro e w' ⟨rfl, rfl⟩
    go_wp2_with fail
    go_ret
    exact ⟨rfl, rfl⟩
  · rw [if_neg h1] at hc
    by_cases h2 : b < a
    · rw [if_pos h2] at hc
      subst hc
      go_enter Try.func45, Try.ntmps45
      go_wp2_with fail
      refine (nan_any a _).mono ?_
      rintro e w' ⟨rfl, rfl⟩
      go_wp2_with fail
      refine (nan_any b _).mono ?_
      rintro e w' ⟨rfl, rfl⟩
      go_wp2_with fail
      go_ret
      exact ⟨rfl, rfl⟩
    · rw [if_neg h2] at hc
      subst hc
      go_enter Try.func45, Try.ntmps45
      go_wp2_with fail
      refine (nan_any a _).mono ?_
      rintro e w' ⟨rfl, rfl⟩
      go_wp2_with fail
      refine (nan_any b _).mono ?_
      rintro e w' ⟨rfl, rfl⟩
      go_wp2_with fail
      go_ret
      exact ⟨rfl, rfl⟩
set_option maxRecDepth 100000 in
set_option maxHeartbeats 1000000 in
theorem or_any (g cap : Nat) (a b : Int) (w : World) (h0 : w.cell? ⟨g, 0, none⟩ = some (.int .i64 a)) (h1 : w.cell? ⟨g, 1, none⟩ = some (.int .i64 b)) :
    Calls Try.prog 44 #[.slice (some ⟨g, 0, none⟩) 2 cap] w fun e w' => e = .returned (.int .i64 (if a = 0 then b else a)) ∧ w = w' := by
  go_enter Try.func44, Try.ntmps44
  go_wp2_with fail
  go_loopg [8] 2 (fun n v wr => ∃ k : Nat, n = 2 - k ∧ v = .int .i64 (k : Int) ∧ k ≤ 2 ∧ (1 ≤ k → a = 0) ∧ (2 ≤ k → b = 0) ∧ w = wr)
  case atStart => exact ⟨0, rfl, rfl, by omega, by omega, by omega, rfl⟩
  case round =>
    obtain ⟨k, hg, rfl, hk, he, hf, rfl⟩ := hrel
    have G := Lib.hid hg
    have HE := Lib.hid he
    have HF := Lib.hid hf
    clear hg he hf
    have H : k = 0 ∨ k = 1 ∨ k = 2 := by omega
    rcases H with rfl | rfl | rfl
    · by_cases h : a = 0
      · subst h
        go_wp2_with fail
        go_roundg 1
        case measure => rw [G.out]; omega
        case rel => exact ⟨1, rfl, rfl, by omega, by simp, by omega, rfl⟩
      · go_wp2_with fail
        go_ret
        exact ⟨rfl, rfl⟩
    · have ha := HE.out (by omega)
      subst ha
      by_cases h : b = 0
      · subst h
        go_wp2_with fail
        go_roundg 0
        case measure => rw [G.out]; omega
        case rel => exact ⟨2, rfl, rfl, by omega, by simp, by simp, rfl⟩
      · go_wp2_with fail
        go_ret
        exact ⟨rfl, rfl⟩
    · have ha := HE.out (by omega)
      have hb := HF.out (by omega)
      subst ha
      subst hb
      go_wp2_with fail
      go_ret
      exact ⟨rfl, rfl⟩
set_option maxRecDepth 100000 in
set_option maxHeartbeats 1000000 in
theorem before_any (a b : Tim) (w : World) : Calls Try.prog 33 #[a.v, b.v] w fun e w' => e = .returned (.int .i64 (ordT a b)) ∧ Below w.heap.size w w' := by
  obtain ⟨i1, a1, e1, t1, c1⟩ := a
  obtain ⟨i2, a2, e2, t2, c2⟩ := b
  show Calls Try.prog 33 #[.agg #[.int .i64 i1, .int .i64 a1, .int .i64 e1, .int .i64 t1, .string c1], .agg #[.int .i64 i2, .int .i64 a2, .int .i64 e2, .int .i64 t2, .string c2]] w _
  go_enter Try.func33, Try.ntmps33
  go_wp2_with fail
  obtain ⟨w1, hw1, B1, x0, x1, y0, y1⟩ : ∃ w1, w1 = ((w.alloc (.cells #[.int .i64 i1, .int .i64 a1, .int .i64 e1, .int .i64 t1, .string c1] 49)).alloc (.cells #[.int .i64 i2, .int .i64 a2, .int .i64 e2, .int .i64 t2, .string c2] 49)) ∧ Below w.heap.size w w1 ∧
      w1.cell? ⟨w.heap.size, 0, none⟩ = some (.int .i64 i1) ∧ w1.cell? ⟨w.heap.size, 1, none⟩ = some (.int .i64 a1) ∧ w1.cell? ⟨w.heap.size + 1, 0, none⟩ = some (.int .i64 i2) ∧ w1.cell? ⟨w.heap.size + 1, 1, none⟩ = some (.int .i64 a2) := by
    refine ⟨_, rfl, ((Below.refl _ _).alloc (Nat.le_refl _) _).alloc (World.grownBy_alloc _ _ none).size _, ?_, ?_, ?_, ?_⟩
    all_goals go_simp
  rw [← hw1]
  have HB := Lib.hid B1
  have HS := Lib.hid B1.size
  clear hw1 B1
  obtain ⟨b, hb⟩ : ∃ b, w.heap.size = b := ⟨_, rfl⟩
  rw [hb] at x0 x1 y0 y1 ⊢
  have EB := Lib.hid hb
  clear hb
  obtain ⟨ca, hca⟩ : ∃ c, cmpI a1 a2 = c := ⟨_, rfl⟩
  obtain ⟨ci, hci⟩ : ∃ c, cmpI i1 i2 = c := ⟨_, rfl⟩
  have hA := fun w => cmp_any a1 a2 w
  have hI := fun w => cmp_any i1 i2 w
  rw [hca] at hA
  rw [hci] at hI
  have HA := Lib.hid hA
  have HI := Lib.hid hI
  have HR : Hid (ordT ⟨i1, a1, e1, t1, c1⟩ ⟨i2, a2, e2, t2, c2⟩ = if ca = 0 then ci else ca) := Lib.hid (by unfold ordT; rw [hca, hci])
  clear hA hI hca hci
  obtain ⟨R, hR⟩ : ∃ R, (if ca = 0 then ci else ca) = R := ⟨_, rfl⟩
  have hO := fun g cap w h0 h1 => or_any g cap ca ci w h0 h1
  rw [hR] at HR hO
  have HO := Lib.hid hO
  clear hO hR
  go_region_held3 (fun w' => w'.cell? ⟨b, 0, none⟩ = some (.int .i64 i1) ∧ w'.cell? ⟨b, 1, none⟩ = some (.int .i64 a1) ∧ w'.cell? ⟨b + 1, 0, none⟩ = some (.int .i64 i2) ∧ w'.cell? ⟨b + 1, 1, none⟩ = some (.int .i64 a2)) (go_keep)
    ((first | (go_at_call 45; (first | (with_reducible refine (HA.out _).mono ?_) | (with_reducible refine (HI.out _).mono ?_)); rintro e w' ⟨rfl, rfl⟩) | (go_at_call 44; refine (HO.out _ _ _ ?_ ?_).mono ?_; (go_simp); (go_simp); rintro e w' ⟨rfl, rfl⟩)))
  go_wp2_with fail
  go_ret
  exact ⟨by rw [HR.out]; rfl, (HB.out.alloc HS.out _).drew⟩
end Go.Proofs.Ytpmklganodlciaa
