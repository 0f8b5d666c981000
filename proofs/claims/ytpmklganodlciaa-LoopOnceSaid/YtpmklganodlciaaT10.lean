/- slices.BinarySearchFunc over timers, by 'before'. -/
import Derived.Test.YtpmklganodlciaaT4
namespace Go.Proofs.Ytpmklganodlciaa
open Go.RowKit

theorem call33 (args : Array Value) (w : World) : Sem.run Try.prog (callFunc 33 args) w = .ok (.enter 33 args) w := by go_simp
theorem keep10 {w w9 : World} {b0 o0 b1 o1 b2 o2 b3 o3 b4 o4 b5 o5 b6 o6 b7 o7 b8 o8 b9 o9 : Nat} {v0 v1 v2 v3 v4 v5 v6 v7 v8 v9 : Value} (h : w.cell? ⟨b0, o0, none⟩ = some v0 ∧ w.cell? ⟨b1, o1, none⟩ = some v1 ∧ w.cell? ⟨b2, o2, none⟩ = some v2 ∧ w.cell? ⟨b3, o3, none⟩ = some v3 ∧ w.cell? ⟨b4, o4, none⟩ = some v4 ∧ w.cell? ⟨b5, o5, none⟩ = some v5 ∧ w.cell? ⟨b6, o6, none⟩ = some v6 ∧ w.cell? ⟨b7, o7, none⟩ = some v7 ∧ w.cell? ⟨b8, o8, none⟩ = some v8 ∧ w.cell? ⟨b9, o9, none⟩ = some v9) (hb : Below w.heap.size w w9) : w9.cell? ⟨b0, o0, none⟩ = some v0 ∧ w9.cell? ⟨b1, o1, none⟩ = some v1 ∧ w9.cell? ⟨b2, o2, none⟩ = some v2 ∧ w9.cell? ⟨b3, o3, none⟩ = some v3 ∧ w9.cell? ⟨b4, o4, none⟩ = some v4 ∧ w9.cell? ⟨b5, o5, none⟩ = some v5 ∧ w9.cell? ⟨b6, o6, none⟩ = some v6 ∧ w9.cell? ⟨b7, o7, none⟩ = some v7 ∧ w9.cell? ⟨b8, o8, none⟩ = some v8 ∧ w9.cell? ⟨b9, o9, none⟩ = some v9 :=
  ⟨kc hb h.1, kc hb h.2.1, kc hb h.2.2.1, kc hb h.2.2.2.1, kc hb h.2.2.2.2.1, kc hb h.2.2.2.2.2.1, kc hb h.2.2.2.2.2.2.1, kc hb h.2.2.2.2.2.2.2.1, kc hb h.2.2.2.2.2.2.2.2.1, kc hb h.2.2.2.2.2.2.2.2.2⟩
/-- What the search keeps. -/
def Split (t : Tim) (l : List Tim) (i j : Nat) : Prop := i ≤ j ∧ j ≤ l.length ∧ (∀ x, 0 < i → l[i - 1]? = some x → ordT x t < 0) ∧ (∀ x, l[j]? = some x → 0 ≤ ordT x t)
set_option maxRecDepth 100000 in
set_option maxHeartbeats 4000000 in
theorem bs_any (t : Tim) (a : Option Addr) (c : Nat) (l : List Tim) (w : World) (h : Sl w Tim.c 5 (.slice a l.length c) l) (hl : l.length ≤ 1000) :
    Calls Try.prog 49 #[.slice a l.length c, t.v, .func (.func 33) #[] #[]] w fun e w' => ∃ (r : Nat) (b : Bool), e = .returned (.tuple #[.int .i64 (r : Int), .bool b]) ∧ Split t l r r ∧ Below w.heap.size w w' := by
  obtain ⟨id, ta, te, tt, call⟩ := t
  show Calls Try.prog 49 #[.slice a l.length c, .agg #[.int .i64 id, .int .i64 ta, .int .i64 te, .int .i64 tt, .string call], .func (.func 33) #[] #[]] w _
  have HS := Lib.hid h
  have HF := Lib.hid call33
  clear h
  have hcall := call33
  have hli : (l.length : Int) ≤ 1000 := by omega
  go_enter Try.func49, Try.ntmps49
  go_wp2_with fail
  obtain ⟨w0, hw0, hb0, t0, t1, t2, t3, t4, hz⟩ : ∃ w0, w0 = (w.alloc (.cells #[.int .i64 id, .int .i64 ta, .int .i64 te, .int .i64 tt, .string call] 49)) ∧ Below w.heap.size w w0 ∧ w0.cell? ⟨w.heap.size, 0, none⟩ = some (.int .i64 id) ∧ w0.cell? ⟨w.heap.size, 1, none⟩ = some (.int .i64 ta) ∧ w0.cell? ⟨w.heap.size, 2, none⟩ = some (.int .i64 te) ∧ w0.cell? ⟨w.heap.size, 3, none⟩ = some (.int .i64 tt) ∧ w0.cell? ⟨w.heap.size, 4, none⟩ = some (.string call) ∧ w.heap.size < w0.heap.size :=
    ⟨_, rfl, (Below.refl _ _).alloc (Nat.le_refl _) _, by go_simp, by go_simp, by go_simp, by go_simp, by go_simp, by simp⟩
  rw [← hw0]
  have HB0 := Lib.hid hb0
  have HS0 := Lib.hid (HS.out.below hb0)
  clear hw0 hb0 HS
  go_loopg [9, 10] l.length (fun n vi vj wr => ∃ i j : Nat, n = j - i ∧ vi = .int .i64 (i : Int) ∧ vj = .int .i64 (j : Int) ∧ Split ⟨id, ta, te, tt, call⟩ l i j ∧ Below w0.heap.size w0 wr)
  case atStart => exact ⟨0, l.length, rfl, rfl, rfl, ⟨Nat.zero_le _, Nat.le_refl _, fun x h => by omega, fun x h => by rw [List.getElem?_eq_none (Nat.le_refl _)] at h; cases h⟩, Below.refl _ _⟩
  case round =>
    obtain ⟨i, j, hg, rfl, rfl, hs, hb⟩ := hrel
    have G := Lib.hid hg
    have HSP := Lib.hid hs
    have HB := Lib.hid hb
    have hij := hs.1
    have hjl := hs.2.1
    have t0' := kc hb t0
    have t1' := kc hb t1
    have t2' := kc hb t2
    have t3' := kc hb t3
    have t4' := kc hb t4
    have HSW := Lib.hid (HS0.out.below hb)
    clear hg hs
    by_cases hlt : i < j
    · have h1 : (i : Int) < (j : Int) := by omega
      have h2 : (j : Int) ≤ (l.length : Int) := by omega
      obtain ⟨m, hm⟩ : ∃ m, m = (i + j) / 2 := ⟨_, rfl⟩
      have hm1 : i ≤ m := by omega
      have hm2 : m < j := by omega
      have hm3 : m < l.length := by omega
      have hmi : ((i : Int) + (j : Int)) / 2 = (m : Int) := by omega
      have hml : (m : Int) < (l.length : Int) := by omega
      have hsh : ∀ W : World, (binOp .shr 90 (.int .u64 ((i : Int) + (j : Int))) (.int .u64 1)).run Try.prog W = .ok (.int .u64 (m : Int)) W := by
        intro W
        rw [binOp_shr, shift_shr_u64 (x := (i : Int) + (j : Int)) (yk := .u64) (y := 1) (by decide) (by decide)]
        show Result.ok (Value.int .u64 (((i : Int) + (j : Int)) / 2)) W = _
        rw [hmi]
      have HMI := Lib.hid hmi
      clear hmi
      obtain ⟨b, o, rfl, hta⟩ := HSW.out.tim m hm3
      have hgm := List.getElem?_eq_getElem hm3
      generalize l[m] = X at *
      have HGM := Lib.hid hgm
      have hbf := fun w => before_any X ⟨id, ta, te, tt, call⟩ w
      obtain ⟨O, hO⟩ : ∃ O, ordT X ⟨id, ta, te, tt, call⟩ = O := ⟨_, rfl⟩
      rw [hO] at hbf
      have HO := Lib.hid hO
      obtain ⟨pid, pa, pe, pt, pc⟩ := X
      obtain ⟨c0, c1, c2, c3, c4⟩ := hta
      simp only at c0 c1 c2 c3 c4
      have HBF : Hid (∀ w, Calls Try.prog 33 #[.agg #[.int .i64 pid, .int .i64 pa, .int .i64 pe, .int .i64 pt, .string pc], .agg #[.int .i64 id, .int .i64 ta, .int .i64 te, .int .i64 tt, .string call]] w fun e w' => e = .returned (.int .i64 O) ∧ Below w.heap.size w w') := Lib.hid hbf
      clear hbf hO hgm
      have hms : (m : Int) + 1 ≤ 1000 := by omega
      have hm0 : (0 : Int) ≤ (m : Int) := by omega
      subst hm
      have hq0 : (0 : Int) ≤ ((i : Int) + (j : Int)) / 2 := by omega
      have hq1 : ((i : Int) + (j : Int)) / 2 < (l.length : Int) := by omega
      have hnat : (i + j) / 2 = (((i : Int) + (j : Int)) / 2).toNat := by omega
      rw [hnat] at c0 c1 c2 c3 c4
      clear hnat
      go_upto_region 5 with fail
      go_region_held3 (fun w' => w'.cell? ⟨w.heap.size, 0, none⟩ = some (.int .i64 id) ∧ w'.cell? ⟨w.heap.size, 1, none⟩ = some (.int .i64 ta) ∧ w'.cell? ⟨w.heap.size, 2, none⟩ = some (.int .i64 te) ∧ w'.cell? ⟨w.heap.size, 3, none⟩ = some (.int .i64 tt) ∧ w'.cell? ⟨w.heap.size, 4, none⟩ = some (.string call) ∧ w'.cell? ⟨b, o + ((((i : Int) + (j : Int)) / 2).toNat) * 5, none⟩ = some (.int .i64 pid) ∧ w'.cell? ⟨b, o + ((((i : Int) + (j : Int)) / 2).toNat) * 5 + 1, none⟩ = some (.int .i64 pa) ∧ w'.cell? ⟨b, o + ((((i : Int) + (j : Int)) / 2).toNat) * 5 + 2, none⟩ = some (.int .i64 pe) ∧ w'.cell? ⟨b, o + ((((i : Int) + (j : Int)) / 2).toNat) * 5 + 3, none⟩ = some (.int .i64 pt) ∧ w'.cell? ⟨b, o + ((((i : Int) + (j : Int)) / 2).toNat) * 5 + 4, none⟩ = some (.string pc)) (first | assumption | go_keep) ((go_at_call 33; with_reducible refine (HBF.out _).mono ?_; rintro e w9 ⟨rfl, hb9⟩; have hS9 := keep10 (by assumption) hb9))
      have B9 : Hid (Below w0.heap.size w0 w9) := Lib.hid ((HB.out.drew).trans (Below.le hb9 HB.out.size))
      clear t0' t1' t2' t3' t4' c0 c1 c2 c3 c4 hb hb9 hS9
      all_goals
        by_cases hO : O < 0
        · go_wp2_with fail
          go_roundg (j - ((i + j) / 2 + 1))
          case measure => rw [G.out]; omega
          case rel =>
            refine ⟨(i + j) / 2 + 1, j, rfl, by simp, rfl, ⟨by omega, hjl, fun x _ hx => ?_, HSP.out.2.2.2⟩, B9.out⟩
            rw [Nat.add_sub_cancel, HGM.out] at hx
            injection hx with hx
            subst hx
            rw [HO.out]; exact hO
        · go_wp2_with fail
          go_roundg ((i + j) / 2 - i)
          case measure => rw [G.out]; omega
          case rel =>
            refine ⟨i, (i + j) / 2, rfl, rfl, by simp, ⟨hm1, by omega, HSP.out.2.2.1, fun x hx => ?_⟩, B9.out⟩
            rw [HGM.out] at hx
            injection hx with hx
            subst hx
            rw [HO.out]; omega
    · have hji : j = i := by omega
      subst hji
      have hjl2 : (j : Int) ≤ (l.length : Int) := by omega
      by_cases hend : j < l.length
      · have h2 : (j : Int) < (l.length : Int) := by omega
        obtain ⟨b, o, rfl, hta⟩ := HSW.out.tim j hend
        generalize l[j] = X at *
        have hbf := fun w => before_any X ⟨id, ta, te, tt, call⟩ w
        obtain ⟨O, hO⟩ : ∃ O, ordT X ⟨id, ta, te, tt, call⟩ = O := ⟨_, rfl⟩
        rw [hO] at hbf
        obtain ⟨pid, pa, pe, pt, pc⟩ := X
        obtain ⟨c0, c1, c2, c3, c4⟩ := hta
        simp only at c0 c1 c2 c3 c4
        have HBF : Hid (∀ w, Calls Try.prog 33 #[.agg #[.int .i64 pid, .int .i64 pa, .int .i64 pe, .int .i64 pt, .string pc], .agg #[.int .i64 id, .int .i64 ta, .int .i64 te, .int .i64 tt, .string call]] w fun e w' => e = .returned (.int .i64 O) ∧ Below w.heap.size w w') := Lib.hid hbf
        clear hbf hO
        go_upto_region 8 with fail
        go_region_held3 (fun w' => w'.cell? ⟨w.heap.size, 0, none⟩ = some (.int .i64 id) ∧ w'.cell? ⟨w.heap.size, 1, none⟩ = some (.int .i64 ta) ∧ w'.cell? ⟨w.heap.size, 2, none⟩ = some (.int .i64 te) ∧ w'.cell? ⟨w.heap.size, 3, none⟩ = some (.int .i64 tt) ∧ w'.cell? ⟨w.heap.size, 4, none⟩ = some (.string call) ∧ w'.cell? ⟨b, o + j * 5, none⟩ = some (.int .i64 pid) ∧ w'.cell? ⟨b, o + j * 5 + 1, none⟩ = some (.int .i64 pa) ∧ w'.cell? ⟨b, o + j * 5 + 2, none⟩ = some (.int .i64 pe) ∧ w'.cell? ⟨b, o + j * 5 + 3, none⟩ = some (.int .i64 pt) ∧ w'.cell? ⟨b, o + j * 5 + 4, none⟩ = some (.string pc)) (first | assumption | go_keep) ((go_at_call 33; with_reducible refine (HBF.out _).mono ?_; rintro e w9 ⟨rfl, hb9⟩; have hS9 := keep10 (by assumption) hb9))
        have B9 : Hid (Below w.heap.size w w9) := Lib.hid (HB0.out.trans (Below.le ((HB.out.drew).trans (Below.le hb9 HB.out.size)) HB0.out.size))
        clear t0' t1' t2' t3' t4' c0 c1 c2 c3 c4 hb hb9 hS9
        go_wp2_with fail
        go_ret2
        exact ⟨j, _, rfl, HSP.out, B9.out⟩
      · go_upto_region 8 with fail
        go_region
        all_goals
          go_wp2_with fail
          go_ret2
          exact ⟨j, _, rfl, HSP.out, HB0.out.trans (Below.le HB.out.drew HB0.out.size)⟩
end Go.Proofs.Ytpmklganodlciaa
