/- The contract of jlex's skip. -/
import Derived.Test.YtfikflmlcicedaaDoorJ1
import Derived.Deep.LoopGhost
namespace Go.Proofs.YtfikflmlcicedaaDoor
open Go.RowKit

theorem rest_cons (s : ByteArray) (j : Nat) (h : j < s.size) : rest s j = s[j] :: rest s (j + 1) := by
  have h' : j < s.data.toList.length := by simpa using h
  unfold rest
  rw [List.drop_eq_getElem_cons h']
  rfl
theorem rest_end (s : ByteArray) (j : Nat) (h : s.size ≤ j) : rest s j = [] := by
  unfold rest
  exact List.drop_eq_nil_of_le (by simpa using h)
theorem rest_drop (s : ByteArray) (j k : Nat) : (rest s j).drop k = rest s (j + k) := by
  unfold rest; rw [List.drop_drop]
theorem rest_length (s : ByteArray) (j : Nat) : (rest s j).length = s.size - j := by
  unfold rest; simp

/-- How far a remark goes: to the byte 10, or to the end. -/
def remark (l : List UInt8) : Nat := if placeOf l 10 < 0 then l.length else (placeOf l 10).toNat
theorem place_cons (b c : UInt8) (l : List UInt8) : placeOf (b :: l) c = if b == c then 0 else if placeOf l c == -1 then -1 else placeOf l c + 1 := rfl
theorem place_ge : ∀ (l : List UInt8) (c : UInt8), -1 ≤ placeOf l c ∧ placeOf l c < l.length
  | [], _ => by simp [placeOf]
  | b :: l, c => by
    have h := place_ge l c
    rw [place_cons, List.length_cons]
    by_cases h1 : b == c
    · rw [if_pos h1]; omega
    · rw [if_neg h1]
      by_cases h2 : placeOf l c == -1
      · rw [if_pos h2]; omega
      · rw [if_neg h2]; omega
theorem remark_nil : remark [] = 0 := rfl
theorem remark_cons (c : UInt8) (l : List UInt8) : remark (c :: l) = if c == 10 then 0 else 1 + remark l := by
  have h := place_ge l 10
  unfold remark
  rw [place_cons, List.length_cons]
  by_cases hc : c == 10
  · rw [if_pos hc, if_pos hc]; rfl
  · rw [if_neg hc, if_neg hc]
    by_cases h1 : placeOf l 10 == -1
    · have e : placeOf l 10 = -1 := by simpa using h1
      rw [if_pos h1, e]
      simp; omega
    · have e : placeOf l 10 ≠ -1 := by simpa using h1
      rw [if_neg h1, if_neg (by omega), if_neg (by omega)]
      omega
theorem skip_remark : ∀ l : List UInt8, skipN true l = remark l + skipN false (l.drop (remark l))
  | [] => rfl
  | c :: t => by
    rw [remark_cons]
    by_cases hc : c == 10
    · have e : c = 10 := by simpa using hc
      subst e
      simp [skipN, bl]
    · have ih := skip_remark t
      simp only [hc, if_false, Bool.false_eq_true]
      rw [show 1 + remark t = remark t + 1 by omega, List.drop_succ_cons]
      rw [show skipN true (c :: t) = 1 + skipN true t by simp [skipN, hc]]
      omega
theorem skip_two (l t : List UInt8) (c : UInt8) (h : l = c :: t) (hc : c = 47) (h2 : pk l 1 = 47) : skipN false l = remark l + skipN false (l.drop (remark l)) := by
  subst h hc
  have ht : t.head? == some 47 := by
    cases t with
    | nil => simp [pk] at h2
    | cons d u => simpa [pk] using h2
  rw [← skip_remark]
  simp [skipN, bl, ht]
theorem skip_bl (l t : List UInt8) (c : UInt8) (h : l = c :: t) (hc : bl c = true) : skipN false l = 1 + skipN false t := by
  subst h; simp [skipN, hc]
theorem skip_no (l t : List UInt8) (c : UInt8) (h : l = c :: t) (hc : bl c = false) (h2 : c ≠ 47 ∨ pk l 1 ≠ 47) : skipN false l = 0 := by
  subst h
  simp only [skipN, hc, if_false, Bool.false_eq_true]
  rw [if_neg]
  intro hh
  simp only [Bool.and_eq_true, beq_iff_eq] at hh
  rcases h2 with h2 | h2
  · exact h2 hh.1
  · cases t with
    | nil => simp at hh
    | cons d u => simp [pk] at h2; simp at hh; exact h2 hh.2

theorem remark_pos (l t : List UInt8) (h : l = 47 :: t) : 1 ≤ remark l := by
  subst h
  rw [remark_cons, if_neg (by decide)]
  omega
theorem u8_ne {b c : UInt8} (h : b ≠ c) : ¬ ((b.toNat : Int) = (c.toNat : Int)) := fun e => h (UInt8.toNat_inj.1 (by omega))
theorem ix_eq (s : ByteArray) (j : Nat) : Lib.indexByte (s.extract j s.size).data.toList (Int.toNat 10).toUInt8 = placeOf (rest s j) 10 := by
  rw [place_eq]
  have e : (s.extract j s.size).data.toList = rest s j := by
    unfold rest
    simp
    exact List.take_of_length_le (by simp)
  rw [e]
  rfl

theorem quiet_same2 {P : Program} {f : FuncId} {args : Array Value} {w : World} {p n : Nat} {v : Value}
    (h : Calls P f args (w.drewN (p + n)) fun e w' => e = .returned v ∧ w' = w.drewN (p + n)) : Calls P f args (w.drewN (p + n)) fun e w'' => e = .returned v ∧ ∃ m, w'' = w.drewN (p + m) :=
  h.mono fun _ _ ⟨he, hm⟩ => ⟨he, n, hm⟩
theorem quiet_any2 {P : Program} {f : FuncId} {args : Array Value} {w : World} {p n : Nat} {v : Value}
    (h : Calls P f args (w.drewN (p + n)) fun e w' => e = .returned v ∧ ∃ q, w' = (w.drewN (p + n)).drewN q) : Calls P f args (w.drewN (p + n)) fun e w'' => e = .returned v ∧ ∃ m, w'' = w.drewN (p + m) :=
  h.mono fun _ _ ⟨he, q, hm⟩ => ⟨he, n + q, by rw [hm, World.drewN_drewN, Nat.add_assoc]⟩

set_option maxRecDepth 100000 in
set_option maxHeartbeats 2000000 in
theorem skip_any (R : Nat) (s : ByteArray) (i : Nat) (out : Value) (w : World) (hr : Rd w R s i out) (hi : i ≤ s.size) (hs : s.size ≤ 2000) :
    Calls Tryd.prog 15 #[.pointer (some ⟨R, 0, none⟩)] w fun e w' => e = .returned (.tuple #[]) ∧ Rd w' R s (i + skipN false (rest s i)) out ∧ w.grownBy w' (some R) := by
  obtain ⟨T, hT⟩ : ∃ T, i + skipN false (rest s i) = T := ⟨_, rfl⟩
  rw [hT]
  have HT := Lib.hid hT
  clear hT
  go_enter Tryd.func15, Tryd.ntmps15
  go_wp2_with fail
  go_loopg [] (s.size - i) (fun g wr => ∃ j : Nat, g = s.size - j ∧ j ≤ s.size ∧ Rd wr R s j out ∧ w.grownBy wr (some R) ∧ j + skipN false (rest s j) = T)
  case atStart => exact ⟨i, rfl, hi, hr, World.grownBy.refl _ _, HT.out⟩
  case round =>
    obtain ⟨j, hg, hj, hrd, hgr, ht⟩ := hrel
    have G := Lib.hid hg
    have HG := Lib.hid hgr
    have HJ := Lib.hid ht
    have HR := Lib.hid hrd
    have c0 := hrd.c0
    have c1 := hrd.c1
    have f1 := hrd.f1
    clear hg hgr ht hrd hr HT
    by_cases hlt : j < s.size
    · have h1 : (j : Int) < (s.size : Int) := by omega
      have h2 : (0 : Int) ≤ (j : Int) := by omega
      go_wp2_with fail
      go_quiet (fail)
      go_wp2_with fail
      go_quiet (fail)
      have hco := Lib.hid (rest_cons s j hlt)
      generalize s[j] = b at *
      have hb : bl b = true ∨ (b = 47) ∨ (bl b = false ∧ b ≠ 47) := by
        cases bl b <;> simp; exact Decidable.em _
      rcases hb with hb | rfl | ⟨hb, hb2⟩
      · have hs1 := Lib.hid (skip_bl _ _ _ hco.out hb)
        simp only [bl, Bool.or_eq_true, beq_iff_eq] at hb
        rcases hb with rfl | rfl | rfl | rfl
        all_goals
          go_wp2_with fail
          go_roundg (s.size - (j + 1))
          case measure => rw [G.out]; omega
          case rel =>
            exact ⟨j + 1, rfl, by omega, by simpa using (HR.out.drewN _).at (j + 1), grow_set (grow_drewN HG.out _) _ _, by have := HJ.out; have := hs1.out; omega⟩
      · go_wp2_with fail
        refine (peek_any R s j 1 out _ (by first | exact HR.out | exact HR.out.drewN _ | exact (HR.out.drewN _).drewN _) (by omega) hs (by omega)).mono ?_
        rintro e w1 ⟨rfl, q, rfl⟩
        obtain ⟨b2, hb2⟩ : ∃ b2, pk (rest s j) 1 = b2 := ⟨_, rfl⟩
        have hs2 := Lib.hid hb2
        rw [hb2]
        clear hb2
        by_cases h47 : b2 = 47
        · subst h47
          go_wp2_with fail
          go_quiet (exact quiet_same2 (Tryd.strings_IndexByte _ _ _))
          rw [ix_eq]
          have hm := place_ge (rest s j) 10
          have hrm : remark (rest s j) = if placeOf (rest s j) 10 < 0 then (rest s j).length else (placeOf (rest s j) 10).toNat := rfl
          generalize placeOf (rest s j) 10 = m at *
          rw [rest_length] at hm hrm
          have hrr := rest_drop s j (remark (rest s j))
          have hs1 := Lib.hid (skip_two _ _ _ hco.out rfl hs2.out)
          by_cases hmn : m < 0
          · rw [if_pos hmn] at hrm
            have HM := Lib.hid hrm
            clear hrm hm
            go_wp2_with fail
            go_quiet (fail)
            go_wp2_with fail
            go_roundg (s.size - s.size)
            case measure => rw [G.out]; omega
            case rel =>
              have hn1 := HM.out
              have hn2 := hs1.out
              have hn3 := HJ.out
              rw [hrr, hn1, show j + (s.size - j) = s.size by omega] at hn2
              exact ⟨s.size, rfl, Nat.le_refl _, by simpa [show (j : Int) + ((s.size : Int) - (j : Int)) = (s.size : Int) by omega] using (HR.out.drewN _).at s.size, grow_set (grow_drewN HG.out _) _ _, by omega⟩
          · rw [if_neg hmn] at hrm
            have HM := Lib.hid hrm
            clear hrm
            obtain ⟨mm, rfl⟩ : ∃ mm : Nat, m = mm := ⟨m.toNat, by omega⟩
            have hm2 : mm < s.size - j := by omega
            clear hm
            go_wp2_with fail
            have hp1 := remark_pos _ _ hco.out
            have hn1 := HM.out
            simp only [Int.toNat_natCast] at hn1
            have hn2 := hs1.out
            have hn3 := HJ.out
            rw [hn1] at hp1
            rw [hrr, hn1] at hn2
            go_roundg (s.size - (j + mm))
            case measure => rw [G.out]; omega
            case rel =>
              exact ⟨j + mm, rfl, by omega, by simpa using (HR.out.drewN _).at (j + mm), grow_set (grow_drewN HG.out _) _ _, by omega⟩
        · have hs1 := Lib.hid (skip_no _ _ _ hco.out (by decide) (.inr (by rw [hs2.out]; exact h47)))
          have hne : ¬ ((b2.toNat : Int) = 47) := u8_ne h47
          go_wp2_with fail
          refine bodyPost_ret (v := .tuple #[]) (by simp [results, Tryd.results15, go_sem]) rfl ?_
          exact ⟨rfl, by have := HJ.out; have := hs1.out; rw [show T = j by omega]; exact HR.out.drewN _, grow_drewN HG.out _⟩
      · have hs1 := Lib.hid (skip_no _ _ _ hco.out hb (.inl hb2))
        simp only [bl, Bool.or_eq_false_iff, beq_eq_false_iff_ne] at hb
        have e1 : ((b.toNat : Int) == 32) = false := beq_eq_false_iff_ne.2 (u8_ne hb.1)
        have e2 : ((b.toNat : Int) == 9) = false := beq_eq_false_iff_ne.2 (u8_ne hb.2.1)
        have e3 : ((b.toNat : Int) == 10) = false := beq_eq_false_iff_ne.2 (u8_ne hb.2.2.1)
        have e4 : ((b.toNat : Int) == 13) = false := beq_eq_false_iff_ne.2 (u8_ne hb.2.2.2)
        have e5 : ((b.toNat : Int) == 47) = false := beq_eq_false_iff_ne.2 (u8_ne hb2)
        clear hb hb2
        go_wp2_with fail
        refine bodyPost_ret (v := .tuple #[]) (by simp [results, Tryd.results15, go_sem]) rfl ?_
        exact ⟨rfl, by have := HJ.out; have := hs1.out; rw [show T = j by omega]; exact HR.out.drewN _, grow_drewN HG.out _⟩
    · have hs1 := Lib.hid (rest_end s j (by omega))
      have h1 : (s.size : Int) ≤ (j : Int) := by omega
      clear hlt
      go_wp2_with fail
      go_quiet (fail)
      go_wp2_with fail
      refine bodyPost_end (v := .tuple #[]) (by simp [results, Tryd.results15, go_sem]) rfl ?_
      exact ⟨rfl, by have := HJ.out; rw [hs1.out] at this; rw [show T = j by simpa [skipN] using this.symm]; exact HR.out.drewN _, grow_drewN HG.out _⟩
end Go.Proofs.YtfikflmlcicedaaDoor
