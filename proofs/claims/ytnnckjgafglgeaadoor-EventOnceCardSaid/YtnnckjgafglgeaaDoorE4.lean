/- The contracts of dom's parent, bare. -/
import Derived.Test.YtnnckjgafglgeaaDoorE3
namespace Go.Proofs.YtnnckjgafglgeaaDoor
open Go.RowKit

set_option maxRecDepth 100000 in
set_option maxHeartbeats 2000000 in
theorem parent_any (k : Int) (w : World) : Calls Tryd.prog 40 #[.int .i64 k] w fun e w' => e = .returned (.bool (mayHave k)) ∧ Below w.heap.size w w' := by
  go_enter Tryd.func40, Tryd.ntmps40
  by_cases h1 : k = 1
  · subst h1
    go_wp2_with fail
    go_ret
    exact ⟨rfl, Below.refl _ _⟩
  · by_cases h2 : k = 2
    · subst h2
      go_wp2_with fail
      go_ret
      exact ⟨rfl, Below.refl _ _⟩
    · go_wp2_with fail
      go_ret
      exact ⟨rfl, Below.refl _ _⟩
/-- 'bare', of what it reads. -/
def bareV (k : Int) (nm : ByteArray) (an : Nat) (tx : ByteArray) (kn : Nat) : Bool :=
  ((k == 2 || k == 5) || nm.data.toList.isEmpty) && ((k == 2 || an == 0) && (((k == 3 || k == 4) || tx.data.toList.isEmpty) && (mayHave k || (kn : Int) == 0)))
set_option maxRecDepth 100000 in
set_option maxHeartbeats 8000000 in
theorem bare_any (k p : Int) (nm tx : ByteArray) (aa ka : Option Addr) (an ac kn kcap : Nat) (w : World) (hk : k = 1 ∨ k = 2 ∨ k = 3 ∨ k = 4 ∨ k = 5) : Calls Tryd.prog 37 #[.agg #[.int .i64 k, .string nm, .slice aa an ac, .string tx, .int .i64 p, .slice ka kn kcap]] w fun e w' => e = .returned (.bool (bareV k nm an tx kn)) ∧ Below w.heap.size w w' := by
  go_enter Tryd.func37, Tryd.ntmps37
  obtain ⟨A, hA⟩ : ∃ A, w.heap.size = A := ⟨_, rfl⟩
  go_upto_region 1 with fail
  refine code_gen (Φ := fun wy => Hid (Below w.heap.size w wy) ∧ Hid (wy.heap[A]? = some (.cells #[.int .i64 k, .string nm, .slice aa an ac, .string tx, .int .i64 p, .slice ka kn kcap] 32 (0, 0)))) ⟨Lib.hid ((Below.refl _ _).alloc (Nat.le_refl _) _), Lib.hid (alloc_at hA _)⟩ ?_
  rintro w3 ⟨X, XA⟩
  clear hA
  obtain ⟨c0, c1, c2, c3, c4, c5⟩ := cells6 XA.out
  go_cut [3, 4] (fun v3 v4 wx => v3 = .bool (k == 2) ∧ v4 = .bool (k == 3 || k == 4) ∧ Below w.heap.size w wx ∧ wx.heap[A]? = some (.cells #[.int .i64 k, .string nm, .slice aa an ac, .string tx, .int .i64 p, .slice ka kn kcap] 32 (0, 0)))
  case first =>
    have HF := Lib.hid (fun (n : Nat) => (⟨below_drewN X.out n, XA.out⟩ : Below w.heap.size w (w3.drewN n) ∧ (w3.drewN n).heap[A]? = some (.cells #[.int .i64 k, .string nm, .slice aa an ac, .string tx, .int .i64 p, .slice ka kn kcap] 32 (0, 0))))
    by_cases h3 : k = 3
    · subst h3
      go_quiet (fail); all_goals (go_wp2_with fail; go_meet; exact ⟨rfl, rfl, HF.out _⟩)
    · have h3' : (k == 3) = false := by simpa using h3
      go_quiet (fail); all_goals (go_wp2_with fail; go_meet; exact ⟨rfl, by rw [h3']; rfl, HF.out _⟩)
  obtain ⟨rfl, rfl, hb3, ha3⟩ := hcut
  have Y := Lib.hid hb3
  have YA := Lib.hid ha3
  clear hb3 ha3 X XA c0 c1 c2 c3 c4 c5
  obtain ⟨c0, c1, c2, c3, c4, c5⟩ := cells6 YA.out
  go_upto_region 2 with fail
  go_cut [2] (fun v wx => v = .bool (bareV k nm an tx kn) ∧ Below w.heap.size w wx ∧ wx.heap[A]? = some (.cells #[.int .i64 k, .string nm, .slice aa an ac, .string tx, .int .i64 p, .slice ka kn kcap] 32 (0, 0)))
  case first =>
    rcases hk with rfl | rfl | rfl | rfl | rfl
    · by_cases hn : nm.toList = []
      · by_cases ha : an = 0
        · subst ha
          by_cases ht : tx.toList = []
          · go_wp2_with fail
            refine (parent_any _ wc).mono ?_
            rintro e w5 ⟨rfl, hb5⟩
            have V := Lib.hid (Y.out.trans (Below.le hb5 Y.out.size))
            have VA := Lib.hid ((hb5.block A (lt_of_heap YA.out)).trans YA.out)
            clear hb5 c0 c1 c2 c3 c4 c5
            obtain ⟨c0, c1, c2, c3, c4, c5⟩ := cells6 VA.out
            go_wp2_with fail
            go_meet
            exact ⟨by simp [bareV, mayHave, ← ByteArray.toList_eq, *], V.out, VA.out⟩
          · go_wp2_with fail
            go_meet
            exact ⟨by simp [bareV, mayHave, ← ByteArray.toList_eq, *], Y.out, YA.out⟩
        · go_wp2_with fail
          go_meet
          exact ⟨by simp [bareV, mayHave, ← ByteArray.toList_eq, *], Y.out, YA.out⟩
      · go_wp2_with fail
        go_meet
        exact ⟨by simp [bareV, mayHave, ← ByteArray.toList_eq, *], Y.out, YA.out⟩
    · by_cases ht : tx.toList = []
      · go_wp2_with fail
        refine (parent_any _ wc).mono ?_
        rintro e w5 ⟨rfl, hb5⟩
        have V := Lib.hid (Y.out.trans (Below.le hb5 Y.out.size))
        have VA := Lib.hid ((hb5.block A (lt_of_heap YA.out)).trans YA.out)
        clear hb5 c0 c1 c2 c3 c4 c5
        obtain ⟨c0, c1, c2, c3, c4, c5⟩ := cells6 VA.out
        go_wp2_with fail
        go_meet
        exact ⟨by simp [bareV, mayHave, ← ByteArray.toList_eq, *], V.out, VA.out⟩
      · go_wp2_with fail
        go_meet
        exact ⟨by simp [bareV, mayHave, ← ByteArray.toList_eq, *], Y.out, YA.out⟩
    · by_cases hn : nm.toList = []
      · by_cases ha : an = 0
        · subst ha
          go_wp2_with fail
          refine (parent_any _ wc).mono ?_
          rintro e w5 ⟨rfl, hb5⟩
          have V := Lib.hid (Y.out.trans (Below.le hb5 Y.out.size))
          have VA := Lib.hid ((hb5.block A (lt_of_heap YA.out)).trans YA.out)
          clear hb5 c0 c1 c2 c3 c4 c5
          obtain ⟨c0, c1, c2, c3, c4, c5⟩ := cells6 VA.out
          go_wp2_with fail
          go_meet
          exact ⟨by simp [bareV, mayHave, ← ByteArray.toList_eq, *], V.out, VA.out⟩
        · go_wp2_with fail
          go_meet
          exact ⟨by simp [bareV, mayHave, ← ByteArray.toList_eq, *], Y.out, YA.out⟩
      · go_wp2_with fail
        go_meet
        exact ⟨by simp [bareV, mayHave, ← ByteArray.toList_eq, *], Y.out, YA.out⟩
    · by_cases hn : nm.toList = []
      · by_cases ha : an = 0
        · subst ha
          go_wp2_with fail
          refine (parent_any _ wc).mono ?_
          rintro e w5 ⟨rfl, hb5⟩
          have V := Lib.hid (Y.out.trans (Below.le hb5 Y.out.size))
          have VA := Lib.hid ((hb5.block A (lt_of_heap YA.out)).trans YA.out)
          clear hb5 c0 c1 c2 c3 c4 c5
          obtain ⟨c0, c1, c2, c3, c4, c5⟩ := cells6 VA.out
          go_wp2_with fail
          go_meet
          exact ⟨by simp [bareV, mayHave, ← ByteArray.toList_eq, *], V.out, VA.out⟩
        · go_wp2_with fail
          go_meet
          exact ⟨by simp [bareV, mayHave, ← ByteArray.toList_eq, *], Y.out, YA.out⟩
      · go_wp2_with fail
        go_meet
        exact ⟨by simp [bareV, mayHave, ← ByteArray.toList_eq, *], Y.out, YA.out⟩
    · by_cases ha : an = 0
      · subst ha
        by_cases ht : tx.toList = []
        · go_wp2_with fail
          refine (parent_any _ wc).mono ?_
          rintro e w5 ⟨rfl, hb5⟩
          have V := Lib.hid (Y.out.trans (Below.le hb5 Y.out.size))
          have VA := Lib.hid ((hb5.block A (lt_of_heap YA.out)).trans YA.out)
          clear hb5 c0 c1 c2 c3 c4 c5
          obtain ⟨c0, c1, c2, c3, c4, c5⟩ := cells6 VA.out
          go_wp2_with fail
          go_meet
          exact ⟨by simp [bareV, mayHave, ← ByteArray.toList_eq, *], V.out, VA.out⟩
        · go_wp2_with fail
          go_meet
          exact ⟨by simp [bareV, mayHave, ← ByteArray.toList_eq, *], Y.out, YA.out⟩
      · go_wp2_with fail
        go_meet
        exact ⟨by simp [bareV, mayHave, ← ByteArray.toList_eq, *], Y.out, YA.out⟩
  obtain ⟨rfl, hb4, _⟩ := hcut
  go_wp2_with fail
  go_ret
  exact ⟨rfl, hb4⟩
end Go.Proofs.YtnnckjgafglgeaaDoor
