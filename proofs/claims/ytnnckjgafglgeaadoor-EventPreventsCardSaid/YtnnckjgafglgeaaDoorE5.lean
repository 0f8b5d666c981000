/- The contract of dom's one. -/
import Derived.Test.YtnnckjgafglgeaaDoorE4
namespace Go.Proofs.YtnnckjgafglgeaaDoor
open Go.RowKit

theorem bare_v (x : Nd) : bareV x.kind x.name x.attrs.length x.text x.kids.length = bare x := by
  have e : ∀ {α : Type} (l : List α), (l.length == 0) = l.isEmpty := fun l => by cases l <;> rfl
  have e2 : ∀ {α : Type} (l : List α), ((l.length : Int) == 0) = l.isEmpty := fun l => by cases l <;> rfl
  simp only [bareV, bare, e, e2]
/-- 'oneErr', of what it asks. -/
def oneV (k : Int) (nm tx : ByteArray) (B : Bool) (E : Int) : Int :=
  if k < 1 ∨ 5 < k then 7 else if B then (if k = 2 ∧ isName nm = false then 3 else if E = 0 then (if 400 < tx.size ∨ 400 < nm.size then 2 else 0) else E) else 7
theorem one_v (x : Nd) : oneErr x = oneV x.kind x.name x.text (bare x) (attrsErr x.attrs) := rfl
set_option maxRecDepth 100000 in
set_option maxHeartbeats 8000000 in
theorem one_any (x : Nd) (aa ka : Option Addr) (ac kcap : Nat) (w : World) (h : SlR w AttrAt 2 (.slice aa x.attrs.length ac) x.attrs) : Calls Tryd.prog 32 #[.agg #[.int .i64 x.kind, .string x.name, .slice aa x.attrs.length ac, .string x.text, .int .i64 x.parent, .slice ka x.kids.length kcap]] w fun e w' => e = .returned (.int .i64 (oneErr x)) ∧ Below w.heap.size w w' := by
  have HS := Lib.hid h
  have hbare := bare_v x
  have hone := one_v x
  have hae : ∃ E, attrsErr x.attrs = E := ⟨_, rfl⟩
  obtain ⟨E, hE⟩ := hae
  have HAT : Hid (∀ w6, Below w.heap.size w w6 → Calls Tryd.prog 39 #[.slice aa x.attrs.length ac] w6 fun e w' => e = .returned (.int .i64 E) ∧ Below w6.heap.size w6 w') := Lib.hid (fun w6 hb => by rw [← hE]; exact attrs_any aa ac x.attrs w6 (h.mono (fun _ _ _ h => h.below hb)))
  rw [hE] at hone
  obtain ⟨B, hB⟩ : ∃ B, bare x = B := ⟨_, rfl⟩
  rw [hB] at hone hbare
  have HBA := Lib.hid hbare
  have HO := Lib.hid hone
  clear h hbare hone hE hB HS
  generalize oneErr x = O at *
  generalize x.attrs.length = an at *
  generalize x.kids.length = kn at *
  obtain ⟨k, nm, la, tx, p, lk⟩ := x
  simp only at HBA HO ⊢
  clear la lk
  go_enter Tryd.func32, Tryd.ntmps32
  obtain ⟨A, hA⟩ : ∃ A, w.heap.size = A := ⟨_, rfl⟩
  go_upto_region 1 with fail
  refine code_gen (Φ := fun wy => Hid (Below w.heap.size w wy) ∧ Hid (wy.heap[A]? = some (.cells #[.int .i64 k, .string nm, .slice aa an ac, .string tx, .int .i64 p, .slice ka kn kcap] 32 (0, 0)))) ⟨Lib.hid ((Below.refl _ _).alloc (Nat.le_refl _) _), Lib.hid (alloc_at hA _)⟩ ?_
  rintro w3 ⟨X, XA⟩
  clear hA
  obtain ⟨c0, c1, c2, c3, c4, c5⟩ := cells6 XA.out
  by_cases h1 : k < 1
  · go_wp2_with fail
    go_ret
    exact ⟨by rw [HO.out]; simp [oneV, h1], X.out⟩
  by_cases h5 : 5 < k
  · go_wp2_with fail
    go_ret
    exact ⟨by rw [HO.out]; simp [oneV, h5], X.out⟩
  have hk5 : k = 1 ∨ k = 2 ∨ k = 3 ∨ k = 4 ∨ k = 5 := by omega
  go_wp2_with fail
  refine (bare_any k p nm tx aa ka an ac kn kcap w3 hk5).mono ?_
  rw [HBA.out]
  rintro e w4 ⟨rfl, hb4⟩
  have Y := Lib.hid (X.out.trans (Below.le hb4 X.out.size))
  have YA := Lib.hid ((hb4.block A (lt_of_heap XA.out)).trans XA.out)
  clear hb4 X XA c0 c1 c2 c3 c4 c5
  obtain ⟨c0, c1, c2, c3, c4, c5⟩ := cells6 YA.out
  cases B with
  | false =>
    go_wp2_with fail
    go_ret
    exact ⟨by rw [HO.out]; simp [oneV], Y.out⟩
  | true =>
    by_cases h2 : k = 2
    · subst h2
      go_wp2_with fail
      refine (name_any nm _).mono ?_
      obtain ⟨N, hN⟩ : ∃ N, isName nm = N := ⟨_, rfl⟩
      rw [hN]
      rintro e w5 ⟨rfl, hb5⟩
      have V := Lib.hid (Y.out.trans (Below.le hb5 Y.out.size))
      have VA := Lib.hid ((hb5.block A (lt_of_heap YA.out)).trans YA.out)
      have HN := Lib.hid hN
      clear hN hb5 Y YA c0 c1 c2 c3 c4 c5
      obtain ⟨c0, c1, c2, c3, c4, c5⟩ := cells6 VA.out
      cases N with
      | false =>
        go_wp2_with fail
        go_ret
        exact ⟨by rw [HO.out]; simp [oneV, HN.out], V.out⟩
      | true =>
        go_wp2_with fail
        refine (HAT.out _ V.out).mono ?_
        rintro e w6 ⟨rfl, hb6⟩
        have Z := Lib.hid (V.out.trans (Below.le hb6 V.out.size))
        have ZA := Lib.hid ((hb6.block A (lt_of_heap VA.out)).trans VA.out)
        clear hb6 c0 c1 c2 c3 c4 c5 HAT
        obtain ⟨c0, c1, c2, c3, c4, c5⟩ := cells6 ZA.out
        by_cases hE0 : E = 0
        · subst hE0
          by_cases ht : 400 < tx.size
          · have ht' : (400 : Int) < (tx.size : Int) := by omega
            go_wp2_with fail
            go_ret
            exact ⟨by rw [HO.out]; simp [oneV, HN.out, ht, Int.not_lt.2 h1, Int.not_lt.2 h5], Z.out⟩
          · have ht' : (tx.size : Int) ≤ 400 := by omega
            by_cases hn : 400 < nm.size
            · have hn' : (400 : Int) < (nm.size : Int) := by omega
              go_wp2_with fail
              go_ret
              exact ⟨by rw [HO.out]; simp [oneV, HN.out, hn, Int.not_lt.2 h1, Int.not_lt.2 h5], Z.out⟩
            · have hn' : (nm.size : Int) ≤ 400 := by omega
              go_wp2_with fail
              go_ret
              exact ⟨by rw [HO.out]; simp [oneV, HN.out, ht, hn, Int.not_lt.2 h1, Int.not_lt.2 h5], Z.out⟩
        · go_wp2_with fail
          go_ret
          exact ⟨by rw [HO.out]; simp [oneV, HN.out, hE0, Int.not_lt.2 h1, Int.not_lt.2 h5], Z.out⟩
    · go_wp2_with fail
      refine (HAT.out _ Y.out).mono ?_
      rintro e w6 ⟨rfl, hb6⟩
      have Z := Lib.hid (Y.out.trans (Below.le hb6 Y.out.size))
      have ZA := Lib.hid ((hb6.block A (lt_of_heap YA.out)).trans YA.out)
      clear hb6 c0 c1 c2 c3 c4 c5 HAT
      obtain ⟨c0, c1, c2, c3, c4, c5⟩ := cells6 ZA.out
      by_cases hE0 : E = 0
      · subst hE0
        by_cases ht : 400 < tx.size
        · have ht' : (400 : Int) < (tx.size : Int) := by omega
          go_wp2_with fail
          go_ret
          exact ⟨by rw [HO.out]; simp [oneV, h2, ht, Int.not_lt.2 h1, Int.not_lt.2 h5], Z.out⟩
        · have ht' : (tx.size : Int) ≤ 400 := by omega
          by_cases hn : 400 < nm.size
          · have hn' : (400 : Int) < (nm.size : Int) := by omega
            go_wp2_with fail
            go_ret
            exact ⟨by rw [HO.out]; simp [oneV, h2, hn, Int.not_lt.2 h1, Int.not_lt.2 h5], Z.out⟩
          · have hn' : (nm.size : Int) ≤ 400 := by omega
            go_wp2_with fail
            go_ret
            exact ⟨by rw [HO.out]; simp [oneV, h2, ht, hn, Int.not_lt.2 h1, Int.not_lt.2 h5], Z.out⟩
      · go_wp2_with fail
        go_ret
        exact ⟨by rw [HO.out]; simp [oneV, h2, hE0, Int.not_lt.2 h1, Int.not_lt.2 h5], Z.out⟩
end Go.Proofs.YtnnckjgafglgeaaDoor
