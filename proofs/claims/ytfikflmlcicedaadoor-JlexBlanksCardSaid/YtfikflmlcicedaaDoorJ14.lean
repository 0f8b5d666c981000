/- JlexTwo walked. -/
import Derived.Test.YtfikflmlcicedaaDoorJ13
import Derived.Test.YtfikflmlcicedaaDoorL3
namespace Go.Proofs.YtfikflmlcicedaaDoor
open Go.RowKit

def eOf : List Tk ⊕ Int → Int
  | .inl _ => 0
  | .inr e => e
def nOf : List Tk ⊕ Int → Nat
  | .inl l => l.length
  | .inr _ => 0
/-- Tokens' results, whatever they are. -/
theorem lex_any {w w' : World} {R : List Tk ⊕ Int} {e : Ending} (h : LexSaid w R e w') :
    ∃ a cap, e = .returned (.tuple #[.slice a (nOf R) cap, .int .i64 (eOf R)]) ∧ (∀ l, R = .inl l → nOf R = l.length ∧ l.length ≤ 9223372036854775807 ∧ ∀ k (hk : k < l.length), ∃ g, a = some ⟨g, 0, none⟩ ∧ g < w'.heap.size ∧ TokAt w' g k l[k]) ∧ Below w.heap.size w w' := by
  cases R with
  | inr k =>
    obtain ⟨rfl, hb⟩ := h
    exact ⟨none, 0, rfl, fun l hl => (by cases hl), hb⟩
  | inl l =>
    obtain ⟨⟨v, rfl, hown⟩, hb⟩ := h
    obtain ⟨a, c, rfl⟩ := own_shape hown
    refine ⟨a, c, rfl, fun l' hl' => ?_, hb⟩
    injection hl' with hl'
    subst hl'
    have hll : l.length ≤ 9223372036854775807 := by
      rcases hown.2 with ⟨_, h0⟩ | ⟨_, cap, cur, _, _, _, h1, h2, _⟩
      · omega
      · simp only [maxLen] at h2; omega
    refine ⟨rfl, hll, fun k hk => ?_⟩
    rcases hown.2 with ⟨_, h0⟩ | ⟨g, cap, cur, hv, _⟩
    · omega
    · injection hv with h1 _ _
      subst h1
      exact ⟨g, rfl, (hown.lt g rfl).2, tokAt hown k hk⟩
theorem chain_lt (l : List UInt8) : ∀ (a : Nat) (r : List Tk), Chain l a r → ∀ t ∈ r, t.i < l.length
  | _, [], _, t, ht => by cases ht
  | a, x :: r, h, t, ht => by
    rcases List.mem_cons.1 ht with rfl | ht
    · rcases Nat.lt_or_ge t.i l.length with h' | h'
      · exact h'
      · exact absurd (List.drop_eq_nil_of_le h') h.2.1
    · exact chain_lt l _ r h.2.2.2 t ht

theorem cat_list (s t : ByteArray) : ((s.append ⟨#[10]⟩).append t).data.toList = s.data.toList ++ 10 :: t.data.toList := by
  show ((s ++ (⟨#[10]⟩ : ByteArray)) ++ t).data.toList = _
  simp [ByteArray.data_append]
/-- What is known of the three readings. -/
structure TwoX (n : Nat) (A B C : List Tk ⊕ Int) : Prop where
  join : ∀ l m, A = .inl l → B = .inl m → C = .inr 2 ∨ C = .inl (l ++ m.map (sh (n + 1)))
  small : ∀ l, A = .inl l → n ≤ 2000
  low : ∀ m, B = .inl m → ∀ t ∈ m, t.i ≤ 2000
theorem twoX (s t : ByteArray) : TwoX s.size (lex s.data.toList) (lex t.data.toList) (lex ((s.append ⟨#[10]⟩).append t).data.toList) where
  join l m hl hm := by rw [cat_list]; have := lex_two _ _ l m hl hm; simpa using this
  small l hl := by have := (lex_chain _ _ hl).1; simpa using this
  low m hm x hx := by
    have h := lex_chain _ _ hm
    have := chain_lt _ _ _ h.2 x hx
    omega
theorem eOf_zero {R : List Tk ⊕ Int} {s : List UInt8} (h : lex s = R) (h0 : eOf R = 0) : ∃ l, R = .inl l := by
  cases R with
  | inl l => exact ⟨l, rfl⟩
  | inr e => have := lex_err24 _ _ h; simp only [eOf] at h0; omega

set_option maxRecDepth 100000 in
set_option maxHeartbeats 4000000 in
theorem two_any (s t : ByteArray) (w : World) (tb : SpTab w.heap.size w) (hs : s.size ≤ 140737488351232) (ht : t.size ≤ 140737488351232) : Calls Tryd.prog 4 #[.string s, .string t] w fun e w' => e = .returned (.bool true) ∧ Below w.heap.size w w' := by
  have hts := fun w h => tokens_any s w h
  have htt := fun w h => tokens_any t w h
  have htc := fun w h => tokens_any ((s.append ⟨#[10]⟩).append t) w h
  have hx := twoX s t
  obtain ⟨A, hA⟩ : ∃ A, lex s.data.toList = A := ⟨_, rfl⟩
  obtain ⟨B, hB⟩ : ∃ B, lex t.data.toList = B := ⟨_, rfl⟩
  obtain ⟨C, hC⟩ : ∃ C, lex ((s.append ⟨#[10]⟩).append t).data.toList = C := ⟨_, rfl⟩
  have zA := eOf_zero hA
  have zB := eOf_zero hB
  rw [hA] at hts hx
  rw [hB] at htt hx
  rw [hC] at htc hx
  have hst : s.size + 1 + t.size ≤ 9223372036854775807 := by omega
  have HTS := Lib.hid hts
  have HTT := Lib.hid htt
  have HTC := Lib.hid htc
  have TB := Lib.hid tb
  have X := Lib.hid hx
  have ZA := Lib.hid zA
  have ZB := Lib.hid zB
  clear hts htt htc tb hx hA hB hC zA zB
  go_enter Tryd.func4, Tryd.ntmps4
  go_wp2_with fail
  refine (HTS.out _ TB.out).mono ?_
  intro e w1 h
  obtain ⟨a1, c1, rfl, r1, hb1⟩ := lex_any h
  have R1 := Lib.hid r1
  have B1 := Lib.hid hb1
  have TB1 := Lib.hid (sp_up (TB.out.on hb1))
  clear h r1 hb1
  go_wp2_with fail
  refine (HTT.out _ TB1.out).mono ?_
  intro e w2 h
  obtain ⟨a2, c2, rfl, r2, hb2⟩ := lex_any h
  have R2 := Lib.hid r2
  have B2 := Lib.hid hb2
  have TB2 := Lib.hid (sp_up (TB1.out.on hb2))
  clear h r2 hb2
  go_wp2_with fail
  refine (HTC.out _ TB2.out).mono ?_
  intro e w3 h
  obtain ⟨a3, c3, rfl, r3, hb3⟩ := lex_any h
  have R3 := Lib.hid r3
  have B3 := Lib.hid hb3
  have TB3 := Lib.hid (sp_up (TB2.out.on hb3))
  clear h r3 hb3
  go_wp2_with fail
  refine (lives_any _ TB3.out).mono ?_
  rintro e w4 ⟨rfl, hb4⟩
  have B4 := Lib.hid hb4
  have TB4 := Lib.hid (sp_up (TB3.out.on hb4))
  clear hb4
  have z1 := B1.out.size
  have z2 := B2.out.size
  have z3 := B3.out.size
  have z4 := B4.out.size
  have L3 : Hid (Below w.heap.size w w4) := Lib.hid (((B1.out.trans (below_le B2.out z1)).trans (below_le B3.out (by omega))).trans (below_le B4.out (by omega)))
  have M1 : Hid (Below w1.heap.size w1 w4) := Lib.hid ((B2.out.trans (below_le B3.out (by omega))).trans (below_le B4.out (by omega)))
  have M2 : Hid (Below w2.heap.size w2 w4) := Lib.hid (B3.out.trans (below_le B4.out (by omega)))
  have M3 : Hid (Below w3.heap.size w3 w4) := B4
  have Z : Hid (w.heap.size ≤ w4.heap.size ∧ w1.heap.size ≤ w4.heap.size ∧ w2.heap.size ≤ w4.heap.size ∧ w3.heap.size ≤ w4.heap.size) := Lib.hid ⟨by omega, by omega, by omega, by omega⟩
  clear z1 z2 z3 z4 HTS HTT HTC TB TB1 TB2 TB3 B1 B2 B3 B4
  obtain ⟨okB, hok⟩ : ∃ b, (eOf A == 0 && eOf B == 0) = b := ⟨_, rfl⟩
  have OK := Lib.hid hok
  clear hok
  go_wp2_with fail
  refine (ok_any _ _ (eOf A) (eOf B) _ (by go_simp) (by go_simp)).mono ?_
  rintro e w5 ⟨rfl, hw5⟩
  rw [OK.out]
  have s5 : w4.heap.size ≤ w5.heap.size := by rw [← hw5]; exact (World.grownBy_alloc _ _ none).size
  have L5 : Hid (Below w.heap.size w w5) := Lib.hid (hw5 ▸ L3.out.alloc Z.out.1 _)
  have N1 : Hid (Below w1.heap.size w1 w5) := Lib.hid (hw5 ▸ M1.out.alloc Z.out.2.1 _)
  have N2 : Hid (Below w2.heap.size w2 w5) := Lib.hid (hw5 ▸ M2.out.alloc Z.out.2.2.1 _)
  have N3 : Hid (Below w3.heap.size w3 w5) := Lib.hid (hw5 ▸ M3.out.alloc Z.out.2.2.2 _)
  have T5 : Hid (SpTab w5.heap.size w5) := Lib.hid (sp_up (TB4.out.on (hw5 ▸ (Below.refl _ _).alloc (Nat.le_refl _) _)))
  clear hw5 L3 M1 M2 M3 TB4
  cases okB with
  | false =>
    go_wp2_with fail
    refine (lives_any _ T5.out).mono ?_
    rintro e w6 ⟨rfl, hb6⟩
    have HB6 := Lib.hid hb6
    clear hb6
    go_wp2_with fail
    go_ret
    exact ⟨rfl, L5.out.trans (below_le HB6.out L5.out.size)⟩
  | true =>
    have hok := OK.out
    simp only [Bool.and_eq_true, beq_iff_eq] at hok
    obtain ⟨l, hl⟩ := ZA.out hok.1
    obtain ⟨m, hm⟩ := ZB.out hok.2
    clear hok OK ZA ZB
    subst hl
    subst hm
    rcases X.out.join l m rfl rfl with hC | hC
    · subst hC
      go_wp2_with fail
      refine (lives_any _ T5.out).mono ?_
      rintro e w6 ⟨rfl, hb6⟩
      have HB6 := Lib.hid hb6
      clear hb6
      go_wp2_with fail
      go_ret
      exact ⟨rfl, L5.out.trans (below_le HB6.out L5.out.size)⟩
    · subst hC
      simp only [eOf, nOf, List.length_append, List.length_map]
      have h3 := R3.out _ rfl
      have hlm : (l.length : Int) + (m.length : Int) ≤ 9223372036854775807 := by
        have := h3.2.1
        rw [List.length_append, List.length_map] at this
        omega
      have hsz := X.out.small l rfl
      have hlow := X.out.low m rfl
      have h2 := R2.out _ rfl
      have H3 := Lib.hid h3.2.2
      have H2 := Lib.hid h2.2.2
      have LOW := Lib.hid hlow
      clear h3 h2 R1 R2 R3 X hlow
      go_wp2_with fail
      have Z5 : Hid (w1.heap.size ≤ w5.heap.size ∧ w2.heap.size ≤ w5.heap.size ∧ w3.heap.size ≤ w5.heap.size) := Lib.hid ⟨by have := Z.out; omega, by have := Z.out; omega, by have := Z.out; omega⟩
      go_loopg [60] m.length (fun n vk wr => ∃ k : Nat, n = m.length - k ∧ k ≤ m.length ∧ vk = .int .i64 (k : Int) ∧ Below w5.heap.size w5 wr)
      case atStart => exact ⟨0, rfl, Nat.zero_le _, rfl, Below.refl _ _⟩
      case round =>
        obtain ⟨k, hg, hk, rfl, hbl⟩ := hrel
        have G := Lib.hid hg
        have HBL := Lib.hid hbl
        clear hg hbl
        by_cases hlt : k < m.length
        · have h1 : (k : Int) < (m.length : Int) := by omega
          have h1' : (k : Int) + 1 ≤ 9223372036854775807 := by omega
          have h1'' : (l.length : Int) + (k : Int) < (l.length : Int) + (m.length : Int) := by omega
          obtain ⟨g2, rfl, hl2, ht2⟩ := H2.out k hlt
          obtain ⟨g3, rfl, hl3, ht3⟩ := H3.out (l.length + k) (by rw [List.length_append, List.length_map]; omega)
          have hz2 := (LOW.out _ (List.getElem_mem hlt))
          have ht2' := (ht2.below hl2 N2.out).below (Nat.lt_of_lt_of_le hl2 Z5.out.2.1) HBL.out
          have ht3' := (ht3.below hl3 N3.out).below (Nat.lt_of_lt_of_le hl3 Z5.out.2.2) HBL.out
          rw [List.getElem_append_right (by omega)] at ht3'
          simp only [Nat.add_sub_cancel_left, List.getElem_map, sh] at ht3'
          clear ht2 ht3
          generalize m[k] = T at *
          obtain ⟨⟨tk, text, num, n⟩, i⟩ := T
          obtain ⟨c0, c1, c2, c3, c4⟩ := ht2'
          obtain ⟨d0, d1, d2, d3, d4⟩ := ht3'
          simp only at c0 c1 c2 c3 c4 d0 d1 d2 d3 d4 hz2
          have q2 : g2 < wr.heap.size := Nat.lt_of_lt_of_le (Nat.lt_of_lt_of_le hl2 Z5.out.2.1) HBL.out.size
          have q3 : g3 < wr.heap.size := Nat.lt_of_lt_of_le (Nat.lt_of_lt_of_le hl3 Z5.out.2.2) HBL.out.size
          clear hs ht
          have hii : (i : Int) ≤ 2000 := by omega
          have hss : (s.size : Int) ≤ 2000 := by omega
          go_upto_region 12 with fail
          obtain ⟨w6, hw6, B6, x0, x1, x3, x4, y0, y1, y3, y4⟩ : ∃ w6, w6 = ((wr.alloc (.cells #[.int .i64 tk, .int .i64 i, .int .i64 ((i : Int) + (n : Int)), .string ⟨text.toArray⟩, .int .i64 num] 28)).alloc (.cells #[.int .i64 tk, .int .i64 ((i : Int) + ((s.size : Int) + 1)), .int .i64 ((i : Int) + ((s.size : Int) + 1) + (n : Int)), .string ⟨text.toArray⟩, .int .i64 num] 28)) ∧ Below wr.heap.size wr w6 ∧
              w6.cell? ⟨wr.heap.size, 0, none⟩ = some (.int .i64 tk) ∧ w6.cell? ⟨wr.heap.size, 1, none⟩ = some (.int .i64 i) ∧ w6.cell? ⟨wr.heap.size, 3, none⟩ = some (.string ⟨text.toArray⟩) ∧ w6.cell? ⟨wr.heap.size, 4, none⟩ = some (.int .i64 num) ∧
              w6.cell? ⟨wr.heap.size + 1, 0, none⟩ = some (.int .i64 tk) ∧ w6.cell? ⟨wr.heap.size + 1, 1, none⟩ = some (.int .i64 ((i : Int) + (s.size : Int) + 1)) ∧ w6.cell? ⟨wr.heap.size + 1, 3, none⟩ = some (.string ⟨text.toArray⟩) ∧ w6.cell? ⟨wr.heap.size + 1, 4, none⟩ = some (.int .i64 num) := by
            refine ⟨_, rfl, ((Below.refl _ _).alloc (Nat.le_refl _) _).alloc (World.grownBy_alloc _ _ none).size _, ?_, ?_, ?_, ?_, ?_, ?_, ?_, ?_⟩
            all_goals (go_simp; try omega)
          rw [← hw6]
          clear hw6 q2 q3 c0 c1 c2 c3 c4 d0 d1 d2 d3 d4 hlm h1'' hsz hst hlt H2 H3 hl2 hl3
          have B7 : Hid (Below w5.heap.size w5 w6) := Lib.hid (HBL.out.trans (below_le B6 HBL.out.size))
          clear B6 HBL
          go_wp2_with fail
          go_roundg (m.length - (k + 1))
          case measure => rw [G.out]; omega
          case rel => exact ⟨k + 1, rfl, by omega, by simp, B7.out⟩
        · go_wp2_with fail
          go_ret
          exact ⟨rfl, L5.out.trans (below_le HBL.out L5.out.size)⟩
end Go.Proofs.YtfikflmlcicedaaDoor
