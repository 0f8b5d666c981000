/- What a caller of jlex.Tokens reads; jlexLives. -/
import Derived.Test.YtfikflmlcicedaaDoorJ11
namespace Go.Proofs.YtfikflmlcicedaaDoor
open Go.RowKit

/-- Token k of the row at block g. -/
structure TokAt (w : World) (g k : Nat) (t : Tk) : Prop where
  c0 : w.cell? ⟨g, k * 5, none⟩ = some (.int .i64 t.t.k)
  c1 : w.cell? ⟨g, k * 5 + 1, none⟩ = some (.int .i64 (t.i : Int))
  c2 : w.cell? ⟨g, k * 5 + 2, none⟩ = some (.int .i64 ((t.i : Int) + (t.t.n : Int)))
  c3 : w.cell? ⟨g, k * 5 + 3, none⟩ = some (.string ⟨t.t.text.toArray⟩)
  c4 : w.cell? ⟨g, k * 5 + 4, none⟩ = some (.int .i64 t.t.num)
theorem tk_len (l : List Tk) : (l.flatMap tkV).length = l.length * 5 := by
  induction l with
  | nil => rfl
  | cons a l ih => rw [List.flatMap_cons, List.length_append, ih, List.length_cons]; show 5 + _ = _; omega
theorem tk_get : ∀ (l : List Tk) (k o : Nat) (h : k < l.length), o < 5 → (l.flatMap tkV)[k * 5 + o]? = (tkV l[k])[o]?
  | a :: l, 0, o, _, ho => by
    rw [List.flatMap_cons, List.getElem?_append_left (by show 0 * 5 + o < 5; omega)]
    simp
  | a :: l, k + 1, o, h, ho => by
    rw [List.flatMap_cons, List.getElem?_append_right (by show 5 ≤ _; omega)]
    have := tk_get l k o (by simpa using h) ho
    rw [show (k + 1) * 5 + o - (tkV a).length = k * 5 + o by show _ - 5 = _; omega, this]
    rfl
theorem tokAt {w : World} {B g cap : Nat} {l : List Tk} (h : w.ownsRow B 28 5 (.slice (some ⟨g, 0, none⟩) l.length cap) l.length (l.flatMap tkV)) (k : Nat) (hk : k < l.length) : TokAt w g k l[k] := by
  have hc := fun o (ho : o < 5) => (h.cellAt (k * 5 + o) (by omega)).trans (tk_get l k o hk ho)
  exact ⟨hc 0 (by omega), hc 1 (by omega), hc 2 (by omega), hc 3 (by omega), hc 4 (by omega)⟩
/-- What Tokens leaves where it reads at least one. -/
theorem lex_some {w w' : World} {l : List Tk} {e : Ending} (h : LexSaid w (.inl l) e w') (hl : 0 < l.length) :
    ∃ g cap, e = .returned (.tuple #[.slice (some ⟨g, 0, none⟩) l.length cap, .int .i64 0]) ∧ (∀ k (hk : k < l.length), TokAt w' g k l[k]) ∧ w.heap.size < g ∧ g < w'.heap.size ∧ l.length ≤ cap ∧ Below w.heap.size w w' := by
  obtain ⟨⟨v, rfl, hown⟩, hb⟩ := h
  rcases hown.2 with ⟨_, h0⟩ | ⟨g, cap, cur, rfl, hg, hh, hcap, _⟩
  · omega
  · exact ⟨g, cap, rfl, fun k hk => tokAt hown k hk, hg, (hown.lt g rfl).2, hcap, hb⟩
theorem lex_none {w w' : World} {e : Ending} (h : LexSaid w (.inl []) e w') :
    (∃ a cap, e = .returned (.tuple #[.slice a 0 cap, .int .i64 0])) ∧ Below w.heap.size w w' := by
  obtain ⟨⟨v, rfl, hown⟩, hb⟩ := h
  obtain ⟨a, c, rfl⟩ := own_shape hown
  exact ⟨⟨a, c, rfl⟩, hb⟩

def livesL : List Tk := [⟨⟨5, [108, 101, 116], 0, 3⟩, 0⟩, ⟨⟨1, [97, 49], 0, 2⟩, 4⟩, ⟨⟨4, [60, 61], 0, 2⟩, 6⟩, ⟨⟨3, [120, 10], 0, 5⟩, 8⟩]
def livesB : ByteArray := ⟨#[108, 101, 116, 32, 97, 49, 60, 61, 34, 120, 92, 110, 34, 32, 47, 47, 32, 115, 111]⟩
theorem lives_lex : lex livesB.data.toList = .inl livesL := by decide +kernel

set_option maxRecDepth 100000 in
set_option maxHeartbeats 4000000 in
theorem lives_any (w : World) (tb : SpTab w.heap.size w) : Calls Tryd.prog 8 #[] w fun e w' => e = .returned (.bool true) ∧ Below w.heap.size w w' := by
  have htk := tokens_any livesB w tb
  rw [lives_lex] at htk
  go_enter Tryd.func8, Tryd.ntmps8
  go_wp2_with fail
  refine htk.mono ?_
  intro e w1 h
  obtain ⟨g, cap, rfl, hat, hg, hgl, hcap, hb⟩ := lex_some h (by decide)
  have HB := Lib.hid hb
  obtain ⟨a0, a1, a2, a3, a4⟩ := hat 0 (by decide)
  obtain ⟨b0, b1, b2, b3, b4⟩ := hat 1 (by decide)
  obtain ⟨d0, d1, d2, d3, d4⟩ := hat 2 (by decide)
  obtain ⟨e0, e1, e2, e3, e4⟩ := hat 3 (by decide)
  clear h hat hb htk
  simp only [livesL, List.getElem_cons_zero, List.getElem_cons_succ, Nat.zero_mul, Nat.zero_add, Nat.one_mul, Nat.reduceMul, Nat.reduceAdd, List.length_cons, List.length_nil] at a0 a1 a2 a3 a4 b0 b1 b2 b3 b4 d0 d1 d2 d3 d4 e0 e1 e2 e3 e4 hcap ⊢
  go_wp2_with fail
  go_ret
  exact ⟨rfl, HB.out⟩

set_option maxRecDepth 100000 in
set_option maxHeartbeats 1000000 in
theorem ok_any (g cap : Nat) (e f : Int) (w : World) (h0 : w.cell? ⟨g, 0, none⟩ = some (.int .i64 e)) (h1 : w.cell? ⟨g, 1, none⟩ = some (.int .i64 f)) :
    Calls Tryd.prog 9 #[.slice (some ⟨g, 0, none⟩) 2 cap] w fun r w' => r = .returned (.bool (e == 0 && f == 0)) ∧ w = w' := by
  obtain ⟨B, hB⟩ : ∃ B, (e == 0 && f == 0) = B := ⟨_, rfl⟩
  rw [hB]
  have HB := Lib.hid hB
  clear hB
  go_enter Tryd.func9, Tryd.ntmps9
  go_wp2_with fail
  go_loopg [7] 2 (fun n v wr => ∃ k : Nat, n = 2 - k ∧ v = .int .i64 (k : Int) ∧ k ≤ 2 ∧ (1 ≤ k → e = 0) ∧ (2 ≤ k → f = 0) ∧ w = wr)
  case atStart => exact ⟨0, rfl, rfl, by omega, by omega, by omega, rfl⟩
  case round =>
    obtain ⟨k, hg, rfl, hk, he, hf, rfl⟩ := hrel
    have G := Lib.hid hg
    have HE := Lib.hid he
    have HF := Lib.hid hf
    clear hg he hf
    have H : k = 0 ∨ k = 1 ∨ k = 2 := by omega
    rcases H with rfl | rfl | rfl
    · by_cases h : e = 0
      · subst h
        go_wp2_with fail
        go_roundg 1
        case measure => rw [G.out]; omega
        case rel => exact ⟨1, rfl, rfl, by omega, by simp, by omega, rfl⟩
      · have hb : (e == 0) = false := beq_eq_false_iff_ne.2 h
        have hB : B = false := by rw [← HB.out, hb]; rfl
        subst hB
        clear h
        go_wp2_with fail
        go_ret
        exact ⟨rfl, rfl⟩
    · by_cases h : f = 0
      · subst h
        go_wp2_with fail
        go_roundg 0
        case measure => rw [G.out]; omega
        case rel => exact ⟨2, rfl, rfl, by omega, fun _ => HE.out (by omega), by simp, rfl⟩
      · have hb : (f == 0) = false := beq_eq_false_iff_ne.2 h
        have hB : B = false := by rw [← HB.out, hb]; simp
        subst hB
        clear h
        go_wp2_with fail
        go_ret
        exact ⟨rfl, rfl⟩
    · have hB : B = true := by rw [← HB.out, HE.out (by omega), HF.out (by omega)]; rfl
      subst hB
      go_wp2_with fail
      go_ret
      exact ⟨rfl, rfl⟩
end Go.Proofs.YtfikflmlcicedaaDoor
