/- The contracts of url.Encode, url.clean and url.Decode. -/
import Derived.Test.YtjcejijdeohkgaaGreatDoorW4
namespace Go.Proofs.YtjcejijdeohkgaaGreatDoor
open Go.RowKit

theorem bld_alloc {B b : Nat} {xs : List Value} {w : World} (h : Lib.IsBuilder 77 5 B b xs w) (o : Obj) : Lib.IsBuilder 77 5 B b xs (w.alloc o) := by
  have H : ∀ p, Lib.BuilderAt 77 5 B b p xs w → Lib.BuilderAt 77 5 B b p xs (w.alloc o) := by
    rintro p ⟨hB, v, hb, hown, hne⟩
    refine ⟨hB, v, ?_, hown.alloc _, hne⟩
    rw [Lib.alloc_old w o b ?_]
    · exact hb
    · rcases Nat.lt_or_ge b w.heap.size with h' | h'
      · exact h'
      · simp [Array.getElem?_eq_none h'] at hb
  rcases h with h | h
  · exact .inl (H _ h)
  · exact .inr (H _ h)
/-- A builder at block w.heap.size that holds these bytes. -/
def Bld (w : World) (l : Bs) (wr : World) : Prop :=
  Lib.IsBuilder 77 5 w.heap.size w.heap.size (Lib.byteCells l) wr ∧ Below w.heap.size w wr
theorem bld_put {w wr w' : World} {l m : Bs} (h : Below w.heap.size w wr) {x : List Value} (hx : x = Lib.byteCells (l ++ m))
    (h1 : Lib.BuilderAt 77 5 w.heap.size w.heap.size (.pointer (some ⟨w.heap.size, 0, none⟩)) x w') (h2 : Below w.heap.size wr w') : Bld w (l ++ m) w' := by
  subst hx
  exact ⟨.inr h1, h.trans h2⟩
/-- A call that leaves all that lay below its begin. -/
theorem Bld.call {w wr w' : World} {l : Bs} (h : Bld w l wr) (hb : Below wr.heap.size wr w') : Bld w l w' := by
  have H : ∀ p, Lib.BuilderAt 77 5 w.heap.size w.heap.size p (Lib.byteCells l) wr → Lib.BuilderAt 77 5 w.heap.size w.heap.size p (Lib.byteCells l) w' := by
    rintro p ⟨hB, v, hbk, hown, hne⟩
    exact ⟨hB, v, (hb.block _ (lt_of_heap hbk)).trans hbk, own_below hown hb (Nat.le_refl _), hne⟩
  refine ⟨?_, h.2.trans (Below.le hb h.2.size)⟩
  rcases h.1 with h | h
  · exact .inl (H _ h)
  · exact .inr (H _ h)
theorem bld_start (w : World) : Bld w [] (w.alloc (.cells #[.pointer none, .slice none 0 0] 77)) := ⟨Lib.fresh_isBuilder 77 5 w, (Below.refl _ _).alloc (Nat.le_refl _) _⟩
theorem call43 (args : Array Value) (w : World) : Sem.run Tryz.prog (callFunc 43 args) w = .ok (.enter 43 args) w := by go_simp
theorem call44 (args : Array Value) (w : World) : Sem.run Tryz.prog (callFunc 44 args) w = .ok (.enter 44 args) w := by go_simp
theorem call45 (args : Array Value) (w : World) : Sem.run Tryz.prog (callFunc 45 args) w = .ok (.enter 45 args) w := by go_simp
theorem call46 (args : Array Value) (w : World) : Sem.run Tryz.prog (callFunc 46 args) w = .ok (.enter 46 args) w := by go_simp
theorem call47 (args : Array Value) (w : World) : Sem.run Tryz.prog (callFunc 47 args) w = .ok (.enter 47 args) w := by go_simp
theorem call48 (args : Array Value) (w : World) : Sem.run Tryz.prog (callFunc 48 args) w = .ok (.enter 48 args) w := by go_simp
theorem tri_len (c : UInt8) : (tri c).length = 3 := rfl
theorem enc_len : ∀ (l : Bs), (encP l).length ≤ 3 * l.length
  | [] => Nat.le_refl _
  | c :: l => by
    have := enc_len l
    unfold encP at this ⊢
    rw [List.flatMap_cons, List.length_append, List.length_cons]
    split
    · simp only [List.length_cons, List.length_nil]; omega
    · rw [tri_len]; omega
theorem enc_snoc (l : Bs) (c : UInt8) : encP (l ++ [c]) = encP l ++ (if plainP c then [c] else tri c) := by simp [encP]
set_option maxRecDepth 100000 in
set_option maxHeartbeats 4000000 in
theorem encode_any (l : Bs) (w : World) (hl : l.length ≤ 1048576) : Calls Tryz.prog 15 #[.string (bs l)] w fun e w' => e = .returned (.string (bs (encP l))) ∧ Below w.heap.size w w' := by
  have p43 := call43
  have p44 := call44
  have p45 := call45
  have p46 := call46
  have p47 := call47
  have HG : Hid (∀ i (h1 : i < l.length) (h : i < (bs l).size), (bs l)[i]'h = l[i]'h1) := Lib.hid (fun i _ h => bs_get l i h)
  have hsz : (bs l).size = l.length := bs_size l
  generalize bs l = S at *
  have HL := Lib.hid hl
  have HZ := Lib.hid hsz
  have hli : (l.length : Int) ≤ 1048576 := by omega
  clear hl hsz
  go_enter Tryz.func15, Tryz.ntmps15
  go_wp2_with fail
  have B0 := Lib.hid (bld_start w)
  rw [HZ.out]
  go_loopg [7] l.length (fun n vk wr => ∃ k : Nat, n = l.length - k ∧ k ≤ l.length ∧ vk = .int .i64 (k : Int) ∧ Bld w (encP (l.take k)) wr)
  case atStart => exact ⟨0, rfl, Nat.zero_le _, rfl, B0.out⟩
  case round =>
    obtain ⟨k, hg, hk, rfl, hbl⟩ := hrel
    have G := Lib.hid hg
    have X := Lib.hid hbl
    clear hg hbl B0
    have LN := Lib.hid (show (encP (l.take k)).length ≤ 3145728 by
      have h1 := enc_len (l.take k)
      have h2 : (l.take k).length ≤ l.length := by rw [List.length_take]; omega
      have := HL.out
      omega)
    by_cases hlt : k < l.length
    · have hki : (k : Int) < (l.length : Int) := by omega
      have h0 : k < S.size := by have := HZ.out; omega
      have hkz : (k : Int) < (S.size : Int) := by omega
      have gk : S[k]'h0 = l[k] := HG.out k hlt h0
      have TK := Lib.hid (show l.take (k + 1) = l.take k ++ [l[k]] by rw [List.take_add_one, List.getElem?_eq_getElem hlt]; rfl)
      generalize l[k] = c at *
      have HPL := Lib.hid (fun w => plain_any c w)
      have ES := Lib.hid (enc_snoc (l.take k) c)
      rw [← TK.out] at ES
      clear TK
      go_wp2_with fail
      refine (HPL.out _).mono ?_
      rintro e w' ⟨rfl, rfl⟩
      generalize plainP c = P at *
      cases P with
      | true =>
        go_wp2_with fail
        refine (wbyte_any w.heap.size w.heap.size _ _ _ X.out.1 (by rw [Lib.byteCells_length]; have := LN.out; omega) X.out.2.size).mono ?_
        rintro e w2 ⟨rfl, h1, h2⟩
        have Y := Lib.hid (bld_put (m := [c]) X.out.2 (by rw [Lib.byteCells_append]; rfl) h1 h2)
        clear h1 h2
        go_wp2_with fail
        go_roundg (l.length - (k + 1))
        case measure => rw [G.out]; omega
        case rel => exact ⟨k + 1, rfl, by omega, by simp, by rw [ES.out]; exact Y.out⟩
      | false =>
        go_wp2_with fail
        refine (triple_any c _).mono ?_
        rintro e w2 ⟨rfl, hb⟩
        have Z := Lib.hid (X.out.call hb)
        clear hb
        go_wp2_with fail
        refine (wstring_any w.heap.size w.heap.size _ _ _ Z.out.1 (by rw [Lib.byteCells_length, bs_size, tri_len]; have := LN.out; omega) Z.out.2.size).mono ?_
        rintro e w3 ⟨rfl, h1, h2⟩
        have Y := Lib.hid (bld_put (m := tri c) Z.out.2 (by rw [Lib.byteCells_append]; rfl) h1 h2)
        clear h1 h2
        go_wp2_with fail
        go_roundg (l.length - (k + 1))
        case measure => rw [G.out]; omega
        case rel => exact ⟨k + 1, rfl, by omega, by simp, by rw [ES.out]; exact Y.out⟩
    · have hke : k = l.length := by omega
      have hnl : ¬ ((k : Int) < (l.length : Int)) := by omega
      have XF := Lib.hid (show Bld w (encP l) wr from by
        have h1 := X.out
        rwa [hke, List.take_length] at h1)
      clear hke hlt X LN
      go_wp2_with fail
      refine (Tryz.Builder_String_any w.heap.size w.heap.size _ _ XF.out.1 XF.out.2.size).mono ?_
      rintro e w3 ⟨rfl, h3⟩
      have H3 := Lib.hid (XF.out.2.trans h3)
      clear h3
      go_wp2_with fail
      go_ret
      exact ⟨rfl, H3.out⟩
end Go.Proofs.YtjcejijdeohkgaaGreatDoor
