/- JlexBlanks walked. -/
import Derived.Test.YtfikflmlcicedaaDoorJ14
import Derived.Test.YtfikflmlcicedaaDoorQ3
import Derived.Test.YtfikflmlcicedaaDoorQ5
import Derived.Test.YtfikflmlcicedaaDoorB1
import Derived.Lib.IndexAny
namespace Go.Proofs.YtfikflmlcicedaaDoor
open Go.RowKit

/-- One writing, beside a block of a token's. -/
theorem wr_step {w wr : World} {acc : List UInt8} (y : ByteArray) {b3 : Nat} {cs : Array Value} (h : Bld w acc wr) (hx : wr.heap[b3]? = some (.cells cs 28 (0, 0))) (hb : w.heap.size < b3) (hl : acc.length ≤ 100000) (hy : y.size ≤ 100000) :
    Calls Tryd.prog 11 #[.pointer (some ⟨w.heap.size, 0, none⟩), .string y] wr fun e w' => e = .returned (.tuple #[.int .i64 y.size, .nilIface]) ∧ Bld w (acc ++ y.data.toList) w' ∧ w'.heap[b3]? = some (.cells cs 28 (0, 0)) := by
  refine (wstring_k w.heap.size w.heap.size (Lib.byteCells acc) y wr h.1 (by rw [Lib.byteCells_length]; omega) h.2.size).mono ?_
  rintro e w' ⟨rfl, h1, h2, h3⟩
  refine ⟨rfl, bld_put h.2 h.2.size (by rw [Lib.byteCells_append]; rfl) h1 h2, h3 b3 _ hx ?_ ?_⟩
  · intro e; injection e with e; omega
  · intro c fz e; injection e with _ e _; exact absurd e (by decide)
theorem x_cells {w : World} {b : Nat} {x0 x2 x3 x4 : Value} {ii : Int} (h : w.heap[b]? = some (.cells #[x0, .int .i64 ii, x2, x3, x4] 28 (0, 0))) : w.cell? ⟨b, 1, none⟩ = some (.int .i64 ii) ∧ w.cell? ⟨b, 2, none⟩ = some x2 :=
  ⟨by rw [Lib.cell_of_heap h]; rfl, by rw [Lib.cell_of_heap h]; rfl⟩
theorem acc_step {S acc W : List UInt8} {a : Nat} {T : Tk} {r : List Tk} (h : acc ++ wideF S a (T :: r) = W) {sp : List UInt8} (hs : sepO S a T = sp) : (((acc ++ gapB S a T) ++ sp) ++ tokB S T) ++ wideF S (T.i + T.t.n) r = W := by
  subst hs
  rw [← h]
  show _ = acc ++ (gapB S a T ++ sepO S a T ++ tokB S T ++ _)
  simp
theorem acc_step0 {S acc W : List UInt8} {a : Nat} {T : Tk} {r : List Tk} (h : acc ++ wideF S a (T :: r) = W) (hs : sepO S a T = []) : ((acc ++ gapB S a T) ++ tokB S T) ++ wideF S (T.i + T.t.n) r = W := by
  have := acc_step h hs
  simpa using this
theorem bld_lt {w wr : World} {acc : List UInt8} (h : Bld w acc wr) : w.heap.size < wr.heap.size := by
  rcases h.1 with h | h
  · exact h.lt
  · exact h.lt

set_option maxRecDepth 100000 in
set_option maxHeartbeats 4000000 in
theorem blanks_any (s : ByteArray) (w : World) (tb : SpTab w.heap.size w) : Calls Tryd.prog 6 #[.string s] w fun e w' => e = .returned (.bool true) ∧ Below w.heap.size w w' := by
  have htk := tokens_any s w tb
  obtain ⟨A, hA⟩ : ∃ A, lex s.data.toList = A := ⟨_, rfl⟩
  rw [hA] at htk
  have HA := Lib.hid hA
  clear hA
  go_enter Tryd.func6, Tryd.ntmps6
  go_wp2_with fail
  refine htk.mono ?_
  intro e w1 h
  obtain ⟨a1, c1, rfl, r1, hb1⟩ := lex_any h
  have R1 := Lib.hid r1
  have B1 := Lib.hid hb1
  have TB1 := Lib.hid (sp_up (tb.on hb1))
  clear h r1 hb1 htk tb
  go_wp2_with fail
  refine (lives_any _ TB1.out).mono ?_
  rintro e w2 ⟨rfl, hb2⟩
  have B2 := Lib.hid hb2
  have TB2 := Lib.hid (sp_up (TB1.out.on hb2))
  clear hb2
  have L2 : Hid (Below w.heap.size w w2) := Lib.hid (B1.out.trans (below_le B2.out B1.out.size))
  by_cases hgo : (∃ l, A = .inl l) ∧ s.size ≤ 200
  · obtain ⟨⟨l, rfl⟩, hs⟩ := hgo
    have hsi : (s.size : Int) ≤ 200 := by omega
    simp only [eOf, nOf]
    have hw := lex_wide _ l HA.out (by simpa using hs)
    obtain ⟨W, hW⟩ : ∃ W, wideF s.data.toList 0 l = W := ⟨_, rfl⟩
    have hch := (lex_chain _ _ HA.out).2
    rw [hW] at hw
    obtain ⟨hwl, r', hlex, hmap⟩ := hw
    have HL := Lib.hid hlex
    have HM := Lib.hid hmap
    have HW := Lib.hid hW
    have HCH := Lib.hid hch
    have R1' := R1.out l rfl
    have HR := Lib.hid R1'.2.2
    have hll : l.length ≤ 1800 := by
      have := chain_len _ l 0 HCH.out (Nat.zero_le _)
      have e : s.data.toList.length = s.size := by simp
      omega
    clear R1 R1' hlex hmap hW hch
    have hlli : (l.length : Int) ≤ 1800 := by omega
    go_wp2_with fail
    have BL0 : Hid (Bld w2 [] (w2.alloc (.cells #[.pointer none, .slice none 0 0] 36))) := Lib.hid ⟨Lib.fresh_isBuilder 36 5 w2, (Below.refl _ _).alloc (Nat.le_refl _) _⟩
    go_loopg [6, 31] l.length (fun n va vk wr => ∃ (k a : Nat) (acc : List UInt8), n = l.length - k ∧ k ≤ l.length ∧ va = .int .i64 (a : Int) ∧ vk = .int .i64 (k : Int) ∧ Chain s.data.toList a (l.drop k) ∧ acc ++ wideF s.data.toList a (l.drop k) = W ∧ Bld w2 acc wr)
    case atStart => exact ⟨0, 0, [], rfl, Nat.zero_le _, rfl, rfl, HCH.out, HW.out, BL0.out⟩
    case round =>
      obtain ⟨k, a, acc, hg, hk, rfl, rfl, hch, hacc, hbl⟩ := hrel
      have G := Lib.hid hg
      have HC2 := Lib.hid hch
      have HACC := Lib.hid hacc
      have HBL := Lib.hid hbl
      have hal : acc.length ≤ 1800 := by have := congrArg List.length hacc; rw [List.length_append] at this; omega
      clear hg hch hacc hbl HCH BL0 HW
      by_cases hlt : k < l.length
      · have h1 : (k : Int) < (l.length : Int) := by omega
        obtain ⟨g, rfl, hgl, hta0⟩ := HR.out k hlt
        have hta := (hta0.below hgl B2.out).below (Nat.lt_of_lt_of_le hgl B2.out.size) HBL.out.2
        have hst := HC2.out
        have hac2 := HACC.out
        rw [List.drop_eq_getElem_cons hlt] at hst hac2
        clear hta0
        generalize l[k] = T at *
        obtain ⟨p1, p2, p3, p4, p5, p6⟩ := chain_step _ (by simp; omega) _ _ _ hst
        have P6 := Lib.hid p6
        have HA2 := Lib.hid hac2
        have p3' : T.i + T.t.n ≤ s.size := by simpa using p3
        clear p3 p4 p5 p6 hst HC2 hac2
        obtain ⟨⟨tk, text, num, n⟩, i⟩ := T
        obtain ⟨c0, c1, c2, c3, c4⟩ := hta
        simp only at *
        have q1 : (a : Int) ≤ (i : Int) := by omega
        have q2 : (i : Int) + (n : Int) ≤ (s.size : Int) := by omega
        have q3 : (1 : Int) ≤ (n : Int) := by omega
        have q5 : g < wr.heap.size := Nat.lt_of_lt_of_le (Nat.lt_of_lt_of_le hgl B2.out.size) HBL.out.2.size
        go_upto_region 9 with fail
        obtain ⟨w3, hw3, bl3, x3⟩ : ∃ w3, w3 = (wr.alloc (.cells #[.int .i64 tk, .int .i64 i, .int .i64 ((i : Int) + (n : Int)), .string ⟨text.toArray⟩, .int .i64 num] 28)) ∧ Bld w2 acc w3 ∧ w3.heap[wr.heap.size]? = some (.cells #[.int .i64 tk, .int .i64 i, .int .i64 ((i : Int) + (n : Int)), .string ⟨text.toArray⟩, .int .i64 num] 28 (0, 0)) :=
          ⟨_, rfl, ⟨bld_alloc HBL.out.1 _, HBL.out.2.alloc HBL.out.2.size _⟩, heap_alloc_new wr _⟩
        rw [← hw3]
        have hb3 := bld_lt HBL.out
        have BL3 := Lib.hid bl3
        have X3 := Lib.hid x3
        clear hw3 c0 c1 c2 c3 c4 HBL q5 bl3 x3 HACC
        generalize wr.heap.size = b3 at *
        obtain ⟨d1, d2⟩ := x_cells X3.out
        go_wp2_with fail
        refine (wr_step (s.extract a i) BL3.out X3.out hb3 (by omega) (by simp; omega)).mono ?_
        rintro e w4 ⟨rfl, bl4, x4⟩
        rw [extract_list s a i p1] at bl4
        have BL4 := Lib.hid bl4
        have X4 := Lib.hid x4
        clear bl4 x4 d1 d2 BL3 X3
        obtain ⟨d1, d2⟩ := x_cells X4.out
        have hgl2 : ((s.data.toList.drop a).take (i - a)).length ≤ 200 := by rw [List.length_take, List.length_drop]; simp; omega
        have hl4 : (acc ++ (s.data.toList.drop a).take (i - a)).length ≤ 2000 := by rw [List.length_append]; omega
        by_cases ha : 0 < a
        · have hai : (0 : Int) < (a : Int) := by omega
          obtain ⟨cb, hcb⟩ : ∃ cb, ((s.data.toList.drop a).take (i - a)).contains 47 = cb := ⟨_, rfl⟩
          have hcon := fun w => Tryd.strings_Contains_one (s.extract a i) 47 w
          rw [extract_list s a i p1, ← Lib.contains_iff_indexByte, hcb] at hcon
          have HCB := Lib.hid hcb
          have HCON := Lib.hid hcon
          clear hcb hcon
          go_wp2_with fail
          refine (HCON.out _).mono ?_
          rintro e w5 ⟨rfl, rfl⟩
          cases cb with
          | true =>
            have hsp : sepO s.data.toList a ⟨⟨tk, text, num, n⟩, i⟩ = [] := by unfold sepO; rw [if_neg]; rintro ⟨_, h⟩; rw [show gapB s.data.toList a ⟨⟨tk, text, num, n⟩, i⟩ = (s.data.toList.drop a).take (i - a) from rfl, HCB.out] at h; cases h
            have HSP := Lib.hid hsp
            clear hsp
            go_wp2_with fail
            refine (wr_step (s.extract i (i + n)) BL4.out X4.out hb3 (by omega) (by simp; omega)).mono ?_
            rintro e w6 ⟨rfl, bl6, x6⟩
            rw [extract_list s i (i + n) (by omega), show i + n - i = n by omega] at bl6
            have BL6 := Lib.hid bl6
            clear bl6 d1 d2
            obtain ⟨d1, d2⟩ := x_cells x6
            clear x6
            go_wp2_with fail
            go_roundg (l.length - (k + 1))
            case measure => rw [G.out]; omega
            case rel => exact ⟨k + 1, i + n, _, rfl, by omega, by simp, by simp, P6.out, acc_step0 HA2.out HSP.out, BL6.out⟩
          | false =>
            have hsp : sepO s.data.toList a ⟨⟨tk, text, num, n⟩, i⟩ = sepB := by unfold sepO; exact if_pos ⟨ha, HCB.out⟩
            have HSP := Lib.hid hsp
            clear hsp
            go_wp2_with fail
            refine (wr_step ⟨#[32, 9, 47, 47, 32, 115, 111, 10]⟩ BL4.out X4.out hb3 (by omega) (by decide)).mono ?_
            rintro e w5 ⟨rfl, bl5, x5⟩
            have BL5 : Hid (Bld w2 ((acc ++ (s.data.toList.drop a).take (i - a)) ++ sepB) w5) := Lib.hid bl5
            have X5 := Lib.hid x5
            clear bl5 x5 d1 d2 BL4 X4
            obtain ⟨d1, d2⟩ := x_cells X5.out
            have hl5 : ((acc ++ (s.data.toList.drop a).take (i - a)) ++ sepB).length ≤ 3000 := by rw [List.length_append]; show _ + 8 ≤ _; omega
            go_wp2_with fail
            refine (wr_step (s.extract i (i + n)) BL5.out X5.out hb3 (by omega) (by simp; omega)).mono ?_
            rintro e w6 ⟨rfl, bl6, x6⟩
            rw [extract_list s i (i + n) (by omega), show i + n - i = n by omega] at bl6
            have BL6 := Lib.hid bl6
            clear bl6 d1 d2
            obtain ⟨d1, d2⟩ := x_cells x6
            clear x6
            go_wp2_with fail
            go_roundg (l.length - (k + 1))
            case measure => rw [G.out]; omega
            case rel => exact ⟨k + 1, i + n, _, rfl, by omega, by simp, by simp, P6.out, acc_step HA2.out HSP.out, BL6.out⟩
        · obtain rfl : a = 0 := by omega
          have hsp : sepO s.data.toList 0 ⟨⟨tk, text, num, n⟩, i⟩ = [] := by unfold sepO; rw [if_neg]; rintro ⟨h, _⟩; omega
          have HSP := Lib.hid hsp
          clear hsp
          go_wp2_with fail
          refine (wr_step (s.extract i (i + n)) BL4.out X4.out hb3 (by omega) (by simp; omega)).mono ?_
          rintro e w6 ⟨rfl, bl6, x6⟩
          rw [extract_list s i (i + n) (by omega), show i + n - i = n by omega] at bl6
          have BL6 := Lib.hid bl6
          clear bl6 d1 d2
          obtain ⟨d1, d2⟩ := x_cells x6
          clear x6
          go_wp2_with fail
          go_roundg (l.length - (k + 1))
          case measure => rw [G.out]; omega
          case rel => exact ⟨k + 1, i + n, _, rfl, by omega, by simp, by simp, P6.out, acc_step0 HA2.out HSP.out, BL6.out⟩
      · have hke : k = l.length := by omega
        have hace := HACC.out
        rw [hke, List.drop_length] at hace
        have haw : acc = W := by simpa [wideF] using hace
        clear hace HACC
        subst hke
        subst haw
        have hlen := fun w (h : Lib.IsBuilder 36 5 w2.heap.size w2.heap.size (Lib.byteCells acc) w) => Tryd.Builder_Len _ _ _ w h
        rw [Lib.byteCells_length] at hlen
        have HLEN := Lib.hid hlen
        clear hlen
        have hali : (acc.length : Int) ≤ 1800 := by omega
        go_wp2_with fail
        refine (HLEN.out _ HBL.out.1).mono ?_
        rintro e w4 ⟨rfl, rfl⟩
        go_wp2_with fail
        refine (Tryd.Builder_String_any _ _ _ _ HBL.out.1 HBL.out.2.size).mono ?_
        rintro e w4 ⟨rfl, h4⟩
        have B4 : Hid (Below w2.heap.size w2 w4) := Lib.hid (HBL.out.2.trans h4)
        have TB4 := Lib.hid (sp_up (TB2.out.on B4.out))
        clear h4
        have htm := tokens_any ⟨acc.toArray⟩ w4 TB4.out
        have e1 : (⟨acc.toArray⟩ : ByteArray).data.toList = acc := by simp
        rw [e1, HL.out] at htm
        clear e1
        go_wp2_with fail
        refine htm.mono ?_
        intro e w5 h
        obtain ⟨a5, c5, rfl, r5, hb5⟩ := lex_any h
        have B5 := Lib.hid hb5
        have R5 := r5 r' rfl
        have H5 := Lib.hid R5.2.2
        clear h r5 hb5 htm R5
        have hrl : r'.length = l.length := by have := congrArg List.length HM.out; simpa using this
        simp only [eOf, nOf, hrl]
        go_wp2_with fail
        have B45 : Hid (Below w.heap.size w w5) := Lib.hid ((L2.out.trans (below_le B4.out L2.out.size)).trans (below_le B5.out (Nat.le_trans L2.out.size B4.out.size)))
        clear hali hal
        go_loopg [81] l.length (fun n vk wr => ∃ k : Nat, n = l.length - k ∧ k ≤ l.length ∧ vk = .int .i64 (k : Int) ∧ Below w5.heap.size w5 wr)
        case atStart => exact ⟨0, rfl, Nat.zero_le _, rfl, Below.refl _ _⟩
        case round =>
          obtain ⟨k, hg, hk, rfl, hb6⟩ := hrel
          have G2 := Lib.hid hg
          have B6 := Lib.hid hb6
          clear hg hb6
          by_cases hlt2 : k < l.length
          · have h1 : (k : Int) < (l.length : Int) := by omega
            obtain ⟨g, rfl, hgl, hta0⟩ := HR.out k hlt2
            have hta := ((hta0.below hgl B2.out).below (Nat.lt_of_lt_of_le hgl B2.out.size) B4.out).below (Nat.lt_of_lt_of_le (Nat.lt_of_lt_of_le hgl B2.out.size) B4.out.size) B5.out
            replace hta := hta.below (Nat.lt_of_lt_of_le (Nat.lt_of_lt_of_le (Nat.lt_of_lt_of_le hgl B2.out.size) B4.out.size) B5.out.size) B6.out
            obtain ⟨g5, rfl, hgl5, htb⟩ := H5.out k (by omega)
            have het : (r'[k]'(by omega)).t = l[k].t := by
              have e := congrArg (fun q : List Tok => q[k]?) HM.out
              simp only [List.getElem?_map, List.getElem?_eq_getElem hlt2, List.getElem?_eq_getElem (show k < r'.length by omega), Option.map_some] at e
              exact Option.some.inj e
            clear hta0
            obtain ⟨c0, _, _, c3, c4⟩ := hta
            obtain ⟨d0, _, _, d3, d4⟩ := htb.below hgl5 B6.out
            rw [het] at d0 d3 d4
            clear het
            generalize l[k] = T at *
            obtain ⟨⟨tk, text, num, n⟩, i⟩ := T
            simp only at c0 c3 c4 d0 d3 d4
            go_wp2_with fail
            go_region
            all_goals
              go_wp2_with fail
              go_roundg (l.length - (k + 1))
              case measure => rw [G2.out]; omega
              case rel => exact ⟨k + 1, rfl, by omega, by simp, B6.out.drew⟩
          · go_wp2_with fail
            go_ret
            exact ⟨rfl, B45.out.trans (below_le B6.out B45.out.size)⟩
  · have hk : eOf A ≠ 0 ∨ 200 < s.size := by
      rcases Nat.lt_or_ge 200 s.size with h | h
      · exact .inr h
      · refine .inl fun h0 => hgo ⟨eOf_zero HA.out h0, h⟩
    have hb : ((eOf A != 0) || decide ((200 : Int) < (s.size : Int))) = true := by
      rcases hk with h | h
      · simp [h]
      · have : (200 : Int) < (s.size : Int) := by omega
        simp [this]
    rcases hk with h | h
    · have hf : (eOf A != 0) = true := by simp [h]
      go_wp2_with fail
      refine (lives_any _ TB2.out).mono ?_
      rintro e w3 ⟨rfl, hb3⟩
      have B3 := Lib.hid hb3
      clear hb3
      go_wp2_with fail
      go_ret
      exact ⟨rfl, L2.out.trans (below_le B3.out L2.out.size)⟩
    · have hsi : (200 : Int) < (s.size : Int) := by omega
      by_cases hf : eOf A = 0
      all_goals
        go_wp2_with fail
        refine (lives_any _ TB2.out).mono ?_
        rintro e w3 ⟨rfl, hb3⟩
        have B3 := Lib.hid hb3
        clear hb3
        go_wp2_with fail
        go_ret
        exact ⟨rfl, L2.out.trans (below_le B3.out L2.out.size)⟩
end Go.Proofs.YtfikflmlcicedaaDoor
