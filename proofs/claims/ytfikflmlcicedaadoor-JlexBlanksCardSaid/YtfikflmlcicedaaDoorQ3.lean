/- jlex.Quote walked. -/
import Derived.Test.YtfikflmlcicedaaDoorQ1
import Derived.Test.YtfikflmlcicedaaDoorQ2
namespace Go.Proofs.YtfikflmlcicedaaDoor
open Go.RowKit

theorem bld_alloc {B b : Nat} {bs : List Value} {w : World} (h : Lib.IsBuilder 36 5 B b bs w) (o : Obj) : Lib.IsBuilder 36 5 B b bs (w.alloc o) := by
  have H : ∀ p, Lib.BuilderAt 36 5 B b p bs w → Lib.BuilderAt 36 5 B b p bs (w.alloc o) := by
    rintro p ⟨hB, v, hb, hown, hne⟩
    refine ⟨hB, v, ?_, hown.alloc _, hne⟩
    rw [Lib.alloc_old w o b ?_]
    · exact hb
    · rcases Nat.lt_or_ge b w.heap.size with h' | h'
      · exact h'
      · simp [Array.getElem?_eq_none h'] at hb
  rcases h with h | h
  · exact .inl (H _ h)
  · exact .inr (H _ h)
/-- A builder at block w.heap.size that holds these bytes. -/
def Bld (w : World) (l : List UInt8) (wr : World) : Prop :=
  Lib.IsBuilder 36 5 w.heap.size w.heap.size (Lib.byteCells l) wr ∧ Below w.heap.size w wr
theorem bld_put {w wr w' : World} {l m : List UInt8} (h : Below w.heap.size w wr) (_hs : w.heap.size ≤ wr.heap.size) {x : List Value} (hx : x = Lib.byteCells (l ++ m))
    (h1 : Lib.BuilderAt 36 5 w.heap.size w.heap.size (.pointer (some ⟨w.heap.size, 0, none⟩)) x w') (h2 : Below w.heap.size wr w') : Bld w (l ++ m) w' := by
  subst hx
  exact ⟨.inr h1, h.trans h2⟩
theorem qu_snoc (l : List UInt8) (c : UInt8) : qu (l ++ [c]) = qu l ++ qb c := by simp [qu]
theorem take_snoc (s : ByteArray) (k : Nat) (h : k < s.size) : s.data.toList.take (k + 1) = s.data.toList.take k ++ [s[k]] := by
  rw [List.take_add_one, List.getElem?_eq_getElem (by simpa using h)]
  rfl

theorem conv_one (w : World) (c : UInt8) : (convert 33 9 (.slice (some ⟨w.heap.size, 0, none⟩) 1 1)).run Tryd.prog (w.alloc (.cells #[.int .u8 (c.toNat : Int)] 5)) = .ok (.string ⟨#[c]⟩) (w.alloc (.cells #[.int .u8 (c.toNat : Int)] 5)) :=
  convRow (B := 0) (l := [c]) ⟨rfl, .inr ⟨w.heap.size, 1, #[.int .u8 (c.toNat : Int)], rfl, Nat.zero_le _, heap_alloc_new w _, Nat.le_refl _, by decide, rfl, rfl⟩⟩
theorem bld_round {w w' : World} {s : ByteArray} {k : Nat} {m : List UInt8} {c : UInt8} (hk : s.data.toList.take (k + 1) = s.data.toList.take k ++ [c]) (hm : m = qb c) (h : Bld w ((34 :: qu (s.data.toList.take k)) ++ m) w') : Bld w (34 :: qu (s.data.toList.take (k + 1))) w' := by
  rw [hk, qu_snoc, ← hm]
  exact h
theorem qb_plain {c : UInt8} (h34 : c.toNat ≠ 34) (h92 : c.toNat ≠ 92) (h10 : c.toNat ≠ 10) (h9 : c.toNat ≠ 9) (h1 : 32 ≤ c.toNat) (h2 : c.toNat ≤ 126) : qb c = [c] := by
  have n : ∀ d : UInt8, c.toNat ≠ d.toNat → (c == d) = false := fun d h => by rw [beq_eq_false_iff_ne]; intro e; exact h (by rw [e])
  unfold qb
  rw [n 34 h34, n 92 h92, n 10 h10, n 9 h9]
  simp
  omega
theorem qb_hex {c : UInt8} (h34 : c.toNat ≠ 34) (h92 : c.toNat ≠ 92) (h10 : c.toNat ≠ 10) (h9 : c.toNat ≠ 9) (h : c.toNat < 32 ∨ 126 < c.toNat) : qb c = [92, 120, hx (c.toNat / 16), hx (c.toNat % 16)] := by
  have n : ∀ d : UInt8, c.toNat ≠ d.toNat → (c == d) = false := fun d h => by rw [beq_eq_false_iff_ne]; intro e; exact h (by rw [e])
  unfold qb
  rw [n 34 h34, n 92 h92, n 10 h10, n 9 h9]
  simp
  omega
theorem hex_one : ∀ n : Fin 16, (⟨#[48, 49, 50, 51, 52, 53, 54, 55, 56, 57, 97, 98, 99, 100, 101, 102]⟩ : ByteArray).extract n.val (n.val + 1) = ⟨#[hx n.val]⟩ := by
  decide +kernel
theorem hex_str (c : UInt8) : ((⟨#[92, 120]⟩ : ByteArray) ++ (⟨#[48, 49, 50, 51, 52, 53, 54, 55, 56, 57, 97, 98, 99, 100, 101, 102]⟩ : ByteArray).extract (c.toNat / 16) (c.toNat / 16 + 1) ++ (⟨#[48, 49, 50, 51, 52, 53, 54, 55, 56, 57, 97, 98, 99, 100, 101, 102]⟩ : ByteArray).extract (c.toNat % 16) (c.toNat % 16 + 1)) = ⟨#[92, 120, hx (c.toNat / 16), hx (c.toNat % 16)]⟩ := by
  have h := UInt8.toNat_lt c
  rw [hex_one ⟨c.toNat / 16, by omega⟩, hex_one ⟨c.toNat % 16, by omega⟩]
  rfl
theorem bld_drew {w wr : World} {l : List UInt8} (h : Bld w l wr) : Bld w l wr.drew := by
  refine ⟨?_, h.2.drew⟩
  rcases h.1 with h | h
  · exact .inl h.drew
  · exact .inr h.drew
theorem hex_mod (c : UInt8) : (c.toNat % 16 + 1) % 256 = c.toNat % 16 + 1 := by omega
theorem and15_all : ∀ n : Fin 256, bits .and .u8 (n.val : Int) 15 = (n.val : Int) % 16 := by decide +kernel
theorem and15 (c : UInt8) : bits .and .u8 (c.toNat : Int) 15 = (c.toNat : Int) % 16 := and15_all ⟨c.toNat, UInt8.toNat_lt c⟩
theorem int_ne {c : UInt8} {n : Nat} (h : c.toNat ≠ n) : ((c.toNat : Int) == (n : Int)) = false := by
  rw [beq_eq_false_iff_ne]; omega

set_option maxRecDepth 100000 in
set_option maxHeartbeats 4000000 in
theorem quote_any (s : ByteArray) (w : World) (hs : s.size ≤ 1048576) : Calls Tryd.prog 10 #[.string s] w fun e w' => e = .returned (.string ⟨(quote s.data.toList).toArray⟩) ∧ Below w.heap.size w w' := by
  go_enter Tryd.func10, Tryd.ntmps10
  go_wp2_with fail
  have hb0 : Bld w [] (w.alloc (.cells #[.pointer none, .slice none 0 0] 36)) := ⟨Lib.fresh_isBuilder 36 5 w, (Below.refl _ _).alloc (Nat.le_refl _) _⟩
  refine (wbyte_any w.heap.size w.heap.size [] 34 _ hb0.1 (by decide) (by simp)).mono ?_
  rintro e w1 ⟨rfl, h1, h2⟩
  have B1 : Hid (Bld w [34] w1) := Lib.hid (bld_put (l := []) hb0.2 hb0.2.size (by rfl) h1 h2)
  clear h1 h2 hb0
  go_wp2_with fail
  go_loopg [10] s.size (fun n vk wr => ∃ k : Nat, n = s.size - k ∧ k ≤ s.size ∧ vk = .int .i64 (k : Int) ∧ Bld w (34 :: qu (s.data.toList.take k)) wr)
  case atStart => exact ⟨0, rfl, Nat.zero_le _, rfl, B1.out⟩
  case round =>
    obtain ⟨k, hg, hk, rfl, hbl⟩ := hrel
    have G := Lib.hid hg
    have HBL := Lib.hid hbl
    clear hg hbl B1
    have hlen : (34 :: qu (s.data.toList.take k)).length ≤ 4194308 := by
      have := qu_length (s.data.toList.take k)
      have h2 : (s.data.toList.take k).length ≤ s.size := by rw [List.length_take]; simp; omega
      rw [List.length_cons]
      omega
    have HLEN := Lib.hid hlen
    clear hlen
    by_cases hlt : k < s.size
    · have h1 : (k : Int) < (s.size : Int) := by omega
      have h2 : (0 : Int) ≤ (k : Int) := by omega
      have hsn := Lib.hid (take_snoc s k hlt)
      have hcc : s[k] = 34 ∨ s[k] = 92 ∨ s[k] = 10 ∨ s[k] = 9 ∨ (s[k].toNat ≠ 34 ∧ s[k].toNat ≠ 92 ∧ s[k].toNat ≠ 10 ∧ s[k].toNat ≠ 9) := by
        rw [← UInt8.toNat_inj, ← UInt8.toNat_inj, ← UInt8.toNat_inj, ← UInt8.toNat_inj]; show _ = 34 ∨ _ = 92 ∨ _ = 10 ∨ _ = 9 ∨ _; omega
      rcases hcc with hc | hc | hc | hc | ⟨n34, n92, n10, n9⟩
      · have e : (s[k].toNat : Int) = 34 := by rw [hc]; rfl
        have hcv : (convert 33 9 (.slice (some ⟨wr.heap.size, 0, none⟩) 1 1)).run Tryd.prog (wr.alloc (.cells #[.int .u8 34] 5)) = .ok (.string ⟨#[34]⟩) (wr.alloc (.cells #[.int .u8 34] 5)) := conv_one wr 34
        go_wp2_with fail
        refine (wstring_any w.heap.size w.heap.size (Lib.byteCells (34 :: qu (s.data.toList.take k))) _ _ (bld_alloc HBL.out.1 _) (by rw [Lib.byteCells_length]; have := HLEN.out; show _ + 2 ≤ _; omega) (Nat.le_trans HBL.out.2.size (World.grownBy_alloc _ _ none).size)).mono ?_
        rintro e w2 ⟨rfl, h1, h2⟩
        have B2 : Hid (Bld w ((34 :: qu (s.data.toList.take k)) ++ [92, 34]) w2) := Lib.hid (bld_put (HBL.out.2.alloc HBL.out.2.size _) (Nat.le_trans HBL.out.2.size (World.grownBy_alloc _ _ none).size) (by rw [Lib.byteCells_append]; rfl) h1 h2)
        clear h1 h2
        go_wp2_with fail
        go_roundg (s.size - (k + 1))
        case measure => rw [G.out]; omega
        case rel => exact ⟨k + 1, rfl, by omega, by simp, bld_round hsn.out (by rw [hc]; rfl) B2.out⟩
      · have e : (s[k].toNat : Int) = 92 := by rw [hc]; rfl
        have hcv : (convert 33 9 (.slice (some ⟨wr.heap.size, 0, none⟩) 1 1)).run Tryd.prog (wr.alloc (.cells #[.int .u8 92] 5)) = .ok (.string ⟨#[92]⟩) (wr.alloc (.cells #[.int .u8 92] 5)) := conv_one wr 92
        go_wp2_with fail
        refine (wstring_any w.heap.size w.heap.size (Lib.byteCells (34 :: qu (s.data.toList.take k))) _ _ (bld_alloc HBL.out.1 _) (by rw [Lib.byteCells_length]; have := HLEN.out; show _ + 2 ≤ _; omega) (Nat.le_trans HBL.out.2.size (World.grownBy_alloc _ _ none).size)).mono ?_
        rintro e w2 ⟨rfl, h1, h2⟩
        have B2 : Hid (Bld w ((34 :: qu (s.data.toList.take k)) ++ [92, 92]) w2) := Lib.hid (bld_put (HBL.out.2.alloc HBL.out.2.size _) (Nat.le_trans HBL.out.2.size (World.grownBy_alloc _ _ none).size) (by rw [Lib.byteCells_append]; rfl) h1 h2)
        clear h1 h2
        go_wp2_with fail
        go_roundg (s.size - (k + 1))
        case measure => rw [G.out]; omega
        case rel => exact ⟨k + 1, rfl, by omega, by simp, bld_round hsn.out (by rw [hc]; rfl) B2.out⟩
      · have e : (s[k].toNat : Int) = 10 := by rw [hc]; rfl
        go_wp2_with fail
        refine (wstring_any w.heap.size w.heap.size (Lib.byteCells (34 :: qu (s.data.toList.take k))) _ _ (HBL.out.1) (by rw [Lib.byteCells_length]; have := HLEN.out; show _ + 2 ≤ _; omega) HBL.out.2.size).mono ?_
        rintro e w2 ⟨rfl, h1, h2⟩
        have B2 : Hid (Bld w ((34 :: qu (s.data.toList.take k)) ++ [92, 110]) w2) := Lib.hid (bld_put HBL.out.2 HBL.out.2.size (by rw [Lib.byteCells_append]; rfl) h1 h2)
        clear h1 h2
        go_wp2_with fail
        go_roundg (s.size - (k + 1))
        case measure => rw [G.out]; omega
        case rel => exact ⟨k + 1, rfl, by omega, by simp, bld_round hsn.out (by rw [hc]; rfl) B2.out⟩
      · have e : (s[k].toNat : Int) = 9 := by rw [hc]; rfl
        go_wp2_with fail
        refine (wstring_any w.heap.size w.heap.size (Lib.byteCells (34 :: qu (s.data.toList.take k))) _ _ (HBL.out.1) (by rw [Lib.byteCells_length]; have := HLEN.out; show _ + 2 ≤ _; omega) HBL.out.2.size).mono ?_
        rintro e w2 ⟨rfl, h1, h2⟩
        have B2 : Hid (Bld w ((34 :: qu (s.data.toList.take k)) ++ [92, 116]) w2) := Lib.hid (bld_put HBL.out.2 HBL.out.2.size (by rw [Lib.byteCells_append]; rfl) h1 h2)
        clear h1 h2
        go_wp2_with fail
        go_roundg (s.size - (k + 1))
        case measure => rw [G.out]; omega
        case rel => exact ⟨k + 1, rfl, by omega, by simp, bld_round hsn.out (by rw [hc]; rfl) B2.out⟩
      · have e34 : ((s[k].toNat : Int) == 34) = false := int_ne n34
        have e92 : ((s[k].toNat : Int) == 92) = false := int_ne n92
        have e10 : ((s[k].toNat : Int) == 10) = false := int_ne n10
        have e9 : ((s[k].toNat : Int) == 9) = false := int_ne n9
        by_cases hp : 32 ≤ s[k].toNat ∧ s[k].toNat ≤ 126
        · have e1 : (32 : Int) ≤ (s[k].toNat : Int) := by omega
          have e2 : (s[k].toNat : Int) ≤ 126 := by omega
          go_wp2_with fail
          refine (wbyte_any w.heap.size w.heap.size (Lib.byteCells (34 :: qu (s.data.toList.take k))) (s[k].toNat : Int) _ HBL.out.1 (by rw [Lib.byteCells_length]; have := HLEN.out; omega) HBL.out.2.size).mono ?_
          rintro e w2 ⟨rfl, h1, h2⟩
          have B2 : Hid (Bld w ((34 :: qu (s.data.toList.take k)) ++ [s[k]]) w2) := Lib.hid (bld_put HBL.out.2 HBL.out.2.size (by rw [Lib.byteCells_append]; rfl) h1 h2)
          clear h1 h2
          go_wp2_with fail
          go_roundg (s.size - (k + 1))
          case measure => rw [G.out]; omega
          case rel => exact ⟨k + 1, rfl, by omega, by simp, bld_round hsn.out (qb_plain n34 n92 n10 n9 hp.1 hp.2).symm B2.out⟩
        · have hc255 := UInt8.toNat_lt s[k]
          have e3 : (s[k].toNat : Int) < 256 := by omega
          have e4 : (0 : Int) ≤ (s[k].toNat : Int) := by omega
          have hq : s[k].toNat < 32 ∨ 126 < s[k].toNat := by omega
          rcases hq with hq | hq
          · have e1 : (s[k].toNat : Int) < 32 := by omega
            go_upto_region 16 with fail
            have hqb := qb_hex n34 n92 n10 n9 (.inl hq)
            have HQ := Lib.hid hqb
            have HS := Lib.hid (hex_str s[k])
            have BD := Lib.hid (bld_drew HBL.out)
            generalize s[k] = b at *
            clear e34 e92 e10 e9 hqb n34 n92 n10 n9
            have hb15 := and15 b
            have hw1 : IntKind.u8.wrap ((b.toNat : Int) / 16 + 1) = (b.toNat : Int) / 16 + 1 := by simp only [IntKind.wrap, IntKind.bits, IntKind.signed]; simp; omega
            have hw2 : IntKind.u8.wrap ((b.toNat : Int) % 16 + 1) = (b.toNat : Int) % 16 + 1 := by simp only [IntKind.wrap, IntKind.bits, IntKind.signed]; simp; omega
            have hv1 : ((b.toNat : Int) % 16 + 1) % 256 = (b.toNat : Int) % 16 + 1 := by omega
            have hv2 : (0 : Int) ≤ (b.toNat : Int) % 16 + 1 := by omega
            have hv3 : (b.toNat : Int) % 16 ≤ (b.toNat : Int) % 16 + 1 := by omega
            have hw3 : (b.toNat : Int) / 16 + 1 ≤ 16 := by omega
            have hw4 : (b.toNat : Int) % 16 + 1 ≤ 16 := by omega
            have hw5 : (0 : Int) ≤ (b.toNat : Int) / 16 := by omega
            have hw6 : (0 : Int) ≤ (b.toNat : Int) % 16 := by omega
            have hw7 : ((b.toNat : Int) / 16).toNat = b.toNat / 16 := by omega
            have hw8 : ((b.toNat : Int) % 16).toNat = b.toNat % 16 := by omega
            have hw9 : ((b.toNat : Int) / 16 + 1).toNat = b.toNat / 16 + 1 := by omega
            have hw0 : ((b.toNat : Int) % 16 + 1).toNat = b.toNat % 16 + 1 := by omega
            go_region_with (go_at_call 11; refine (wstring_any w.heap.size w.heap.size (Lib.byteCells (34 :: qu (s.data.toList.take k))) _ _ BD.out.1 (by rw [Lib.byteCells_length]; (first | rw [HS.out] | rw [hex_mod, HS.out]); have := HLEN.out; show _ + 4 ≤ _; omega) BD.out.2.size).mono ?_; rintro e w2 ⟨rfl, h1, h2⟩; have B2 : Hid (Bld w ((34 :: qu (s.data.toList.take k)) ++ [92, 120, hx (b.toNat / 16), hx (b.toNat % 16)]) w2) := Lib.hid (bld_put BD.out.2 BD.out.2.size (by (first | rw [HS.out] | rw [hex_mod, HS.out]); rw [Lib.byteCells_append]; rfl) h1 h2); clear h1 h2)
            all_goals
              go_wp2_with fail
              go_roundg (s.size - (k + 1))
              case measure => rw [G.out]; omega
              case rel => exact ⟨k + 1, rfl, by omega, by simp, bld_round hsn.out HQ.out.symm B2.out⟩
          · have e1 : (126 : Int) < (s[k].toNat : Int) := by omega
            go_upto_region 16 with fail
            have hqb := qb_hex n34 n92 n10 n9 (.inr hq)
            have HQ := Lib.hid hqb
            have HS := Lib.hid (hex_str s[k])
            have BD := Lib.hid (bld_drew HBL.out)
            generalize s[k] = b at *
            clear e34 e92 e10 e9 hqb n34 n92 n10 n9
            have hb15 := and15 b
            have hw1 : IntKind.u8.wrap ((b.toNat : Int) / 16 + 1) = (b.toNat : Int) / 16 + 1 := by simp only [IntKind.wrap, IntKind.bits, IntKind.signed]; simp; omega
            have hw2 : IntKind.u8.wrap ((b.toNat : Int) % 16 + 1) = (b.toNat : Int) % 16 + 1 := by simp only [IntKind.wrap, IntKind.bits, IntKind.signed]; simp; omega
            have hv1 : ((b.toNat : Int) % 16 + 1) % 256 = (b.toNat : Int) % 16 + 1 := by omega
            have hv2 : (0 : Int) ≤ (b.toNat : Int) % 16 + 1 := by omega
            have hv3 : (b.toNat : Int) % 16 ≤ (b.toNat : Int) % 16 + 1 := by omega
            have hw3 : (b.toNat : Int) / 16 + 1 ≤ 16 := by omega
            have hw4 : (b.toNat : Int) % 16 + 1 ≤ 16 := by omega
            have hw5 : (0 : Int) ≤ (b.toNat : Int) / 16 := by omega
            have hw6 : (0 : Int) ≤ (b.toNat : Int) % 16 := by omega
            have hw7 : ((b.toNat : Int) / 16).toNat = b.toNat / 16 := by omega
            have hw8 : ((b.toNat : Int) % 16).toNat = b.toNat % 16 := by omega
            have hw9 : ((b.toNat : Int) / 16 + 1).toNat = b.toNat / 16 + 1 := by omega
            have hw0 : ((b.toNat : Int) % 16 + 1).toNat = b.toNat % 16 + 1 := by omega
            go_region_with (go_at_call 11; refine (wstring_any w.heap.size w.heap.size (Lib.byteCells (34 :: qu (s.data.toList.take k))) _ _ BD.out.1 (by rw [Lib.byteCells_length]; (first | rw [HS.out] | rw [hex_mod, HS.out]); have := HLEN.out; show _ + 4 ≤ _; omega) BD.out.2.size).mono ?_; rintro e w2 ⟨rfl, h1, h2⟩; have B2 : Hid (Bld w ((34 :: qu (s.data.toList.take k)) ++ [92, 120, hx (b.toNat / 16), hx (b.toNat % 16)]) w2) := Lib.hid (bld_put BD.out.2 BD.out.2.size (by (first | rw [HS.out] | rw [hex_mod, HS.out]); rw [Lib.byteCells_append]; rfl) h1 h2); clear h1 h2)
            all_goals
              go_wp2_with fail
              go_roundg (s.size - (k + 1))
              case measure => rw [G.out]; omega
              case rel => exact ⟨k + 1, rfl, by omega, by simp, bld_round hsn.out HQ.out.symm B2.out⟩
    · go_wp2_with fail
      have hk' : k = s.size := by omega
      subst hk'
      refine (wbyte_any w.heap.size w.heap.size (Lib.byteCells (34 :: qu (s.data.toList.take s.size))) 34 _ HBL.out.1 (by rw [Lib.byteCells_length]; have := HLEN.out; omega) HBL.out.2.size).mono ?_
      rintro e w2 ⟨rfl, h1, h2⟩
      have B2 : Hid (Bld w ((34 :: qu (s.data.toList.take s.size)) ++ [34]) w2) := Lib.hid (bld_put HBL.out.2 HBL.out.2.size (by rw [Lib.byteCells_append]; rfl) h1 h2)
      clear h1 h2
      go_wp2_with fail
      refine (Tryd.Builder_String_any w.heap.size w.heap.size _ _ B2.out.1 B2.out.2.size).mono ?_
      rintro e w3 ⟨rfl, h3⟩
      have H3 := Lib.hid h3
      clear h3
      go_wp2_with fail
      go_ret
      refine ⟨?_, B2.out.2.trans H3.out⟩
      rw [List.take_of_length_le (by simp)]
      rfl
end Go.Proofs.YtfikflmlcicedaaDoor
