/- JlexQuotes walked. -/
import Derived.Test.YtfikflmlcicedaaDoorJ14
import Derived.Test.YtfikflmlcicedaaDoorQ3
namespace Go.Proofs.YtfikflmlcicedaaDoor
open Go.RowKit

set_option maxRecDepth 100000 in
set_option maxHeartbeats 4000000 in
theorem quotes_any (s : ByteArray) (w : World) (tb : SpTab w.heap.size w) (hs : s.size ≤ 1048576) : Calls Tryd.prog 5 #[.string s] w fun e w' => e = .returned (.bool true) ∧ Below w.heap.size w w' := by
  have hq := fun w => quote_any s w hs
  have htk := fun w h => tokens_any ⟨(quote s.data.toList).toArray⟩ w h
  have e1 : (⟨(quote s.data.toList).toArray⟩ : ByteArray).data.toList = quote s.data.toList := by simp
  rw [e1] at htk
  have hlx := lex_quote s.data.toList
  have hrg := quote_range s.data.toList
  have hxl : (quote s.data.toList).length ≤ 4194308 := by
    have := qu_length s.data.toList
    have h2 : s.data.toList.length = s.size := by simp
    rw [quote_length]; omega
  obtain ⟨x, hx⟩ : ∃ x, quote s.data.toList = x := ⟨_, rfl⟩
  rw [hx] at hq htk hlx hrg hxl
  obtain ⟨R, hR⟩ : ∃ R, lex x = R := ⟨_, rfl⟩
  rw [hR] at htk hlx
  have HQ := Lib.hid hq
  have HT := Lib.hid htk
  have HX := Lib.hid hlx
  have HRG := Lib.hid hrg
  clear hq htk hlx hrg hx hR e1
  go_enter Tryd.func5, Tryd.ntmps5
  go_wp2_with fail
  refine (HQ.out _).mono ?_
  rintro e w1 ⟨rfl, hb1⟩
  have B1 := Lib.hid hb1
  have TB1 := Lib.hid (sp_up (tb.on hb1))
  clear hb1 tb
  go_wp2_with fail
  refine (HT.out _ TB1.out).mono ?_
  intro e w2 h
  obtain ⟨a2, c2, rfl, r2, hb2⟩ := lex_any h
  have R2 := Lib.hid r2
  have B2 := Lib.hid hb2
  have TB2 := Lib.hid (sp_up (TB1.out.on hb2))
  clear h r2 hb2
  have hcv := Lib.run_convert_string_bytes (P := Tryd.prog) w2 9 33 5 ⟨x.toArray⟩ (u := .string) Tryd.underlying9 Tryd.underlying33 Tryd.underlying5
  have hb3 := Lib.bytesWorld_below w2 5 ⟨x.toArray⟩
  have HC : Hid (∀ j, j < x.length → (Lib.bytesWorld w2 5 ⟨x.toArray⟩).cell? ⟨w2.heap.size, j, none⟩ = some (.int .u8 ((x.getD j 0).toNat : Int))) :=
    Lib.hid fun j hj => Lib.bytesWorld_cell w2 5 ⟨x.toArray⟩ j (by simpa [ByteArray.size] using hj)
  have B3 := Lib.hid hb3
  have TB3 := Lib.hid (sp_up (TB2.out.on hb3))
  clear hb3
  generalize Lib.bytesWorld w2 5 ⟨x.toArray⟩ = w3 at *
  generalize grownCap w2 (ByteArray.size ⟨x.toArray⟩) 0 5 = C at *
  have hsz : (⟨x.toArray⟩ : ByteArray).size = x.length := by simp [ByteArray.size]
  go_wp2_with fail
  clear hcv
  have L3 : Hid (Below w.heap.size w w3) := Lib.hid ((B1.out.trans (below_le B2.out B1.out.size)).trans (below_le B3.out (Nat.le_trans B1.out.size B2.out.size)))
  have hxi : (x.length : Int) ≤ 4194308 := by omega
  go_loopg [18] x.length (fun n vk wr => ∃ k : Nat, n = x.length - k ∧ k ≤ x.length ∧ vk = .int .i64 (k : Int) ∧ wr = w3)
  case atStart => exact ⟨0, rfl, Nat.zero_le _, rfl, rfl⟩
  case round =>
    obtain ⟨k, hg, hk, rfl, rfl⟩ := hrel
    have G := Lib.hid hg
    clear hg
    by_cases hlt : k < x.length
    · have h1 : (k : Int) < (x.length : Int) := by omega
      have hck := HC.out k hlt
      have hdk := HRG.out (x.getD k 0) (by rw [List.getD_eq_getElem?_getD, List.getElem?_eq_getElem hlt]; exact List.getElem_mem hlt)
      generalize x.getD k 0 = c at *
      have d1 : (32 : Int) ≤ (c.toNat : Int) := by have := UInt8.le_iff_toNat_le.1 hdk.1; have h3 : 32 ≤ c.toNat := this; omega
      have d2 : (c.toNat : Int) ≤ 126 := by have := UInt8.le_iff_toNat_le.1 hdk.2; have h3 : c.toNat ≤ 126 := this; omega
      clear hdk
      go_wp2_with fail
      go_roundg (x.length - (k + 1))
      case measure => rw [G.out]; omega
      case rel => exact ⟨k + 1, rfl, by omega, by simp, rfl⟩
    · have hke : k = x.length := by omega
      subst hke
      go_wp2_with fail
      refine (lives_any _ TB3.out).mono ?_
      rintro e w4 ⟨rfl, hb4⟩
      have B4 := Lib.hid hb4
      have TB4 := Lib.hid (sp_up (TB3.out.on hb4))
      clear hb4
      by_cases hlong : 2000 < x.length
      · have hR := HX.out
        rw [if_pos hlong] at hR
        subst hR
        have hli : (2000 : Int) < (x.length : Int) := by omega
        simp only [eOf, nOf]
        go_wp2_with fail
        refine (lives_any _ TB4.out).mono ?_
        rintro e w5 ⟨rfl, hb5⟩
        have B5 := Lib.hid hb5
        clear hb5
        go_wp2_with fail
        go_ret
        exact ⟨rfl, (L3.out.trans (below_le B4.out L3.out.size)).trans (below_le B5.out (Nat.le_trans L3.out.size B4.out.size))⟩
      · have hR := HX.out
        rw [if_neg hlong] at hR
        subst hR
        obtain ⟨hn, _, h2⟩ := R2.out _ rfl
        obtain ⟨g, rfl, hgl, ht⟩ := h2 0 (by simp)
        have ht2 := (ht.below hgl B3.out).below (Nat.lt_of_lt_of_le hgl B3.out.size) B4.out
        obtain ⟨t0, t1, t2, t3, t4⟩ := ht2
        clear ht h2 hn
        simp only [List.getElem_cons_zero, Nat.zero_mul, Nat.zero_add] at t0 t1 t2 t3 t4
        simp only [eOf, nOf]
        go_wp2_with fail
        go_ret
        exact ⟨rfl, L3.out.trans (below_le B4.out L3.out.size)⟩
end Go.Proofs.YtfikflmlcicedaaDoor
