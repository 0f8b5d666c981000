/- The contracts of url's small functions: in, letter, plain, value, triple, own, small's closure. -/
import Derived.Test.YtjcejijdeohkgaaGreatDoorK
import Derived.Test.YtjcejijdeohkgaaGreatDoorShelf
namespace Go.Proofs.YtjcejijdeohkgaaGreatDoor
open Go.RowKit

theorem ret_bool {a b : Bool} (h : a = b) : Ending.returned (.bool a) = .returned (.bool b) := by rw [h]
theorem ret_int {k : IntKind} {a b : Int} (h : a = b) : Ending.returned (.int k a) = .returned (.int k b) := by rw [h]
set_option maxHeartbeats 400000 in
theorem letter_any (c : UInt8) (w : World) : Calls Tryz.prog 86 #[.int .u8 (c.toNat : Int)] w fun e w' => e = .returned (.bool (letP c)) ∧ w = w' := by
  go_enter Tryz.func86, Tryz.ntmps86
  go_wp2
  all_goals
    go_ret
    refine ⟨ret_bool ?_, rfl⟩
    rw [Bool.eq_iff_iff]
    simp [letP]
    omega
set_option maxHeartbeats 400000 in
theorem small1_any (r : Int) (w : World) (h0 : -2147483648 ≤ r) (h1 : r ≤ 2147483647) : Calls Tryz.prog 118 #[.int .i32 r] w fun e w' => e = .returned (.int .i32 (smR r)) ∧ w = w' := by
  go_enter Tryz.func118, Tryz.ntmps118
  by_cases ha : 65 ≤ r
  · by_cases hb : r ≤ 90
    · go_wp2_with fail
      go_ret
      exact ⟨ret_int (by unfold smR; rw [if_pos ⟨ha, hb⟩]; omega), rfl⟩
    · go_wp2_with fail
      go_ret
      exact ⟨ret_int (by unfold smR; rw [if_neg (by omega)]), rfl⟩
  · go_wp2_with fail
    go_ret
    exact ⟨ret_int (by unfold smR; rw [if_neg (by omega)]), rfl⟩
theorem byte_of (c : UInt8) : ((c.toNat : Int)).toNat.toUInt8 = c := by simp
theorem ib_iff : ∀ (l : Bs) (c : UInt8), decide (0 ≤ Lib.indexByte l c) = l.contains c := by
  intro l c
  rw [Bool.eq_iff_iff]
  simp only [decide_eq_true_eq, List.contains_iff_mem]
  constructor
  · intro h
    obtain ⟨o, ho⟩ : ∃ o : Nat, Lib.indexByte l c = o := ⟨(Lib.indexByte l c).toNat, by omega⟩
    exact List.mem_of_getElem? (Lib.indexByte_some ho).1
  · intro h
    rcases Int.lt_or_le (Lib.indexByte l c) 0 with h0 | h0
    · exfalso
      have h1 : Lib.indexByte l c = -1 := by
        have := Lib.indexByte_ge l c
        omega
      obtain ⟨k, hk, e⟩ := List.mem_iff_getElem.1 h
      exact Lib.indexByte_none h1 k (by rw [List.getElem?_eq_getElem hk, e])
    · exact h0
set_option maxHeartbeats 400000 in
theorem in_any (c : UInt8) (l : Bs) (w : World) : Calls Tryz.prog 87 #[.int .u8 (c.toNat : Int), .string (bs l)] w fun e w' => e = .returned (.bool (l.contains c)) ∧ w = w' := by
  go_enter Tryz.func87, Tryz.ntmps87
  go_wp2_with fail
  refine (Tryz.strings_IndexByte _ _ _).mono ?_
  rintro e w' ⟨rfl, rfl⟩
  go_wp2_with fail
  go_ret
  refine ⟨ret_bool ?_, rfl⟩
  rw [← ib_iff, bs_list]
theorem call86 (args : Array Value) (w : World) : Sem.run Tryz.prog (callFunc 86 args) w = .ok (.enter 86 args) w := by go_simp
theorem call87 (args : Array Value) (w : World) : Sem.run Tryz.prog (callFunc 87 args) w = .ok (.enter 87 args) w := by go_simp
set_option maxHeartbeats 400000 in
theorem plain_any (c : UInt8) (w : World) : Calls Tryz.prog 43 #[.int .u8 (c.toNat : Int)] w fun e w' => e = .returned (.bool (plainP c)) ∧ w = w' := by
  have p86 := call86
  have p87 := call87
  have HP : Hid (plainP c = (letP c || mildSet.contains c)) := Lib.hid rfl
  generalize plainP c = P at *
  go_enter Tryz.func43, Tryz.ntmps43
  go_wp2_with fail
  refine (letter_any _ _).mono ?_
  rintro e w' ⟨rfl, rfl⟩
  generalize letP c = L at *
  cases L with
  | true =>
    go_wp2_with fail
    go_ret
    exact ⟨by rw [HP.out]; rfl, rfl⟩
  | false =>
    go_wp2_with fail
    refine (in_any c mildSet _).mono ?_
    rintro e w' ⟨rfl, rfl⟩
    generalize List.contains mildSet c = M at *
    go_wp2_with fail
    go_ret
    exact ⟨by rw [HP.out]; rfl, rfl⟩
set_option maxHeartbeats 400000 in
theorem value_any (c : UInt8) (w : World) : Calls Tryz.prog 89 #[.int .u8 (c.toNat : Int)] w fun e w' => e = .returned (.int .i64 (valP c)) ∧ w = w' := by
  go_enter Tryz.func89, Tryz.ntmps89
  by_cases ha : (97 : Int) ≤ (c.toNat : Int)
  · by_cases hb : (c.toNat : Int) ≤ 102
    · have hc : upC c = c - 32 := by unfold upC; rw [if_pos ⟨by omega, by omega⟩]
      go_wp2_with fail
      refine (Tryz.strings_IndexByte _ _ _).mono ?_
      rintro e w' ⟨rfl, rfl⟩
      go_wp2_with fail
      go_ret
      refine ⟨ret_int ?_, rfl⟩
      unfold valP
      rw [hc]
      have key : ∀ d : Fin 256, 97 ≤ d.val → UInt8.ofNat ((d.val : Int) - 32).toNat = UInt8.ofNat d.val - 32 := by decide +kernel
      have := key ⟨c.toNat, c.toNat_lt⟩ (by simp only; omega)
      simp only [UInt8.ofNat_toNat] at this
      rw [this]
      rfl
    · have hc : upC c = c := by unfold upC; rw [if_neg (by omega)]
      go_wp2_with fail
      refine (Tryz.strings_IndexByte _ _ _).mono ?_
      rintro e w' ⟨rfl, rfl⟩
      go_wp2_with fail
      go_ret
      refine ⟨ret_int ?_, rfl⟩
      unfold valP
      rw [hc]
      rfl
  · have hc : upC c = c := by unfold upC; rw [if_neg (by omega)]
    go_wp2_with fail
    refine (Tryz.strings_IndexByte _ _ _).mono ?_
    rintro e w' ⟨rfl, rfl⟩
    go_wp2_with fail
    go_ret
    refine ⟨ret_int ?_, rfl⟩
    unfold valP
    rw [hc]
    rfl
theorem call89 (args : Array Value) (w : World) : Sem.run Tryz.prog (callFunc 89 args) w = .ok (.enter 89 args) w := by go_simp
theorem call118 (args : Array Value) (w : World) : Sem.run Tryz.prog (callFunc 118 args) w = .ok (.enter 118 args) w := by go_simp
theorem bs_get (l : Bs) (i : Nat) (h : i < (bs l).size) : (bs l)[i] = l[i]'(by rwa [bs_size] at h) := by
  have h1 := Lib.data_getElem? (bs l) i h
  rw [bs_list, List.getElem?_eq_getElem (by rwa [bs_size] at h)] at h1
  exact (Option.some.inj h1).symm
theorem http_bs : bs httpB = ⟨#[104, 116, 116, 112]⟩ := rfl
set_option maxHeartbeats 400000 in
theorem own_any (l : Bs) (w : World) : Calls Tryz.prog 107 #[.string (bs l)] w fun e w' => e = .returned (.int .i64 (ownP l)) ∧ w = w' := by
  have e0 : (bs l).toList = l := by rw [Lib.toList_data, bs_list]
  have HO : Hid (ownP l = if l = httpB then 80 else if l = httpB ++ [115] then 443 else 0) := Lib.hid rfl
  generalize ownP l = O at *
  go_enter Tryz.func107, Tryz.ntmps107
  cases h1 : (l == [104, 116, 116, 112]) with
  | true =>
    have k1 : l = httpB := eq_of_beq h1
    rw [if_pos k1] at HO
    clear k1
    go_wp2_with fail
    go_ret
    exact ⟨by rw [HO.out]; rfl, rfl⟩
  | false =>
    have k1 : ¬ l = httpB := by rintro rfl; revert h1; decide
    cases h2 : (l == [104, 116, 116, 112, 115]) with
    | true =>
      have k2 : l = httpB ++ [115] := eq_of_beq h2
      rw [if_neg k1, if_pos k2] at HO
      clear k1 k2
      go_wp2_with fail
      go_ret
      exact ⟨by rw [HO.out]; rfl, rfl⟩
    | false =>
      have k2 : ¬ l = httpB ++ [115] := by rintro rfl; revert h2; decide
      rw [if_neg k1, if_neg k2] at HO
      clear k1 k2
      go_wp2_with fail
      go_ret
      exact ⟨by rw [HO.out]; rfl, rfl⟩
theorem and15_all : ∀ n : Fin 256, bits .and .u8 (n.val : Int) 15 = (n.val : Int) % 16 := by decide +kernel
theorem and15 (c : UInt8) : bits .and .u8 (c.toNat : Int) 15 = (c.toNat : Int) % 16 := and15_all ⟨c.toNat, UInt8.toNat_lt c⟩
theorem hex_mod (c : UInt8) : (c.toNat % 16 + 1) % 256 = c.toNat % 16 + 1 := by omega
theorem hex_one : ∀ n : Fin 16, (⟨#[48, 49, 50, 51, 52, 53, 54, 55, 56, 57, 65, 66, 67, 68, 69, 70]⟩ : ByteArray).extract n.val (n.val + 1) = ⟨#[hexAt n.val]⟩ := by
  decide +kernel
theorem tri_str (c : UInt8) : ((⟨#[37]⟩ : ByteArray) ++ (⟨#[48, 49, 50, 51, 52, 53, 54, 55, 56, 57, 65, 66, 67, 68, 69, 70]⟩ : ByteArray).extract (c.toNat / 16) (c.toNat / 16 + 1) ++ (⟨#[48, 49, 50, 51, 52, 53, 54, 55, 56, 57, 65, 66, 67, 68, 69, 70]⟩ : ByteArray).extract (c.toNat % 16) (c.toNat % 16 + 1)) = bs (tri c) := by
  have h := UInt8.toNat_lt c
  rw [hex_one ⟨c.toNat / 16, by omega⟩, hex_one ⟨c.toNat % 16, by omega⟩]
  rfl
set_option maxRecDepth 100000 in
set_option maxHeartbeats 4000000 in
theorem triple_any (b : UInt8) (w : World) : Calls Tryz.prog 46 #[.int .u8 (b.toNat : Int)] w fun e w' => e = .returned (.string (bs (tri b))) ∧ Below w.heap.size w w' := by
  have hc255 := UInt8.toNat_lt b
  have e3 : (b.toNat : Int) < 256 := by omega
  have e4 : (0 : Int) ≤ (b.toNat : Int) := by omega
  have HS := Lib.hid (tri_str b)
  have hb15 := and15 b
  have hw1 : IntKind.u8.wrap ((b.toNat : Int) / 16 + 1) = (b.toNat : Int) / 16 + 1 := by simp only [IntKind.wrap, IntKind.bits, IntKind.signed]; simp; omega
  have hw2 : IntKind.u8.wrap ((b.toNat : Int) % 16 + 1) = (b.toNat : Int) % 16 + 1 := by simp only [IntKind.wrap, IntKind.bits, IntKind.signed]; simp; omega
  have hv1 : ((b.toNat : Int) % 16 + 1) % 256 = (b.toNat : Int) % 16 + 1 := by omega
  have hv2 : (0 : Int) ≤ (b.toNat : Int) % 16 + 1 := by omega
  have hv3 : (b.toNat : Int) % 16 ≤ (b.toNat : Int) % 16 + 1 := by omega
  have hw3 : (b.toNat : Int) / 16 + 1 ≤ 16 := by omega
  have hw4 : (b.toNat : Int) % 16 + 1 ≤ 16 := by omega
  have hw5 : (0 : Int) ≤ (b.toNat : Int) / 16 := by omega
  have hw6 : (0 : Int) ≤ (b.toNat : Int) % 16 := by omega
  have hw7 : ((b.toNat : Int) / 16).toNat = b.toNat / 16 := by omega
  have hw8 : ((b.toNat : Int) % 16).toNat = b.toNat % 16 := by omega
  have hw9 : ((b.toNat : Int) / 16 + 1).toNat = b.toNat / 16 + 1 := by omega
  have hw0 : ((b.toNat : Int) % 16 + 1).toNat = b.toNat % 16 + 1 := by omega
  go_enter Tryz.func46, Tryz.ntmps46
  go_upto_region 1 with fail
  go_region_with fail
  all_goals
    go_wp2_with fail
    go_ret
    exact ⟨by rw [← HS.out]; rfl, by first | exact below_drew (Below.refl _ _) | exact below_drewN (Below.refl _ _) _⟩
theorem valP_ge (c : UInt8) : -1 ≤ valP c := Lib.indexByte_ge _ _
theorem valP_lt (c : UInt8) : valP c < 16 := by
  unfold valP
  rcases Int.lt_or_le (Lib.indexByte six (upC c)) 0 with h | h
  · omega
  · obtain ⟨o, ho⟩ : ∃ o : Nat, Lib.indexByte six (upC c) = o := ⟨(Lib.indexByte six (upC c)).toNat, by omega⟩
    have := (Lib.indexByte_some ho).1
    have h2 : o < six.length := by
      rcases Nat.lt_or_ge o six.length with h3 | h3
      · exact h3
      · rw [List.getElem?_eq_none h3] at this; cases this
    have h4 : six.length = 16 := rfl
    omega
end Go.Proofs.YtjcejijdeohkgaaGreatDoor
