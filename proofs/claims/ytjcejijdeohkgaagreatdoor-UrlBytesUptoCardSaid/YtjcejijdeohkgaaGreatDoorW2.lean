/- The contract of url.read. -/
import Derived.Test.YtjcejijdeohkgaaGreatDoorW1
namespace Go.Proofs.YtjcejijdeohkgaaGreatDoor
open Go.RowKit

set_option maxRecDepth 100000 in
set_option maxHeartbeats 4000000 in
theorem read_any (c : UInt8) (r : Bs) (w : World) : Calls Tryz.prog 48 #[.string (bs (c :: r))] w fun e w' => e = .returned (.tuple #[.int .u8 ((readP (c :: r)).1.toNat : Int), .int .i64 ((readP (c :: r)).2 : Int)]) ∧ Below w.heap.size w w' := by
  have p89 := call89
  obtain ⟨R, hR⟩ : ∃ R, readP (c :: r) = R := ⟨_, rfl⟩
  rw [hR]
  have HR := Lib.hid hR
  clear hR
  have hs : (bs (c :: r)).size = r.length + 1 := by rw [bs_size]; rfl
  have h0 : 0 < (bs (c :: r)).size := by omega
  have g0 : (bs (c :: r))[0]'h0 = c := bs_get (c :: r) 0 h0
  by_cases hc : c = 37
  · subst hc
    have e37 : (((37 : UInt8).toNat : Int)) = 37 := rfl
    by_cases hl : r.length < 2
    · have h3 : ((bs (37 :: r)).size : Int) < 3 := by omega
      have hr : R = (0, 0) := by
        rw [← HR.out]
        match r, hl with
        | [], _ => rfl
        | [_], _ => rfl
        | _ :: _ :: _, h => simp at h; omega
      subst hr
      generalize bs (37 :: r) = S at *
      clear HR
      go_enter Tryz.func48, Tryz.ntmps48
      go_wp2_with fail
      go_ret2
      exact ⟨rfl, Below.refl _ _⟩
    · obtain ⟨a, b, t, rfl⟩ : ∃ a b t, r = a :: b :: t := by
        match r, hl with
        | [], h => exact absurd (by decide) h
        | [_], h => exact absurd (by simp) h
        | a :: b :: t, _ => exact ⟨a, b, t, rfl⟩
      iterate 1
        have hz : (bs (37 :: a :: b :: t)).size = t.length + 3 := by rw [bs_size]; rfl
        have h3 : (3 : Int) ≤ ((bs (37 :: a :: b :: t)).size : Int) := by omega
        have h1 : 1 < (bs (37 :: a :: b :: t)).size := by omega
        have h2 : 2 < (bs (37 :: a :: b :: t)).size := by omega
        have g1 : (bs (37 :: a :: b :: t))[1]'h1 = a := bs_get _ 1 h1
        have g2 : (bs (37 :: a :: b :: t))[2]'h2 = b := bs_get _ 2 h2
        have HV : Hid (R = if valP a < 0 ∨ valP b < 0 then (0, 0) else (UInt8.ofNat ((valP a).toNat * 16 + (valP b).toNat), 3)) := Lib.hid (by rw [← HR.out]; rfl)
        generalize bs (37 :: a :: b :: t) = S at *
        have HA := Lib.hid (fun w => value_any a w)
        have HB := Lib.hid (fun w => value_any b w)
        have ra := And.intro (valP_ge a) (valP_lt a)
        have rb := And.intro (valP_ge b) (valP_lt b)
        generalize valP a = x at *
        generalize valP b = y at *
        clear HR hs hz
        go_enter Tryz.func48, Tryz.ntmps48
        go_wp2_with fail
        refine (HA.out _).mono ?_
        rintro e w' ⟨rfl, rfl⟩
        by_cases hx : x < 0
        · rw [if_pos (.inl hx)] at HV
          clear ra rb
          go_wp2_with fail
          go_ret2
          exact ⟨by rw [HV.out]; rfl, Below.refl _ _⟩
        · go_wp2_with fail
          refine (HB.out _).mono ?_
          rintro e w' ⟨rfl, rfl⟩
          by_cases hy : y < 0
          · rw [if_pos (.inr hy)] at HV
            clear ra rb
            go_wp2_with fail
            go_ret2
            exact ⟨by rw [HV.out]; rfl, Below.refl _ _⟩
          · rw [if_neg (by omega)] at HV
            obtain ⟨m, rfl⟩ : ∃ m : Nat, x = (m : Int) := ⟨x.toNat, by omega⟩
            obtain ⟨k, rfl⟩ : ∃ k : Nat, y = (k : Int) := ⟨y.toNat, by omega⟩
            have hm : m < 16 := by omega
            have hk : k < 16 := by omega
            have hor : bits .or .i64 ((m : Int) * 16) (k : Int) = ((m * 16 + k : Nat) : Int) := by
              have key : ∀ m k : Fin 16, bits .or .i64 ((m.val : Int) * 16) (k.val : Int) = ((m.val * 16 + k.val : Nat) : Int) := by decide +kernel
              exact key ⟨m, hm⟩ ⟨k, hk⟩
            have hw : IntKind.i64.wrap ((m : Int) * 16) = (m : Int) * 16 := by rw [IntKind.wrap_i64]; omega
            have hv : IntKind.u8.wrap ((m * 16 + k : Nat) : Int) = ((m * 16 + k : Nat) : Int) := by rw [IntKind.wrap_u8]; omega
            have HU := Lib.hid (show ((UInt8.ofNat (m * 16 + k)).toNat : Int) = (m : Int) * 16 + (k : Int) by
              rw [UInt8.toNat_ofNat']
              omega)
            clear ra rb hx hy
            rw [Int.toNat_natCast, Int.toNat_natCast] at HV
            go_upto_region 5 with fail
            go_quiet ((first | (with_reducible exact Calls.quiet_of_same ((HA.out _).mono fun _ _ ⟨a, b⟩ => ⟨a, b.symm⟩)) | (with_reducible exact Calls.quiet_of_same ((HB.out _).mono fun _ _ ⟨a, b⟩ => ⟨a, b.symm⟩))))
            all_goals
              go_wp2_with fail
              go_ret2
              refine ⟨?_, below_drewN (Below.refl _ _) _⟩
              rw [HV.out, HU.out]
              rfl
  · have hcb : ((c.toNat : Int) == 37) = false := by
      rw [beq_eq_false_iff_ne]
      intro e
      apply hc
      rw [← UInt8.toNat_inj]
      show c.toNat = 37
      omega
    have hcn : ¬ (c.toNat : Int) = 37 := by simpa using hcb
    have hr : R = (c, 1) := by rw [← HR.out]; simp only [readP]; rw [if_neg hc]
    subst hr
    clear HR
    generalize bs (c :: r) = S at *
    go_enter Tryz.func48, Tryz.ntmps48
    go_wp2_with fail
    go_ret2
    exact ⟨rfl, Below.refl _ _⟩
end Go.Proofs.YtjcejijdeohkgaaGreatDoor
