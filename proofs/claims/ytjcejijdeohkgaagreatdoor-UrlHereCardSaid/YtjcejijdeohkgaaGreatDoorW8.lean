/- The contract of url.scheme. -/
import Derived.Test.YtjcejijdeohkgaaGreatDoorW7
namespace Go.Proofs.YtjcejijdeohkgaaGreatDoor
open Go.RowKit

theorem call94 (args : Array Value) (w : World) : Sem.run Tryz.prog (callFunc 94 args) w = .ok (.enter 94 args) w := by go_simp
def schR (l : Bs) : Bs × Bs × Bool := match schP l with
  | some (a, b) => (a, b, true)
  | none => ([], [], false)
theorem schK_cons (k : Nat) (c : UInt8) (r : Bs) : schK k (c :: r) = if c = 58 ∧ 0 < k then some k else if letP c = false ∧ (k = 0 ∨ schSet.contains c = false) then none else schK (k + 1) r := by
  rw [schK]
theorem bs_take (l : Bs) (n : Nat) : (bs l).extract 0 n = bs (l.take n) := by
  have h : ((bs l).extract 0 n).data.toList = l.take n := by simp [bs]
  rw [← h, bs_of]
set_option maxRecDepth 100000 in
set_option maxHeartbeats 4000000 in
theorem scheme_any (l : Bs) (w : World) (hT : TB w) (hl : l.length ≤ 1048576) : Calls Tryz.prog 56 #[.string (bs l)] w fun e w' => e = .returned (.tuple #[.string (bs (schR l).1), .string (bs (schR l).2.1), .bool (schR l).2.2]) ∧ Below w.heap.size w w' := by
  have p94 := call94
  have p86 := call86
  have p87 := call87
  have HTB := Lib.hid hT
  obtain ⟨R, hR⟩ : ∃ R, schR l = R := ⟨_, rfl⟩
  rw [hR]
  have HR := Lib.hid hR
  have HG : Hid (∀ i (h1 : i < l.length) (h : i < (bs l).size), (bs l)[i]'h = l[i]'h1) := Lib.hid (fun i _ h => bs_get l i h)
  have hsz : (bs l).size = l.length := bs_size l
  have HX := Lib.hid (fun n => bs_drop l n)
  have HY := Lib.hid (fun n => bs_take l n)
  generalize bs l = S at *
  have HL := Lib.hid hl
  have HZ := Lib.hid hsz
  have hli : (l.length : Int) ≤ 1048576 := by omega
  clear hl hsz hR hT
  go_enter Tryz.func56, Tryz.ntmps56
  go_wp2_with fail
  rw [HZ.out]
  go_loopg [9] l.length (fun n vk wr => ∃ k : Nat, n = l.length - k ∧ k ≤ l.length ∧ vk = .int .i64 (k : Int) ∧ schK 0 l = schK k (l.drop k) ∧ Below w.heap.size w wr)
  case atStart => exact ⟨0, rfl, Nat.zero_le _, rfl, rfl, Below.refl _ _⟩
  case round =>
    obtain ⟨k, hg, hk, rfl, hsk, hb⟩ := hrel
    have G := Lib.hid hg
    have SK := Lib.hid hsk
    have X := Lib.hid hb
    clear hg hsk hb
    by_cases hlt : k < l.length
    · have hki : (k : Int) < (l.length : Int) := by omega
      have h0 : k < S.size := by have := HZ.out; omega
      have hkz : (k : Int) < (S.size : Int) := by omega
      have gk' : S[k]'h0 = l[k] := HG.out k hlt h0
      have SK2 := Lib.hid (show schK 0 l = schK k (l[k] :: l.drop (k + 1)) by rw [SK.out, List.drop_eq_getElem_cons hlt])
      rw [schK_cons] at SK2
      generalize l[k] = c at *
      clear SK
      have HLT := Lib.hid (fun w => letter_any c w)
      have HIN := Lib.hid (fun w => in_any c schSet w)
      by_cases h58 : c = 58
      · subst h58
        have e58 : (((58 : UInt8).toNat : Int)) = 58 := rfl
        have l58 := Lib.hid (show letP 58 = false from rfl)
        rw [l58.out] at HLT
        by_cases hk0 : 0 < k
        · have hk1 : (0 : Int) < (k : Int) := by omega
          rw [if_pos ⟨rfl, hk0⟩] at SK2
          have HV := Lib.hid (show R = (smallP (l.take k), l.drop (k + 1), true) by
            rw [← HR.out]
            unfold schR schP
            rw [SK2.out]
            rfl)
          have HSM := Lib.hid (fun (w9 : World) (hb : Below wr.heap.size wr w9) => small_any (l.take k) w9 ((HTB.out.below X.out).below hb) (by rw [List.length_take]; have := HL.out; omega))
          rw [← HY.out k] at HSM
          have hk2 : (k : Int) + 1 ≤ (S.size : Int) := by omega
          have hk3 : k ≤ S.size := by omega
          have hk4 : k + 1 ≤ S.size := by omega
          have hk5 : (0 : Int) ≤ (k : Int) + 1 := by omega
          have hw1 : IntKind.i64.wrap ((k : Int) + 1) = (k : Int) + 1 := by rw [IntKind.wrap_i64]; omega
          clear SK2 HLT HIN hk0
          go_upto_region 6 with fail
          go_region_law (first | (go_simp; go_at_call 94; refine (HSM.out _ (by first | exact Below.refl _ _ | exact below_drew (Below.refl _ _))).mono ?_; rintro e w25 ⟨rfl, hb⟩; have CB := Lib.hid (Below.trans (show Below wr.heap.size wr _ from by first | exact Below.refl _ _ | exact below_drew (Below.refl _ _)) (Below.le hb (Nat.le_refl _))); clear hb))
          all_goals
            go_wp2_with fail
            refine bodyPost_ret (v := .tuple #[.string (bs (smallP (l.take k))), .string (S.extract (k + 1) S.size), .bool true]) (by simp [results, Tryz.results56, go_sem]) rfl ?_
            rw [HV.out, HX.out]
            exact ⟨rfl, X.out.trans (Below.le (by first | exact CB.out | exact below_drew CB.out | exact below_drewN CB.out _) X.out.size)⟩
        · have hk0' : k = 0 := by omega
          subst hk0'
          rw [if_neg (by simp), if_pos ⟨l58.out, .inl rfl⟩] at SK2
          have HV := Lib.hid (show R = ([], [], false) by
            rw [← HR.out]
            unfold schR schP
            rw [SK2.out]
            rfl)
          clear SK2 hk0
          go_wp2_with fail
          refine (HLT.out _).mono ?_
          rintro e w' ⟨rfl, rfl⟩
          go_wp2_with fail
          refine bodyPost_ret (v := .tuple #[.string ⟨#[]⟩, .string ⟨#[]⟩, .bool false]) (by simp [results, Tryz.results56, go_sem]) rfl ?_
          rw [HV.out]
          exact ⟨rfl, X.out⟩
      · have hcb : ((c.toNat : Int) == 58) = false := by
          rw [beq_eq_false_iff_ne]
          intro e
          apply h58
          rw [← UInt8.toNat_inj]
          show c.toNat = 58
          omega
        have hci : ¬ (c.toNat : Int) = 58 := by simpa using hcb
        rw [if_neg (fun e => h58 e.1)] at SK2
        clear h58
        go_wp2_with fail
        refine (HLT.out _).mono ?_
        rintro e w' ⟨rfl, rfl⟩
        generalize letP c = LP at *
        cases LP with
        | true =>
          rw [if_neg (by simp)] at SK2
          go_wp2_with fail
          go_roundg (l.length - (k + 1))
          case measure => rw [G.out]; omega
          case rel => exact ⟨k + 1, rfl, by omega, by simp, SK2.out, X.out⟩
        | false =>
          by_cases hk0 : k = 0
          · subst hk0
            rw [if_pos ⟨rfl, .inl rfl⟩] at SK2
            have HV := Lib.hid (show R = ([], [], false) by
              rw [← HR.out]
              unfold schR schP
              rw [SK2.out]
              rfl)
            clear SK2
            go_wp2_with fail
            refine bodyPost_ret (v := .tuple #[.string ⟨#[]⟩, .string ⟨#[]⟩, .bool false]) (by simp [results, Tryz.results56, go_sem]) rfl ?_
            rw [HV.out]
            exact ⟨rfl, X.out⟩
          · have hkb : ((k : Int) == 0) = false := by rw [beq_eq_false_iff_ne]; omega
            have hkn : ¬ (k : Int) = 0 := by omega
            go_wp2_with fail
            refine (HIN.out _).mono ?_
            rintro e w' ⟨rfl, rfl⟩
            generalize List.contains schSet c = KB at *
            cases KB with
            | true =>
              rw [if_neg (by simp [hk0])] at SK2
              clear hk0
              go_wp2_with fail
              go_roundg (l.length - (k + 1))
              case measure => rw [G.out]; omega
              case rel => exact ⟨k + 1, rfl, by omega, by simp, SK2.out, X.out⟩
            | false =>
              rw [if_pos (by simp)] at SK2
              have HV := Lib.hid (show R = ([], [], false) by
                rw [← HR.out]
                unfold schR schP
                rw [SK2.out]
                rfl)
              clear SK2 hk0
              go_wp2_with fail
              refine bodyPost_ret (v := .tuple #[.string ⟨#[]⟩, .string ⟨#[]⟩, .bool false]) (by simp [results, Tryz.results56, go_sem]) rfl ?_
              rw [HV.out]
              exact ⟨rfl, X.out⟩
    · have hke : k = l.length := by omega
      have hnl : ¬ ((k : Int) < (l.length : Int)) := by omega
      have HV := Lib.hid (show R = ([], [], false) by
        rw [← HR.out]
        unfold schR schP
        rw [SK.out, hke, List.drop_length]
        rfl)
      clear hke hlt SK
      go_wp2_with fail
      refine bodyPost_ret (v := .tuple #[.string ⟨#[]⟩, .string ⟨#[]⟩, .bool false]) (by simp [results, Tryz.results56, go_sem]) rfl ?_
      rw [HV.out]
      exact ⟨rfl, X.out⟩
end Go.Proofs.YtjcejijdeohkgaaGreatDoor
