/- The contract of url.clean. -/
import Derived.Test.YtjcejijdeohkgaaGreatDoorW6
namespace Go.Proofs.YtjcejijdeohkgaaGreatDoor
open Go.RowKit

theorem clean_cons (c : UInt8) (r : Bs) : cleanP (c :: r) = if (readP (c :: r)).2 = 0 then none else (cleanP ((c :: r).drop (readP (c :: r)).2)).map (clU (readP (c :: r)) ++ ·) := by
  unfold cleanP
  rw [units_cons]
  split
  · rfl
  · cases units ((c :: r).drop (readP (c :: r)).2) <;> rfl
theorem clU_len (u : UInt8 × Nat) : (clU u).length ≤ 3 := by
  unfold clU
  split
  · simp
  · rw [tri_len]; omega
def cleanR (l : Bs) : Bs × Bool := match cleanP l with
  | some d => (d, true)
  | none => ([], false)
set_option maxRecDepth 100000 in
set_option maxHeartbeats 4000000 in
theorem clean_any (l : Bs) (w : World) (hl : l.length ≤ 1048576) : Calls Tryz.prog 108 #[.string (bs l)] w fun e w' => e = .returned (.tuple #[.string (bs (cleanR l).1), .bool (cleanR l).2]) ∧ Below w.heap.size w w' := by
  have p48 := call48
  have p43 := call43
  have p44 := call44
  have p45 := call45
  have p46 := call46
  have p47 := call47
  have p87 := call87
  obtain ⟨R, hR⟩ : ∃ R, cleanR l = R := ⟨_, rfl⟩
  rw [hR]
  have HR := Lib.hid hR
  have HL := Lib.hid hl
  clear hR hl
  go_enter Tryz.func108, Tryz.ntmps108
  go_upto_region 2 with fail
  have B0 := Lib.hid (bld_start w)
  go_loopg [0] l.length (fun n v0 wr => ∃ r d : Bs, n = r.length ∧ v0 = .string (bs r) ∧ d.length + 3 * r.length ≤ 3 * l.length ∧ cleanP l = (cleanP r).map (d ++ ·) ∧ Bld w d wr)
  case atStart => exact ⟨l, [], rfl, rfl, by simp, by cases cleanP l <;> rfl, B0.out⟩
  case round =>
    clear B0
    obtain ⟨r, d, hg, rfl, hlen, hdec, hb⟩ := hrel
    have G := Lib.hid hg
    have LN := Lib.hid hlen
    have DC := Lib.hid hdec
    have X := Lib.hid hb
    clear hg hlen hdec hb
    cases r with
    | nil =>
      have e0 : (bs []).toList.isEmpty = true := by rw [Lib.toList_data, bs_list]; rfl
      have HV := Lib.hid (show R = (d, true) by
        rw [← HR.out]
        unfold cleanR
        rw [DC.out]
        show (d ++ [], true) = _
        rw [List.append_nil])
      go_wp2_with fail
      refine (Tryz.Builder_String_any w.heap.size w.heap.size _ _ X.out.1 X.out.2.size).mono ?_
      rintro e w3 ⟨rfl, h3⟩
      have H3 := Lib.hid (X.out.2.trans h3)
      clear h3
      go_wp2_with fail
      go_ret2
      exact ⟨by rw [HV.out]; rfl, H3.out⟩
    | cons c r =>
      have hS : (bs (c :: r)).toList.isEmpty = false := by rw [Lib.toList_data, bs_list]; rfl
      have HRD := Lib.hid (read_any c r wr)
      have HD := Lib.hid (clean_cons c r)
      have RL := Lib.hid (read_le c r)
      have HX := Lib.hid (bs_drop (c :: r) (readP (c :: r)).2)
      have HZ := Lib.hid (show (bs (c :: r)).size = r.length + 1 by rw [bs_size]; rfl)
      generalize readP (c :: r) = P at *
      obtain ⟨b, n⟩ := P
      simp only at HRD HD RL HX
      have HD2 := Lib.hid (show cleanP l = (if n = 0 then none else (cleanP ((c :: r).drop n)).map (clU (b, n) ++ ·)).map (d ++ ·) by rw [DC.out, HD.out])
      have hdl : ((c :: r).drop n).length = r.length + 1 - n := by rw [List.length_drop]; rfl
      have DL := Lib.hid hdl
      clear hdl HD DC
      have G2 := Lib.hid (show gk = r.length + 1 from G.out)
      have LN2 := Lib.hid (show d.length + 3 * (r.length + 1) ≤ 3 * l.length from LN.out)
      clear G LN
      generalize (c :: r).drop n = r2 at *
      generalize bs (c :: r) = S at *
      go_wp2_with fail
      refine HRD.out.mono ?_
      rintro e w2 ⟨rfl, hb2⟩
      have Y := Lib.hid (X.out.call hb2)
      clear hb2 X HRD
      by_cases hn : n = 0
      · subst hn
        have HV := Lib.hid (show R = ([], false) by
          rw [← HR.out]
          unfold cleanR
          rw [HD2.out, if_pos rfl]
          rfl)
        go_wp2_with fail
        go_ret2
        exact ⟨by rw [HV.out]; rfl, Y.out.2⟩
      · rw [if_neg hn] at HD2
        have hnb : ((n : Int) == 0) = false := by rw [beq_eq_false_iff_ne]; omega
        have hni : ¬ (n : Int) = 0 := by omega
        have hns : (n : Int) ≤ (S.size : Int) := by have := HZ.out; have := RL.out; omega
        have HDL := Lib.hid (show d.length + 3 ≤ 3145728 by have := LN2.out; have := HL.out; omega)
        have HN := Lib.hid (show 0 < n by omega)
        have HCU : Hid (clU (b, n) = if plainP b || (n == 1 && keptSet.contains b) then [b] else tri b) := Lib.hid rfl
        have HRL : Hid (∀ m : Bs, m.length ≤ 3 → (d ++ m).length + 3 * r2.length ≤ 3 * l.length) := Lib.hid (fun m hm => by
          rw [List.length_append, DL.out]
          have := LN2.out
          have := RL.out
          omega)
        have HCM := Lib.hid (show cleanP l = (cleanP r2).map ((d ++ clU (b, n)) ++ ·) by rw [HD2.out]; cases cleanP r2 <;> simp)
        have hG : r2.length < gk := by rw [G2.out, DL.out]; omega
        have HG := Lib.hid hG
        clear hn hG HD2 LN2 RL
        have HPL := Lib.hid (fun w => plain_any b w)
        have HIN := Lib.hid (fun w => in_any b keptSet w)
        go_wp2_with fail
        refine (HPL.out _).mono ?_
        rintro e w' ⟨rfl, rfl⟩
        generalize clU (b, n) = CU at *
        generalize plainP b = PB at *
        generalize List.contains keptSet b = KB at *
        cases PB with
        | true =>
          have hcu := Lib.hid (show CU = [b] by rw [HCU.out]; rfl)
          go_wp2_with fail
          refine (wbyte_any w.heap.size w.heap.size _ _ _ Y.out.1 (by rw [Lib.byteCells_length]; have := HDL.out; omega) Y.out.2.size).mono ?_
          rintro e w4 ⟨rfl, h1, h2⟩
          have Z := Lib.hid (bld_put (m := [b]) Y.out.2 (by rw [Lib.byteCells_append]; rfl) h1 h2)
          clear h1 h2
          go_wp2_with fail
          go_roundg r2.length
          case measure => exact HG.out
          case rel => exact ⟨r2, d ++ CU, rfl, by rw [← HX.out], HRL.out _ (by rw [hcu.out]; simp), HCM.out, by rw [hcu.out]; exact Z.out⟩
        | false =>
          by_cases hn1 : n = 1
          · subst hn1
            have hb1 : (((1 : Nat) : Int) == 1) = true := rfl
            go_wp2_with fail
            refine (HIN.out _).mono ?_
            rintro e w' ⟨rfl, rfl⟩
            cases KB with
            | true =>
              have hcu := Lib.hid (show CU = [b] by rw [HCU.out]; rfl)
              go_wp2_with fail
              refine (wbyte_any w.heap.size w.heap.size _ _ _ Y.out.1 (by rw [Lib.byteCells_length]; have := HDL.out; omega) Y.out.2.size).mono ?_
              rintro e w4 ⟨rfl, h1, h2⟩
              have Z := Lib.hid (bld_put (m := [b]) Y.out.2 (by rw [Lib.byteCells_append]; rfl) h1 h2)
              clear h1 h2
              go_wp2_with fail
              go_roundg r2.length
              case measure => exact HG.out
              case rel => exact ⟨r2, d ++ CU, rfl, by rw [← HX.out], HRL.out _ (by rw [hcu.out]; simp), HCM.out, by rw [hcu.out]; exact Z.out⟩
            | false =>
              have hcu := Lib.hid (show CU = tri b by rw [HCU.out]; rfl)
              go_wp2_with fail
              refine (triple_any b _).mono ?_
              rintro e w4 ⟨rfl, hb4⟩
              have Y4 := Lib.hid (Y.out.call hb4)
              clear hb4
              go_wp2_with fail
              refine (wstring_any w.heap.size w.heap.size _ _ _ Y4.out.1 (by rw [Lib.byteCells_length, bs_size, tri_len]; have := HDL.out; omega) Y4.out.2.size).mono ?_
              rintro e w5 ⟨rfl, h1, h2⟩
              have Z := Lib.hid (bld_put (m := tri b) Y4.out.2 (by rw [Lib.byteCells_append]; rfl) h1 h2)
              clear h1 h2
              go_wp2_with fail
              go_roundg r2.length
              case measure => exact HG.out
              case rel => exact ⟨r2, d ++ CU, rfl, by rw [← HX.out], HRL.out _ (by rw [hcu.out, tri_len]; omega), HCM.out, by rw [hcu.out]; exact Z.out⟩
          · have hb1 : ((n : Int) == 1) = false := by rw [beq_eq_false_iff_ne]; omega
            have hi1 : ¬ (n : Int) = 1 := by omega
            have hn2 := Lib.hid (show (n == 1) = false by simpa using hn1)
            clear hn1
            have hcu := Lib.hid (show CU = tri b by rw [HCU.out]; rw [hn2.out]; rfl)
            go_wp2_with fail
            refine (triple_any b _).mono ?_
            rintro e w4 ⟨rfl, hb4⟩
            have Y4 := Lib.hid (Y.out.call hb4)
            clear hb4
            go_wp2_with fail
            refine (wstring_any w.heap.size w.heap.size _ _ _ Y4.out.1 (by rw [Lib.byteCells_length, bs_size, tri_len]; have := HDL.out; omega) Y4.out.2.size).mono ?_
            rintro e w5 ⟨rfl, h1, h2⟩
            have Z := Lib.hid (bld_put (m := tri b) Y4.out.2 (by rw [Lib.byteCells_append]; rfl) h1 h2)
            clear h1 h2
            go_wp2_with fail
            go_roundg r2.length
            case measure => exact HG.out
            case rel => exact ⟨r2, d ++ CU, rfl, by rw [← HX.out], HRL.out _ (by rw [hcu.out, tri_len]; omega), HCM.out, by rw [hcu.out]; exact Z.out⟩
end Go.Proofs.YtjcejijdeohkgaaGreatDoor
