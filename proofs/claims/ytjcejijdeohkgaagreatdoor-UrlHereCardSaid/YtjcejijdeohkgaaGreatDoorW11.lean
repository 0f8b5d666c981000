/- The contract of url.host. -/
import Derived.Test.YtjcejijdeohkgaaGreatDoorW10
namespace Go.Proofs.YtjcejijdeohkgaaGreatDoor
open Go.RowKit

theorem call109 (args : Array Value) (w : World) : Sem.run Tryz.prog (callFunc 109 args) w = .ok (.enter 109 args) w := by go_simp
theorem call18 (args : Array Value) (w : World) : Sem.run Tryz.prog (callFunc 18 args) w = .ok (.enter 18 args) w := by go_simp
theorem call105 (args : Array Value) (w : World) : Sem.run Tryz.prog (callFunc 105 args) w = .ok (.enter 105 args) w := by go_simp
def pieceP (p : Bs) : Bool := !p.isEmpty && (Lib.trimS p hostSet).isEmpty
theorem splitC_len (c : UInt8) : ∀ (l p : Bs), p ∈ splitC c l → p.length ≤ l.length
  | [], p, h => by
    simp [splitC] at h
    subst h
    simp
  | b :: r, p, h => by
    unfold splitC at h
    split at h
    · rcases List.mem_cons.1 h with rfl | h
      · simp
      · have := splitC_len c r p h
        simp only [List.length_cons]
        omega
    · split at h
      · rw [List.mem_singleton] at h
        subst h
        simp
      · rename_i q ps hq
        rcases List.mem_cons.1 h with rfl | h
        · have := splitC_len c r q (by rw [hq]; simp)
          simp only [List.length_cons]
          omega
        · have := splitC_len c r p (by rw [hq]; exact List.mem_cons_of_mem _ h)
          simp only [List.length_cons]
          omega
set_option maxRecDepth 100000 in
set_option maxHeartbeats 4000000 in
theorem host_any (l : Bs) (w : World) (hT : TB w) (hl : l.length ≤ 1048576) : Calls Tryz.prog 105 #[.string (bs l)] w fun e w' => e = .returned (.bool (hostP l)) ∧ Below w.heap.size w w' := by
  have p109 := call109
  have p18 := call18
  obtain ⟨R, hR⟩ : ∃ R, hostP l = R := ⟨_, rfl⟩
  rw [hR]
  have HR := Lib.hid hR
  have HSP := Lib.hid (split_any 46 l w hT hl)
  have HLE := Lib.hid (splitC_len 46 l)
  have hsz : (bs l).size = l.length := bs_size l
  have HL := Lib.hid hl
  clear hR hT hl
  by_cases h100 : l.length ≤ 100
  · have HV := Lib.hid (show R = (splitC 46 l).all pieceP by
      rw [← HR.out]
      unfold hostP
      rw [decide_eq_true h100, Bool.true_and]
      rfl)
    have hsi : ¬ (100 : Int) < ((bs l).size : Int) := by omega
    generalize bs l = S at *
    clear HR hsz h100
    generalize splitC 46 l = P at *
    go_enter Tryz.func105, Tryz.ntmps105
    go_wp2_with fail
    refine HSP.out.mono ?_
    rintro e w2 ⟨a, cp, rfl, hs, hb, hn⟩
    have SP := Lib.hid hs
    have X := Lib.hid hb
    have PN := Lib.hid hn
    have hpi : (P.length : Int) ≤ 1048577 := by have := HL.out; omega
    obtain ⟨s1, s2, s3⟩ := SlR.cap hs
    clear hs hb hn HSP
    go_wp2_with fail
    go_loopg [11] P.length (fun n vk wr => ∃ k : Nat, n = P.length - k ∧ k ≤ P.length ∧ vk = .int .i64 (k : Int) ∧ (P.take k).all pieceP = true ∧ Below w2.heap.size w2 wr)
    case atStart => exact ⟨0, rfl, Nat.zero_le _, rfl, rfl, Below.refl _ _⟩
    case round =>
      obtain ⟨k, hg, hk, rfl, hall, hb⟩ := hrel
      have G := Lib.hid hg
      have ALL := Lib.hid hall
      have Y := Lib.hid hb
      have Z := Lib.hid (X.out.trans (Below.le hb X.out.size))
      clear hg hall hb
      by_cases hlt : k < P.length
      · have hki : (k : Int) < (P.length : Int) := by omega
        obtain ⟨b, o, rfl, hi⟩ := SP.out.item k hlt
        have x0 : wr.cell? ⟨b, o + k, none⟩ = some (.string (bs P[k])) := by have := kc Y.out hi; rwa [Nat.mul_one] at this
        have HA := Lib.hid (show (P.take (k + 1)).all pieceP = pieceP P[k] by
          rw [List.take_add_one, List.getElem?_eq_getElem hlt, List.all_append, ALL.out]
          simp)
        have HB : Hid (pieceP P[k] = false → R = false) := Lib.hid (fun h => by
          rw [HV.out, List.all_eq_false]
          exact ⟨P[k], List.getElem_mem hlt, by rw [h]; simp⟩)
        have HPL := Lib.hid (HLE.out P[k] (List.getElem_mem hlt))
        clear hi
        generalize P[k] = p at *
        have HE : Hid ((bs p).toList = p) := Lib.hid (by rw [Lib.toList_data, bs_list])
        have HTR := Lib.hid (trim_any p hostSet wr (by have := HPL.out; have := HL.out; omega) (by decide) (by decide))
        cases hp : p.isEmpty with
        | true =>
          have e1 : (bs p).toList.isEmpty = true := by rw [HE.out, hp]
          have hr := HB.out (by unfold pieceP; rw [hp]; rfl)
          subst hr
          generalize bs p = S2 at *
          clear hp HA HB HV
          go_wp2_with fail
          go_ret
          exact ⟨rfl, Z.out⟩
        | false =>
          have e1 : (bs p).toList.isEmpty = false := by rw [HE.out, hp]
          have HA2 := Lib.hid (show (P.take (k + 1)).all pieceP = (Lib.trimS p hostSet).isEmpty by rw [HA.out]; unfold pieceP; rw [hp]; rfl)
          have HB2 : Hid ((Lib.trimS p hostSet).isEmpty = false → R = false) := Lib.hid (fun h => HB.out (by unfold pieceP; rw [hp, h]; rfl))
          clear HA HB
          generalize Lib.trimS p hostSet = T at *
          have HE2 : Hid ((bs T).toList = T) := Lib.hid (by rw [Lib.toList_data, bs_list])
          generalize bs p = S2 at *
          go_wp2_with fail
          refine HTR.out.mono ?_
          rintro e w5 ⟨rfl, hb5⟩
          have Y5 := Lib.hid (Y.out.trans (Below.le hb5 Y.out.size))
          have Z5 := Lib.hid (Z.out.trans (Below.le hb5 Z.out.size))
          clear hb5 HTR
          cases ht : T.isEmpty with
          | true =>
            have e2 : (bs T).toList.isEmpty = true := by rw [HE2.out, ht]
            rw [ht] at HA2
            generalize bs T = S3 at *
            clear ht
            go_wp2_with fail
            go_roundg (P.length - (k + 1))
            case measure => rw [G.out]; omega
            case rel => exact ⟨k + 1, rfl, by omega, by simp, HA2.out, Y5.out⟩
          | false =>
            have e2 : (bs T).toList.isEmpty = false := by rw [HE2.out, ht]
            have hr := HB2.out ht
            subst hr
            generalize bs T = S3 at *
            clear ht
            go_wp2_with fail
            go_ret
            exact ⟨rfl, Z5.out⟩
      · have hke : k = P.length := by omega
        have hnl : ¬ ((k : Int) < (P.length : Int)) := by omega
        have hr : R = true := by
          rw [HV.out]
          have := ALL.out
          rwa [hke, List.take_length] at this
        subst hr
        clear hke hlt
        go_wp2_with fail
        go_ret
        exact ⟨rfl, Z.out⟩
  · have hr : R = false := by
      rw [← HR.out]
      unfold hostP
      rw [decide_eq_false h100]
      rfl
    subst hr
    have hsi : (100 : Int) < ((bs l).size : Int) := by omega
    generalize bs l = S at *
    clear hsz h100
    go_enter Tryz.func105, Tryz.ntmps105
    go_wp2_with fail
    go_ret
    exact ⟨rfl, Below.refl _ _⟩
end Go.Proofs.YtjcejijdeohkgaaGreatDoor
