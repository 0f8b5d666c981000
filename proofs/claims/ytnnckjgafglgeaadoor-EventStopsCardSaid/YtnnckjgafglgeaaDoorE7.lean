/- The contract of dom's kids. -/
import Derived.Test.YtnnckjgafglgeaaDoorE6
import Derived.Deep.OwnRows
namespace Go.Proofs.YtnnckjgafglgeaaDoor
open Go.RowKit

def kidsEnd (nodes : List Nd) (T : Int × List Bool) : Int := if T.1 = 0 then (if lost nodes T.2 then 3 else if par nodes 0 = -1 then 0 else 3) else T.1
def kidsNext (nodes : List Nd) (i : Nat) (r : Int × List Bool) : Int × List Bool := if r.1 = 0 then kidsAll nodes (i + 1) (nodes.drop (i + 1)) r.2 else r
theorem kidsErr_eq (nodes : List Nd) : kidsErr nodes = kidsEnd nodes (kidsAll nodes 0 (nodes.drop 0) (List.replicate nodes.length false)) := rfl
theorem kidsAll_step (nodes : List Nd) (i : Nat) (hi : i < nodes.length) (seen : List Bool) : kidsAll nodes i (nodes.drop i) seen = kidsNext nodes i (kidsIn nodes i (nodes[i].kids.drop 0) seen) := by
  rw [List.drop_eq_getElem_cons hi]
  rfl
theorem kidsIn_step (nodes : List Nd) (i : Nat) (ks : List Int) (j : Nat) (hj : j < ks.length) (seen : List Bool) : kidsIn nodes i (ks.drop j) seen = if badKid nodes i seen ks[j] then (3, seen) else if i = 0 ∧ knd nodes ks[j] = 3 then (7, seen) else kidsIn nodes i (ks.drop (j + 1)) (seen.set ks[j].toNat true) := by
  rw [List.drop_eq_getElem_cons hj]
  rfl
theorem lost_step (nodes : List Nd) (seen : List Bool) (i : Nat) (hi : i < nodes.length) (hs : i < seen.length) : lost (nodes.drop i) (seen.drop i) = ((nodes[i].parent != -1 && !seen[i]) || lost (nodes.drop (i + 1)) (seen.drop (i + 1))) := by
  rw [List.drop_eq_getElem_cons hi, List.drop_eq_getElem_cons hs]
  rfl
/-- The world while kids are counted. -/
structure KidW (w wy : World) (A S : Nat) (doc : Obj) (seen : List Bool) : Prop where
  bl : Below w.heap.size w wy
  d : wy.heap[A]? = some doc
  s : wy.heap[S]? = some (.cells (seen.map Value.bool).toArray 4 (0, 0))
theorem KidW.alloc {w wy : World} {A S : Nat} {doc : Obj} {seen : List Bool} (h : KidW w wy A S doc seen) (o : Obj) : KidW w (wy.alloc o) A S doc seen := ⟨h.bl.alloc h.bl.size o, alloc_keep h.d o, alloc_keep h.s o⟩
theorem KidW.set {w wy : World} {A S : Nat} {doc : Obj} {seen : List Bool} (h : KidW w wy A S doc seen) (hA : A ≠ S) (hS : w.heap.size ≤ S) (m : Nat) (hm : m < seen.length) : KidW w (wy.setCell ⟨S, m, none⟩ (.bool true)) A S doc (seen.set m true) where
  bl := below_grown h.bl (Lib.grownBy_setB (gr_refl wy _) _ _) hS (Nat.le_refl _)
  d := set_far h.d hA _ _
  s := by
    rw [set_heap h.s m _ (by simpa using hm)]
    simp [List.map_set]
theorem KidW.cell {w wy : World} {A S : Nat} {doc : Obj} {seen : List Bool} (h : KidW w wy A S doc seen) (m : Nat) (hm : m < seen.length) : wy.cell? ⟨S, m, none⟩ = some (.bool seen[m]) := (Lib.cell_of_heap h.s m).trans (by simp [hm])
theorem KidW.free {w wy : World} {A S : Nat} {doc : Obj} {seen : List Bool} (h : KidW w wy A S doc seen) (m : Nat) : wy.frozen? ⟨S, m, none⟩ = false := Lib.frozen_of_heap h.s m
theorem made_bools (n : Nat) : madeCells #[Value.bool false] n = ((List.replicate n false).map Value.bool).toArray := by
  apply Array.ext'
  apply List.ext_getElem
  · simp [madeCells]
  · intro i h1 h2
    simp [madeCells, Nat.mod_one]
theorem bool_info : (Tryd.prog.info? 4).map (fun i => (i.zero, i.size, i.bytes)) = some (some (.bool false), 1, 1) := by kernel_rfl
set_option maxRecDepth 100000 in
set_option maxHeartbeats 16000000 in
theorem kids_any (nodes : List Nd) (a : Option Addr) (c : Nat) (q : Bool) (w : World) (h : DocAt w (.slice a nodes.length c) nodes) (h200 : nodes.length ≤ 200) (h00 : 0 < nodes.length) : Calls Tryd.prog 33 #[.agg #[.slice a nodes.length c, .bool q]] w fun e w' => e = .returned (.int .i64 (kidsErr nodes)) ∧ Below w.heap.size w w' := by
  obtain ⟨b, o, rfl, _⟩ := SlR.item h 0 h00
  have HS := Lib.hid h
  obtain ⟨hc1, hc2, hc3⟩ := SlR.cap h
  clear h
  obtain ⟨T, hT⟩ : ∃ T, kidsErr nodes = T := ⟨_, rfl⟩
  have HT0 := Lib.hid (show kidsEnd nodes (kidsAll nodes 0 (nodes.drop 0) (List.replicate nodes.length false)) = T from hT)
  rw [hT]
  clear hT
  obtain ⟨bi, hi0, hz0, hz1, hz2⟩ := info_parts bool_info
  have hi64 : (nodes.length : Int) ≤ 200 := by omega
  go_enter Tryd.func33, Tryd.ntmps33
  obtain ⟨A, hA⟩ : ∃ A, w.heap.size = A := ⟨_, rfl⟩
  go_upto_region 1 with fail
  refine code_gen (Φ := fun wy => Hid (Below w.heap.size w wy) ∧ Hid (wy.heap[A]? = some (.cells #[.slice (some ⟨b, o, none⟩) nodes.length c, .bool q] 24 (0, 0))) ∧ Hid (wy.heap.size = A + 1)) ⟨Lib.hid ((Below.refl _ _).alloc (Nat.le_refl _) _), Lib.hid (alloc_at hA _), Lib.hid (by simp [hA])⟩ ?_
  rintro w3 ⟨X, XA, XS⟩
  obtain ⟨c0, _⟩ := cells2 XA.out
  obtain ⟨S, hSS⟩ : ∃ S, w3.heap.size = S := ⟨_, rfl⟩
  have hSA := Lib.hid (hSS.symm.trans XS.out)
  clear XS
  go_upto_region 2 with (refine wpList_make_row _ rfl _ _ 77 rfl 4 bi (.bool false) (by rfl) hi0 hz0 hz1 (by rfl) .i64 .i64 nodes.length (by rfl) (by rfl) (by rw [hz2]; omega) (by omega) ?_)
  refine code_gen (Φ := fun wy => Hid (KidW w wy A S (.cells #[.slice (some ⟨b, o, none⟩) nodes.length c, .bool q] 24 (0, 0)) (List.replicate nodes.length false))) (Lib.hid ⟨X.out.alloc X.out.size _, alloc_keep XA.out _, by rw [← made_bools]; exact alloc_at hSS _⟩) ?_
  intro w4 Y
  have hAS : A ≠ S := by have := hSA.out; omega
  have hwS : w.heap.size ≤ S := by have := hSA.out; omega
  clear c0 X XA hSS hA hSA
  obtain ⟨c0, _⟩ := cells2 Y.out.d
  go_upto_region 3 with fail
  clear c0
  go_loopg [17] nodes.length (fun g v17 wr => ∃ (i : Nat) (seen : List Bool), g = nodes.length - i ∧ v17 = .int .i64 (i : Int) ∧ i ≤ nodes.length ∧ seen.length = nodes.length ∧ kidsEnd nodes (kidsAll nodes i (nodes.drop i) seen) = T ∧ KidW w wr A S (.cells #[.slice (some ⟨b, o, none⟩) nodes.length c, .bool q] 24 (0, 0)) seen)
  case atStart => exact ⟨0, _, rfl, rfl, by omega, by simp, HT0.out, Y.out⟩
  case round =>
    clear HT0 Y
    obtain ⟨i, seen, hg, rfl, hi, hse, ht, hw⟩ := hrel
    have G := Lib.hid hg
    have HT := Lib.hid ht
    have Y := Lib.hid hw
    clear hg ht hw
    obtain ⟨c0, _⟩ := cells2 Y.out.d
    by_cases hlt : i < nodes.length
    · have hii : (i : Int) < (nodes.length : Int) := by omega
      have HT2 := Lib.hid ((congrArg (kidsEnd nodes) (kidsAll_step nodes i hlt seen)).symm.trans HT.out)
      clear HT
      obtain ⟨aa, ac, ka, kcap, e0, e1, e2, e3, e4, e5, _, e7⟩ := (HS.out.at i hlt).ex
      obtain ⟨kc1, kc2, kc3⟩ := e7.cap
      have HK := Lib.hid e7
      replace e0 := kc Y.out.bl e0
      replace e1 := kc Y.out.bl e1
      replace e2 := kc Y.out.bl e2
      replace e3 := kc Y.out.bl e3
      replace e4 := kc Y.out.bl e4
      replace e5 := kc Y.out.bl e5
      clear e7
      obtain ⟨D, hD⟩ : ∃ D, nodes[i] = D := ⟨_, rfl⟩
      rw [hD] at e0 e1 e2 e3 e4 e5 HK kc1 kc2 HT2
      clear hD
      obtain ⟨nk, nn, na, nt, np, ks⟩ := D
      simp only at e0 e1 e2 e3 e4 e5 HK kc1 kc2 HT2
      obtain ⟨R, hR⟩ : ∃ R, wr.heap.size = R := ⟨_, rfl⟩
      go_upto_region 5 with fail
      refine code_gen (Φ := fun wy => Hid (KidW w wy A S (.cells #[.slice (some ⟨b, o, none⟩) nodes.length c, .bool q] 24 (0, 0)) seen) ∧ Hid (wy.cell? ⟨R, 5, none⟩ = some (.slice ka ks.length kcap))) ⟨Lib.hid (Y.out.alloc _), Lib.hid ((Lib.cell_of_heap (alloc_at hR _) 5).trans rfl)⟩ ?_
      rintro w5 ⟨Z, ZR⟩
      clear c0 e0 e1 e2 e3 e4 e5 hR Y
      have d5 := ZR.out
      go_upto_region 6 with fail
      clear d5 ZR
      go_loopg [25] ks.length (fun g v25 wz => ∃ (j : Nat) (sn : List Bool), g = ks.length - j ∧ v25 = .int .i64 (j : Int) ∧ j ≤ ks.length ∧ sn.length = nodes.length ∧ kidsEnd nodes (kidsNext nodes i (kidsIn nodes i (ks.drop j) sn)) = T ∧ KidW w wz A S (.cells #[.slice (some ⟨b, o, none⟩) nodes.length c, .bool q] 24 (0, 0)) sn)
      case atStart => exact ⟨0, _, rfl, rfl, by omega, hse, HT2.out, Z.out⟩
      case round =>
        clear HT2 Z hse
        obtain ⟨j, sn, hg2, rfl, hjl, hse, ht, hw⟩ := hrel
        have G2 := Lib.hid hg2
        have HT := Lib.hid ht
        have Y := Lib.hid hw
        clear hg2 ht hw
        obtain ⟨c0, _⟩ := cells2 Y.out.d
        by_cases hj : j < ks.length
        · have hji : (j : Int) < (ks.length : Int) := by omega
          obtain ⟨kb, ko, rfl, hit⟩ := HK.out.item j hj
          obtain ⟨K, hkj⟩ : ∃ K, ks[j] = K := ⟨_, rfl⟩
          rw [hkj] at hit
          have d0 : wr.cell? ⟨kb, ko + j * 1, none⟩ = some (.int .i64 K) := kc Y.out.bl hit
          rw [Nat.mul_one] at d0
          clear hit
          have HST := Lib.hid (kidsIn_step nodes i ks j hj sn)
          rw [hkj] at HST
          have HE := Lib.hid HT.out
          rw [HST.out] at HE
          clear HST HT
          have HKJ := Lib.hid hkj
          clear hkj
          by_cases h1 : K < 0
          · have HB : badKid nodes i sn K = true := by simp [badKid, h1]
            rw [if_pos HB] at HE
            have hT3 : (3 : Int) = T := HE.out
            clear HE
            subst hT3
            go_wp2_with fail
            go_ret
            exact ⟨rfl, Y.out.bl⟩
          by_cases h2 : (nodes.length : Int) ≤ K
          · have HB : badKid nodes i sn K = true := by simp [badKid, h2]
            rw [if_pos HB] at HE
            have hT3 : (3 : Int) = T := HE.out
            clear HE
            subst hT3
            go_wp2_with fail
            go_ret
            exact ⟨rfl, Y.out.bl⟩
          obtain ⟨m, rfl⟩ := Int.eq_ofNat_of_zero_le (Int.not_lt.1 h1)
          have hm : m < nodes.length := by omega
          have hmi : (m : Int) < (nodes.length : Int) := by omega
          have hms : m < sn.length := by omega
          obtain ⟨_, _, _, _, m0, _, _, _, m4, _⟩ := ((HS.out.at m hm).below Y.out.bl).ex
          rw [← par_at nodes m hm] at m4
          rw [← knd_at nodes m hm] at m0
          have s0 := Y.out.cell m hms
          have sf := Y.out.free m
          have hbk : badKid nodes i sn (m : Int) = (par nodes (m : Int) != (i : Int) || sn[m]) := by
            unfold badKid
            rw [decide_eq_false h1, decide_eq_false h2, Int.toNat_natCast, List.getElem?_eq_getElem hms]
            rfl
          rw [hbk, Int.toNat_natCast] at HE
          clear hbk
          obtain ⟨PM, hPM⟩ : ∃ PM, par nodes (m : Int) = PM := ⟨_, rfl⟩
          obtain ⟨KM, hKM⟩ : ∃ KM, knd nodes (m : Int) = KM := ⟨_, rfl⟩
          obtain ⟨SM, hSM⟩ : ∃ SM, sn[m] = SM := ⟨_, rfl⟩
          rw [hPM] at m4 HE
          rw [hKM] at m0 HE
          rw [hSM] at s0 HE
          clear hPM hKM hSM
          by_cases h3 : PM = (i : Int)
          · subst h3
            cases SM with
            | true =>
              rw [if_pos (by simp)] at HE
              have hT3 : (3 : Int) = T := HE.out
              clear HE
              subst hT3
              go_wp2_with fail
              go_ret
              exact ⟨rfl, Y.out.bl⟩
            | false =>
              rw [if_neg (by simp)] at HE
              by_cases h4 : i = 0
              · subst h4
                by_cases h5 : KM = 3
                · rw [if_pos ⟨rfl, h5⟩] at HE
                  have hT3 : (7 : Int) = T := HE.out
                  clear HE
                  subst hT3 h5
                  go_wp2_with fail
                  go_ret
                  exact ⟨rfl, Y.out.bl⟩
                · rw [if_neg (fun e => h5 e.2)] at HE
                  have V := Lib.hid (Y.out.set hAS hwS m hms)
                  go_wp2_with fail
                  go_roundg (ks.length - (j + 1))
                  case measure => have := G2.out; omega
                  case rel => exact ⟨j + 1, sn.set m true, rfl, by simp, by omega, by rw [List.length_set]; exact hse, HE.out, V.out⟩
              · rw [if_neg (fun e => h4 e.1)] at HE
                have h4i : ((i : Int) == 0) = false := by simpa using h4
                have V := Lib.hid (Y.out.set hAS hwS m hms)
                go_wp2_with fail
                go_roundg (ks.length - (j + 1))
                case measure => have := G2.out; omega
                case rel => exact ⟨j + 1, sn.set m true, rfl, by simp, by omega, by rw [List.length_set]; exact hse, HE.out, V.out⟩
          · rw [if_pos (by simp [h3])] at HE
            have hT3 : (3 : Int) = T := HE.out
            clear HE
            subst hT3
            go_wp2_with fail
            go_ret
            exact ⟨rfl, Y.out.bl⟩
        · have hje : j = ks.length := by omega
          have HE := Lib.hid HT.out
          rw [hje, List.drop_length] at HE
          have HN : Hid (kidsEnd nodes (kidsAll nodes (i + 1) (nodes.drop (i + 1)) sn) = T) := Lib.hid HE.out
          clear HE HT
          go_wp2_with fail
          go_roundg (nodes.length - (i + 1))
          case measure => have := G.out; omega
          case rel => exact ⟨i + 1, sn, rfl, by simp, by omega, hse, HN.out, Y.out⟩
    · have hie := Lib.hid (show i = nodes.length by omega)
      have HE := Lib.hid HT.out
      rw [hie.out, List.drop_length] at HE
      have HL := Lib.hid (show (if lost (nodes.drop 0) (seen.drop 0) then 3 else if par nodes 0 = -1 then 0 else 3) = T from HE.out)
      clear HE HT G
      go_upto_region 16 with fail
      clear c0
      go_loopg [74] nodes.length (fun g v74 wz => ∃ (k : Nat), g = nodes.length - k ∧ v74 = .int .i64 (k : Int) ∧ k ≤ nodes.length ∧ (if lost (nodes.drop k) (seen.drop k) then 3 else if par nodes 0 = -1 then 0 else 3) = T ∧ KidW w wz A S (.cells #[.slice (some ⟨b, o, none⟩) nodes.length c, .bool q] 24 (0, 0)) seen)
      case atStart => exact ⟨0, rfl, rfl, by omega, HL.out, Y.out⟩
      case round =>
        clear HL Y
        obtain ⟨k, hg2, rfl, hkl, ht, hw⟩ := hrel
        have G := Lib.hid hg2
        have HT := Lib.hid ht
        have Y := Lib.hid hw
        clear hg2 ht hw
        by_cases hk : k < nodes.length
        · have hki : (k : Int) < (nodes.length : Int) := by omega
          have hks : k < seen.length := by omega
          have HST := Lib.hid HT.out
          rw [lost_step nodes seen k hk hks] at HST
          clear HT
          obtain ⟨aa, ac, ka, kcap, e0, e1, e2, e3, e4, e5, _, _⟩ := (HS.out.at k hk).ex
          replace e0 := kc Y.out.bl e0
          replace e1 := kc Y.out.bl e1
          replace e2 := kc Y.out.bl e2
          replace e3 := kc Y.out.bl e3
          replace e4 := kc Y.out.bl e4
          replace e5 := kc Y.out.bl e5
          obtain ⟨D, hD⟩ : ∃ D, nodes[k] = D := ⟨_, rfl⟩
          rw [hD] at e0 e1 e2 e3 e4 e5 HST
          clear hD
          obtain ⟨nk, nn, na, nt, np, ks⟩ := D
          simp only at e0 e1 e2 e3 e4 e5
          obtain ⟨R, hR⟩ : ∃ R, wr.heap.size = R := ⟨_, rfl⟩
          go_upto_region 18 with fail
          refine code_gen (Φ := fun wy => Hid (KidW w wy A S (.cells #[.slice (some ⟨b, o, none⟩) nodes.length c, .bool q] 24 (0, 0)) seen) ∧ Hid (wy.cell? ⟨R, 4, none⟩ = some (.int .i64 np))) ⟨Lib.hid (Y.out.alloc _), Lib.hid ((Lib.cell_of_heap (alloc_at hR _) 4).trans rfl)⟩ ?_
          rintro w5 ⟨Z, ZR⟩
          clear e0 e1 e2 e3 e4 e5 hR Y
          have d4 := ZR.out
          have s0 := Z.out.cell k hks
          obtain ⟨SM, hSM⟩ : ∃ SM, seen[k] = SM := ⟨_, rfl⟩
          rw [hSM] at s0 HST
          clear hSM
          by_cases hp : np = -1
          · subst hp
            have HN := Lib.hid HST.out
            rw [show ((((⟨nk, nn, na, nt, -1, ks⟩ : Nd).parent != -1) && !SM) || lost (nodes.drop (k + 1)) (seen.drop (k + 1))) = lost (nodes.drop (k + 1)) (seen.drop (k + 1)) by simp] at HN
            go_wp2_with fail
            go_roundg (nodes.length - (k + 1))
            case measure => have := G.out; omega
            case rel => exact ⟨k + 1, rfl, by simp, by omega, HN.out, Z.out⟩
          · have hpf : (np == -1) = false := by simpa using hp
            cases SM with
            | true =>
              have HN := Lib.hid HST.out
              rw [show ((((⟨nk, nn, na, nt, np, ks⟩ : Nd).parent != -1) && !true) || lost (nodes.drop (k + 1)) (seen.drop (k + 1))) = lost (nodes.drop (k + 1)) (seen.drop (k + 1)) by simp] at HN
              go_wp2_with fail
              go_roundg (nodes.length - (k + 1))
              case measure => have := G.out; omega
              case rel => exact ⟨k + 1, rfl, by simp, by omega, HN.out, Z.out⟩
            | false =>
              have hT3 : (3 : Int) = T := by
                have := HST.out
                rw [if_pos (by simp [hp])] at this
                exact this
              clear HST
              subst hT3
              go_wp2_with fail
              go_ret
              exact ⟨rfl, Z.out.bl⟩
        · have hke := Lib.hid (show k = nodes.length by omega)
          have HE := Lib.hid HT.out
          rw [hke.out, List.drop_length] at HE
          have HF := Lib.hid (show (if par nodes 0 = -1 then 0 else 3) = T from HE.out)
          clear HE HT
          obtain ⟨c0, _⟩ := cells2 Y.out.d
          obtain ⟨_, _, _, _, _, _, _, _, m4, _⟩ := ((HS.out.at 0 h00).below Y.out.bl).ex
          rw [← par_at nodes 0 h00, Nat.zero_mul, Nat.add_zero] at m4
          have m4' : wr.cell? ⟨b, o + 4, none⟩ = some (.int .i64 (par nodes 0)) := m4
          clear m4
          obtain ⟨PM, hPM⟩ : ∃ PM, par nodes 0 = PM := ⟨_, rfl⟩
          rw [hPM] at m4' HF
          clear hPM
          have h00i : (0 : Int) < (nodes.length : Int) := by omega
          by_cases hp : PM = -1
          · subst hp
            have hT3 : (0 : Int) = T := HF.out
            subst hT3
            go_wp2_with fail
            go_ret
            exact ⟨rfl, Y.out.bl⟩
          · have hpf : (PM == -1) = false := by simpa using hp
            have hT3 : (3 : Int) = T := by
              have := HF.out
              rw [if_neg hp] at this
              exact this
            subst hT3
            go_wp2_with fail
            go_ret
            exact ⟨rfl, Y.out.bl⟩
end Go.Proofs.YtnnckjgafglgeaaDoor
