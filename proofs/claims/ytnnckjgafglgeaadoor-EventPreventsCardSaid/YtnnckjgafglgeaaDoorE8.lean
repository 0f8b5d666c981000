/- The contract of dom's Check. -/
import Derived.Test.YtnnckjgafglgeaaDoorE7
namespace Go.Proofs.YtnnckjgafglgeaaDoor
open Go.RowKit

def docEnd (nodes : List Nd) (r : Int) : Int := if r = 0 then (if kidsErr nodes = 0 then upErr nodes (List.range nodes.length) else kidsErr nodes) else r
theorem docErr_eq (nodes : List Nd) (h1 : ¬200 < nodes.length) (h2 : ¬nodes.length = 0) : docErr nodes = docEnd nodes (firstErr 0 (nodes.drop 0)) := by
  unfold docErr
  rw [if_neg h1, if_neg h2]
  rfl
theorem first_step (nodes : List Nd) (i : Nat) (hi : i < nodes.length) : firstErr i (nodes.drop i) = if (nodes[i].kind == 1) != (i == 0) then 3 else if oneErr nodes[i] = 0 then firstErr (i + 1) (nodes.drop (i + 1)) else oneErr nodes[i] := by
  rw [List.drop_eq_getElem_cons hi]
  rfl
theorem upErr_step (nodes : List Nd) (i : Nat) (hi : i < nodes.length) : upErr nodes ((List.range nodes.length).drop i) = if nodes.length < up nodes (i : Int) then 8 else if 40 < up nodes (i : Int) then 2 else upErr nodes ((List.range nodes.length).drop (i + 1)) := by
  rw [List.drop_eq_getElem_cons (by simpa using hi), List.getElem_range]
  rfl
set_option maxRecDepth 100000 in
set_option maxHeartbeats 16000000 in
theorem check_any (nodes : List Nd) (aa0 : Option Addr) (c : Nat) (q : Bool) (w : World) (h : DocAt w (.slice aa0 nodes.length c) nodes) : Calls Tryd.prog 23 #[.agg #[.slice aa0 nodes.length c, .bool q]] w fun e w' => e = .returned (.int .i64 (docErr nodes)) ∧ Below w.heap.size w w' := by
  have HS := Lib.hid h
  obtain ⟨hc1, hc2, hc3⟩ := SlR.cap h
  clear h
  obtain ⟨T, hT⟩ : ∃ T, docErr nodes = T := ⟨_, rfl⟩
  have HT1 := Lib.hid (fun h1 h2 => (docErr_eq nodes h1 h2).symm.trans hT)
  have HTA := Lib.hid (show 200 < nodes.length → (2 : Int) = T from fun h1 => by rw [← hT]; unfold docErr; rw [if_pos h1])
  have HTB := Lib.hid (show ¬200 < nodes.length → nodes.length = 0 → (3 : Int) = T from fun h1 h2 => by rw [← hT]; unfold docErr; rw [if_neg h1, if_pos h2])
  rw [hT]
  clear hT
  go_enter Tryd.func23, Tryd.ntmps23
  obtain ⟨A, hA⟩ : ∃ A, w.heap.size = A := ⟨_, rfl⟩
  go_upto_region 1 with fail
  refine code_gen (Φ := fun wy => Hid (Below w.heap.size w wy) ∧ Hid (wy.heap[A]? = some (.cells #[.slice aa0 nodes.length c, .bool q] 24 (0, 0)))) ⟨Lib.hid ((Below.refl _ _).alloc (Nat.le_refl _) _), Lib.hid (alloc_at hA _)⟩ ?_
  rintro w3 ⟨X, XA⟩
  clear hA
  obtain ⟨c0, _⟩ := cells2 XA.out
  by_cases h2 : 200 < nodes.length
  · have h2i : (200 : Int) < (nodes.length : Int) := by omega
    go_wp2_with fail
    go_ret
    exact ⟨by rw [← HTA.out h2]; rfl, X.out⟩
  have h2i : (nodes.length : Int) ≤ 200 := by omega
  by_cases h0 : nodes.length = 0
  · have h0i : ((nodes.length : Int) == 0) = true := by simp [h0]
    go_wp2_with fail
    go_ret
    exact ⟨by rw [← HTB.out h2 h0]; rfl, X.out⟩
  have h00 : 0 < nodes.length := by omega
  obtain ⟨b, o, rfl, _⟩ := SlR.item HS.out 0 h00
  have HT0 := Lib.hid (HT1.out h2 h0)
  have h0i : ((nodes.length : Int) == 0) = false := by simpa using h0
  clear HT1 HTA HTB h0
  go_upto_region 6 with fail
  clear c0 h0i
  go_loopg [22] nodes.length (fun g v22 wr => ∃ (i : Nat), g = nodes.length - i ∧ v22 = .int .i64 (i : Int) ∧ i ≤ nodes.length ∧ docEnd nodes (firstErr i (nodes.drop i)) = T ∧ Below w.heap.size w wr ∧ wr.heap[A]? = some (.cells #[.slice (some ⟨b, o, none⟩) nodes.length c, .bool q] 24 (0, 0)))
  case atStart => exact ⟨0, rfl, rfl, by omega, HT0.out, X.out, XA.out⟩
  case round =>
    clear HT0 X XA
    obtain ⟨i, hg, rfl, hi, ht, hb, ha⟩ := hrel
    have G := Lib.hid hg
    have HT := Lib.hid ht
    have Y := Lib.hid hb
    have YA := Lib.hid ha
    clear hg ht hb ha
    by_cases hlt : i < nodes.length
    · have hii : (i : Int) < (nodes.length : Int) := by omega
      have HST := Lib.hid ((congrArg (docEnd nodes) (first_step nodes i hlt)).symm.trans HT.out)
      clear HT
      obtain ⟨aa, ac, ka, kcap, e0, e1, e2, e3, e4, e5, e6, _⟩ := (HS.out.at i hlt).ex
      have HA6 := Lib.hid e6
      replace e0 := kc Y.out e0
      replace e1 := kc Y.out e1
      replace e2 := kc Y.out e2
      replace e3 := kc Y.out e3
      replace e4 := kc Y.out e4
      replace e5 := kc Y.out e5
      clear e6
      obtain ⟨D, hD⟩ : ∃ D, nodes[i] = D := ⟨_, rfl⟩
      rw [hD] at e0 e1 e2 e3 e4 e5 HST HA6
      clear hD
      have HONE := Lib.hid (fun (w6 : World) (hb : Below w.heap.size w w6) => one_any D aa ka ac kcap w6 (HA6.out.mono (fun _ _ _ h => h.below hb)))
      clear HA6
      obtain ⟨E, hE⟩ : ∃ E, oneErr D = E := ⟨_, rfl⟩
      rw [hE] at HONE HST
      clear hE
      obtain ⟨nk, nn, na, nt, np, ks⟩ := D
      simp only at e0 e1 e2 e3 e4 e5 HONE HST
      generalize na.length = an at *
      generalize ks.length = kn at *
      obtain ⟨R, hR⟩ : ∃ R, wr.heap.size = R := ⟨_, rfl⟩
      go_upto_region 8 with fail
      refine code_gen (Φ := fun wy => Hid (Below w.heap.size w wy) ∧ Hid (wy.heap[A]? = some (.cells #[.slice (some ⟨b, o, none⟩) nodes.length c, .bool q] 24 (0, 0))) ∧ Hid (wy.heap[R]? = some (.cells #[.int .i64 nk, .string nn, .slice aa an ac, .string nt, .int .i64 np, .slice ka kn kcap] 32 (0, 0)))) ⟨Lib.hid (Y.out.alloc Y.out.size _), Lib.hid (alloc_keep YA.out _), Lib.hid (alloc_at hR _)⟩ ?_
      rintro w5 ⟨Z, ZA, ZR⟩
      clear e0 e1 e2 e3 e4 e5 hR Y YA
      obtain ⟨d0, d1, d2, d3, d4, d5⟩ := cells6 ZR.out
      obtain ⟨F, hF⟩ : ∃ F, ((nk == 1) != (i == 0)) = F := ⟨_, rfl⟩
      rw [hF] at HST
      have hz : ((i : Int) == 0) = (i == 0) := by cases i <;> rfl
      have hFi : (!((nk == 1) == ((i : Int) == 0))) = F := by
        rw [← hF, hz]
        cases (nk == 1) <;> cases (i == 0) <;> rfl
      clear hz
      clear hF
      cases F with
      | true =>
        have hT3 : (3 : Int) = T := HST.out
        subst hT3
        go_wp2_with fail
        go_ret
        exact ⟨rfl, Z.out⟩
      | false =>
        have HE := Lib.hid (show docEnd nodes (if E = 0 then firstErr (i + 1) (nodes.drop (i + 1)) else E) = T from HST.out)
        clear HST
        go_wp2_with fail
        refine (HONE.out _ Z.out).mono ?_
        rintro e w6 ⟨rfl, hb6⟩
        have V := Lib.hid (Z.out.trans (Below.le hb6 Z.out.size))
        have VA := Lib.hid ((hb6.block A (lt_of_heap ZA.out)).trans ZA.out)
        clear hb6 d0 d1 d2 d3 d4 d5 hFi HONE
        by_cases hE0 : E = 0
        · subst hE0
          have HN : Hid (docEnd nodes (firstErr (i + 1) (nodes.drop (i + 1))) = T) := Lib.hid HE.out
          go_wp2_with fail
          go_roundg (nodes.length - (i + 1))
          case measure => have := G.out; omega
          case rel => exact ⟨i + 1, rfl, by simp, by omega, HN.out, V.out, VA.out⟩
        · have hT3 : E = T := by
            have := HE.out
            rw [if_neg hE0] at this
            unfold docEnd at this
            rw [if_neg hE0] at this
            exact this
          subst hT3
          go_wp2_with fail
          go_ret
          exact ⟨rfl, V.out⟩
    · have hie := Lib.hid (show i = nodes.length by omega)
      have HE := Lib.hid HT.out
      rw [hie.out, List.drop_length] at HE
      have HL := Lib.hid (show (if kidsErr nodes = 0 then upErr nodes (List.range nodes.length) else kidsErr nodes) = T from HE.out)
      clear HE HT G
      obtain ⟨c0, c1⟩ := cells2 YA.out
      have HKA := Lib.hid (fun (w6 : World) (hb : Below w.heap.size w w6) => kids_any nodes (some ⟨b, o, none⟩) c q w6 (DocAt.below HS.out hb) (Nat.not_lt.1 h2) h00)
      have HUA := Lib.hid (fun (hk0 : kidsErr nodes = 0) (n : Nat) (hn : n < nodes.length) (w6 : World) (hb : Below w.heap.size w w6) => up_any nodes (some ⟨b, o, none⟩) c q (n : Int) w6 (DocAt.below HS.out hb) (Nat.not_lt.1 h2) (fun k hk => by have := (kids_ok nodes hk0).2 k hk; omega) (by omega) (by omega))
      obtain ⟨E, hE⟩ : ∃ E, kidsErr nodes = E := ⟨_, rfl⟩
      rw [hE] at HKA HL HUA
      clear hE
      go_wp2_with fail
      refine (HKA.out _ Y.out).mono ?_
      rintro e w6 ⟨rfl, hb6⟩
      have V := Lib.hid (Y.out.trans (Below.le hb6 Y.out.size))
      have VA := Lib.hid ((hb6.block A (lt_of_heap YA.out)).trans YA.out)
      clear hb6 c0 c1 HKA Y YA
      obtain ⟨c0, c1⟩ := cells2 VA.out
      by_cases hE0 : E = 0
      · have HL2 := Lib.hid HL.out
        rw [if_pos hE0] at HL2
        have HUP := Lib.hid (HUA.out hE0)
        clear HL HUA
        subst hE0
        have HL3 : Hid (upErr nodes ((List.range nodes.length).drop 0) = T) := Lib.hid HL2.out
        clear HL2
        go_upto_region 18 with fail
        clear c0 c1
        go_loopg [47] nodes.length (fun g v47 wr => ∃ (k : Nat), g = nodes.length - k ∧ v47 = .int .i64 (k : Int) ∧ k ≤ nodes.length ∧ upErr nodes ((List.range nodes.length).drop k) = T ∧ Below w.heap.size w wr ∧ wr.heap[A]? = some (.cells #[.slice (some ⟨b, o, none⟩) nodes.length c, .bool q] 24 (0, 0)))
        case atStart => exact ⟨0, rfl, rfl, by omega, HL3.out, V.out, VA.out⟩
        case round =>
          clear HL3 V VA
          obtain ⟨k, hg, rfl, hk, ht, hb, ha⟩ := hrel
          have G := Lib.hid hg
          have HT := Lib.hid ht
          have Y := Lib.hid hb
          have YA := Lib.hid ha
          clear hg ht hb ha
          obtain ⟨c0, c1⟩ := cells2 YA.out
          by_cases hlt : k < nodes.length
          · have hii : (k : Int) < (nodes.length : Int) := by omega
            have HST := Lib.hid ((upErr_step nodes k hlt).symm.trans HT.out)
            clear HT
            have HC := Lib.hid (HUP.out k hlt)
            obtain ⟨U, hU⟩ : ∃ U, up nodes (k : Int) = U := ⟨_, rfl⟩
            rw [hU] at HC HST
            clear hU
            go_wp2_with fail
            refine (HC.out _ Y.out).mono ?_
            rintro e w7 ⟨rfl, hb7⟩
            have V := Lib.hid (Y.out.trans (Below.le hb7 Y.out.size))
            have VA := Lib.hid ((hb7.block A (lt_of_heap YA.out)).trans YA.out)
            clear hb7 c0 c1 HC Y YA
            obtain ⟨c0, c1⟩ := cells2 VA.out
            by_cases hu1 : nodes.length < U
            · have hu1i : (nodes.length : Int) < (U : Int) := by omega
              have hT3 : (8 : Int) = T := by
                have := HST.out
                rw [if_pos hu1] at this
                exact this
              subst hT3
              go_wp2_with fail
              go_ret
              exact ⟨rfl, V.out⟩
            · have hu1i : (U : Int) ≤ (nodes.length : Int) := by omega
              by_cases hu2 : 40 < U
              · have hu2i : (40 : Int) < (U : Int) := by omega
                have hT3 : (2 : Int) = T := by
                  have := HST.out
                  rw [if_neg hu1, if_pos hu2] at this
                  exact this
                subst hT3
                go_wp2_with fail
                go_ret
                exact ⟨rfl, V.out⟩
              · have hu2i : (U : Int) ≤ 40 := by omega
                have HN := Lib.hid HST.out
                rw [if_neg hu1, if_neg hu2] at HN
                go_wp2_with fail
                go_roundg (nodes.length - (k + 1))
                case measure => have := G.out; omega
                case rel => exact ⟨k + 1, rfl, by simp, by omega, HN.out, V.out, VA.out⟩
          · have hke := Lib.hid (show k = nodes.length by omega)
            have hT3 : (0 : Int) = T := by
              have := HT.out
              rw [hke.out, List.drop_eq_nil_of_le (by simp)] at this
              exact this
            subst hT3
            go_wp2_with fail
            go_ret
            exact ⟨rfl, Y.out⟩
      · have hT3 : E = T := by
          have := HL.out
          rw [if_neg hE0] at this
          exact this
        subst hT3
        go_wp2_with fail
        go_ret
        exact ⟨rfl, V.out⟩
end Go.Proofs.YtnnckjgafglgeaaDoor
