/- The contract of (*walker).come. -/
import Derived.Test.YtcnplnnpiobikaaH5
import Derived.Deep.AppendLies
import Derived.Deep.RegionLaw
namespace Go.Proofs.Ytcnplnnpiobikaa
open Go.RowKit

theorem call33 (args : Array Value) (w : World) : Sem.run Try.prog (callFunc 33 args) w = .ok (.enter 33 args) w := by go_simp
theorem call38 (args : Array Value) (w : World) : Sem.run Try.prog (callFunc 38 args) w = .ok (.enter 38 args) w := by go_simp
theorem kids_at (h : List Cl) (m : Nat) (hm : m < h.length) : kids h (m : Int) = h[m].vals := by
  unfold kids
  rw [Int.toNat_natCast, List.getElem?_eq_getElem hm]
  rfl
theorem to_cell {w0 wr : World} {S n m : Nat} {hv tv ac av : Value} {all : List Int} (h : WK w0 wr S hv tv ac av (toOf n all) all) (hm : m < n) : ∃ g c, tv = .slice (some ⟨g, 0, none⟩) n c ∧ wr.cell? ⟨g, m, none⟩ = some (.int .i64 (idxP (fun x => x == (m : Int)) all)) ∧ wr.frozen? ⟨g, m, none⟩ = false := by
  have ht := h.tor
  obtain ⟨a, c, rfl⟩ := own_shape ht
  rw [toOf_len] at ht
  obtain ⟨g, rfl⟩ := own_some ht (by omega)
  have hs := own_int h.tor
  obtain ⟨b, o, e, hi⟩ := hs.item m (by rw [toOf_len]; exact hm)
  injection e with e
  injection e with e e2 _
  subst e
  subst e2
  refine ⟨g, c, by rw [toOf_len], ?_, ?_⟩
  · have e3 : (toOf n all)[m]'(by rw [toOf_len]; exact hm) = idxP (fun x => x == (m : Int)) all := toOf_get n all m hm
    rw [e3] at hi
    have := hi
    unfold IntAt at this
    rwa [Nat.mul_one, Nat.zero_add] at this
  · have hc := hs.cap
    rw [toOf_len] at hc
    exact (own_room ht m (by omega)).2
set_option maxRecDepth 100000 in
set_option maxHeartbeats 16000000 in
theorem come_any (w0 : World) (S : Nat) (ha : Option Addr) (hc : Nat) (tv : Value) (h : List Cl) (hh : HeapAt w0 (.slice ha h.length hc) h) (hf : AllFit h) (h300 : h.length ≤ 300) : ∀ (f : Nat) (all : List Int) (v : JV) (w : World), h.length + 1 ≤ f + all.length → St h all → Fit h v → WKX w0 w S (.slice ha h.length hc) tv h.length all →
    Calls Try.prog 33 #[.pointer (some ⟨S, 0, none⟩), JV.v v] w fun e w' => e = .returned (.tuple #[]) ∧ WKX w0 w' S (.slice ha h.length hc) tv h.length (comeF h f all v)
  | 0, all, v, w, hl, s, _, _ => by have := s.len; omega
  | f + 1, all, v, w, hl, s, hv, hx => by
    have IH := Lib.hid (come_any w0 S ha hc tv h hh hf h300 f)
    have HH := Lib.hid hh
    have HF := Lib.hid hf
    have HL := Lib.hid hl
    have HS := Lib.hid s
    have HV := Lib.hid hv
    have HRF := Lib.hid (fun w => ref_any v w)
    obtain ⟨R, hR⟩ : ∃ R, comeF h (f + 1) all v = R := ⟨_, rfl⟩
    rw [hR]
    unfold comeF at hR
    have HR := Lib.hid hR
    obtain ⟨q1, q2, q3⟩ := SlR.cap hh
    have hv2 : refV v < (h.length : Int) := hv
    clear hh hf hl s hv hR
    generalize refV v = r at *
    obtain ⟨k, n, ss⟩ := v
    have HRF2 : Hid (∀ w, Calls Try.prog 38 #[.agg #[.int .i64 k, .int .i64 n, .string ss]] w fun e w' => e = .returned (.int .i64 r) ∧ Below w.heap.size w w') := Lib.hid HRF.out
    clear HRF
    obtain ⟨av, hx⟩ := hx
    obtain ⟨aa, acap, rfl⟩ := own_shape hx.alr
    have X0 := Lib.hid hx
    clear hx
    obtain ⟨bi, gi0, gi1, gi2, gi3⟩ := info_parts int_info
    have q33 := call33
    have q38 := call38
    show Calls Try.prog 33 #[.pointer (some ⟨S, 0, none⟩), .agg #[.int .i64 k, .int .i64 n, .string ss]] w _
    go_enter Try.func33, Try.ntmps33
    obtain ⟨A, hA⟩ : ∃ A, w.heap.size = A := ⟨_, rfl⟩
    go_upto_region 1 with fail
    refine code_gen (Φ := fun wy => Hid (WK w0 wy S (.slice ha h.length hc) tv (.slice aa all.length acap) (.slice aa all.length acap) (toOf h.length all) all) ∧ Hid (wy.heap[A]? = some (.cells #[.int .i64 k, .int .i64 n, .string ss] 31 (0, 0)))) ⟨Lib.hid (X0.out.alloc _), Lib.hid (alloc_at hA _)⟩ ?_
    rintro w3 ⟨X, XA⟩
    clear hA X0
    obtain ⟨c0, c1, c2⟩ := cells3 XA.out
    go_wp2_with fail
    refine (HRF2.out _).mono ?_
    rintro e w4 ⟨rfl, hb4⟩
    have Y := Lib.hid (X.out.call hb4)
    clear hb4 X XA c0 c1 c2 HRF2
    by_cases hr0 : r < 0
    · have hr : R = all := by rw [← HR.out, if_pos (.inl hr0)]
      subst hr
      go_wp2_with fail
      refine bodyPost_ret (v := .tuple #[]) (by simp [results, Try.results33, go_sem]) rfl ?_
      exact ⟨rfl, _, Y.out⟩
    obtain ⟨m, rfl⟩ : ∃ m : Nat, r = (m : Int) := ⟨r.toNat, by omega⟩
    have hm : m < h.length := by omega
    have hmi : (m : Int) < (h.length : Int) := by omega
    obtain ⟨g, tc, rfl, t0, t1⟩ := to_cell Y.out hm
    obtain ⟨s0, s1, s2⟩ := cells3 Y.out.blk
    have HIX := Lib.hid (idx_in all (m : Int))
    have HT1 := Lib.hid t1
    obtain ⟨I, hI⟩ : ∃ I, idxP (fun x => x == (m : Int)) all = I := ⟨_, rfl⟩
    rw [hI] at t0 HIX
    clear hI t1
    by_cases hin : 0 ≤ I
    · have hr : R = all := by rw [← HR.out, if_pos (.inr (HIX.out.1 hin))]
      subst hr
      go_wp2_with fail
      refine bodyPost_ret (v := .tuple #[]) (by simp [results, Try.results33, go_sem]) rfl ?_
      exact ⟨rfl, _, Y.out⟩
    have hni : (m : Int) ∉ all := fun h' => hin (HIX.out.2 h')
    have HNI := Lib.hid hni
    have hr : ((kids h (m : Int)).foldl (comeF h f) (all ++ [(m : Int)])) = R := by rw [← HR.out, if_neg (fun h' => h'.elim (fun h' => hr0 h') hni)]
    have HR2 := Lib.hid hr
    clear HR hni hr HIX
    have h300i : (all.length : Int) ≤ 300 := by have := HS.out.len; omega
    have t1 := HT1.out
    clear HT1
    go_upto_region 3 with fail
    go_cut [] (fun wx => WK w0 wx S (.slice ha h.length hc) (.slice (some ⟨g, 0, none⟩) h.length tc) (.slice aa all.length acap) (.slice aa all.length acap) (toOf h.length (all ++ [(m : Int)])) all)
    case first =>
      go_region_with fail
      all_goals
        go_wp2_with fail
        go_meet
        rw [← toOf_step h.length all m HNI.out]
        first
        | exact (Y.out.tell m _).drew
        | exact Y.out.drew.tell m _
        | exact Y.out.tell m _
    case rest =>
      have Z := Lib.hid hcut
      clear hcut Y s0 s1 s2 t0 t1
      obtain ⟨s0, s1, s2⟩ := cells3 Z.out.blk
      have hal : all.length ≤ 300 := by have := HS.out.len; omega
      go_upto_region 4 with fail
      go_wp2_with (at_builtin; refine wpList_append_lies _ rfl (.tmp 36) (.tmp 38) 24 rfl w0.heap.size 3 bi (.int .i64 0) 1 8 Try.underlying24 gi0 gi1 gi2 gi3 rfl (by decide) (.slice aa all.length acap) _ _ rfl (Z.out.alr.alloc _) ⟨_, 0, none⟩ 1 1 [.int .i64 (m : Int)] rfl rfl (cell_new (m : Int) _ _) (one_int _) (by decide) (by unfold maxLen; omega) (by omega) (al_le Z.out.bl.size _) _ rfl ?_)
      intro g2 cap2 w7 hown hgrow hat _
      have V := Lib.hid ((Z.out.alloc _).push (m : Int) rfl hown hgrow (by simpa using hat))
      clear hown hgrow hat Z s0 s1 s2
      obtain ⟨s0, s1, s2⟩ := cells3 V.out.blk
      have f2 := Lib.frozen_of_heap V.out.blk 2
      have V2 := Lib.hid (V.out.put (.slice (some ⟨g2, 0, none⟩) (all.length + 1) cap2))
      go_upto_region 5 with fail
      refine code_gen (Φ := fun wy => Hid (WK w0 wy S (.slice ha h.length hc) (.slice (some ⟨g, 0, none⟩) h.length tc) (.slice (some ⟨g2, 0, none⟩) (all.length + 1) cap2) (.slice (some ⟨g2, 0, none⟩) (all.length + 1) cap2) (toOf h.length (all ++ [(m : Int)])) (all ++ [(m : Int)]))) V2 ?_
      intro w8 U
      clear V V2 s0 s1 s2 f2
      obtain ⟨s0, s1, s2⟩ := cells3 U.out.blk
      have HKA := Lib.hid (kids_at h m hm)
      obtain ⟨b, o, rfl, hcl⟩ := HH.out.item m hm
      rw [HKA.out] at HR2
      have HKF := Lib.hid (show ∀ x ∈ h[m].vals, Fit h x from fun x hx => HF.out (m : Int) x (by rw [HKA.out]; exact hx))
      have HWE := Lib.hid (fun (j : Nat) => fold_went HF.out f (h[m].vals.take j) (all ++ [(m : Int)]) (fun x hx => HKF.out x (List.mem_of_mem_take hx)) ⟨by
        rw [List.nodup_append]
        refine ⟨HS.out.nd, by simp, fun a ha b hb => ?_⟩
        rw [List.mem_singleton] at hb
        subst hb
        exact fun e => HNI.out (e ▸ ha), fun n hn => by
        rcases List.mem_append.1 hn with hn | hn
        · exact HS.out.va n hn
        · rw [List.mem_singleton] at hn
          subst hn
          omega⟩ (by rw [List.length_append]; simp only [List.length_cons, List.length_nil]; have := HL.out; omega))
      clear HKA
      generalize h[m] = C at *
      obtain ⟨kd, nms, vls⟩ := C
      obtain ⟨na, nc, va, vc, d0, d1, d2, d3, d4⟩ := hcl.ex
      simp only at d0 d1 d2 d3 d4 HR2 HKF HWE
      have HVL := Lib.hid d4
      have x2 := kc U.out.bl d2
      obtain ⟨v1, v2, v3⟩ := SlR.cap d4
      clear hcl d0 d1 d2 d3 d4
      go_upto_region 6 with fail
      clear s0 s1 s2 x2
      go_loopg [51, 6] vls.length (fun gg v51 _ wr => ∃ j : Nat, gg = vls.length - j ∧ j ≤ vls.length ∧ v51 = .int .i64 (j : Int) ∧ WKX w0 wr S (.slice (some ⟨b, o, none⟩) h.length hc) (.slice (some ⟨g, 0, none⟩) h.length tc) h.length ((vls.take j).foldl (comeF h f) (all ++ [(m : Int)])))
      case atStart => exact ⟨0, rfl, Nat.zero_le _, rfl, _, U.out⟩
      case round =>
        clear U
        obtain ⟨j, hg, hj, rfl, hx⟩ := hrel
        have G := Lib.hid hg
        have X := Lib.hid hx
        clear hg hx
        by_cases hlt : j < vls.length
        · have hji : (j : Int) < (vls.length : Int) := by omega
          have HST := Lib.hid (show (vls.take (j + 1)).foldl (comeF h f) (all ++ [(m : Int)]) = comeF h f ((vls.take j).foldl (comeF h f) (all ++ [(m : Int)])) vls[j] by rw [List.take_add_one, List.getElem?_eq_getElem hlt, List.foldl_append]; rfl)
          have HW := Lib.hid (HWE.out j)
          have HFJ := Lib.hid (HKF.out vls[j] (List.getElem_mem hlt))
          obtain ⟨b2, o2, rfl, hjv⟩ := HVL.out.item j hlt
          generalize vls[j] = V at *
          generalize (vls.take j).foldl (comeF h f) (all ++ [(m : Int)]) = al at *
          obtain ⟨av, hx⟩ := X.out
          have X2 := Lib.hid hx
          obtain ⟨l0, l1, l2⟩ := hjv.below hx.bl
          clear hx hjv X
          have HIH := Lib.hid (fun (wz : World) (hz : WK w0 wz S (.slice (some ⟨b, o, none⟩) h.length hc) (.slice (some ⟨g, 0, none⟩) h.length tc) av av (toOf h.length al) al) => IH.out al V wz (by have h1 := HW.out.length; rw [List.length_append] at h1; simp only [List.length_cons, List.length_nil] at h1; have := HL.out; omega) HW.out.st HFJ.out ⟨av, hz⟩)
          rw [← HST.out] at HIH
          obtain ⟨k', n', s'⟩ := V
          simp only at l0 l1 l2
          have HI2 : Hid (∀ wz, WK w0 wz S (.slice (some ⟨b, o, none⟩) h.length hc) (.slice (some ⟨g, 0, none⟩) h.length tc) av av (toOf h.length al) al → Calls Try.prog 33 #[.pointer (some ⟨S, 0, none⟩), .agg #[.int .i64 k', .int .i64 n', .string s']] wz fun e w' => e = .returned (.tuple #[]) ∧ WKX w0 w' S (.slice (some ⟨b, o, none⟩) h.length hc) (.slice (some ⟨g, 0, none⟩) h.length tc) h.length ((vls.take (j + 1)).foldl (comeF h f) (all ++ [(m : Int)]))) := Lib.hid HIH.out
          clear HIH HST
          obtain ⟨Bv, hBv⟩ : ∃ Bv, wr.heap.size = Bv := ⟨_, rfl⟩
          go_upto_region 8 with fail
          refine code_gen (Φ := fun wy => Hid (WK w0 wy S (.slice (some ⟨b, o, none⟩) h.length hc) (.slice (some ⟨g, 0, none⟩) h.length tc) av av (toOf h.length al) al) ∧ Hid (wy.heap[Bv]? = some (.cells #[.int .i64 k', .int .i64 n', .string s'] 31 (0, 0)))) ⟨Lib.hid (X2.out.alloc _), Lib.hid (alloc_at hBv _)⟩ ?_
          rintro w9 ⟨T, TB⟩
          clear hBv X2 l0 l1 l2
          obtain ⟨l0, l1, l2⟩ := cells3 TB.out
          go_wp2_with fail
          refine (HI2.out _ T.out).mono ?_
          rintro e w10 ⟨rfl, hx10⟩
          have X10 := Lib.hid hx10
          clear hx10 T TB l0 l1 l2 HI2
          go_wp2_with fail
          go_roundg (vls.length - (j + 1))
          case measure => have := G.out; omega
          case rel => exact ⟨j + 1, rfl, by omega, by simp, X10.out⟩
        · have hje : j = vls.length := by omega
          have hnl : ¬ ((j : Int) < (vls.length : Int)) := by omega
          have XR := Lib.hid (show WKX w0 wr S (.slice (some ⟨b, o, none⟩) h.length hc) (.slice (some ⟨g, 0, none⟩) h.length tc) h.length R from by
            have h1 := X.out
            rw [hje, List.take_length, HR2.out] at h1
            exact h1)
          clear hje hlt hj X
          go_wp2_with fail
          refine bodyPost_end (v := .tuple #[]) (by simp [results, Try.results33, go_sem]) rfl ?_
          exact ⟨rfl, XR.out⟩
end Go.Proofs.Ytcnplnnpiobikaa
