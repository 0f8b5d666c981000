/- The contract of heap.walked. -/
import Derived.Test.YtcnplnnpiobikaaH6
import Derived.Deep.OwnRows
namespace Go.Proofs.Ytcnplnnpiobikaa
open Go.RowKit

theorem made_ints (n : Nat) : (madeCells #[Value.int .i64 0] n).toList = (List.replicate n (0 : Int)).map nV := by
  apply List.ext_getElem
  · simp [madeCells]
  · intro i h1 h2
    simp [madeCells, Nat.mod_one, nV]
theorem WK.start (w : World) (hv : Value) (n : Nat) (hn : n ≤ maxLen) : WK w ((w.alloc (.cells (madeCells #[.int .i64 0] n) 3)).alloc (.cells #[hv, .slice (some ⟨w.heap.size, 0, none⟩) n n, .slice none 0 0] 53)) (w.heap.size + 1) hv (.slice (some ⟨w.heap.size, 0, none⟩) n n) (.slice none 0 0) (.slice none 0 0) (List.replicate n 0) [] where
  bl := ((Below.refl _ _).alloc (Nat.le_refl _) _).alloc (by simp) _
  hS := by omega
  blk := alloc_at (by simp) _
  tor := by
    rw [List.length_replicate]
    refine ⟨by simp, .inr ⟨w.heap.size, n, _, rfl, Nat.le_refl _, alloc_keep (alloc_at rfl _) _, Nat.le_refl _, hn, by rw [size_madeCells]; omega, ?_⟩⟩
    rw [made_ints, List.take_of_length_le (by simp)]
  alr := World.ownsRow_nil _ _ _ _
  dj g _ := by simp [Value.ownBlock]
  tS := by simp [Value.ownBlock]
  aS := by simp [Value.ownBlock]
def filled (n k : Nat) : List Int := List.replicate k (-1) ++ List.replicate (n - k) 0
theorem filled_len (n k : Nat) (h : k ≤ n) : (filled n k).length = n := by simp [filled]; omega
theorem filled_step (n k : Nat) (h : k < n) : (filled n k).set k (-1) = filled n (k + 1) := by
  unfold filled
  rw [List.set_append_right _ _ (by simp), List.length_replicate, Nat.sub_self, show n - k = (n - (k + 1)) + 1 by omega, List.replicate_succ, List.set_cons_zero, List.replicate_succ']
  simp
theorem filled_end (n : Nat) : filled n n = toOf n [] := by
  unfold filled toOf
  rw [Nat.sub_self]
  apply List.ext_getElem
  · simp
  · intro i h1 h2
    simp [idxP]
theorem call20 (args : Array Value) (w : World) : Sem.run Try.prog (callFunc 20 args) w = .ok (.enter 20 args) w := by go_simp
set_option maxRecDepth 100000 in
set_option maxHeartbeats 16000000 in
theorem walked_any (a : Option Addr) (c : Nat) (h : List Cl) (ra : Option Addr) (rc : Nat) (roots : List JV) (w : World) (hh : HeapAt w (.slice a h.length c) h) (hr : SlR w JvAt 3 (.slice ra roots.length rc) roots) (hf : AllFit h) (hrf : ∀ x ∈ roots, Fit h x) (h300 : h.length ≤ 300) :
    Calls Try.prog 20 #[.slice a h.length c, .slice ra roots.length rc] w fun e w' => ∃ S tv, e = .returned (.pointer (some ⟨S, 0, none⟩)) ∧ WKX w w' S (.slice a h.length c) tv h.length (walkF h roots) := by
  have HRS := Lib.hid hr
  have HCO := Lib.hid (fun (S : Nat) (tv : Value) => come_any w S a c tv h hh hf h300 (h.length + 1))
  have HWE := Lib.hid (fun (k : Nat) => fold_went hf (h.length + 1) (roots.take k) [] (fun x hx => hrf x (List.mem_of_mem_take hx)) ⟨List.nodup_nil, fun n hn => by cases hn⟩ (by simp))
  have HRF := Lib.hid hrf
  obtain ⟨q1, q2, q3⟩ := SlR.cap hh
  obtain ⟨r1, r2, r3⟩ := SlR.cap hr
  clear hh hr hf hrf
  obtain ⟨bi, gi0, gi1, gi2, gi3⟩ := info_parts int_info
  have q33 := call33
  have h300i : (h.length : Int) ≤ 300 := by omega
  obtain ⟨R, hR⟩ : ∃ R, walkF h roots = R := ⟨_, rfl⟩
  rw [hR]
  have HR := Lib.hid (show roots.foldl (comeF h (h.length + 1)) [] = R from hR)
  clear hR
  go_enter Try.func20, Try.ntmps20
  obtain ⟨M, hM⟩ : ∃ M, w.heap.size = M := ⟨_, rfl⟩
  go_upto_region 2 with (refine wpList_make_row _ rfl _ _ 24 rfl 3 bi (.int .i64 0) (by rfl) gi0 gi1 gi2 (by rfl) .i64 .i64 h.length (by rfl) (by rfl) (by rw [gi3]; omega) (by omega) ?_)
  refine code_gen (Φ := fun wy => Hid (WK w wy (M + 1) (.slice a h.length c) (.slice (some ⟨M, 0, none⟩) h.length h.length) (.slice none 0 0) (.slice none 0 0) (filled h.length 0) [])) (Lib.hid (by have := WK.start w (.slice a h.length c) h.length (by unfold maxLen; omega); rw [hM] at this; simpa [filled] using this)) ?_
  intro w3 X
  have HM := Lib.hid hM
  clear hM
  obtain ⟨s0, s1, s2⟩ := cells3 X.out.blk
  go_upto_region 3 with fail
  clear s0 s1 s2
  go_loopg [20, 6] h.length (fun g v20 _ wr => ∃ k : Nat, g = h.length - k ∧ k ≤ h.length ∧ v20 = .int .i64 (k : Int) ∧ WK w wr (M + 1) (.slice a h.length c) (.slice (some ⟨M, 0, none⟩) h.length h.length) (.slice none 0 0) (.slice none 0 0) (filled h.length k) [])
  case atStart => exact ⟨0, rfl, Nat.zero_le _, rfl, X.out⟩
  case round =>
    clear X
    obtain ⟨k, hg, hk, rfl, hx⟩ := hrel
    have G := Lib.hid hg
    have X := Lib.hid hx
    clear hg hx
    by_cases hlt : k < h.length
    · have hki : (k : Int) < (h.length : Int) := by omega
      have hrm := own_room X.out.tor k (by omega)
      obtain ⟨x0, y0⟩ := Option.isSome_iff_exists.1 hrm.1
      have z0 := hrm.2
      obtain ⟨s0, s1, s2⟩ := cells3 X.out.blk
      have X2 := Lib.hid (X.out.tell k (-1))
      rw [filled_step h.length k hlt] at X2
      clear hrm
      go_wp2_with fail
      go_roundg (h.length - (k + 1))
      case measure => have := G.out; omega
      case rel => exact ⟨k + 1, rfl, by omega, by simp, X2.out⟩
    · have hke : k = h.length := by omega
      have hnl : ¬ ((k : Int) < (h.length : Int)) := by omega
      have Y := Lib.hid (show WKX w wr (M + 1) (.slice a h.length c) (.slice (some ⟨M, 0, none⟩) h.length h.length) h.length [] from ⟨_, by
        have h1 := X.out
        rw [hke, filled_end] at h1
        exact h1⟩)
      clear X hke hlt hk G
      go_upto_region 8 with fail
      go_loopg [32, 8] roots.length (fun g v32 _ wz => ∃ k : Nat, g = roots.length - k ∧ k ≤ roots.length ∧ v32 = .int .i64 (k : Int) ∧ WKX w wz (M + 1) (.slice a h.length c) (.slice (some ⟨M, 0, none⟩) h.length h.length) h.length ((roots.take k).foldl (comeF h (h.length + 1)) []))
      case atStart => exact ⟨0, rfl, Nat.zero_le _, rfl, Y.out⟩
      case round =>
        clear Y hnl
        obtain ⟨j, hg, hj, rfl, hx⟩ := hrel
        have G := Lib.hid hg
        have X := Lib.hid hx
        clear hg hx
        by_cases hlt : j < roots.length
        · have hji : (j : Int) < (roots.length : Int) := by omega
          have HST := Lib.hid (show (roots.take (j + 1)).foldl (comeF h (h.length + 1)) [] = comeF h (h.length + 1) ((roots.take j).foldl (comeF h (h.length + 1)) []) roots[j] by rw [List.take_add_one, List.getElem?_eq_getElem hlt, List.foldl_append]; rfl)
          have HW := Lib.hid (HWE.out j)
          have HFJ := Lib.hid (HRF.out roots[j] (List.getElem_mem hlt))
          obtain ⟨b2, o2, rfl, hjv⟩ := HRS.out.item j hlt
          generalize roots[j] = V at *
          generalize (roots.take j).foldl (comeF h (h.length + 1)) [] = al at *
          obtain ⟨av, hx⟩ := X.out
          have X2 := Lib.hid hx
          obtain ⟨l0, l1, l2⟩ := hjv.below hx.bl
          clear hx hjv X
          have HIH := Lib.hid (fun (wz : World) (hz : WK w wz (M + 1) (.slice a h.length c) (.slice (some ⟨M, 0, none⟩) h.length h.length) av av (toOf h.length al) al) => HCO.out (M + 1) (.slice (some ⟨M, 0, none⟩) h.length h.length) al V wz (by omega) HW.out.st HFJ.out ⟨av, hz⟩)
          rw [← HST.out] at HIH
          obtain ⟨k', n', s'⟩ := V
          simp only at l0 l1 l2
          have HI2 : Hid (∀ wz, WK w wz (M + 1) (.slice a h.length c) (.slice (some ⟨M, 0, none⟩) h.length h.length) av av (toOf h.length al) al → Calls Try.prog 33 #[.pointer (some ⟨M + 1, 0, none⟩), .agg #[.int .i64 k', .int .i64 n', .string s']] wz fun e w' => e = .returned (.tuple #[]) ∧ WKX w w' (M + 1) (.slice a h.length c) (.slice (some ⟨M, 0, none⟩) h.length h.length) h.length ((roots.take (j + 1)).foldl (comeF h (h.length + 1)) [])) := Lib.hid HIH.out
          clear HIH HST
          obtain ⟨Bv, hBv⟩ : ∃ Bv, wr.heap.size = Bv := ⟨_, rfl⟩
          go_upto_region 10 with fail
          refine code_gen (Φ := fun wy => Hid (WK w wy (M + 1) (.slice a h.length c) (.slice (some ⟨M, 0, none⟩) h.length h.length) av av (toOf h.length al) al) ∧ Hid (wy.heap[Bv]? = some (.cells #[.int .i64 k', .int .i64 n', .string s'] 31 (0, 0)))) ⟨Lib.hid (X2.out.alloc _), Lib.hid (alloc_at hBv _)⟩ ?_
          rintro w9 ⟨T, TB⟩
          clear hBv X2 l0 l1 l2
          obtain ⟨l0, l1, l2⟩ := cells3 TB.out
          go_wp2_with fail
          refine (HI2.out _ T.out).mono ?_
          rintro e w10 ⟨rfl, hx10⟩
          have X10 := Lib.hid hx10
          clear hx10 T TB l0 l1 l2 HI2
          go_wp2_with fail
          go_roundg (roots.length - (j + 1))
          case measure => have := G.out; omega
          case rel => exact ⟨j + 1, rfl, by omega, by simp, X10.out⟩
        · have hje : j = roots.length := by omega
          have hnl : ¬ ((j : Int) < (roots.length : Int)) := by omega
          have XR := Lib.hid (show WKX w wr (M + 1) (.slice a h.length c) (.slice (some ⟨M, 0, none⟩) h.length h.length) h.length R from by
            have h1 := X.out
            rw [hje, List.take_length, HR.out] at h1
            exact h1)
          clear hje hlt hj X
          go_wp2_with fail
          go_ret
          exact ⟨_, rfl, _, XR.out⟩
end Go.Proofs.Ytcnplnnpiobikaa
