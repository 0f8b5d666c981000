/- slices.Insert of one timer where there is no room. -/
import Derived.Test.YtpmklganodlciaaT12
import Derived.Lib.AppendZerosOnto
namespace Go.Proofs.Ytpmklganodlciaa
open Go.RowKit

theorem grow_list (A F T D X : List Value) (i n : Nat) (hF : F.length = i * 5) (hT : T.length = 5) (hD : D.length = (n - i) * 5) (hi : i ≤ n) (hA : A.take (i * 5) = F) :
    ((A.take (i * 5) ++ T ++ A.drop (i * 5 + T.length)).take ((i + 1) * 5) ++ D ++ X).take ((n + 1) * 5) = F ++ T ++ D := by
  have h1 : (A.take (i * 5) ++ T ++ A.drop (i * 5 + T.length)).take ((i + 1) * 5) = F ++ T := by
    rw [hA, List.take_append_of_le_length (by simp only [List.length_append]; omega), List.take_of_length_le (by simp only [List.length_append]; omega)]
  rw [h1, List.take_append_of_le_length (by simp only [List.length_append]; omega), List.take_of_length_le (by simp only [List.length_append]; omega)]
theorem zero_size (z : Array Value) (k : Nat) : (Builtin.zeroCells z k).size = k * z.size := by simp [Builtin.zeroCells]
set_option maxRecDepth 100000 in
set_option maxHeartbeats 4000000 in
theorem ins_grow (g cap B i vb : Nat) (l : List Tim) (t : Tim) (w : World) (h : w.ownsRow B 49 5 (.slice (some ⟨g, 0, none⟩) l.length cap) l.length (l.flatMap Tim.c)) (hi : i < l.length) (hl : l.length ≤ 1000) (hroom : cap < l.length + 1) (hBw : B ≤ w.heap.size)
    (hv : w.heap[vb]? = some (.cells #[.int .i64 t.id, .int .i64 t.at_, .int .i64 t.every, .int .i64 t.turn, .string t.call] 49 (0, 0))) :
    Calls Try.prog 50 #[.slice (some ⟨g, 0, none⟩) l.length cap, .int .i64 (i : Int), .slice (some ⟨vb, 0, none⟩) 1 1] w fun e w' => ∃ v', e = .returned v' ∧ w'.ownsRow B 49 5 v' (l.length + 1) ((l.take i).flatMap Tim.c ++ Tim.c t ++ (l.drop i).flatMap Tim.c) ∧ w.grownBy w' (some g) ∧ (∀ k, v'.ownBlock = some k → w.heap.size ≤ k) := by
  obtain ⟨i0, hi0, hz0, hz1, hz2⟩ := info_parts tim_info
  obtain ⟨cur, hB, hh, hcl, hcm, hcs, htk⟩ : ∃ cur, B ≤ g ∧ w.heap[g]? = some (.cells cur 49 (0, 0)) ∧ l.length ≤ cap ∧ cap ≤ maxLen ∧ cur.size = cap * 5 ∧ cur.toList.take (l.length * 5) = l.flatMap Tim.c := by
    rcases h.2 with ⟨e1, _⟩ | ⟨g', cap', cur, e1, e2, e3, e4, e5, e6, e7⟩
    · cases e1
    · cases e1; exact ⟨cur, e2, e3, e4, e5, e6, e7⟩
  obtain rfl : cap = l.length := by omega
  have HO := Lib.hid h
  have HV := Lib.hid hv
  have HH := Lib.hid hh
  clear h hv hh hcs htk hcm
  have k1 : (i : Int) < (l.length : Int) := by omega
  have k2 : (0 : Int) ≤ (i : Int) := by omega
  have k4 : (l.length : Int) ≤ 1000 := by omega
  have k6 : (i : Int) ≤ (l.length : Int) := by omega
  have k7 : ¬ l.length = i := by omega
  have k9 : ((i : Int) == (l.length : Int)) = false := beq_eq_false_iff_ne.2 (by omega)
  have k10 : (l.length : Int) < (l.length : Int) + 1 := by omega
  have k11 : (0 : Int) ≤ (l.length : Int) + 1 - (i : Int) := by omega
  have hT : (Tim.c t).length = 5 := rfl
  have hF : ((l.take i).flatMap Tim.c).length = i * 5 := by rw [flat_len Tim.c 5 Tim.len, List.length_take]; omega
  have hD : ((l.drop i).flatMap Tim.c).length = (l.length - i) * 5 := by rw [flat_len Tim.c 5 Tim.len, List.length_drop]
  obtain ⟨C, hC⟩ : ∃ C, grownCap w (l.length + 1) l.length 49 = C := ⟨_, rfl⟩
  have hC1 : l.length + 1 ≤ C := by rw [← hC]; exact grownCap_ge w _ _ _
  have hC2 : C ≤ maxLen := by rw [← hC]; exact grownCap_le_maxLen w _ _ _ (by unfold maxLen; omega)
  have hC3 : C ≤ 9223372036854775807 := by simp only [maxLen] at hC2; omega
  have hold : (Builtin.firstCells i0.size i (.slice (some ⟨g, 0, none⟩) i l.length)).run Try.prog w.drew = .ok ((l.take i).flatMap Tim.c).toArray w.drew := by
    have h9 := run_loadCells_list (P := Try.prog) w.drew ⟨g, 0, none⟩ ((l.take i).flatMap Tim.c) ((own_take Tim.len (own_drew HO.out) i (by omega)).cells (g := g) rfl)
    rw [hF] at h9
    rw [hz1]
    exact h9
  have hk : ((l.length : Int) + 1 - (i : Int)) = ((l.length + 1 - i : Nat) : Int) := by omega
  have hap : ∀ ty, (Builtin.append_ #[24, 3] ty #[.slice (some ⟨g, 0, none⟩) i l.length, .int .i64 ((l.length + 1 - i : Nat) : Int)]).run Try.prog w = .ok (.slice (some ⟨w.heap.size, 0, none⟩) (l.length + 1) C) (w.drew.alloc (.cells (((l.take i).flatMap Tim.c).toArray ++ Builtin.zeroCells zTim.cells (l.length + 1 - i) ++ Builtin.zeroCells zTim.cells (C - (l.length + 1))) 49)) := by
    intro ty
    have h9 := Lib.run_append_grow_zeros (P := Try.prog) w 24 3 ty 49 i0 zTim .i64 .i64 Try.underlying24 Try.underlying3 hi0 hz0 (some ⟨g, 0, none⟩) i l.length _ hold (l.length + 1 - i) (by omega) (by rw [hz1]; decide) (by omega) (by omega) (by rw [hz2]; omega) (by rw [hz2]; exact growslice_fits (by omega) (by omega))
    rw [show i + (l.length + 1 - i) = l.length + 1 by omega, hC] at h9
    exact h9
  obtain ⟨A, hA⟩ : ∃ A, (((l.take i).flatMap Tim.c).toArray ++ Builtin.zeroCells zTim.cells (l.length + 1 - i) ++ Builtin.zeroCells zTim.cells (C - (l.length + 1))) = A := ⟨_, rfl⟩
  have hAs : A.size = C * 5 := by
    rw [← hA]
    simp only [Array.size_append, zero_size, List.size_toArray, hF]
    have : zTim.cells.size = 5 := rfl
    rw [this]
    omega
  have hAt : A.toList.take (i * 5) = (l.take i).flatMap Tim.c := by
    rw [← hA]
    simp only [Array.toList_append, List.append_assoc]
    rw [List.take_append_of_le_length (by rw [hF]; exact Nat.le_refl _), List.take_of_length_le (by rw [hF]; exact Nat.le_refl _)]
  rw [hA] at hap
  obtain ⟨G0, hG0⟩ : ∃ G0, w.heap.size = G0 := ⟨_, rfl⟩
  obtain ⟨W0, hW0⟩ : ∃ W0, w.drew.alloc (.cells A 49) = W0 := ⟨_, rfl⟩
  have hh0 : W0.heap[G0]? = some (.cells A 49 (0, 0)) := by rw [← hW0, ← hG0]; exact heap_alloc_new w.drew _
  have hg0 : w.grownBy W0 (some g) := by rw [← hW0]; exact ⟨rfl, rfl, rfl, by simp, fun k hk _ => Lib.alloc_old w.drew _ k hk⟩
  have hgg : W0.heap[g]? = some (.cells cur 49 (0, 0)) := by
    have hlt : g < w.heap.size := by
      rcases Nat.lt_or_ge g w.heap.size with h' | h'
      · exact h'
      · have h9 := HH.out; simp [Array.getElem?_eq_none h'] at h9
    rw [← hW0]; exact (Lib.alloc_old w.drew _ g hlt).trans HH.out
  have hgv : W0.heap[vb]? = some (.cells #[.int .i64 t.id, .int .i64 t.at_, .int .i64 t.every, .int .i64 t.turn, .string t.call] 49 (0, 0)) := by
    have hlt : vb < w.heap.size := by
      rcases Nat.lt_or_ge vb w.heap.size with h' | h'
      · exact h'
      · have h9 := HV.out; simp [Array.getElem?_eq_none h'] at h9
    rw [← hW0]; exact (Lib.alloc_old w.drew _ vb hlt).trans HV.out
  have hownW0 : W0.ownsRow B 49 5 (.slice (some ⟨g, 0, none⟩) l.length l.length) l.length (l.flatMap Tim.c) := by rw [← hW0]; exact (own_drew HO.out).alloc _
  rw [hW0, hG0] at hap
  have hBG : B ≤ G0 := by omega
  have hgG : g ≠ G0 := by
    intro e
    rw [← hG0] at e
    have h9 := HH.out
    rw [e] at h9
    simp at h9
  have h1c : ∀ u ∈ Tim.c t, u.oneCell' = true := by have := tim_one [t]; simpa using this
  -- the first copy
  have hAl : A.toList.length = C * 5 := by rw [Array.length_toList]; exact hAs
  obtain ⟨X1, hX1⟩ : ∃ X1, (A.toList.take (i * 5) ++ Tim.c t ++ A.toList.drop (i * 5 + (Tim.c t).length)) = X1 := ⟨_, rfl⟩
  have hX1l : X1.length = C * 5 := by rw [← hX1]; simp only [List.length_append, List.length_take, List.length_drop, hT, hAl]; omega
  have hcp1 : ∀ ty W, W.heap = W0.heap → (Builtin.copy_ #[24, 24] ty #[.slice (some ⟨G0, i * 5, none⟩) (l.length + 1 - i) (C - i), .slice (some ⟨vb, 0, none⟩) 1 1]).run Try.prog W = .ok (goInt (Nat.min 1 (l.length + 1 - i))) (W.setRow G0 X1.toArray) := by
    intro ty W hW
    have h9 := run_copy_items (P := Try.prog) W 24 24 ty 49 G0 (i * 5) (l.length + 1 - i) (C - i) ⟨vb, 0, none⟩ 1 1 5 A 49 (Tim.c t) Try.underlying24 (by kernel_rfl) (by rw [hW]; exact hh0) (by rw [hT, show Nat.min 1 (l.length + 1 - i) = 1 from Nat.min_eq_left (by omega)]) (World.news_of_block (by rw [hW]; exact hgv)) (by rw [hT, hAs]; omega) h1c
    rw [hX1] at h9
    exact h9
  have HCP1 := Lib.hid hcp1
  have HAP := Lib.hid hap
  clear hcp1 hap
  go_enter Try.func50, Try.ntmps50
  go_wp2_with (at_builtin; refine Lib.wpList_append_run _ rfl (.tmp 34) (.tmp 39) 24 3 rfl _ _ rfl rfl _ _ (HAP.out _) ?_)
  obtain ⟨W1, hW1⟩ : ∃ W1, W0.setRow G0 X1.toArray = W1 := ⟨_, rfl⟩
  have hcp1 : ∀ ty, (Builtin.copy_ #[24, 24] ty #[.slice (some ⟨G0, i * 5, none⟩) (l.length + 1 - i) (C - i), .slice (some ⟨vb, 0, none⟩) 1 1]).run Try.prog W0 = .ok (goInt (Nat.min 1 (l.length + 1 - i))) W1 := fun ty => by rw [← hW1]; exact HCP1.out ty W0 rfl
  have hh1 : W1.heap[G0]? = some (.cells X1.toArray 49 (0, 0)) := by rw [← hW1]; exact setRow_heap W0 G0 A _ 49 _ hh0
  have hg1 : w.grownBy W1 (some g) := by
    rw [← hW1]
    refine ⟨hg0.os, hg0.tape, hg0.output, by rw [size_setRow]; exact hg0.size, fun k hk hne' => ?_⟩
    rw [setRow_other W0 G0 k _ (by omega)]
    exact hg0.block k hk hne'
  have hown1 : W1.ownsRow B 49 5 (.slice (some ⟨g, 0, none⟩) l.length l.length) l.length (l.flatMap Tim.c) := by
    refine ⟨hownW0.1, ?_⟩
    rcases hownW0.2 with ⟨e1, _⟩ | ⟨g', cap', cur', e1, e2, e3, e4⟩
    · cases e1
    · cases e1
      exact .inr ⟨g, l.length, cur', rfl, e2, by rw [← hW1, setRow_other W0 G0 g _ hgG]; exact e3, e4⟩
  obtain ⟨X2, hX2⟩ : ∃ X2, (X1.take ((i + 1) * 5) ++ (l.drop i).flatMap Tim.c ++ X1.drop ((i + 1) * 5 + ((l.drop i).flatMap Tim.c).length)) = X2 := ⟨_, rfl⟩
  have hX2l : X2.length = C * 5 := by rw [← hX2]; simp only [List.length_append, List.length_take, List.length_drop, hD, hX1l]; omega
  have hX2t : X2.take ((l.length + 1) * 5) = (l.take i).flatMap Tim.c ++ Tim.c t ++ (l.drop i).flatMap Tim.c := by
    rw [← hX2, ← hX1]
    exact grow_list A.toList _ (Tim.c t) _ _ i l.length hF hT hD (by omega) hAt
  have hcp2 : ∀ ty W, W.heap = W1.heap → (Builtin.copy_ #[24, 24] ty #[.slice (some ⟨G0, (i + 1) * 5, none⟩) (l.length - i) (C - (i + 1)), .slice (some ⟨g, i * 5, none⟩) (l.length - i) (l.length - i)]).run Try.prog W = .ok (goInt (Nat.min (l.length - i) (l.length - i))) (W.setRow G0 X2.toArray) := by
    intro ty W hW
    have hoW : W.ownsRow B 49 5 (.slice (some ⟨g, 0, none⟩) l.length l.length) l.length (l.flatMap Tim.c) := by
      refine ⟨hown1.1, ?_⟩
      rw [hW]
      exact hown1.2
    have h9 := run_copy_items (P := Try.prog) W 24 24 ty 49 G0 ((i + 1) * 5) (l.length - i) (C - (i + 1)) ⟨g, i * 5, none⟩ (l.length - i) (l.length - i) 5 X1.toArray 49 ((l.drop i).flatMap Tim.c) Try.underlying24 (by kernel_rfl) (by rw [hW]; exact hh1) (by rw [hD]; congr 1; exact (Nat.min_self _).symm) (own_news Tim.len hoW i) (by rw [hD]; show (i + 1) * 5 + _ ≤ X1.length; rw [hX1l]; omega) (tim_one _)
    rw [hX2] at h9
    exact h9
  have XF : Hid (∀ W : World, W.heap = W1.heap → (W.setRow G0 X2.toArray).ownsRow B 49 5 (.slice (some ⟨G0, 0, none⟩) (l.length + 1) C) (l.length + 1) ((l.take i).flatMap Tim.c ++ Tim.c t ++ (l.drop i).flatMap Tim.c)) := Lib.hid (fun W hW =>
    own_of_row hBG (setRow_heap W G0 _ _ 49 _ (by rw [hW]; exact hh1)) hC1 hC2 (by rw [List.size_toArray]; exact hX2l) hX2t (by simp only [List.length_append, hF, hT, hD]; omega))
  have HCP2 := Lib.hid hcp2
  have HG1 := Lib.hid hg1
  have hg0s := hG0
  clear hW1 hcp2 hown1 hX2 hX2l hX2t hX1 hX1l hh1 hg1 hownW0 hgv hgg hh0 hg0 HCP1 HAP hold hAt hAl hAs hF hT hD h1c
  go_wp2_with fail
  rw [hcp1]
  go_wp2_with fail
  clear hcp1
  have hmm : Nat.min (l.length - i) (l.length - i) = l.length - i := Nat.min_self _
  have hc2 : ∀ ty, (Builtin.copy_ #[24, 24] ty #[.slice (some ⟨G0, (i + 1) * 5, none⟩) (l.length - i) (C - (i + 1)), .slice (some ⟨g, i * 5, none⟩) (l.length - i) (l.length - i)]).run Try.prog W1.drew = .ok (goInt ((l.length - i : Nat) : Int)) (W1.drew.setRow G0 X2.toArray) := fun ty => by
    have h9 := HCP2.out ty W1.drew rfl
    rw [hmm] at h9
    exact h9
  go_region
  go_wp2_with fail
  go_ret
  refine ⟨_, rfl, XF.out W1.drew rfl, ?_, fun k hk => by injection hk with hk; simp only at hk; omega⟩
  have hg1 := HG1.out
  refine ⟨hg1.os, hg1.tape, hg1.output, by rw [size_setRow]; exact hg1.size, fun k hk hne' => ?_⟩
  rw [setRow_other W1.drew G0 k _ (by omega)]
  exact hg1.block k hk hne'
end Go.Proofs.Ytpmklganodlciaa
