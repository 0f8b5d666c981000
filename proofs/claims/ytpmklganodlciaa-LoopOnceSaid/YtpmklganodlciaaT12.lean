/- slices.Insert of one timer where there is room. -/
import Derived.Test.YtpmklganodlciaaT11
namespace Go.Proofs.Ytpmklganodlciaa
open Go.RowKit

theorem grown_row {W w : World} {g : Nat} (h : W.grownBy w (some g)) (cs : Array Value) : W.grownBy (w.setRow g cs) (some g) := by
  refine ⟨h.os, h.tape, h.output, by rw [size_setRow]; exact h.size, fun k hk hne => ?_⟩
  rw [← h.block k hk hne]
  have hgk : g ≠ k := fun e => hne (by rw [e])
  simp [World.setRow, Array.getElem?_modify, hgk]
set_option maxRecDepth 100000 in
set_option maxHeartbeats 4000000 in
theorem ins_room (g cap B i vb : Nat) (l : List Tim) (t : Tim) (w : World) (h : w.ownsRow B 49 5 (.slice (some ⟨g, 0, none⟩) l.length cap) l.length (l.flatMap Tim.c)) (hi : i < l.length) (hl : l.length ≤ 1000) (hroom : l.length + 1 ≤ cap) (hne : vb ≠ g)
    (hv : w.heap[vb]? = some (.cells #[.int .i64 t.id, .int .i64 t.at_, .int .i64 t.every, .int .i64 t.turn, .string t.call] 49 (0, 0))) :
    Calls Try.prog 50 #[.slice (some ⟨g, 0, none⟩) l.length cap, .int .i64 (i : Int), .slice (some ⟨vb, 0, none⟩) 1 1] w fun e w' => e = .returned (.slice (some ⟨g, 0, none⟩) (l.length + 1) cap) ∧ w'.ownsRow B 49 5 (.slice (some ⟨g, 0, none⟩) (l.length + 1) cap) (l.length + 1) ((l.take i).flatMap Tim.c ++ Tim.c t ++ (l.drop i).flatMap Tim.c) ∧ w.grownBy w' (some g) := by
  obtain ⟨cur, hB, hh, hcm, hcs, htk⟩ : ∃ cur, B ≤ g ∧ w.heap[g]? = some (.cells cur 49 (0, 0)) ∧ cap ≤ maxLen ∧ cur.size = cap * 5 ∧ cur.toList.take (l.length * 5) = l.flatMap Tim.c := by
    rcases h.2 with ⟨e1, _⟩ | ⟨g', cap', cur, e1, e2, e3, e4, e5, e6, e7⟩
    · cases e1
    · cases e1; exact ⟨cur, e2, e3, e5, e6, e7⟩
  have hc2 : cap ≤ 9223372036854775807 := by simp only [maxLen] at hcm; omega
  have HO := Lib.hid h
  have HV := Lib.hid hv
  have HH := Lib.hid hh
  have HCS := Lib.hid hcs
  have HTK := Lib.hid htk
  have HCM := Lib.hid hcm
  clear h hv hh hcs htk hcm
  have k1 : (i : Int) < (l.length : Int) := by omega
  have k2 : (0 : Int) ≤ (i : Int) := by omega
  have k3 : (l.length : Int) + 1 ≤ (cap : Int) := by omega
  have k4 : (l.length : Int) ≤ 1000 := by omega
  have k5 : (i : Int) + 1 ≤ (l.length : Int) + 1 := by omega
  have k6 : (i : Int) ≤ (cap : Int) := by omega
  have k7 : ¬ cap = i := by omega
  have k8 : (i : Int) + 1 ≤ (cap : Int) := by omega
  have k9 : ((i : Int) == (l.length : Int)) = false := beq_eq_false_iff_ne.2 (by omega)
  go_enter Try.func50, Try.ntmps50
  go_wp2_with fail
  have hov : (Extern.SlicesOverlaps.overlaps #[24, 24] #[4] #[.slice (some ⟨vb, 0, none⟩) 1 1, .slice (some ⟨g, (i + 1) * 5, none⟩) (l.length - i) (cap - (i + 1))]).run Try.prog w = .ok (.bool false) w :=
    Lib.run_overlaps_apart w 24 4 49 Try.underlying24 5 Try.sizeOf49 ⟨vb, 0, none⟩ ⟨g, (i + 1) * 5, none⟩ _ _ _ _ hne 49 49 5 cur.size (by have h9 := HV.out; simp [World.shape?, h9]) (by have h9 := HH.out; simp [World.shape?, h9]) (by rw [HCS.out]; omega) (by have h9 := HV.out; simp [World.frozen?, h9]) (by have h9 := HV.out; simp [World.frozen?, h9])
  rw [run_callFunc_extern Try.func51 (by kernel_rfl) (by kernel_rfl) (by kernel_rfl) (e := Extern.SlicesOverlaps.overlaps #[24, 24] #[4]) (by kernel_rfl)]
  rw [hov]
  simp only [Result.andThen]
  rw [Oper.upon_value]
  go_wp2_with fail
  have hD : ((l.drop i).flatMap Tim.c).length = (l.length - i) * 5 := by rw [flat_len Tim.c 5 Tim.len, List.length_drop]
  have hcul : cur.toList.length = cap * 5 := by rw [Array.length_toList]; exact HCS.out
  have hcp1 : ∀ ty, (Builtin.copy_ #[24, 24] ty #[.slice (some ⟨g, (i + 1) * 5, none⟩) (l.length - i) (cap - (i + 1)), .slice (some ⟨g, i * 5, none⟩) (l.length + 1 - i) (cap - i)]).run Try.prog w.drew = .ok (goInt (Nat.min (l.length + 1 - i) (l.length - i))) (w.drew.setRow g (cur.toList.take ((i + 1) * 5) ++ (l.drop i).flatMap Tim.c ++ cur.toList.drop ((i + 1) * 5 + ((l.drop i).flatMap Tim.c).length)).toArray) :=
    fun ty => run_copy_items w.drew 24 24 ty 49 g ((i + 1) * 5) _ _ ⟨g, i * 5, none⟩ _ _ 5 cur 49 ((l.drop i).flatMap Tim.c) Try.underlying24 (by kernel_rfl) HH.out (by rw [hD]; congr 1; show l.length - i = min (l.length + 1 - i) (l.length - i); omega) (own_news Tim.len (own_drew HO.out) i) (by rw [hD, HCS.out]; omega) (tim_one _)
  obtain ⟨W1, hW1⟩ : ∃ W1, w.drew.setRow g (cur.toList.take ((i + 1) * 5) ++ (l.drop i).flatMap Tim.c ++ cur.toList.drop ((i + 1) * 5 + ((l.drop i).flatMap Tim.c).length)).toArray = W1 := ⟨_, rfl⟩
  rw [hW1] at hcp1
  have hH1 : W1.heap[g]? = some (.cells (cur.toList.take ((i + 1) * 5) ++ (l.drop i).flatMap Tim.c ++ cur.toList.drop ((i + 1) * 5 + ((l.drop i).flatMap Tim.c).length)).toArray 49 (0, 0)) := by
    rw [← hW1]; exact setRow_heap w.drew g cur _ 49 _ HH.out
  have hG1 : w.grownBy W1 (some g) := by rw [← hW1]; exact grown_row (W := w) (w := w.drew) ⟨rfl, rfl, rfl, Nat.le_refl _, fun _ _ _ => rfl⟩ _
  have HH1 := Lib.hid hH1
  have HG1 := Lib.hid hG1
  clear hW1 hH1 hG1
  have hT : (Tim.c t).length = 5 := rfl
  have hF : ((l.take i).flatMap Tim.c).length = i * 5 := by rw [flat_len Tim.c 5 Tim.len, List.length_take]; omega
  obtain ⟨X1, hX1⟩ : ∃ X1, (cur.toList.take ((i + 1) * 5) ++ (l.drop i).flatMap Tim.c ++ cur.toList.drop ((i + 1) * 5 + ((l.drop i).flatMap Tim.c).length)) = X1 := ⟨_, rfl⟩
  have hX1l : X1.length = cap * 5 := by rw [← hX1]; simp only [List.length_append, List.length_take, List.length_drop, hD, hcul]; omega
  have hh1 := HH1.out
  rw [hX1] at hh1
  have h1c : ∀ u ∈ Tim.c t, u.oneCell' = true := by have := tim_one [t]; simpa using this
  have hvb1 : W1.heap[vb]? = some (.cells #[.int .i64 t.id, .int .i64 t.at_, .int .i64 t.every, .int .i64 t.turn, .string t.call] 49 (0, 0)) := by
    have hlt : vb < w.heap.size := by
      rcases Nat.lt_or_ge vb w.heap.size with h' | h'
      · exact h'
      · have h9 := HV.out; simp [Array.getElem?_eq_none h'] at h9
    exact (HG1.out.block vb hlt (fun e => hne (by injection e))).trans HV.out
  have hcp2 : ∀ ty, (Builtin.copy_ #[24, 24] ty #[.slice (some ⟨g, i * 5, none⟩) (l.length + 1 - i) (cap - i), .slice (some ⟨vb, 0, none⟩) 1 1]).run Try.prog W1 = .ok (goInt (Nat.min 1 (l.length + 1 - i))) (W1.setRow g (X1.take (i * 5) ++ Tim.c t ++ X1.drop (i * 5 + (Tim.c t).length)).toArray) :=
    fun ty => run_copy_items W1 24 24 ty 49 g (i * 5) _ _ ⟨vb, 0, none⟩ _ _ 5 X1.toArray 49 (Tim.c t) Try.underlying24 (by kernel_rfl) hh1 (by rw [hT, show Nat.min 1 (l.length + 1 - i) = 1 from Nat.min_eq_left (by omega)]) (World.news_of_block hvb1) (by rw [hT]; show i * 5 + 5 ≤ X1.length; omega) h1c
  have hrl := room_list cur.toList ((l.take i).flatMap Tim.c) (Tim.c t) ((l.drop i).flatMap Tim.c) i l.length hF hT hD (by omega) (by rw [HTK.out, ← List.flatMap_append, List.take_append_drop]) (by rw [hcul]; omega)
  rw [hX1] at hrl
  have hown : (W1.setRow g (X1.take (i * 5) ++ Tim.c t ++ X1.drop (i * 5 + (Tim.c t).length)).toArray).ownsRow B 49 5 (.slice (some ⟨g, 0, none⟩) (l.length + 1) cap) (l.length + 1) ((l.take i).flatMap Tim.c ++ Tim.c t ++ (l.drop i).flatMap Tim.c) :=
    own_of_row hB (setRow_heap W1 g _ _ 49 _ hh1) (by omega) HCM.out (by simp only [List.size_toArray, List.length_append, List.length_take, List.length_drop, hT]; omega) hrl (by simp only [List.length_append, hF, hT, hD]; omega)
  have hG2 : w.grownBy (W1.setRow g (X1.take (i * 5) ++ Tim.c t ++ X1.drop (i * 5 + (Tim.c t).length)).toArray) (some g) := grown_row HG1.out _
  obtain ⟨W2, hW2⟩ : ∃ W2, W1.setRow g (X1.take (i * 5) ++ Tim.c t ++ X1.drop (i * 5 + (Tim.c t).length)).toArray = W2 := ⟨_, rfl⟩
  rw [hW2] at hcp2 hown hG2
  have XO := Lib.hid hown
  have XG := Lib.hid hG2
  clear hW2 hown hG2 hrl hh1 hX1 hX1l hvb1 h1c hT hF hD hcul
  go_region
  all_goals
    go_wp2_with fail
    go_ret
    exact ⟨rfl, XO.out, XG.out⟩
end Go.Proofs.Ytpmklganodlciaa
