/- The contracts of slices.Grow and slices.Concat over texts. -/
import Derived.Lib.AppendZerosOnto
import Derived.Test.YtjcejijdeohkgaaGreatDoorW23
namespace Go.Proofs.YtjcejijdeohkgaaGreatDoor
open Go.RowKit

theorem call119 (args : Array Value) (w : World) : Sem.run Tryz.prog (callFunc 119 args) w = .ok (.enter 119 args) w := by go_simp
theorem call95 (args : Array Value) (w : World) : Sem.run Tryz.prog (callFunc 95 args) w = .ok (.enter 95 args) w := by go_simp
set_option maxRecDepth 100000 in
set_option maxHeartbeats 4000000 in
theorem grow_any (n : Nat) (hn : n ≤ 4194304) (w : World) : Calls Tryz.prog 119 #[.slice none 0 0, .int .i64 n] w fun e w' => ∃ v, e = .returned v ∧ w'.ownsRow w.heap.size 9 1 v 0 [] ∧ Below w.heap.size w w' := by
  obtain ⟨i0, hi0, hz0, hz1, hz2⟩ := info_parts str_info
  by_cases h0 : n = 0
  · subst h0
    go_enter Tryz.func119, Tryz.ntmps119
    go_wp2_with fail
    go_ret
    exact ⟨_, rfl, World.ownsRow_nil _ _ _ _, Below.refl _ _⟩
  · have hr : ∀ ty, (Builtin.append_ #[38, 3] ty #[.slice none 0 0, .int .i64 (n : Int)]).run Tryz.prog w =
      .ok (.slice (some ⟨w.heap.size, 0, none⟩) n (grownCap w n 0 9)) (w.drew.alloc (.cells (#[] ++ Builtin.zeroCells (Value.string ⟨#[]⟩).cells n ++ Builtin.zeroCells (Value.string ⟨#[]⟩).cells (grownCap w n 0 9 - n)) 9)) := fun ty => by
      have h := Lib.run_append_grow_zeros (P := Tryz.prog) w 38 3 ty 9 i0 (.string ⟨#[]⟩) .i64 .i64 Tryz.underlying38 Tryz.underlying3 hi0 hz0 none 0 0 [] (run_firstCells_none w.drew i0.size 0 0 0) n (by omega) (by omega) (by omega) (by omega) (by rw [hz2]; omega)
        (growslice_fits (by omega) (by rw [hz2]; omega))
      simpa using h
    have hge : n ≤ grownCap w n 0 9 := grownCap_ge w _ _ _
    have hle := grownCap_le_maxLen w n 0 9 (by unfold maxLen; omega)
    obtain ⟨G, hG⟩ : ∃ G, G = grownCap w n 0 9 := ⟨_, rfl⟩
    rw [← hG] at hr hge hle
    clear hG
    have hni : ¬ ((n : Int) < 0) := by omega
    have hn0 : (n : Int) > 0 := by omega
    have hle2 : G ≤ 9223372036854775807 := by unfold maxLen at hle; omega
    have h3 : wrap64 (n : Int) = (n : Int) := by unfold wrap64; omega
    have h4 : IntKind.i64.wrap (n : Int) = (n : Int) := by rw [IntKind.wrap_i64]; omega
    have HN := Lib.hid hn
    have HG := Lib.hid hge
    have HM := Lib.hid hle
    clear hn hge hle hi0 hz0 hz1 hz2
    go_enter Tryz.func119, Tryz.ntmps119
    go_wp2_with (at_builtin; refine Lib.wpList_append_run _ rfl _ _ _ _ rfl _ _ rfl rfl _ _ (hr _) ?_)
    go_ret
    refine ⟨_, rfl, ⟨rfl, .inr ⟨w.heap.size, G, _, rfl, Nat.le_refl _, alloc_at (w := w.drew) rfl _, Nat.zero_le _, HM.out, ?_, rfl⟩⟩, ?_⟩
    · simp only [Array.size_append, size_zeroCells]
      have := HG.out
      simp
      omega
    · have hb : Below w.heap.size w (w.alloc (.cells (Builtin.zeroCells #[.string ⟨#[]⟩] n ++ Builtin.zeroCells #[.string ⟨#[]⟩] (G - n)) 9)) := (Below.refl _ _).alloc (Nat.le_refl _) _
      exact ⟨hb.os, hb.tape, hb.output, hb.size, hb.block⟩
theorem str_cells {w : World} {a : Addr} {n c : Nat} {l : List Bs} (h : SlR w StrB 1 (.slice (some a) n c) l) : ∀ j u, (l.map sB)[j]? = some u → w.cell? (a.add j) = some u := by
  intro j u hu
  rw [List.getElem?_map] at hu
  obtain ⟨x, h1, rfl⟩ := Option.map_eq_some_iff.1 hu
  obtain ⟨hj, rfl⟩ := List.getElem?_eq_some_iff.1 h1
  obtain ⟨b, o, e1, h2⟩ := h.item j hj
  injection e1 with e1
  subst e1
  have h3 : w.cell? ⟨b, o + j * 1, none⟩ = some (.string (bs l[j])) := h2
  rw [Nat.mul_one] at h3
  show w.cell? (Addr.add ⟨b, o, none⟩ j) = some (sB l[j])
  unfold Addr.add
  split
  · rename_i h0; subst h0; exact h3
  · exact h3
theorem kc' {w w' : World} {p : Addr} {v : Value} (hb : Below w.heap.size w w') (h : w.cell? p = some v) : w'.cell? p = some v := by
  have hlt : p.block < w.heap.size := by
    rcases Nat.lt_or_ge p.block w.heap.size with h' | h'
    · exact h'
    · unfold World.cell? at h; rw [Array.getElem?_eq_none h'] at h; cases h
  unfold World.cell? at h ⊢
  rw [hb.block _ hlt]
  exact h
theorem one_strs (l : List Bs) : ∀ u ∈ l.map sB, u.oneCell' = true := by
  intro u hu
  obtain ⟨x, _, rfl⟩ := List.mem_map.1 hu
  rfl
set_option maxRecDepth 100000 in
set_option maxHeartbeats 4000000 in
theorem concat_any (A : Nat) (a1 a2 : Addr) (c1 c2 : Nat) (l1 l2 : List Bs) (w : World) (h1 : w.cell? ⟨A, 0, none⟩ = some (.slice (some a1) l1.length c1)) (h2 : w.cell? ⟨A, 1, none⟩ = some (.slice (some a2) l2.length c2))
    (s1 : SlR w StrB 1 (.slice (some a1) l1.length c1) l1) (s2 : SlR w StrB 1 (.slice (some a2) l2.length c2) l2) (hl1 : l1.length ≤ 1048576) (hl2 : l2.length ≤ 1048576) :
    Calls Tryz.prog 95 #[.slice (some ⟨A, 0, none⟩) 2 2] w fun e w' => ∃ v, e = .returned v ∧ w'.ownsRow w.heap.size 9 1 v (l1 ++ l2).length ((l1 ++ l2).map sB) ∧ Below w.heap.size w w' := by
  obtain ⟨i0, hi0, hz0, hz1, hz2⟩ := info_parts str_info
  have p119 := call119
  have cs1 := Lib.hid (str_cells s1)
  have cs2 := Lib.hid (str_cells s2)
  have H1 := Lib.hid hl1
  have H2 := Lib.hid hl2
  have hw1 : IntKind.i64.wrap (l1.length : Int) = (l1.length : Int) := by rw [IntKind.wrap_i64]; omega
  have hw2 : IntKind.i64.wrap ((l1.length : Int) + (l2.length : Int)) = (l1.length : Int) + (l2.length : Int) := by rw [IntKind.wrap_i64]; omega
  have hn1 : ¬ ((l1.length : Int) < 0) := by omega
  have hn2 : ¬ ((l1.length : Int) + (l2.length : Int) < 0) := by omega
  have HGR := Lib.hid (grow_any (l1.length + l2.length) (by omega) w)
  have hcast : ((l1.length + l2.length : Nat) : Int) = (l1.length : Int) + (l2.length : Int) := by omega
  rw [hcast] at HGR
  have LN : Hid (((l1 ++ l2).length = l1.length + l2.length) ∧ (l1 ++ l2).map sB = l1.map sB ++ l2.map sB) := Lib.hid ⟨by simp, by simp⟩
  rw [LN.out.1, LN.out.2]
  clear s1 s2 hl1 hl2 hcast LN
  go_enter Tryz.func95, Tryz.ntmps95
  go_wp2_with fail
  go_loopg [11, 3] 2 (fun n vk v3 wr => ∃ k : Nat, n = 2 - k ∧ k ≤ 2 ∧ vk = .int .i64 (k : Int) ∧ v3 = .int .i64 (if k = 0 then 0 else if k = 1 then (l1.length : Int) else (l1.length : Int) + (l2.length : Int)) ∧ wr = w)
  case atStart => exact ⟨0, rfl, by omega, rfl, rfl, rfl⟩
  case round =>
    obtain ⟨k, hg, hk, rfl, rfl, hwr⟩ := hrel
    have hwr' := hwr.symm
    clear hwr
    subst hwr'
    have G := Lib.hid hg
    clear hg
    obtain rfl | rfl | rfl : k = 0 ∨ k = 1 ∨ k = 2 := by omega
    · go_wp2_with fail
      go_roundg 1
      case measure => rw [G.out]; omega
      case rel => exact ⟨1, rfl, by omega, by simp, by simp, rfl⟩
    · go_wp2_with fail
      go_roundg 0
      case measure => rw [G.out]; omega
      case rel => exact ⟨2, rfl, by omega, by simp, by simp, rfl⟩
    · clear G
      go_wp2_with fail
      refine HGR.out.mono ?_
      rintro e w1 ⟨v, rfl, hown, hb⟩
      have O := Lib.hid hown
      have X := Lib.hid hb
      clear hown hb HGR
      obtain ⟨ga, gc, rfl⟩ := own_shape O.out
      go_wp2_with fail
      go_loopg [27, 6] 2 (fun n vk v3 wr => ∃ (k : Nat) (out : List Value), n = 2 - k ∧ k ≤ 2 ∧ vk = .int .i64 (k : Int) ∧ out = (if k = 0 then [] else if k = 1 then l1.map sB else l1.map sB ++ l2.map sB) ∧ wr.ownsRow w.heap.size 9 1 v3 out.length out ∧ Below w.heap.size w wr)
      case atStart => exact ⟨0, [], rfl, by omega, rfl, rfl, O.out, X.out⟩
      case round =>
        obtain ⟨k, out, hg, hk, rfl, ho, hown, hb⟩ := hrel
        obtain ⟨ov, hov⟩ : ∃ v, v = u6 := ⟨_, rfl⟩
        subst hov
        have G := Lib.hid hg
        have OO := Lib.hid ho
        have O5 := Lib.hid hown
        have Y := Lib.hid hb
        have x1 := kc Y.out h1
        have x2 := kc Y.out h2
        clear hg ho hown hb
        obtain rfl | rfl | rfl : k = 0 ∨ k = 1 ∨ k = 2 := by omega
        · have ho := OO.out
          simp only [if_true] at ho
          subst ho
          go_wp2_with (at_builtin; refine wpList_append_own _ rfl _ _ 38 rfl w.heap.size 9 i0 (.string ⟨#[]⟩) 1 16 Tryz.underlying38 hi0 hz0 hz1 hz2 rfl (by decide) _ _ _ rfl O5.out a1 l1.length c1 (l1.map sB) rfl (by simp) (fun j u hu => kc' Y.out (cs1.out j u hu)) (one_strs l1) (by have := H1.out; unfold maxLen; simp only [List.length_nil]; omega) (by have := H1.out; simp only [List.length_nil]; omega) Y.out.size ?_)
          intro v' w5 hown' hgrow _
          have Y5 := Lib.hid (Y.out.grown hgrow Y.out.size (fun k hk => (O5.out.lt k hk).1))
          have O6 : Hid (w5.ownsRow w.heap.size 9 1 v' (l1.map sB).length (l1.map sB)) := Lib.hid (by simpa using hown')
          clear hown' hgrow O5 Y
          go_wp2_with fail
          go_roundg 1
          case measure => rw [G.out]; omega
          case rel => exact ⟨1, _, rfl, by omega, by simp, rfl, O6.out, Y5.out⟩
        · have ho := OO.out
          simp only [if_true, if_neg (show ¬ (1 = 0) by decide)] at ho
          subst ho
          go_wp2_with (at_builtin; refine wpList_append_own _ rfl _ _ 38 rfl w.heap.size 9 i0 (.string ⟨#[]⟩) 1 16 Tryz.underlying38 hi0 hz0 hz1 hz2 rfl (by decide) _ _ _ rfl O5.out a2 l2.length c2 (l2.map sB) rfl (by simp) (fun j u hu => kc' Y.out (cs2.out j u hu)) (one_strs l2) (by have := H1.out; have := H2.out; unfold maxLen; simp only [List.length_map]; omega) (by have := H1.out; have := H2.out; simp only [List.length_map]; omega) Y.out.size ?_)
          intro v' w5 hown' hgrow _
          have Y5 := Lib.hid (Y.out.grown hgrow Y.out.size (fun k hk => (O5.out.lt k hk).1))
          have O6 : Hid (w5.ownsRow w.heap.size 9 1 v' (l1.map sB ++ l2.map sB).length (l1.map sB ++ l2.map sB)) := Lib.hid (by simpa using hown')
          clear hown' hgrow O5 Y
          go_wp2_with fail
          go_roundg 0
          case measure => rw [G.out]; omega
          case rel => exact ⟨2, _, rfl, by omega, by simp, rfl, O6.out, Y5.out⟩
        · have ho := OO.out
          simp only [if_neg (show ¬ (2 = 0) by decide), if_neg (show ¬ (2 = 1) by decide)] at ho
          subst ho
          go_wp2_with fail
          go_ret
          refine ⟨_, rfl, ?_, Y.out⟩
          have := O5.out
          rwa [List.length_append, List.length_map, List.length_map] at this
end Go.Proofs.YtjcejijdeohkgaaGreatDoor
