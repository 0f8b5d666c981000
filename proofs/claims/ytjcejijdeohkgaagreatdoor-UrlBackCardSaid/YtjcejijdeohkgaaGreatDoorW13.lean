/- The contract of url.tidy. -/
import Derived.Test.YtjcejijdeohkgaaGreatDoorW12
namespace Go.Proofs.YtjcejijdeohkgaaGreatDoor
open Go.RowKit

theorem own_blockB' {w : World} {B g e : Nat} {size n : Nat} {cur : Array Value} {xs : List Value} (h : w.heap[g]? = some (.cells cur e (0, 0))) (hB : B ≤ g) (hn : n ≤ maxLen) (hs : cur.size = n * size) (hx : cur.toList = xs) : w.ownsRow B e size (.slice (some ⟨g, 0, none⟩) n n) n xs := by
  subst hx
  exact ⟨by simpa using hs, .inr ⟨g, n, cur, rfl, hB, h, Nat.le_refl _, hn, hs, by rw [← hs]; exact List.take_of_length_le (by simp)⟩⟩
theorem own_cut {w : World} {B e g n cap : Nat} {xs : List Value} (h : w.ownsRow B e 1 (.slice (some ⟨g, 0, none⟩) (n + 1) cap) (n + 1) xs) : w.ownsRow B e 1 (.slice (some ⟨g, 0, none⟩) n cap) n (xs.take n) := by
  obtain ⟨h1, h2⟩ := h
  rcases h2 with ⟨e1, e2⟩ | ⟨g', cap', cur, e1, hB, hh, hc, hm, hs, ht⟩
  · cases e1
  · injection e1 with e1 e2 e3
    injection e1 with e1
    injection e1 with e1 _ _
    subst e1 e3
    refine ⟨by rw [List.length_take]; omega, .inr ⟨g, cap, cur, rfl, hB, hh, by omega, hm, hs, ?_⟩⟩
    rw [← ht, List.take_take]
    congr 1
    omega
theorem own_someS {w : World} {B e n : Nat} {v : Value} {xs : List Value} (h : w.ownsRow B e 1 v (n + 1) xs) : ∃ g cap, v = .slice (some ⟨g, 0, none⟩) (n + 1) cap ∧ n + 1 ≤ cap ∧ cap ≤ maxLen := by
  obtain ⟨h1, h2⟩ := h
  rcases h2 with ⟨e1, e2⟩ | ⟨g', cap', cur, e1, hB, hh, hc, hm, hs, ht⟩
  · omega
  · exact ⟨g', cap', e1, hc, hm⟩
theorem tidyF_cons (out : List Bs) (s : Bs) (r : List Bs) : tidyF out (s :: r) = if s = [46] ∨ s = [46, 46] then (if r = [] then tidyF ((if s = [46, 46] then out.dropLast else out) ++ [[]]) r else tidyF (if s = [46, 46] then out.dropLast else out) r) else tidyF (out ++ [s]) r := by
  rw [tidyF]
theorem tidyF_dot (out : List Bs) {s : Bs} (r : List Bs) (h : s = [46]) : tidyF out (s :: r) = if r = [] then tidyF (out ++ [[]]) r else tidyF out r := by
  subst h
  rw [tidyF_cons, if_pos (.inl rfl), if_neg (show ¬ (([46] : Bs) = [46, 46]) by decide)]
theorem tidyF_dots (out : List Bs) {s : Bs} (r : List Bs) (h : s = [46, 46]) : tidyF out (s :: r) = if r = [] then tidyF (out.dropLast ++ [[]]) r else tidyF out.dropLast r := by
  subst h
  rw [tidyF_cons, if_pos (.inr rfl), if_pos rfl]
theorem tidyF_word (out : List Bs) {s : Bs} (r : List Bs) (h : ¬ (s = [46] ∨ s = [46, 46])) : tidyF out (s :: r) = tidyF (out ++ [s]) r := by
  rw [tidyF_cons, if_neg h]
theorem tidyF_nil (out : List Bs) : tidyF out [] = out := by rw [tidyF]
theorem drop_last_map (ds : List Bs) (n : Nat) (h : ds.length = n + 1) : (ds.map sB).take n = ds.dropLast.map sB := by
  rw [List.dropLast_eq_take, ← List.map_take]
  congr 2
  omega
set_option maxRecDepth 100000 in
set_option maxHeartbeats 4000000 in
theorem tidy_any (a : Option Addr) (c : Nat) (l : List Bs) (w : World) (hs : SlR w StrB 1 (.slice a l.length c) l) (hl : l.length ≤ 2097152) : Calls Tryz.prog 70 #[.slice a l.length c] w fun e w' => ∃ v, e = .returned v ∧ w'.ownsRow w.heap.size 9 1 v (tidyP l).length ((tidyP l).map sB) ∧ Below w.heap.size w w' := by
  obtain ⟨i0, hi0, hz0, hz1, hz2⟩ := info_parts str_info
  have SP := Lib.hid hs
  obtain ⟨s1, s2, s3⟩ := SlR.cap hs
  have HL := Lib.hid hl
  have hli : (l.length : Int) ≤ 2097152 := by omega
  obtain ⟨R, hR⟩ : ∃ R, tidyP l = R := ⟨_, rfl⟩
  rw [hR]
  have HR := Lib.hid hR
  clear hs hl hR
  go_enter Tryz.func70, Tryz.ntmps70
  go_wp2_with fail
  go_loopg [8, 3] l.length (fun n vk v3 wr => ∃ (k : Nat) (out : List Bs), n = l.length - k ∧ k ≤ l.length ∧ vk = .int .i64 (k : Int) ∧ out.length ≤ k ∧ tidyF [] l = tidyF out (l.drop k) ∧ wr.ownsRow w.heap.size 9 1 v3 out.length (out.map sB) ∧ Below w.heap.size w wr)
  case atStart => exact ⟨0, [], rfl, Nat.zero_le _, rfl, Nat.le_refl _, rfl, World.ownsRow_nil _ _ _ _, Below.refl _ _⟩
  case round =>
    obtain ⟨k, out, hg, hk, rfl, hol, htf, hown, hb⟩ := hrel
    obtain ⟨ov, hov⟩ : ∃ v, v = u3 := ⟨_, rfl⟩
    subst hov
    have G := Lib.hid hg
    have OL := Lib.hid hol
    have TF := Lib.hid htf
    have O := Lib.hid hown
    have Y := Lib.hid hb
    clear hg hol htf hown hb
    by_cases hlt : k < l.length
    · have hki : (k : Int) < (l.length : Int) := by omega
      obtain ⟨b, o, rfl, hi⟩ := SP.out.item k hlt
      have x0 : wr.cell? ⟨b, o + k, none⟩ = some (.string (bs l[k])) := by have := kc Y.out hi; rwa [Nat.mul_one] at this
      have TF2 := Lib.hid (show tidyF [] l = tidyF out (l[k] :: l.drop (k + 1)) by rw [TF.out, List.drop_eq_getElem_cons hlt])
      have hdr := Lib.hid (show l.drop (k + 1) = [] ↔ k + 1 = l.length by rw [List.drop_eq_nil_iff]; omega)
      clear hi TF
      generalize l[k] = p at *
      have e0 : (bs p).toList = p := by rw [Lib.toList_data, bs_list]
      have HOL := Lib.hid (show out.length + 1 ≤ 2097152 by have := OL.out; have := HL.out; omega)
      cases h1 : (p == [46]) with
      | true =>
        have hp : p = [46] := eq_of_beq h1
        have h2 : (p == [46, 46]) = false := by rw [hp]; decide
        have hw1 : IntKind.i64.wrap ((l.length : Int) - 1) = (l.length : Int) - 1 := by rw [IntKind.wrap_i64]; omega
        rw [tidyF_dot out _ hp] at TF2
        clear hp
        by_cases hlast : k + 1 = l.length
        · have hkb : ((k : Int) == (l.length : Int) - 1) = true := by rw [beq_iff_eq]; omega
          rw [if_pos (hdr.out.2 hlast)] at TF2
          clear hlast
          go_wp2_with (at_builtin; refine wpList_append_own _ rfl _ _ 38 rfl w.heap.size 9 i0 (.string ⟨#[]⟩) 1 16 Tryz.underlying38 hi0 hz0 hz1 hz2 rfl (by decide) _ _ _ rfl (O.out.alloc _) ⟨_, 0, none⟩ 1 1 [sB []] rfl rfl (cell_str wr []) (one_str []) (by have := HOL.out; unfold maxLen; omega) (by have := HOL.out; omega) (al_le Y.out.size _) ?_)
          intro v' w5 hown' hgrow _
          have Y5 := Lib.hid ((Y.out.alloc Y.out.size (.cells #[.string (bs [])] 9)).grown hgrow (al_le Y.out.size _) (fun k hk => (O.out.lt k hk).1))
          have O5 : Hid (w5.ownsRow w.heap.size 9 1 v' (out ++ [[]]).length ((out ++ [[]]).map sB)) := Lib.hid (by rw [List.length_append, List.map_append]; exact hown')
          clear hown' hgrow O Y x0
          go_wp2_with fail
          go_roundg (l.length - (k + 1))
          case measure => rw [G.out]; omega
          case rel => exact ⟨k + 1, out ++ [[]], rfl, by omega, by simp, by rw [List.length_append]; have := OL.out; simp only [List.length_cons, List.length_nil]; omega, TF2.out, O5.out, Y5.out⟩
        · have hkb : ((k : Int) == (l.length : Int) - 1) = false := by rw [beq_eq_false_iff_ne]; omega
          have hkn : ¬ (k : Int) = (l.length : Int) - 1 := by omega
          rw [if_neg (fun h => hlast (hdr.out.1 h))] at TF2
          clear hlast
          go_wp2_with fail
          go_roundg (l.length - (k + 1))
          case measure => rw [G.out]; omega
          case rel => exact ⟨k + 1, out, rfl, by omega, by simp, by have := OL.out; omega, TF2.out, O.out, Y.out⟩
      | false =>
        cases h2 : (p == [46, 46]) with
        | true =>
          have hp : p = [46, 46] := eq_of_beq h2
          have hw1 : IntKind.i64.wrap ((l.length : Int) - 1) = (l.length : Int) - 1 := by rw [IntKind.wrap_i64]; omega
          rw [tidyF_dots out _ hp] at TF2
          clear hp
          cases out with
          | nil =>
            obtain ⟨va, vc, rfl⟩ := own_shape O.out
            have TF3 := Lib.hid (show tidyF [] l = if l.drop (k + 1) = [] then tidyF ([] ++ [[]]) (l.drop (k + 1)) else tidyF [] (l.drop (k + 1)) from TF2.out)
            clear TF2
            have TF2 := TF3
            clear TF3
            by_cases hlast : k + 1 = l.length
            · have hkb : ((k : Int) == (l.length : Int) - 1) = true := by rw [beq_iff_eq]; omega
              rw [if_pos (hdr.out.2 hlast)] at TF2
              clear hlast
              go_wp2_with (at_builtin; refine wpList_append_own _ rfl _ _ 38 rfl w.heap.size 9 i0 (.string ⟨#[]⟩) 1 16 Tryz.underlying38 hi0 hz0 hz1 hz2 rfl (by decide) _ _ _ rfl (O.out.alloc _) ⟨_, 0, none⟩ 1 1 [sB []] rfl rfl (cell_str wr []) (one_str []) (by have := HOL.out; unfold maxLen; omega) (by have := HOL.out; omega) (al_le Y.out.size _) ?_)
              intro v' w5 hown' hgrow _
              have Y5 := Lib.hid ((Y.out.alloc Y.out.size (.cells #[.string (bs [])] 9)).grown hgrow (al_le Y.out.size _) (fun k hk => (O.out.lt k hk).1))
              have O5 : Hid (w5.ownsRow w.heap.size 9 1 v' (([] : List Bs) ++ [[]]).length ((([] : List Bs) ++ [[]]).map sB)) := Lib.hid (by rw [List.length_append, List.map_append]; exact hown')
              clear hown' hgrow O Y x0
              go_wp2_with fail
              go_roundg (l.length - (k + 1))
              case measure => rw [G.out]; omega
              case rel => exact ⟨k + 1, ([] : List Bs) ++ [[]], rfl, by omega, by simp, by rw [List.length_append]; have := OL.out; simp only [List.length_cons, List.length_nil]; omega, TF2.out, O5.out, Y5.out⟩
            · have hkb : ((k : Int) == (l.length : Int) - 1) = false := by rw [beq_eq_false_iff_ne]; omega
              have hkn : ¬ (k : Int) = (l.length : Int) - 1 := by omega
              rw [if_neg (fun h => hlast (hdr.out.1 h))] at TF2
              clear hlast
              go_wp2_with fail
              go_roundg (l.length - (k + 1))
              case measure => rw [G.out]; omega
              case rel => exact ⟨k + 1, ([] : List Bs), rfl, by omega, by simp, by have := OL.out; omega, TF2.out, O.out, Y.out⟩
          | cons q qs =>
            obtain ⟨g, cap, rfl, hc1, hc2⟩ := own_someS (n := qs.length) O.out
            have O2 := Lib.hid (show wr.ownsRow w.heap.size 9 1 (.slice (some ⟨g, 0, none⟩) qs.length cap) (q :: qs).dropLast.length ((q :: qs).dropLast.map sB) from by
              have h := own_cut (n := qs.length) O.out
              rw [drop_last_map (q :: qs) qs.length rfl] at h
              have e : (q :: qs).dropLast.length = qs.length := by rw [List.length_dropLast]; rfl
              rw [e]
              exact h)
            have OL2 := Lib.hid (show (q :: qs).dropLast.length + 1 ≤ k by have := OL.out; rw [List.length_dropLast]; simp only [List.length_cons] at this ⊢; omega)
            have hq0 : (0 : Int) < (qs.length : Int) + 1 := by omega
            have hq1 : (qs.length : Int) ≤ 2097152 := by have := HOL.out; simp only [List.length_cons] at this; omega
            have hq3 : IntKind.i64.wrap (qs.length : Int) = (qs.length : Int) := by rw [IntKind.wrap_i64]; omega
            have hq2 : qs.length ≤ cap := by omega
            have HOL2 := Lib.hid (show (q :: qs).dropLast.length + 1 ≤ 2097152 by have := HOL.out; have := OL2.out; have := OL.out; rw [List.length_dropLast] at *; simp only [List.length_cons] at *; omega)
            clear OL HOL
            have OL := Lib.hid (show (q :: qs).dropLast.length ≤ k by have := OL2.out; omega)
            have HOL := HOL2
            clear OL2 HOL2
            generalize hD : (q :: qs).dropLast = D at *
            have hDl := Lib.hid (show qs.length = D.length by rw [← hD, List.length_dropLast]; rfl)
            clear hD
            by_cases hlast : k + 1 = l.length
            · have hkb : ((k : Int) == (l.length : Int) - 1) = true := by rw [beq_iff_eq]; omega
              rw [if_pos (hdr.out.2 hlast)] at TF2
              clear hlast
              go_wp2_with (at_builtin; refine wpList_append_own _ rfl _ _ 38 rfl w.heap.size 9 i0 (.string ⟨#[]⟩) 1 16 Tryz.underlying38 hi0 hz0 hz1 hz2 rfl (by decide) _ _ _ rfl (O2.out.alloc _) ⟨_, 0, none⟩ 1 1 [sB []] rfl rfl (cell_str wr []) (one_str []) (by have := HOL.out; unfold maxLen; omega) (by have := HOL.out; omega) (al_le Y.out.size _) ?_)
              intro v' w5 hown' hgrow _
              have Y5 := Lib.hid ((Y.out.alloc Y.out.size (.cells #[.string (bs [])] 9)).grown hgrow (al_le Y.out.size _) (fun k hk => (O2.out.lt k hk).1))
              have O5 : Hid (w5.ownsRow w.heap.size 9 1 v' (D ++ [[]]).length ((D ++ [[]]).map sB)) := Lib.hid (by rw [List.length_append, List.map_append]; exact hown')
              clear hown' hgrow O Y x0
              go_wp2_with fail
              go_roundg (l.length - (k + 1))
              case measure => rw [G.out]; omega
              case rel => exact ⟨k + 1, D ++ [[]], rfl, by omega, by simp, by rw [List.length_append]; have := OL.out; simp only [List.length_cons, List.length_nil]; omega, TF2.out, O5.out, Y5.out⟩
            · have hkb : ((k : Int) == (l.length : Int) - 1) = false := by rw [beq_eq_false_iff_ne]; omega
              have hkn : ¬ (k : Int) = (l.length : Int) - 1 := by omega
              rw [if_neg (fun h => hlast (hdr.out.1 h))] at TF2
              clear hlast
              go_wp2_with fail
              go_roundg (l.length - (k + 1))
              case measure => rw [G.out]; omega
              case rel => exact ⟨k + 1, D, rfl, by omega, by simp, by have := OL.out; omega, TF2.out, O2.out, Y.out⟩
        | false =>
          have k1 : ¬ (p = [46] ∨ p = [46, 46]) := by
            rintro (e | e)
            · rw [e] at h1; cases h1
            · rw [e] at h2; cases h2
          rw [tidyF_word out _ k1] at TF2
          clear k1
          go_wp2_with (at_builtin; refine wpList_append_own _ rfl _ _ 38 rfl w.heap.size 9 i0 (.string ⟨#[]⟩) 1 16 Tryz.underlying38 hi0 hz0 hz1 hz2 rfl (by decide) _ _ _ rfl (O.out.alloc _) ⟨_, 0, none⟩ 1 1 [sB p] rfl rfl (cell_str wr p) (one_str p) (by have := HOL.out; unfold maxLen; omega) (by have := HOL.out; omega) (al_le Y.out.size _) ?_)
          intro v' w5 hown' hgrow _
          have Y5 := Lib.hid ((Y.out.alloc Y.out.size (.cells #[.string (bs p)] 9)).grown hgrow (al_le Y.out.size _) (fun k hk => (O.out.lt k hk).1))
          have O5 : Hid (w5.ownsRow w.heap.size 9 1 v' (out ++ [p]).length ((out ++ [p]).map sB)) := Lib.hid (by rw [List.length_append, List.map_append]; exact hown')
          clear hown' hgrow O Y x0
          go_wp2_with fail
          go_roundg (l.length - (k + 1))
          case measure => rw [G.out]; omega
          case rel => exact ⟨k + 1, out ++ [p], rfl, by omega, by simp, by rw [List.length_append]; have := OL.out; simp only [List.length_cons, List.length_nil]; omega, TF2.out, O5.out, Y5.out⟩
    · have hke : k = l.length := by omega
      have hnl : ¬ ((k : Int) < (l.length : Int)) := by omega
      have HT := Lib.hid (show R = if out = [] then [[]] else out by
        rw [← HR.out]
        unfold tidyP
        rw [TF.out, hke, List.drop_length, tidyF_nil])
      clear hke hlt TF
      cases out with
      | nil =>
        have HV := Lib.hid (show R = [[]] from HT.out)
        obtain ⟨va, vc, rfl⟩ := own_shape O.out
        go_wp2_with fail
        go_ret
        refine ⟨_, rfl, ?_, Y.out.alloc Y.out.size _⟩
        rw [HV.out]
        exact own_blockB' (alloc_at rfl _) Y.out.size (by decide) rfl rfl
      | cons q qs =>
        have HV := Lib.hid (show R = q :: qs from HT.out)
        obtain ⟨va, vc, rfl⟩ := own_shape O.out
        have hq : ((qs.length : Int) + 1 == 0) = false := by rw [beq_eq_false_iff_ne]; omega
        have hq2 : ¬ ((qs.length : Int) + 1 = 0) := by omega
        go_wp2_with fail
        go_ret
        refine ⟨_, rfl, ?_, Y.out⟩
        rw [HV.out]
        exact O.out
end Go.Proofs.YtjcejijdeohkgaaGreatDoor
