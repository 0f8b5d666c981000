/- The contract of url.segments. -/
import Derived.Test.YtjcejijdeohkgaaGreatDoorW11
namespace Go.Proofs.YtjcejijdeohkgaaGreatDoor
open Go.RowKit

theorem call16 (args : Array Value) (w : World) : Sem.run Tryz.prog (callFunc 16 args) w = .ok (.enter 16 args) w := by go_simp
def sB (p : Bs) : Value := .string (bs p)
theorem str_info : (Tryz.prog.info? 9).map (fun i => (i.zero, i.size, i.bytes)) = some (some (.string ⟨#[]⟩), 1, 16) := by kernel_rfl
theorem cell_str (w : World) (p : Bs) : ∀ j u, [sB p][j]? = some u → (w.alloc (.cells #[.string (bs p)] 9)).cell? ((⟨w.heap.size, 0, none⟩ : Addr).add j) = some u := cell_one_new w (sB p) 9
theorem one_str (p : Bs) : ∀ u ∈ [sB p], u.oneCell' = true := by
  intro u hu; rw [List.mem_singleton] at hu; subst hu; rfl
def segO (l : Bs) : List Bs × Bool := match segsP (splitC 47 l) with
  | some ds => (ds, true)
  | none => ([], false)
theorem segs_cons (p : Bs) (ps : List Bs) : segsP (p :: ps) = match decP p with
    | none => none
    | some d => (segsP ps).map (d :: ·) := by rw [segsP]; rfl
set_option maxRecDepth 100000 in
set_option maxHeartbeats 4000000 in
theorem segments_any (l : Bs) (w : World) (hT : TB w) (hl : l.length ≤ 1048576) : Calls Tryz.prog 68 #[.string (bs l)] w fun e w' => ∃ v, e = .returned (.tuple #[v, .bool (segO l).2]) ∧ w'.ownsRow w.heap.size 9 1 v (segO l).1.length ((segO l).1.map sB) ∧ Below w.heap.size w w' := by
  obtain ⟨i0, hi0, hz0, hz1, hz2⟩ := info_parts str_info
  have p109 := call109
  have p16 := call16
  obtain ⟨R, hR⟩ : ∃ R, segO l = R := ⟨_, rfl⟩
  rw [hR]
  have HR := Lib.hid (show (match segsP (splitC 47 l) with
    | some ds => (ds, true)
    | none => ([], false)) = R from hR)
  have HSP := Lib.hid (split_any 47 l w hT hl)
  have HLE := Lib.hid (splitC_len 47 l)
  have HL := Lib.hid hl
  clear hR hT hl
  generalize splitC 47 l = P at *
  go_enter Tryz.func68, Tryz.ntmps68
  go_wp2_with fail
  refine HSP.out.mono ?_
  rintro e w2 ⟨a, cp, rfl, hs, hb, hn⟩
  have SP := Lib.hid hs
  have X := Lib.hid hb
  have PN := Lib.hid hn
  have hpi : (P.length : Int) ≤ 1048577 := by have := HL.out; omega
  obtain ⟨s1, s2, s3⟩ := SlR.cap hs
  clear hs hb hn HSP
  go_wp2_with fail
  go_loopg [12, 4] P.length (fun n vk v4 wr => ∃ (k : Nat) (ds : List Bs), n = P.length - k ∧ k ≤ P.length ∧ vk = .int .i64 (k : Int) ∧ ds.length = k ∧ segsP P = (segsP (P.drop k)).map (ds ++ ·) ∧ wr.ownsRow w2.heap.size 9 1 v4 ds.length (ds.map sB) ∧ Below w2.heap.size w2 wr)
  case atStart => exact ⟨0, [], rfl, Nat.zero_le _, rfl, rfl, by rw [List.drop_zero]; cases segsP P <;> rfl, World.ownsRow_nil _ _ _ _, Below.refl _ _⟩
  case round =>
    obtain ⟨k, ds, hg, hk, rfl, hdl, hsg, hown, hb⟩ := hrel
    obtain ⟨ov, hov⟩ : ∃ v, v = u4 := ⟨_, rfl⟩
    subst hov
    have G := Lib.hid hg
    have DL := Lib.hid hdl
    have SG := Lib.hid hsg
    have O := Lib.hid hown
    have Y := Lib.hid hb
    have Z := Lib.hid (X.out.trans (Below.le hb X.out.size))
    clear hg hdl hsg hown hb
    by_cases hlt : k < P.length
    · have hki : (k : Int) < (P.length : Int) := by omega
      obtain ⟨b, o, rfl, hi⟩ := SP.out.item k hlt
      have x0 : wr.cell? ⟨b, o + k, none⟩ = some (.string (bs P[k])) := by have := kc Y.out hi; rwa [Nat.mul_one] at this
      have SG2 := Lib.hid (show segsP P = (segsP (P[k] :: P.drop (k + 1))).map (ds ++ ·) by rw [SG.out, List.drop_eq_getElem_cons hlt])
      rw [segs_cons] at SG2
      have HPL := Lib.hid (HLE.out P[k] (List.getElem_mem hlt))
      clear hi SG
      generalize P[k] = p at *
      have HDE := Lib.hid (decode_any p wr (by have := HPL.out; have := HL.out; omega))
      have HD : Hid (decR p = match decP p with
        | some d => (d, 0)
        | none => ([], 3)) := Lib.hid rfl
      generalize decR p = DR at *
      go_wp2_with fail
      refine HDE.out.mono ?_
      rintro e w4 ⟨rfl, hb4⟩
      have Y4 := Lib.hid (Y.out.trans (Below.le hb4 Y.out.size))
      have Z4 := Lib.hid (Z.out.trans (Below.le hb4 Z.out.size))
      have O4 := Lib.hid (own_below O.out hb4 (Nat.le_refl _))
      clear hb4 HDE Y Z O x0
      cases hdp : decP p with
      | none =>
        rw [hdp] at HD SG2
        have hdr := HD.out
        subst hdr
        have hr : R = ([], false) := by rw [← HR.out, SG2.out]; rfl
        subst hr
        clear hdp HD SG2 HR
        go_wp2_with fail
        go_ret2
        exact ⟨_, rfl, World.ownsRow_nil _ _ _ _, Z4.out⟩
      | some d =>
        rw [hdp] at HD SG2
        have hdr := HD.out
        subst hdr
        have HDL := Lib.hid (show ds.length + 1 ≤ 1048577 by have := DL.out; have := PN.out; have := HL.out; omega)
        have SG3 := Lib.hid (show segsP P = (segsP (P.drop (k + 1))).map ((ds ++ [d]) ++ ·) by
          rw [SG2.out]
          cases segsP (P.drop (k + 1)) <;> simp)
        clear hdp HD SG2
        go_wp2_with (at_builtin; refine wpList_append_own _ rfl _ _ 38 rfl w2.heap.size 9 i0 (.string ⟨#[]⟩) 1 16 Tryz.underlying38 hi0 hz0 hz1 hz2 rfl (by decide) _ _ _ rfl (O4.out.alloc _) ⟨_, 0, none⟩ 1 1 [sB d] rfl rfl (cell_str w4 d) (one_str d) (by have := HDL.out; unfold maxLen; omega) (by have := HDL.out; omega) (al_le Y4.out.size _) ?_)
        intro v' w5 hown' hgrow _
        have Y5 := Lib.hid ((Y4.out.alloc Y4.out.size (.cells #[.string (bs d)] 9)).grown hgrow (al_le Y4.out.size _) (fun k hk => (O4.out.lt k hk).1))
        have O5 : Hid (w5.ownsRow w2.heap.size 9 1 v' (ds ++ [d]).length ((ds ++ [d]).map sB)) := Lib.hid (by rw [List.length_append, List.map_append]; exact hown')
        clear hown' hgrow O4 Z4 Y4
        go_wp2_with fail
        go_roundg (P.length - (k + 1))
        case measure => rw [G.out]; omega
        case rel => exact ⟨k + 1, ds ++ [d], rfl, by omega, by simp, by rw [List.length_append, DL.out]; rfl, SG3.out, O5.out, Y5.out⟩
    · have hke : k = P.length := by omega
      have hnl : ¬ ((k : Int) < (P.length : Int)) := by omega
      have hr : R = (ds, true) := by
        rw [← HR.out, SG.out, hke, List.drop_length]
        show ((ds ++ [] : List Bs), true) = _
        rw [List.append_nil]
      subst hr
      clear hke hlt SG HR
      go_wp2_with fail
      go_ret2
      exact ⟨_, rfl, own_lower O.out X.out.size, Z.out⟩
end Go.Proofs.YtjcejijdeohkgaaGreatDoor
