/- The contract of url.Decode. -/
import Derived.Test.YtjcejijdeohkgaaGreatDoorW5
import Derived.Maps.Range
import Derived.Laws.BytesArg
namespace Go.Proofs.YtjcejijdeohkgaaGreatDoor
open Go.RowKit

def bV (c : UInt8) : Value := .int .u8 (c.toNat : Int)
theorem convRow {w : World} {B : Nat} {v : Value} {l : List UInt8} (h : w.ownsRow B 5 1 v l.length (l.map bV)) :
    (convert 75 9 v).run Tryz.prog w = .ok (.string (bs l)) w := by
  rcases h.2 with ⟨rfl, hn⟩ | ⟨g, cap, cur, rfl, _⟩
  · have e : l = [] := List.eq_nil_of_length_eq_zero hn
    subst e
    rw [run_convert_bytes_nil w 75 5 Tryz.underlying75 Tryz.underlying5 0 0 9 Tryz.underlying9]
    rfl
  · have hc := h.cells (g := g) rfl
    rw [run_convert_bytes_arg w 75 5 Tryz.underlying75 Tryz.underlying5 g 0 l.length cap (l.map fun c => (c.toNat : Int)) (by simp) (fun i hi => by
      have := hc i (bV l[i]) (by simp [hi])
      have e : ((⟨g, 0, none⟩ : Addr).add i) = ⟨g, 0 + i, none⟩ := by unfold Addr.add; split <;> simp_all
      rw [e] at this
      rw [this]
      simp [bV, List.getD_eq_getElem?_getD, hi]) 9 Tryz.underlying9]
    congr 2
    simp [strOfNums, Function.comp_def, bs]
theorem cell_byte (w : World) (b : UInt8) : ∀ j u, [bV b][j]? = some u → (w.alloc (.cells #[.int .u8 (b.toNat : Int)] 5)).cell? ((⟨w.heap.size, 0, none⟩ : Addr).add j) = some u := cell_one_new w (bV b) 5
theorem one_byte' (b : UInt8) : ∀ u ∈ [bV b], u.oneCell' = true := by
  intro u hu; rw [List.mem_singleton] at hu; subst hu; rfl
theorem read_le (c : UInt8) (r : Bs) : (readP (c :: r)).2 ≤ r.length + 1 := by
  simp only [readP]
  split
  · match r with
    | [] => simp
    | [_] => simp
    | a :: b :: t =>
      simp only
      split
      · simp
      · simp
  · simp
theorem dec_cons (c : UInt8) (r : Bs) : decP (c :: r) = if (readP (c :: r)).2 = 0 then none else (decP ((c :: r).drop (readP (c :: r)).2)).map ((readP (c :: r)).1 :: ·) := by
  unfold decP
  rw [units_cons]
  split
  · rfl
  · cases units ((c :: r).drop (readP (c :: r)).2) <;> rfl
theorem bs_drop (l : Bs) (n : Nat) : (bs l).extract n (bs l).size = bs (l.drop n) := by
  have h := Lib.extract_to_end (bs l) n
  rw [bs_list] at h
  rw [← h, bs_of]
def decR (l : Bs) : Bs × Int := match decP l with
  | some d => (d, 0)
  | none => ([], 3)
theorem byte_info : (Tryz.prog.info? 5).map (fun i => (i.zero, i.size, i.bytes)) = some (some (.int .u8 0), 1, 1) := by kernel_rfl
set_option maxRecDepth 100000 in
set_option maxHeartbeats 4000000 in
theorem decode_any (l : Bs) (w : World) (hl : l.length ≤ 3145728) : Calls Tryz.prog 16 #[.string (bs l)] w fun e w' => e = .returned (.tuple #[.string (bs (decR l).1), .int .i64 (decR l).2]) ∧ Below w.heap.size w w' := by
  obtain ⟨i0, hi0, hz0, hz1, hz2⟩ := info_parts byte_info
  have p48 := call48
  obtain ⟨R, hR⟩ : ∃ R, decR l = R := ⟨_, rfl⟩
  rw [hR]
  have HR := Lib.hid hR
  have HL := Lib.hid hl
  clear hR hl
  go_enter Tryz.func16, Tryz.ntmps16
  go_upto_region 2 with fail
  go_loopg [0, 4] l.length (fun n v0 v4 wr => ∃ r d : Bs, n = r.length ∧ v0 = .string (bs r) ∧ d.length + r.length ≤ l.length ∧ decP l = (decP r).map (d ++ ·) ∧ wr.ownsRow w.heap.size 5 1 v4 d.length (d.map bV) ∧ Below w.heap.size w wr)
  case atStart => exact ⟨l, [], rfl, rfl, by simp, by cases decP l <;> rfl, World.ownsRow_nil _ _ _ _, Below.refl _ _⟩
  case round =>
    obtain ⟨r, d, hg, rfl, hlen, hdec, hown, hb⟩ := hrel
    obtain ⟨ov, hov⟩ : ∃ v, v = u4 := ⟨_, rfl⟩
    subst hov
    have G := Lib.hid hg
    have LN := Lib.hid hlen
    have DC := Lib.hid hdec
    have O := Lib.hid hown
    have X := Lib.hid hb
    clear hg hlen hdec hown hb
    cases r with
    | nil =>
      have e0 : (bs []).toList.isEmpty = true := by rw [Lib.toList_data, bs_list]; rfl
      have HV := Lib.hid (show R = (d, 0) by
        rw [← HR.out]
        unfold decR
        rw [DC.out]
        show (d ++ [], (0 : Int)) = _
        rw [List.append_nil])
      have hcv := convRow O.out
      go_wp2_with fail
      go_ret2
      exact ⟨by rw [HV.out]; rfl, X.out⟩
    | cons c r =>
      have hS : (bs (c :: r)).toList.isEmpty = false := by rw [Lib.toList_data, bs_list]; rfl
      have HRD := Lib.hid (read_any c r wr)
      have HD := Lib.hid (dec_cons c r)
      have RL := Lib.hid (read_le c r)
      have HX := Lib.hid (bs_drop (c :: r) (readP (c :: r)).2)
      have HZ := Lib.hid (show (bs (c :: r)).size = r.length + 1 by rw [bs_size]; rfl)
      generalize readP (c :: r) = P at *
      obtain ⟨b, n⟩ := P
      simp only at HRD HD RL HX
      have HD2 := Lib.hid (show decP l = (if n = 0 then none else (decP ((c :: r).drop n)).map (b :: ·)).map (d ++ ·) by rw [DC.out, HD.out])
      have hdl : ((c :: r).drop n).length = r.length + 1 - n := by rw [List.length_drop]; rfl
      have DL := Lib.hid hdl
      clear hdl HD DC
      have G2 := Lib.hid (show gk = r.length + 1 from G.out)
      have LN2 := Lib.hid (show d.length + (r.length + 1) ≤ l.length from LN.out)
      clear G LN
      generalize (c :: r).drop n = r2 at *
      generalize bs (c :: r) = S at *
      go_wp2_with fail
      refine HRD.out.mono ?_
      rintro e w2 ⟨rfl, hb2⟩
      have X2 := Lib.hid (X.out.trans (Below.le hb2 X.out.size))
      have O2 := Lib.hid (own_below O.out hb2 (Nat.le_refl _))
      clear hb2 X O HRD
      by_cases hn : n = 0
      · subst hn
        have HV := Lib.hid (show R = ([], 3) by
          rw [← HR.out]
          unfold decR
          rw [HD2.out, if_pos rfl]
          rfl)
        go_wp2_with fail
        go_ret2
        exact ⟨by rw [HV.out]; rfl, X2.out⟩
      · rw [if_neg hn] at HD2
        have hnb : ((n : Int) == 0) = false := by rw [beq_eq_false_iff_ne]; omega
        have hni : ¬ (n : Int) = 0 := by omega
        have hns : (n : Int) ≤ (S.size : Int) := by have := HZ.out; have := RL.out; omega
        have hdn : d.length + 1 ≤ 3145728 := by have := LN2.out; have := HL.out; omega
        have HDL := Lib.hid hdn
        clear hdn hn
        go_wp2_with (at_builtin; refine wpList_append_own _ rfl _ _ 75 rfl w.heap.size 5 i0 (.int .u8 0) 1 1 Tryz.underlying75 hi0 hz0 hz1 hz2 rfl (by decide) _ _ _ rfl (O2.out.alloc _) ⟨_, 0, none⟩ 1 1 [bV b] rfl rfl (cell_byte w2 b) (one_byte' b) (by have := HDL.out; unfold maxLen; omega) (by have := HDL.out; omega) (al_le X2.out.size _) ?_)
        intro v' w3 hown' hgrow _
        have B3 := Lib.hid ((X2.out.alloc X2.out.size (.cells #[.int .u8 (b.toNat : Int)] 5)).grown hgrow (al_le X2.out.size _) (fun k hk => (O2.out.lt k hk).1))
        have O3 : Hid (w3.ownsRow w.heap.size 5 1 v' (d ++ [b]).length ((d ++ [b]).map bV)) := Lib.hid (by rw [List.length_append, List.map_append]; exact hown')
        clear hown' hgrow X2 O2
        go_wp2_with fail
        go_roundg r2.length
        case measure => rw [G2.out, DL.out]; omega
        case rel => exact ⟨r2, d ++ [b], rfl, by rw [← HX.out], by rw [List.length_append, DL.out]; have := LN2.out; have := RL.out; simp only [List.length_cons, List.length_nil]; omega, by rw [HD2.out]; cases decP r2 <;> simp, O3.out, B3.out⟩
end Go.Proofs.YtjcejijdeohkgaaGreatDoor
