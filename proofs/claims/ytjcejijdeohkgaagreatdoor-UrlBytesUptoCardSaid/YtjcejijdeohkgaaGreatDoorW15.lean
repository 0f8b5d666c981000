/- The contract of url.text. -/
import Derived.Test.YtjcejijdeohkgaaGreatDoorW14
namespace Go.Proofs.YtjcejijdeohkgaaGreatDoor
open Go.RowKit

theorem call15 (args : Array Value) (w : World) : Sem.run Tryz.prog (callFunc 15 args) w = .ok (.enter 15 args) w := by go_simp
theorem call58 (args : Array Value) (w : World) : Sem.run Tryz.prog (callFunc 58 args) w = .ok (.enter 58 args) w := by go_simp
theorem join_snoc (l : List Bs) (p : Bs) : joinT (l ++ [p]) = joinT l ++ 47 :: encP p := by simp [joinT]
theorem join_take_le (l : List Bs) (k : Nat) : (joinT (l.take k)).length ≤ (joinT l).length := by
  have e : joinT l = joinT (l.take k) ++ joinT (l.drop k) := by
    unfold joinT
    rw [← List.flatMap_append, List.take_append_drop]
  rw [e, List.length_append]
  omega
theorem put_str (a b : Bs) : Lib.byteCells a ++ Lib.strCells (bs b) = Lib.byteCells (a ++ b) := by rw [Lib.byteCells_append]; rfl
/-- The parts that are long enough for no limit. -/
structure Short (u : Ur) : Prop where
  s : u.sch.length ≤ 1048576
  h : u.host.length ≤ 1048576
  p : 0 ≤ u.port ∧ u.port ≤ 65535
  l : ∀ x ∈ u.path, x.length ≤ 1048576
  n : u.path.length ≤ 1048576
  t : (textP u).length ≤ 16777216
set_option maxRecDepth 100000 in
set_option maxHeartbeats 8000000 in
theorem text_any (u : Ur) (pv : Value) (w : World) (hT : TB w) (hu : Short u) (hv : SlR w StrB 1 pv u.path) : Calls Tryz.prog 58 #[u.v pv] w fun e w' => e = .returned (.string (bs (textP u))) ∧ Below w.heap.size w w' := by
  have p60 := call60
  have p45 := call45
  have p15 := call15
  have p47 := call47
  obtain ⟨va, vc, rfl, _⟩ := id hv
  have SP := Lib.hid hv
  obtain ⟨s1, s2, s3⟩ := SlR.cap hv
  have HTB := Lib.hid hT
  have HU := Lib.hid hu
  have hpi : (u.path.length : Int) ≤ 1048576 := by have := hu.n; omega
  have HO := Lib.hid (fun (w9 : World) (hb : Below w.heap.size w w9) => origin_any u (.slice va u.path.length vc) w9 (hT.below hb) hu.s hu.h hu.p ⟨_, _, _, rfl⟩)
  have HQL := Lib.hid (show (if u.asks then 63 :: u.query else []).length + (if u.points then 35 :: u.frag else []).length + (joinT u.path).length + (origP u).length ≤ 16777216 from by
    have := hu.t
    have e : textP u = origP u ++ (joinT u.path ++ ((if u.asks then 63 :: u.query else []) ++ (if u.points then 35 :: u.frag else []))) := rfl
    rw [e] at this
    simp only [List.length_append] at this
    omega)
  have HR := Lib.hid (show textP u = origP u ++ (joinT u.path ++ ((if u.asks then 63 :: u.query else []) ++ (if u.points then 35 :: u.frag else []))) from rfl)
  clear hv hT hu
  obtain ⟨sch, host, port, path, query, asks, frag, points⟩ := u
  simp only at s1 s2 hpi SP HQL HR HO ⊢
  show Calls Tryz.prog 58 #[.agg #[.string (bs sch), .string (bs host), .int .i64 port, .slice va path.length vc, .string (bs query), .bool asks, .string (bs frag), .bool points]] w _
  generalize textP ⟨sch, host, port, path, query, asks, frag, points⟩ = T at *
  generalize origP ⟨sch, host, port, path, query, asks, frag, points⟩ = OR at *
  have HO2 : Hid (∀ (w9 : World), Below w.heap.size w w9 → Calls Tryz.prog 60 #[.agg #[.string (bs sch), .string (bs host), .int .i64 port, .slice va path.length vc, .string (bs query), .bool asks, .string (bs frag), .bool points]] w9 fun e w' => e = .returned (.string (bs OR)) ∧ Below w9.heap.size w9 w') := HO
  clear HO
  have HSE := Lib.hid (show ∀ x ∈ path, x.length ≤ 1048576 from HU.out.l)
  clear HU
  obtain ⟨A, hA⟩ : ∃ A, w.heap.size = A := ⟨_, rfl⟩
  go_enter Tryz.func58, Tryz.ntmps58
  go_upto_region 1 with fail
  refine code_gen (Φ := fun wy => Hid (Below w.heap.size w wy) ∧ Hid (wy.heap[A]? = some (.cells #[.string (bs sch), .string (bs host), .int .i64 port, .slice va path.length vc, .string (bs query), .bool asks, .string (bs frag), .bool points] 47 (0, 0)))) ⟨Lib.hid ((Below.refl _ _).alloc (Nat.le_refl _) _), Lib.hid (alloc_at hA _)⟩ ?_
  rintro w1 ⟨X1, A1⟩
  clear hA
  go_upto_region 2 with fail
  have B0 := Lib.hid (bld_start w1)
  have A2 := Lib.hid ((B0.out.2.block _ (lt_of_heap A1.out)).trans A1.out)
  obtain ⟨c0, c1, c2, c3, c4, c5, c6, c7⟩ := cells8 A2.out
  have HO3 := Lib.hid (HO2.out _ (X1.out.trans (Below.le B0.out.2 X1.out.size)))
  go_wp2_with fail
  refine HO3.out.mono ?_
  rintro e w2 ⟨rfl, hb2⟩
  have B2 := Lib.hid (B0.out.call hb2)
  clear hb2 HO3 HO2 B0 A2 c0 c1 c2 c3 c4 c5 c6 c7
  have HQ := HQL.out
  go_wp2_with fail
  refine (wstring_any w1.heap.size w1.heap.size _ _ _ B2.out.1 (by rw [Lib.byteCells_length, bs_size, List.length_nil]; have := HQL.out; omega) B2.out.2.size).mono ?_
  rintro e w3 ⟨rfl, h1, h2⟩
  have B3 := Lib.hid (bld_put (m := OR) B2.out.2 (put_str _ _) h1 h2)
  clear h1 h2 B2
  have A3 := Lib.hid ((B3.out.2.block _ (lt_of_heap A1.out)).trans A1.out)
  obtain ⟨c0, c1, c2, c3, c4, c5, c6, c7⟩ := cells8 A3.out
  go_wp2_with fail
  clear A3 c0 c1 c2 c3 c4 c5 c6 c7
  go_loopg [12] path.length (fun n vk wr => ∃ k : Nat, n = path.length - k ∧ k ≤ path.length ∧ vk = .int .i64 (k : Int) ∧ Bld w1 (OR ++ joinT (path.take k)) wr)
  case atStart => exact ⟨0, rfl, Nat.zero_le _, rfl, by
    have h := B3.out
    rw [List.nil_append] at h
    show Bld w1 (OR ++ []) w3
    rw [List.append_nil]
    exact h⟩
  case round =>
    clear B3
    obtain ⟨k, hg, hk, rfl, hb⟩ := hrel
    have G := Lib.hid hg
    have B := Lib.hid hb
    clear hg hb
    by_cases hlt : k < path.length
    · have hki : (k : Int) < (path.length : Int) := by omega
      obtain ⟨b, o, rfl, hi⟩ := SP.out.item k hlt
      have hbw := Lib.hid (X1.out.trans (Below.le B.out.2 X1.out.size))
      have x0 : wr.cell? ⟨b, o + k, none⟩ = some (.string (bs path[k])) := by have := kc hbw.out hi; rwa [Nat.mul_one] at this
      have TK := Lib.hid (show joinT (path.take (k + 1)) = joinT (path.take k) ++ 47 :: encP path[k] by rw [List.take_add_one, List.getElem?_eq_getElem hlt]; exact join_snoc _ _)
      have JL := Lib.hid (join_take_le path (k + 1))
      rw [TK.out] at JL
      have HPL := Lib.hid (HSE.out path[k] (List.getElem_mem hlt))
      clear hi
      generalize path[k] = p at *
      have HEN := Lib.hid (encode_any p wr HPL.out)
      have HEL := Lib.hid (enc_len p)
      generalize encP p = E at *
      have LT := Lib.hid (show (OR ++ joinT (path.take k)).length + (47 :: E).length ≤ 16777216 from by
        have h1 := HQL.out
        have h2 := JL.out
        rw [List.length_append] at h2 ⊢
        omega)
      have e47 : (⟨#[47]⟩ : ByteArray) ++ bs E = bs (47 :: E) := bs_app [47] E
      have hes : (bs E).size ≤ 3145728 := by rw [bs_size]; have := HPL.out; have := HEL.out; omega
      go_wp2_with fail
      refine HEN.out.mono ?_
      rintro e w4 ⟨rfl, hb4⟩
      have B4 := Lib.hid (B.out.call hb4)
      clear hb4 HEN B x0
      go_wp2_with fail
      refine (wstring_any w1.heap.size w1.heap.size _ _ _ B4.out.1 (by rw [Lib.byteCells_length, bs_size]; have := LT.out; omega) B4.out.2.size).mono ?_
      rintro e w5 ⟨rfl, h1, h2⟩
      have B5 := Lib.hid (bld_put (m := 47 :: E) B4.out.2 (put_str _ _) h1 h2)
      clear h1 h2 B4
      rw [List.append_assoc, ← TK.out] at B5
      go_wp2_with fail
      go_roundg (path.length - (k + 1))
      case measure => rw [G.out]; omega
      case rel => exact ⟨k + 1, rfl, by omega, by simp, B5.out⟩
    · have hke : k = path.length := by omega
      have hnl : ¬ ((k : Int) < (path.length : Int)) := by omega
      have B4 := Lib.hid (show Bld w1 (OR ++ joinT path) wr from by
        have h1 := B.out
        rwa [hke, List.take_length] at h1)
      clear hke hlt B G
      have A3 := Lib.hid ((B4.out.2.block _ (lt_of_heap A1.out)).trans A1.out)
      obtain ⟨c0, c1, c2, c3, c4, c5, c6, c7⟩ := cells8 A3.out
      have fin : Hid (∀ wz l, Bld w1 l wz → Below w.heap.size w wz) := Lib.hid (fun wz l h => X1.out.trans (Below.le h.2 X1.out.size))
      cases asks with
      | false =>
        cases points with
        | false =>
          have HF := Lib.hid (show T = OR ++ joinT path by rw [HR.out]; simp)
          clear HR
          go_wp2_with fail
          refine (Tryz.Builder_String_any w1.heap.size w1.heap.size _ _ B4.out.1 B4.out.2.size).mono ?_
          rintro e w5 ⟨rfl, h3⟩
          have H3 := Lib.hid ((fin.out _ _ B4.out).trans (Below.le h3 X1.out.size))
          clear h3
          go_wp2_with fail
          go_ret
          rw [HF.out]
          exact ⟨rfl, H3.out⟩
        | true =>
          have HF := Lib.hid (show T = OR ++ joinT path ++ 35 :: frag by rw [HR.out]; simp)
          have LF := Lib.hid (show (OR ++ joinT path).length + (35 :: frag).length ≤ 16777216 from by have h := HQL.out; simp only [if_true, List.length_append] at h ⊢; omega)
          have e35 : (⟨#[35]⟩ : ByteArray) ++ bs frag = bs (35 :: frag) := bs_app [35] frag
          have hes : (bs frag).size ≤ 16777216 := by rw [bs_size]; have := LF.out; simp only [List.length_cons] at this; omega
          clear HR HQ
          go_wp2_with fail
          refine (wstring_any w1.heap.size w1.heap.size _ _ _ B4.out.1 (by rw [Lib.byteCells_length, bs_size]; have := LF.out; omega) B4.out.2.size).mono ?_
          rintro e w5 ⟨rfl, h1, h2⟩
          have B5 := Lib.hid (bld_put (m := 35 :: frag) B4.out.2 (put_str _ _) h1 h2)
          clear h1 h2
          go_wp2_with fail
          refine (Tryz.Builder_String_any w1.heap.size w1.heap.size _ _ B5.out.1 B5.out.2.size).mono ?_
          rintro e w6 ⟨rfl, h3⟩
          have H3 := Lib.hid ((fin.out _ _ B5.out).trans (Below.le h3 X1.out.size))
          clear h3
          go_wp2_with fail
          go_ret
          refine ⟨?_, H3.out⟩
          rw [HF.out]
          simp [bs]
      | true =>
        have LQ := Lib.hid (show (OR ++ joinT path).length + (63 :: query).length ≤ 16777216 from by have h := HQL.out; simp only [if_true, List.length_append] at h ⊢; omega)
        have e63 : (⟨#[63]⟩ : ByteArray) ++ bs query = bs (63 :: query) := bs_app [63] query
        have hqs : (bs query).size ≤ 16777216 := by rw [bs_size]; have := LQ.out; simp only [List.length_cons] at this; omega
        clear HQ
        cases points with
        | false =>
          have HF := Lib.hid (show T = OR ++ joinT path ++ 63 :: query by rw [HR.out]; simp)
          clear HR
          go_wp2_with fail
          refine (wstring_any w1.heap.size w1.heap.size _ _ _ B4.out.1 (by rw [Lib.byteCells_length, bs_size]; have := LQ.out; omega) B4.out.2.size).mono ?_
          rintro e w5 ⟨rfl, h1, h2⟩
          have B5 := Lib.hid (bld_put (m := 63 :: query) B4.out.2 (put_str _ _) h1 h2)
          clear h1 h2 c0 c1 c2 c3 c4 c5 c6 c7 A3
          have A3 := Lib.hid ((B5.out.2.block _ (lt_of_heap A1.out)).trans A1.out)
          obtain ⟨c0, c1, c2, c3, c4, c5, c6, c7⟩ := cells8 A3.out
          go_wp2_with fail
          refine (Tryz.Builder_String_any w1.heap.size w1.heap.size _ _ B5.out.1 B5.out.2.size).mono ?_
          rintro e w6 ⟨rfl, h3⟩
          have H3 := Lib.hid ((fin.out _ _ B5.out).trans (Below.le h3 X1.out.size))
          clear h3
          go_wp2_with fail
          go_ret
          refine ⟨?_, H3.out⟩
          rw [HF.out]
          simp [bs]
        | true =>
          have HF := Lib.hid (show T = OR ++ joinT path ++ 63 :: query ++ 35 :: frag by rw [HR.out]; simp)
          have LF := Lib.hid (show (OR ++ joinT path ++ 63 :: query).length + (35 :: frag).length ≤ 16777216 from by have h := HQL.out; simp only [if_true, List.length_append] at h ⊢; omega)
          have e35 : (⟨#[35]⟩ : ByteArray) ++ bs frag = bs (35 :: frag) := bs_app [35] frag
          have hes : (bs frag).size ≤ 16777216 := by rw [bs_size]; have := LF.out; simp only [List.length_cons] at this; omega
          clear HR
          go_wp2_with fail
          refine (wstring_any w1.heap.size w1.heap.size _ _ _ B4.out.1 (by rw [Lib.byteCells_length, bs_size]; have := LQ.out; omega) B4.out.2.size).mono ?_
          rintro e w5 ⟨rfl, h1, h2⟩
          have B5 := Lib.hid (bld_put (m := 63 :: query) B4.out.2 (put_str _ _) h1 h2)
          clear h1 h2 c0 c1 c2 c3 c4 c5 c6 c7 A3
          have A3 := Lib.hid ((B5.out.2.block _ (lt_of_heap A1.out)).trans A1.out)
          obtain ⟨c0, c1, c2, c3, c4, c5, c6, c7⟩ := cells8 A3.out
          go_wp2_with fail
          refine (wstring_any w1.heap.size w1.heap.size _ _ _ B5.out.1 (by rw [Lib.byteCells_length, bs_size]; have := LF.out; omega) B5.out.2.size).mono ?_
          rintro e w6 ⟨rfl, h1, h2⟩
          have B6 := Lib.hid (bld_put (m := 35 :: frag) B5.out.2 (put_str _ _) h1 h2)
          clear h1 h2
          go_wp2_with fail
          refine (Tryz.Builder_String_any w1.heap.size w1.heap.size _ _ B6.out.1 B6.out.2.size).mono ?_
          rintro e w7 ⟨rfl, h3⟩
          have H3 := Lib.hid ((fin.out _ _ B6.out).trans (Below.le h3 X1.out.size))
          clear h3
          go_wp2_with fail
          go_ret
          refine ⟨?_, H3.out⟩
          rw [HF.out]
          simp [bs]
end Go.Proofs.YtjcejijdeohkgaaGreatDoor
