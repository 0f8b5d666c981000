/- Several texts in one: W15, W16, W17. -/
import Derived.Test.YtjcejijdeohkgaaGreatDoorMB
/- W15. -/
namespace Go.Proofs.YtjcejijdeohkgaaGreatDoor
open Go.RowKit

theorem call15 (args : Array Value) (w : World) : Sem.run Tryz.prog (callFunc 15 args) w = .ok (.enter 15 args) w := by go_simp
theorem call58 (args : Array Value) (w : World) : Sem.run Tryz.prog (callFunc 58 args) w = .ok (.enter 58 args) w := by go_simp
theorem join_snoc (l : List Bs) (p : Bs) : joinT (l ++ [p]) = joinT l ++ 47 :: encP p := by simp [joinT]
theorem join_take_le (l : List Bs) (k : Nat) : (joinT (l.take k)).length ≤ (joinT l).length := by
  have e : joinT l = joinT (l.take k) ++ joinT (l.drop k) := by
    unfold joinT
    rw [← List.flatMap_append, List.take_append_drop]
  rw [e, List.length_append]
  omega
theorem put_str (a b : Bs) : Lib.byteCells a ++ Lib.strCells (bs b) = Lib.byteCells (a ++ b) := by rw [Lib.byteCells_append]; rfl
/-- The parts that are long enough for no limit. -/
structure Short (u : Ur) : Prop where
  s : u.sch.length ≤ 1048576
  h : u.host.length ≤ 1048576
  p : 0 ≤ u.port ∧ u.port ≤ 65535
  l : ∀ x ∈ u.path, x.length ≤ 1048576
  n : u.path.length ≤ 1048576
  t : (textP u).length ≤ 16777216
set_option maxRecDepth 100000 in
set_option maxHeartbeats 8000000 in
theorem text_any (u : Ur) (pv : Value) (w : World) (hT : TB w) (hu : Short u) (hv : SlR w StrB 1 pv u.path) : Calls Tryz.prog 58 #[u.v pv] w fun e w' => e = .returned (.string (bs (textP u))) ∧ Below w.heap.size w w' := by
  have p60 := call60
  have p45 := call45
  have p15 := call15
  have p47 := call47
  obtain ⟨va, vc, rfl, _⟩ := id hv
  have SP := Lib.hid hv
  obtain ⟨s1, s2, s3⟩ := SlR.cap hv
  have HTB := Lib.hid hT
  have HU := Lib.hid hu
  have hpi : (u.path.length : Int) ≤ 1048576 := by have := hu.n; omega
  have HO := Lib.hid (fun (w9 : World) (hb : Below w.heap.size w w9) => origin_any u (.slice va u.path.length vc) w9 (hT.below hb) hu.s hu.h hu.p ⟨_, _, _, rfl⟩)
  have HQL := Lib.hid (show (if u.asks then 63 :: u.query else []).length + (if u.points then 35 :: u.frag else []).length + (joinT u.path).length + (origP u).length ≤ 16777216 from by
    have := hu.t
    have e : textP u = origP u ++ (joinT u.path ++ ((if u.asks then 63 :: u.query else []) ++ (if u.points then 35 :: u.frag else []))) := rfl
    rw [e] at this
    simp only [List.length_append] at this
    omega)
  have HR := Lib.hid (show textP u = origP u ++ (joinT u.path ++ ((if u.asks then 63 :: u.query else []) ++ (if u.points then 35 :: u.frag else []))) from rfl)
  clear hv hT hu
  obtain ⟨sch, host, port, path, query, asks, frag, points⟩ := u
  simp only at s1 s2 hpi SP HQL HR HO ⊢
  show Calls Tryz.prog 58 #[.agg #[.string (bs sch), .string (bs host), .int .i64 port, .slice va path.length vc, .string (bs query), .bool asks, .string (bs frag), .bool points]] w _
  generalize textP ⟨sch, host, port, path, query, asks, frag, points⟩ = T at *
  generalize origP ⟨sch, host, port, path, query, asks, frag, points⟩ = OR at *
  have HO2 : Hid (∀ (w9 : World), Below w.heap.size w w9 → Calls Tryz.prog 60 #[.agg #[.string (bs sch), .string (bs host), .int .i64 port, .slice va path.length vc, .string (bs query), .bool asks, .string (bs frag), .bool points]] w9 fun e w' => e = .returned (.string (bs OR)) ∧ Below w9.heap.size w9 w') := HO
  clear HO
  have HSE := Lib.hid (show ∀ x ∈ path, x.length ≤ 1048576 from HU.out.l)
  clear HU
  obtain ⟨A, hA⟩ : ∃ A, w.heap.size = A := ⟨_, rfl⟩
  go_enter Tryz.func58, Tryz.ntmps58
  go_upto_region 1 with fail
  refine code_gen (Φ := fun wy => Hid (Below w.heap.size w wy) ∧ Hid (wy.heap[A]? = some (.cells #[.string (bs sch), .string (bs host), .int .i64 port, .slice va path.length vc, .string (bs query), .bool asks, .string (bs frag), .bool points] 47 (0, 0)))) ⟨Lib.hid ((Below.refl _ _).alloc (Nat.le_refl _) _), Lib.hid (alloc_at hA _)⟩ ?_
  rintro w1 ⟨X1, A1⟩
  clear hA
  go_upto_region 2 with fail
  have B0 := Lib.hid (bld_start w1)
  have A2 := Lib.hid ((B0.out.2.block _ (lt_of_heap A1.out)).trans A1.out)
  obtain ⟨c0, c1, c2, c3, c4, c5, c6, c7⟩ := cells8 A2.out
  have HO3 := Lib.hid (HO2.out _ (X1.out.trans (Below.le B0.out.2 X1.out.size)))
  go_wp2_with fail
  refine HO3.out.mono ?_
  rintro e w2 ⟨rfl, hb2⟩
  have B2 := Lib.hid (B0.out.call hb2)
  clear hb2 HO3 HO2 B0 A2 c0 c1 c2 c3 c4 c5 c6 c7
  have HQ := HQL.out
  go_wp2_with fail
  refine (wstring_any w1.heap.size w1.heap.size _ _ _ B2.out.1 (by rw [Lib.byteCells_length, bs_size, List.length_nil]; have := HQL.out; omega) B2.out.2.size).mono ?_
  rintro e w3 ⟨rfl, h1, h2⟩
  have B3 := Lib.hid (bld_put (m := OR) B2.out.2 (put_str _ _) h1 h2)
  clear h1 h2 B2
  have A3 := Lib.hid ((B3.out.2.block _ (lt_of_heap A1.out)).trans A1.out)
  obtain ⟨c0, c1, c2, c3, c4, c5, c6, c7⟩ := cells8 A3.out
  go_wp2_with fail
  clear A3 c0 c1 c2 c3 c4 c5 c6 c7
  go_loopg [12] path.length (fun n vk wr => ∃ k : Nat, n = path.length - k ∧ k ≤ path.length ∧ vk = .int .i64 (k : Int) ∧ Bld w1 (OR ++ joinT (path.take k)) wr)
  case atStart => exact ⟨0, rfl, Nat.zero_le _, rfl, by
    have h := B3.out
    rw [List.nil_append] at h
    show Bld w1 (OR ++ []) w3
    rw [List.append_nil]
    exact h⟩
  case round =>
    clear B3
    obtain ⟨k, hg, hk, rfl, hb⟩ := hrel
    have G := Lib.hid hg
    have B := Lib.hid hb
    clear hg hb
    by_cases hlt : k < path.length
    · have hki : (k : Int) < (path.length : Int) := by omega
      obtain ⟨b, o, rfl, hi⟩ := SP.out.item k hlt
      have hbw := Lib.hid (X1.out.trans (Below.le B.out.2 X1.out.size))
      have x0 : wr.cell? ⟨b, o + k, none⟩ = some (.string (bs path[k])) := by have := kc hbw.out hi; rwa [Nat.mul_one] at this
      have TK := Lib.hid (show joinT (path.take (k + 1)) = joinT (path.take k) ++ 47 :: encP path[k] by rw [List.take_add_one, List.getElem?_eq_getElem hlt]; exact join_snoc _ _)
      have JL := Lib.hid (join_take_le path (k + 1))
      rw [TK.out] at JL
      have HPL := Lib.hid (HSE.out path[k] (List.getElem_mem hlt))
      clear hi
      generalize path[k] = p at *
      have HEN := Lib.hid (encode_any p wr HPL.out)
      have HEL := Lib.hid (enc_len p)
      generalize encP p = E at *
      have LT := Lib.hid (show (OR ++ joinT (path.take k)).length + (47 :: E).length ≤ 16777216 from by
        have h1 := HQL.out
        have h2 := JL.out
        rw [List.length_append] at h2 ⊢
        omega)
      have e47 : (⟨#[47]⟩ : ByteArray) ++ bs E = bs (47 :: E) := bs_app [47] E
      have hes : (bs E).size ≤ 3145728 := by rw [bs_size]; have := HPL.out; have := HEL.out; omega
      go_wp2_with fail
      refine HEN.out.mono ?_
      rintro e w4 ⟨rfl, hb4⟩
      have B4 := Lib.hid (B.out.call hb4)
      clear hb4 HEN B x0
      go_wp2_with fail
      refine (wstring_any w1.heap.size w1.heap.size _ _ _ B4.out.1 (by rw [Lib.byteCells_length, bs_size]; have := LT.out; omega) B4.out.2.size).mono ?_
      rintro e w5 ⟨rfl, h1, h2⟩
      have B5 := Lib.hid (bld_put (m := 47 :: E) B4.out.2 (put_str _ _) h1 h2)
      clear h1 h2 B4
      rw [List.append_assoc, ← TK.out] at B5
      go_wp2_with fail
      go_roundg (path.length - (k + 1))
      case measure => rw [G.out]; omega
      case rel => exact ⟨k + 1, rfl, by omega, by simp, B5.out⟩
    · have hke : k = path.length := by omega
      have hnl : ¬ ((k : Int) < (path.length : Int)) := by omega
      have B4 := Lib.hid (show Bld w1 (OR ++ joinT path) wr from by
        have h1 := B.out
        rwa [hke, List.take_length] at h1)
      clear hke hlt B G
      have A3 := Lib.hid ((B4.out.2.block _ (lt_of_heap A1.out)).trans A1.out)
      obtain ⟨c0, c1, c2, c3, c4, c5, c6, c7⟩ := cells8 A3.out
      have fin : Hid (∀ wz l, Bld w1 l wz → Below w.heap.size w wz) := Lib.hid (fun wz l h => X1.out.trans (Below.le h.2 X1.out.size))
      cases asks with
      | false =>
        cases points with
        | false =>
          have HF := Lib.hid (show T = OR ++ joinT path by rw [HR.out]; simp)
          clear HR
          go_wp2_with fail
          refine (Tryz.Builder_String_any w1.heap.size w1.heap.size _ _ B4.out.1 B4.out.2.size).mono ?_
          rintro e w5 ⟨rfl, h3⟩
          have H3 := Lib.hid ((fin.out _ _ B4.out).trans (Below.le h3 X1.out.size))
          clear h3
          go_wp2_with fail
          go_ret
          rw [HF.out]
          exact ⟨rfl, H3.out⟩
        | true =>
          have HF := Lib.hid (show T = OR ++ joinT path ++ 35 :: frag by rw [HR.out]; simp)
          have LF := Lib.hid (show (OR ++ joinT path).length + (35 :: frag).length ≤ 16777216 from by have h := HQL.out; simp only [if_true, List.length_append] at h ⊢; omega)
          have e35 : (⟨#[35]⟩ : ByteArray) ++ bs frag = bs (35 :: frag) := bs_app [35] frag
          have hes : (bs frag).size ≤ 16777216 := by rw [bs_size]; have := LF.out; simp only [List.length_cons] at this; omega
          clear HR HQ
          go_wp2_with fail
          refine (wstring_any w1.heap.size w1.heap.size _ _ _ B4.out.1 (by rw [Lib.byteCells_length, bs_size]; have := LF.out; omega) B4.out.2.size).mono ?_
          rintro e w5 ⟨rfl, h1, h2⟩
          have B5 := Lib.hid (bld_put (m := 35 :: frag) B4.out.2 (put_str _ _) h1 h2)
          clear h1 h2
          go_wp2_with fail
          refine (Tryz.Builder_String_any w1.heap.size w1.heap.size _ _ B5.out.1 B5.out.2.size).mono ?_
          rintro e w6 ⟨rfl, h3⟩
          have H3 := Lib.hid ((fin.out _ _ B5.out).trans (Below.le h3 X1.out.size))
          clear h3
          go_wp2_with fail
          go_ret
          refine ⟨?_, H3.out⟩
          rw [HF.out]
          simp [bs]
      | true =>
        have LQ := Lib.hid (show (OR ++ joinT path).length + (63 :: query).length ≤ 16777216 from by have h := HQL.out; simp only [if_true, List.length_append] at h ⊢; omega)
        have e63 : (⟨#[63]⟩ : ByteArray) ++ bs query = bs (63 :: query) := bs_app [63] query
        have hqs : (bs query).size ≤ 16777216 := by rw [bs_size]; have := LQ.out; simp only [List.length_cons] at this; omega
        clear HQ
        cases points with
        | false =>
          have HF := Lib.hid (show T = OR ++ joinT path ++ 63 :: query by rw [HR.out]; simp)
          clear HR
          go_wp2_with fail
          refine (wstring_any w1.heap.size w1.heap.size _ _ _ B4.out.1 (by rw [Lib.byteCells_length, bs_size]; have := LQ.out; omega) B4.out.2.size).mono ?_
          rintro e w5 ⟨rfl, h1, h2⟩
          have B5 := Lib.hid (bld_put (m := 63 :: query) B4.out.2 (put_str _ _) h1 h2)
          clear h1 h2 c0 c1 c2 c3 c4 c5 c6 c7 A3
          have A3 := Lib.hid ((B5.out.2.block _ (lt_of_heap A1.out)).trans A1.out)
          obtain ⟨c0, c1, c2, c3, c4, c5, c6, c7⟩ := cells8 A3.out
          go_wp2_with fail
          refine (Tryz.Builder_String_any w1.heap.size w1.heap.size _ _ B5.out.1 B5.out.2.size).mono ?_
          rintro e w6 ⟨rfl, h3⟩
          have H3 := Lib.hid ((fin.out _ _ B5.out).trans (Below.le h3 X1.out.size))
          clear h3
          go_wp2_with fail
          go_ret
          refine ⟨?_, H3.out⟩
          rw [HF.out]
          simp [bs]
        | true =>
          have HF := Lib.hid (show T = OR ++ joinT path ++ 63 :: query ++ 35 :: frag by rw [HR.out]; simp)
          have LF := Lib.hid (show (OR ++ joinT path ++ 63 :: query).length + (35 :: frag).length ≤ 16777216 from by have h := HQL.out; simp only [if_true, List.length_append] at h ⊢; omega)
          have e35 : (⟨#[35]⟩ : ByteArray) ++ bs frag = bs (35 :: frag) := bs_app [35] frag
          have hes : (bs frag).size ≤ 16777216 := by rw [bs_size]; have := LF.out; simp only [List.length_cons] at this; omega
          clear HR
          go_wp2_with fail
          refine (wstring_any w1.heap.size w1.heap.size _ _ _ B4.out.1 (by rw [Lib.byteCells_length, bs_size]; have := LQ.out; omega) B4.out.2.size).mono ?_
          rintro e w5 ⟨rfl, h1, h2⟩
          have B5 := Lib.hid (bld_put (m := 63 :: query) B4.out.2 (put_str _ _) h1 h2)
          clear h1 h2 c0 c1 c2 c3 c4 c5 c6 c7 A3
          have A3 := Lib.hid ((B5.out.2.block _ (lt_of_heap A1.out)).trans A1.out)
          obtain ⟨c0, c1, c2, c3, c4, c5, c6, c7⟩ := cells8 A3.out
          go_wp2_with fail
          refine (wstring_any w1.heap.size w1.heap.size _ _ _ B5.out.1 (by rw [Lib.byteCells_length, bs_size]; have := LF.out; omega) B5.out.2.size).mono ?_
          rintro e w6 ⟨rfl, h1, h2⟩
          have B6 := Lib.hid (bld_put (m := 35 :: frag) B5.out.2 (put_str _ _) h1 h2)
          clear h1 h2
          go_wp2_with fail
          refine (Tryz.Builder_String_any w1.heap.size w1.heap.size _ _ B6.out.1 B6.out.2.size).mono ?_
          rintro e w7 ⟨rfl, h3⟩
          have H3 := Lib.hid ((fin.out _ _ B6.out).trans (Below.le h3 X1.out.size))
          clear h3
          go_wp2_with fail
          go_ret
          refine ⟨?_, H3.out⟩
          rw [HF.out]
          simp [bs]
end Go.Proofs.YtjcejijdeohkgaaGreatDoor
/- W16. -/
namespace Go.Proofs.YtjcejijdeohkgaaGreatDoor
open Go.RowKit

/-- A world that has grown, and the block of an address that was written. -/
structure UB (w w' : World) (A : Nat) (cs : Array Value) : Prop where
  g : w.grownBy w' (some A)
  c : w'.heap[A]? = some (.cells cs 47 (0, 0))
theorem UB.start {w : World} {A : Nat} {cs : Array Value} (h : w.heap[A]? = some (.cells cs 47 (0, 0))) : UB w w A cs := ⟨gr_refl _ _, h⟩
theorem UB.call {w w1 w2 : World} {A : Nat} {cs : Array Value} (h : UB w w1 A cs) (hb : Below w1.heap.size w1 w2) : UB w w2 A cs :=
  ⟨⟨hb.os.trans h.g.os, hb.tape.trans h.g.tape, hb.output.trans h.g.output, Nat.le_trans h.g.size hb.size, fun k hk hne => (hb.block k (Nat.lt_of_lt_of_le hk h.g.size)).trans (h.g.block k hk hne)⟩, (hb.block A (lt_of_heap h.c)).trans h.c⟩
theorem UB.drewN {w w1 : World} {A : Nat} {cs : Array Value} (h : UB w w1 A cs) (n : Nat) : UB w (w1.drewN n) A cs := h.call ⟨rfl, rfl, rfl, Nat.le_refl _, fun _ _ => rfl⟩
theorem UB.set {w w1 : World} {A : Nat} {cs : Array Value} (h : UB w w1 A cs) (i : Nat) (v : Value) (hi : i < cs.size) : UB w (w1.setCell ⟨A, i, none⟩ v) A (cs.set i v) :=
  ⟨Lib.grownBy_setB h.g _ _, set_heap h.c i v hi⟩
theorem UB.tb {w w1 : World} {A : Nat} {cs : Array Value} (h : UB w w1 A cs) (hT : TB w) (h3 : A ≠ 0 ∧ A ≠ 1 ∧ A ≠ 2 ∧ A ≠ 5) : TB w1 := by
  have key : ∀ k, k < w.heap.size → k ≠ A → w1.heap[k]? = w.heap[k]? := fun k hk hne => h.g.block k hk (by simpa using hne)
  have cell : ∀ {b x : Nat} {v : Value}, b ≠ A → w.cell? ⟨b, x, none⟩ = some v → w1.cell? ⟨b, x, none⟩ = some v := by
    intro b x v hne hc
    have hlt := cell_lt hc
    unfold World.cell? at hc ⊢
    rw [key b hlt hne]
    exact hc
  refine ⟨⟨fun c hc => cell (by omega) (hT.u.1 c hc), fun i hi => ⟨cell (by omega) (hT.u.2 i hi).1, cell (by omega) (hT.u.2 i hi).2⟩⟩, ?_, ?_⟩
  · have h5 := hT.p
    have hg : Tryz.prog.globalNamed "internal/strconv.uint64pow10" = some 5 := by kernel_rfl
    unfold Lib.TabIs World.var? at h5 ⊢
    rw [hg] at h5 ⊢
    simp only [Option.bind_some] at h5 ⊢
    have hlt : 5 < w.heap.size := by
      rcases Nat.lt_or_ge 5 w.heap.size with h' | h'
      · exact h'
      · rw [Array.getElem?_eq_none h'] at h5; cases h5
    rw [key 5 hlt (by omega)]
    exact h5
  · obtain ⟨m, hm⟩ := hT.m
    exact ⟨m, cell (by omega) hm⟩
theorem call24 (args : Array Value) (w : World) : Sem.run Tryz.prog (callFunc 24 args) w = .ok (.enter 24 args) w := by go_simp
theorem call108 (args : Array Value) (w : World) : Sem.run Tryz.prog (callFunc 108 args) w = .ok (.enter 108 args) w := by go_simp
theorem call67 (args : Array Value) (w : World) : Sem.run Tryz.prog (callFunc 67 args) w = .ok (.enter 67 args) w := by go_simp
theorem front_len (c : UInt8) (l : Bs) : (frontC c l).length ≤ l.length := by unfold frontC; exact (List.takeWhile_sublist _).length_le
theorem back_len (c : UInt8) (l : Bs) : (backC c l).length ≤ l.length := by
  unfold backC
  rw [List.length_drop]
  have := (List.dropWhile_sublist (l := l) (fun b => b != c)).length_le
  omega
set_option maxRecDepth 100000 in
set_option maxHeartbeats 4000000 in
theorem tail_any (A : Nat) (v0 v1 v2 v3 v4 v5 v6 v7 : Value) (l : Bs) (w : World) (hA : w.heap[A]? = some (.cells #[v0, v1, v2, v3, v4, v5, v6, v7] 47 (0, 0))) (hl : l.length ≤ 1048576) :
    Calls Tryz.prog 67 #[.pointer (some ⟨A, 0, none⟩), .string (bs l)] w fun e w' => e = .returned (.tuple #[.string (bs (pathT l)), .bool ((cleanR (backC 63 (frontC 35 l))).2 && (cleanR (backC 35 l)).2)]) ∧ UB w w' A #[v0, v1, v2, v3, .string (bs (cleanR (backC 63 (frontC 35 l))).1), .bool (asksT l), .string (bs (cleanR (backC 35 l)).1), .bool (pointsT l)] := by
  have p24 := call24
  have p108 := call108
  have HC1 := Lib.hid (cut_any 35 l w (by omega))
  have HC2 := Lib.hid (fun w9 => cut_any 63 (frontC 35 l) w9 (by have := front_len 35 l; omega))
  have HK1 := Lib.hid (fun w9 => clean_any (backC 63 (frontC 35 l)) w9 (by have := front_len 35 l; have := back_len 63 (frontC 35 l); omega))
  have HK2 := Lib.hid (fun w9 => clean_any (backC 35 l) w9 (by have := back_len 35 l; omega))
  have U0 := Lib.hid (UB.start hA)
  clear hA hl
  unfold pathT asksT pointsT
  generalize cleanR (backC 63 (frontC 35 l)) = Q at *
  generalize cleanR (backC 35 l) = F at *
  generalize List.contains l 35 = PT at *
  generalize List.contains (frontC 35 l) 63 = AK at *
  generalize backC 35 l = B1 at *
  generalize frontC 63 (frontC 35 l) = PA at *
  generalize backC 63 (frontC 35 l) = B2 at *
  generalize frontC 35 l = F1 at *
  obtain ⟨Q1, Q2⟩ := Q
  obtain ⟨F1', F2⟩ := F
  go_enter Tryz.func67, Tryz.ntmps67
  go_wp2_with fail
  refine HC1.out.mono ?_
  rintro e w1 ⟨rfl, q1, rfl⟩
  have U1 := Lib.hid (U0.out.drewN q1)
  clear HC1 U0
  generalize w.drewN q1 = w1 at *
  go_wp2_with fail
  refine (HC2.out _).mono ?_
  rintro e w2 ⟨rfl, q2, rfl⟩
  have U2 := Lib.hid (U1.out.drewN q2)
  clear HC2 U1
  generalize w1.drewN q2 = w2 at *
  obtain ⟨c0, c1, c2, c3, c4, c5, c6, c7⟩ := cells8 U2.out.c
  have f5 := Lib.frozen_of_heap U2.out.c 5
  have f7 := Lib.frozen_of_heap U2.out.c 7
  have U3 := Lib.hid ((U2.out.set 5 (.bool AK) (by simp)).set 7 (.bool PT) (by simp))
  go_upto_region 5 with fail
  refine code_gen (Φ := fun wy => Hid (UB w wy A #[v0, v1, v2, v3, v4, .bool AK, v6, .bool PT])) U3 ?_
  clear U3 U2 c0 c1 c2 c3 c4 c5 c6 c7 f5 f7
  intro w3 U3
  go_wp2_with fail
  refine (HK1.out _).mono ?_
  rintro e w4 ⟨rfl, hb4⟩
  have U4 := Lib.hid (U3.out.call hb4)
  clear hb4 HK1 U3
  obtain ⟨c0, c1, c2, c3, c4, c5, c6, c7⟩ := cells8 U4.out.c
  have f4 := Lib.frozen_of_heap U4.out.c 4
  have U5 := Lib.hid (U4.out.set 4 (.string (bs Q1)) (by simp))
  go_upto_region 6 with fail
  refine code_gen (Φ := fun wy => Hid (UB w wy A #[v0, v1, v2, v3, .string (bs Q1), .bool AK, v6, .bool PT])) U5 ?_
  clear U5 U4 c0 c1 c2 c3 c4 c5 c6 c7 f4
  intro w5 U5
  go_wp2_with fail
  refine (HK2.out _).mono ?_
  rintro e w6 ⟨rfl, hb6⟩
  have U6 := Lib.hid (U5.out.call hb6)
  clear hb6 HK2 U5
  obtain ⟨c0, c1, c2, c3, c4, c5, c6, c7⟩ := cells8 U6.out.c
  have f6 := Lib.frozen_of_heap U6.out.c 6
  have U7 := Lib.hid (U6.out.set 6 (.string (bs F1')) (by simp))
  go_upto_region 7 with fail
  refine code_gen (Φ := fun wy => Hid (UB w wy A #[v0, v1, v2, v3, .string (bs Q1), .bool AK, .string (bs F1'), .bool PT])) U7 ?_
  clear U7 U6 c0 c1 c2 c3 c4 c5 c6 c7 f6
  intro w7 U7
  cases Q2 with
  | true =>
    go_wp2_with fail
    go_ret2
    exact ⟨rfl, U7.out⟩
  | false =>
    go_wp2_with fail
    go_ret2
    exact ⟨rfl, U7.out⟩
end Go.Proofs.YtjcejijdeohkgaaGreatDoor
/- W17. -/
namespace Go.Proofs.YtjcejijdeohkgaaGreatDoor
open Go.RowKit

theorem dec_some : ∀ (l : Bs) (n : Nat), (∀ x ∈ l, x ∈ digs) → ∃ m, Lib.decFrom n l = some m
  | [], n, _ => ⟨n, rfl⟩
  | c :: r, n, h => by
    have key : ∀ x ∈ digs, ∃ d, Lib.digitVal x = some d := by
      intro x hx
      simp only [digs, List.mem_cons, List.not_mem_nil, or_false] at hx
      rcases hx with rfl | rfl | rfl | rfl | rfl | rfl | rfl | rfl | rfl | rfl
      all_goals exact ⟨_, rfl⟩
    obtain ⟨d, hd⟩ := key c (h c (by simp))
    obtain ⟨m, hm⟩ := dec_some r (n * 10 + d) (fun x hx => h x (List.mem_cons_of_mem _ hx))
    refine ⟨m, ?_⟩
    rw [Lib.decFrom, hd]
    exact hm
theorem num_digits {p : Bs} (h0 : p ≠ []) (hl : p.length ≤ 5) (h : ∀ x ∈ p, x ∈ digs) : Lib.atoi p = some (numP p) := by
  have key : ∃ m, Lib.atoi p = some m := by
    cases p with
    | nil => exact absurd rfl h0
    | cons c r =>
      obtain ⟨m, hm⟩ := dec_some (c :: r) 0 h
      have h43 : ∀ x ∈ digs, (x == 45) = false ∧ (x == 43) = false := by decide
      obtain ⟨n1, n2⟩ := h43 c (h c (by simp))
      refine ⟨(m : Int), ?_⟩
      simp only [Lib.atoi, n1, n2, Lib.decNat, Bool.false_eq_true, if_false, List.isEmpty_cons, hm, Option.map_some]
  obtain ⟨m, hm⟩ := key
  have e := Lib.atoiAll_short p (by omega)
  rw [hm] at e
  unfold numP
  rw [e, hm]
  rfl
theorem enc_rune_len (r : Int) : (Lib.encodeRune r).length ≤ 4 := by
  unfold Lib.encodeRune
  rw [List.length_map]
  unfold Lib.encodeRuneZ
  repeat' split
  all_goals simp
theorem map_len (f : Int → Int) : ∀ (n : Nat) (l : Bs), (Lib.mapGoD f n l).length ≤ 4 * n
  | 0, _ => by simp [Lib.mapGoD]
  | n + 1, l => by
    unfold Lib.mapGoD
    split
    · simp
    · rw [List.length_append]
      have h1 := map_len f n (l.drop (Lib.decodeL l).2)
      have h2 : (if 0 ≤ f (Lib.decodeL l).1 then Lib.encodeRune (f (Lib.decodeL l).1) else []).length ≤ 4 := by
        split
        · exact enc_rune_len _
        · simp
      omega
theorem small_len (l : Bs) : (smallP l).length ≤ 4 * l.length := map_len smR l.length l
theorem below_bytes (w : World) (e : TypeId) (s : ByteArray) : Below w.heap.size w (Lib.bytesWorld w e s) := ⟨rfl, rfl, rfl, by rw [Lib.bytesWorld_size]; omega, fun k hk => Lib.bytesWorld_at_old w e s k hk⟩
theorem call106 (args : Array Value) (w : World) : Sem.run Tryz.prog (callFunc 106 args) w = .ok (.enter 106 args) w := by go_simp
theorem call107 (args : Array Value) (w : World) : Sem.run Tryz.prog (callFunc 107 args) w = .ok (.enter 107 args) w := by go_simp
theorem call66 (args : Array Value) (w : World) : Sem.run Tryz.prog (callFunc 66 args) w = .ok (.enter 66 args) w := by go_simp
/-- What place leaves. -/
def PlaceSaid (w : World) (A : Nat) (sch : Bs) (v3 v4 v5 v6 v7 : Value) (p : Option (Bs × Int)) (e : Ending) (w' : World) : Prop :=
  match p with
  | some (h, n) => e = .returned (.bool true) ∧ UB w w' A #[.string (bs sch), .string (bs h), .int .i64 n, v3, v4, v5, v6, v7]
  | none => e = .returned (.bool false) ∧ ∃ cs, UB w w' A cs
set_option maxRecDepth 100000 in
set_option maxHeartbeats 8000000 in
theorem place_any (A : Nat) (sch : Bs) (v1 v3 v4 v5 v6 v7 : Value) (l : Bs) (w : World) (hT : TB w) (h3 : A ≠ 0 ∧ A ≠ 1 ∧ A ≠ 2 ∧ A ≠ 5) (hA : w.heap[A]? = some (.cells #[.string (bs sch), v1, .int .i64 0, v3, v4, v5, v6, v7] 47 (0, 0))) (hl : l.length ≤ 500) :
    Calls Tryz.prog 66 #[.pointer (some ⟨A, 0, none⟩), .string (bs l)] w fun e w' => PlaceSaid w A sch v3 v4 v5 v6 v7 (placeP sch l) e w' := by
  have p24 := call24
  have p94 := call94
  have p105 := call105
  have p18 := call18
  have p106 := call106
  have p107 := call107
  have HC1 := Lib.hid (cut_any 58 l w (by omega))
  have HTB := Lib.hid (fun (w1 : World) (cs : Array Value) (u : UB w w1 A cs) => u.tb hT h3)
  have HF := Lib.hid (show (frontC 58 l).length ≤ 500 from Nat.le_trans (front_len 58 l) hl)
  have HB := Lib.hid (show (backC 58 l).length ≤ 500 from Nat.le_trans (back_len 58 l) hl)
  have U0 := Lib.hid (UB.start hA)
  have HSL : Hid ((smallP (frontC 58 l)).length ≤ 1048576) := Lib.hid (by have := small_len (frontC 58 l); have := HF.out; omega)
  obtain ⟨R, hR⟩ : ∃ R, placeP sch l = R := ⟨_, rfl⟩
  rw [hR]
  unfold placeP at hR
  have HR := Lib.hid hR
  clear hA hl hR hT
  generalize List.contains l 58 = HAS at *
  generalize frontC 58 l = F at *
  generalize backC 58 l = P at *
  go_enter Tryz.func66, Tryz.ntmps66
  go_wp2_with fail
  refine HC1.out.mono ?_
  rintro e w1 ⟨rfl, q1, rfl⟩
  have U1 := Lib.hid (U0.out.drewN q1)
  clear HC1 U0
  generalize w.drewN q1 = w1 at *
  have HSM := Lib.hid (small_any F w1 (HTB.out _ _ U1.out) (by have := HF.out; omega))
  go_wp2_with fail
  refine HSM.out.mono ?_
  rintro e w2 ⟨rfl, hb2⟩
  have U2 := Lib.hid (U1.out.call hb2)
  clear hb2 HSM U1
  generalize smallP F = H at *
  obtain ⟨c0, c1, c2, c3, c4, c5, c6, c7⟩ := cells8 U2.out.c
  have f1 := Lib.frozen_of_heap U2.out.c 1
  have U3 := Lib.hid (U2.out.set 1 (.string (bs H)) (by simp))
  go_upto_region 3 with fail
  refine code_gen (Φ := fun wy => Hid (UB w wy A #[.string (bs sch), .string (bs H), .int .i64 0, v3, v4, v5, v6, v7])) U3 ?_
  clear U3 U2 c0 c1 c2 c3 c4 c5 c6 c7 f1
  intro w3 U3
  obtain ⟨c0, c1, c2, c3, c4, c5, c6, c7⟩ := cells8 U3.out.c
  have HHO := Lib.hid (host_any H w3 (HTB.out _ _ U3.out) HSL.out)
  go_wp2_with fail
  refine HHO.out.mono ?_
  rintro e w4 ⟨rfl, hb4⟩
  have U4 := Lib.hid (U3.out.call hb4)
  clear hb4 HHO U3 c0 c1 c2 c3 c4 c5 c6 c7
  generalize hostP H = HO at *
  cases HO with
  | false =>
    have hr : R = none := by rw [← HR.out, if_pos rfl]
    subst hr
    go_wp2_with fail
    go_ret
    exact ⟨rfl, _, U4.out⟩
  | true =>
    cases HAS with
    | false =>
      have hr : R = some (H, 0) := by rw [← HR.out, if_neg (by simp), if_pos rfl]
      subst hr
      go_wp2_with fail
      go_ret
      exact ⟨rfl, U4.out⟩
    | true =>
      have HR2 := Lib.hid (show (if P.length < 1 ∨ 5 < P.length ∨ Lib.trimS P digs ≠ [] then none
        else if numP P < 1 ∨ 65535 < numP P then none
        else some (H, if numP P = ownP sch then 0 else numP P)) = R by rw [← HR.out, if_neg (show ¬ (true = false) by decide), if_neg (show ¬ (true = false) by decide)])
      clear HR
      have hpz : (bs P).size = P.length := bs_size P
      by_cases hp1 : P.length < 1
      · have hr : R = none := by rw [← HR2.out, if_pos (.inl hp1)]
        subst hr
        have hpi : ((bs P).size : Int) < 1 := by omega
        generalize bs P = S at *
        clear HR2 hpz
        go_wp2_with fail
        go_ret
        exact ⟨rfl, _, U4.out⟩
      · by_cases hp5 : 5 < P.length
        · have hr : R = none := by rw [← HR2.out, if_pos (.inr (.inl hp5))]
          subst hr
          have hpi : (1 : Int) ≤ ((bs P).size : Int) := by omega
          have hpj : (5 : Int) < ((bs P).size : Int) := by omega
          generalize bs P = S at *
          clear HR2 hpz
          go_wp2_with fail
          go_ret
          exact ⟨rfl, _, U4.out⟩
        · have hpi : (1 : Int) ≤ ((bs P).size : Int) := by omega
          have hpj : ((bs P).size : Int) ≤ 5 := by omega
          have HTR := Lib.hid (trim_any P digs w4 (by omega) (by decide) (by decide))
          have HTI := Lib.hid (trim_iff P digs)
          generalize Lib.trimS P digs = T at *
          have e0 : Hid ((bs T).toList = T) := Lib.hid (by rw [Lib.toList_data, bs_list])
          cases ht : T.isEmpty with
          | false =>
            have hne : T ≠ [] := by rintro rfl; cases ht
            have hr : R = none := by rw [← HR2.out, if_pos (.inr (.inr hne))]
            subst hr
            have e1 : (bs T).toList.isEmpty = false := by rw [e0.out, ht]
            generalize bs P = S at *
            clear HR2 hpz hne ht HTI e0
            go_wp2_with fail
            refine HTR.out.mono ?_
            rintro e w5 ⟨rfl, hb5⟩
            have U5 := Lib.hid (U4.out.call hb5)
            clear hb5 HTR
            generalize bs T = S3 at *
            go_wp2_with fail
            go_ret
            exact ⟨rfl, _, U5.out⟩
          | true =>
            have hte : T = [] := by simpa using ht
            have e1 : (bs T).toList.isEmpty = true := by rw [e0.out, ht]
            have HND := Lib.hid (num_digits (p := P) (by intro e; rw [e] at hp1; exact hp1 (by decide)) (by omega) (HTI.out.1 hte))
            rw [if_neg (by rintro (h | h | h); exact hp1 h; exact hp5 h; exact h hte)] at HR2
            have HAT := Lib.hid (fun w9 => Tryz.strconv_Atoi (bs P) (numP P) (by rw [bs_size]; omega) (by rw [bs_list]; exact HND.out) w9)
            clear HND hpz ht hte HTI e0 hp1 hp5
            generalize numP P = n at *
            generalize bs P = S at *
            go_wp2_with fail
            refine HTR.out.mono ?_
            rintro e w5 ⟨rfl, hb5⟩
            have U5 := Lib.hid (U4.out.call hb5)
            clear hb5 HTR U4
            generalize bs T = S3 at *
            go_wp2_with fail
            refine (HAT.out _).mono ?_
            rintro e w6 ⟨rfl, t, rfl⟩
            have U6 := Lib.hid (U5.out.call (below_bytes w5 5 t))
            clear HAT U5
            generalize Lib.bytesWorld w5 5 t = w6 at *
            by_cases hn1 : n < 1
            · rw [if_pos (.inl hn1)] at HR2
              have hr := HR2.out
              subst hr
              clear HR2
              go_wp2_with fail
              go_ret
              exact ⟨rfl, _, U6.out⟩
            · by_cases hn2 : 65535 < n
              · rw [if_pos (.inr hn2)] at HR2
                have hr := HR2.out
                subst hr
                clear HR2
                go_wp2_with fail
                go_ret
                exact ⟨rfl, _, U6.out⟩
              · rw [if_neg (by omega)] at HR2
                have HOW := Lib.hid (fun w9 => own_any sch w9)
                generalize ownP sch = O at *
                obtain ⟨c0, c1, c2, c3, c4, c5, c6, c7⟩ := cells8 U6.out.c
                have f2 := Lib.frozen_of_heap U6.out.c 2
                have U7 := Lib.hid (U6.out.set 2 (.int .i64 n) (by simp))
                by_cases hno : n = O
                · have hnb : (n == O) = true := by simpa using hno
                  rw [if_pos hno] at HR2
                  have hr := HR2.out
                  subst hr
                  clear HR2 U7
                  go_wp2_with fail
                  refine (HOW.out _).mono ?_
                  rintro e w' ⟨rfl, rfl⟩
                  go_wp2_with fail
                  go_ret
                  exact ⟨rfl, U6.out⟩
                · have hnb : (n == O) = false := by simpa using hno
                  rw [if_neg hno] at HR2
                  have hr := HR2.out
                  subst hr
                  clear HR2
                  go_wp2_with fail
                  refine (HOW.out _).mono ?_
                  rintro e w' ⟨rfl, rfl⟩
                  go_wp2_with fail
                  go_ret
                  exact ⟨rfl, U7.out⟩
end Go.Proofs.YtjcejijdeohkgaaGreatDoor
