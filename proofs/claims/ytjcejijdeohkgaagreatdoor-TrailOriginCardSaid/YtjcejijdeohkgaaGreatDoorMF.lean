/- Several texts in one: W26, W27. -/
import Derived.Test.YtjcejijdeohkgaaGreatDoorW25
import Derived.Test.YtjcejijdeohkgaaGreatDoorME
/- W26. -/
namespace Go.Proofs.YtjcejijdeohkgaaGreatDoor
open Go.RowKit

theorem map_bs_inj : ∀ {a b : List Bs}, a.map bs = b.map bs → a = b
  | [], [], _ => rfl
  | [], _ :: _, h => by cases h
  | _ :: _, [], h => by cases h
  | x :: a, y :: b, h => by
    rw [List.map_cons, List.map_cons] at h
    injection h with h1 h2
    rw [bs_inj h1, map_bs_inj h2]
theorem str_getD {w : World} {b o c : Nat} {l : List Bs} (h : SlR w StrB 1 (.slice (some ⟨b, o, none⟩) l.length c) l) : ∀ j, j < (l.map bs).length → w.cell? ⟨b, o + j, none⟩ = some (.string ((l.map bs).getD j ByteArray.empty)) := fun j hj => by
  have hj' : j < l.length := by simpa using hj
  obtain ⟨b', o', e, hi⟩ := h.item j hj'
  injection e with e
  injection e with e1 e2
  subst e1 e2
  have hi' : w.cell? ⟨b, o + j * 1, none⟩ = _ := hi
  rw [Nat.mul_one] at hi'
  rw [hi', List.getD_eq_getElem?_getD, List.getElem?_eq_getElem hj]
  simp
/-- slices.Equal over texts. -/
theorem eqS_any (a a2 : Option Addr) (c c2 : Nat) (l l2 : List Bs) (w : World) (h1 : SlR w StrB 1 (.slice a l.length c) l) (h2 : SlR w StrB 1 (.slice a2 l2.length c2) l2) :
    Calls Tryz.prog 34 #[.slice a l.length c, .slice a2 l2.length c2] w fun e w' => e = .returned (.bool (decide (l = l2))) ∧ Below w.heap.size w w' := by
  by_cases hl : l.length = 0
  · have e := List.eq_nil_of_length_eq_zero hl
    subst e
    refine (Tryz.slices_Equal_string_empty a a2 c l2.length c2 w (SlR.cap h2).1).mono ?_
    rintro e w' ⟨rfl, rfl⟩
    refine ⟨ret_bool ?_, Below.refl _ _⟩
    cases l2 <;> simp
  · by_cases hl2 : l.length = l2.length
    · obtain ⟨b, o, rfl, _⟩ := h1.item 0 (by omega)
      obtain ⟨b2, o2, rfl, _⟩ := h2.item 0 (by omega)
      refine (Tryz.slices_Equal_string b o l.length c b2 o2 l2.length c2 (l.map bs) (l2.map bs) w (by simp) (by simp) (SlR.cap h1).1 (SlR.cap h2).1 (str_getD h1) (str_getD h2)).mono ?_
      rintro e w' ⟨rfl, q, rfl⟩
      refine ⟨ret_bool ?_, below_drewN (Below.refl _ _) _⟩
      rw [show (l.map bs).take l.length = l.map bs from List.take_of_length_le (by simp), show (l2.map bs).take l2.length = l2.map bs from List.take_of_length_le (by simp)]
      exact Bool.eq_iff_iff.2 (by simp only [decide_eq_true_eq]; exact ⟨map_bs_inj, fun e => by rw [e]⟩)
    · refine (Tryz.slices_Equal_string_lens a a2 l.length c l2.length c2 w hl2).mono ?_
      rintro e w' ⟨rfl, rfl⟩
      refine ⟨ret_bool ?_, Below.refl _ _⟩
      exact (decide_eq_false (fun e => hl2 (by rw [e]))).symm
theorem call34 (args : Array Value) (w : World) : Sem.run Tryz.prog (callFunc 34 args) w = .ok (.enter 34 args) w := by go_simp
theorem bs_ne {a b : Bs} (h : ¬ a = b) : ((bs a).toList == (bs b).toList) = false := by
  rw [Lib.toList_data, Lib.toList_data, bs_list, bs_list, beq_eq_false_iff_ne]
  exact h
set_option maxRecDepth 100000 in
set_option maxHeartbeats 8000000 in
theorem same_any (u v : Ur) (pv qv : Value) (w : World) (hu : SlR w StrB 1 pv u.path) (hv : SlR w StrB 1 qv v.path) : Calls Tryz.prog 72 #[u.v pv, v.v qv] w fun e w' => e = .returned (.bool (decide (u = v))) ∧ Below w.heap.size w w' := by
  have p34 := call34
  obtain ⟨R, hR⟩ : ∃ R, decide (u = v) = R := ⟨_, rfl⟩
  rw [hR]
  obtain ⟨sch, host, port, path, query, asks, frag, points⟩ := u
  obtain ⟨sch2, host2, port2, path2, query2, asks2, frag2, points2⟩ := v
  have HR := Lib.hid hR
  clear hR
  obtain ⟨pa, pc, rfl, _⟩ := id hu
  obtain ⟨qa, qc, rfl, _⟩ := id hv
  simp only at hu hv
  have HN := Lib.hid (fun (w1 : World) (hb : Below w.heap.size w w1) => eqS_any pa qa pc qc path path2 w1 (hu.mono (fun _ _ _ h => kc hb h)) (hv.mono (fun _ _ _ h => kc hb h)))
  clear hu hv
  simp only [Ur.v]
  go_enter Tryz.func72, Tryz.ntmps72
  obtain ⟨A, hA⟩ : ∃ A, w.heap.size = A := ⟨_, rfl⟩
  go_upto_region 1 with fail
  refine code_gen (Φ := fun wy => Hid (Below w.heap.size w wy) ∧ Hid (wy.heap[A]? = some (.cells #[.string (bs sch), .string (bs host), .int .i64 port, .slice pa path.length pc, .string (bs query), .bool asks, .string (bs frag), .bool points] 47 (0, 0))) ∧ Hid (wy.heap[A + 1]? = some (.cells #[.string (bs sch2), .string (bs host2), .int .i64 port2, .slice qa path2.length qc, .string (bs query2), .bool asks2, .string (bs frag2), .bool points2] 47 (0, 0)))) ?_ ?_
  · have e1 := alloc_at hA (.cells #[.string (bs sch), .string (bs host), .int .i64 port, .slice pa path.length pc, .string (bs query), .bool asks, .string (bs frag), .bool points] 47)
    refine ⟨Lib.hid (((Below.refl _ _).alloc (Nat.le_refl _) _).alloc (al_le (Nat.le_refl _) _) _), Lib.hid ?_, Lib.hid (alloc_at (by rw [← hA]; simp) _)⟩
    exact (((Below.refl _ _).alloc (Nat.le_refl _) _).block A (lt_of_heap e1)).trans e1
  rintro w1 ⟨X, A1, A2⟩
  clear hA
  obtain ⟨c0, c1, c2, c3, c4, c5, c6, c7⟩ := cells8 A1.out
  obtain ⟨d0, d1, d2, d3, d4, d5, d6, d7⟩ := cells8 A2.out
  by_cases hs : sch = sch2
  case neg =>
    have hsb := bs_ne hs
    have hr : R = false := by rw [← HR.out]; simp [hs]
    subst hr
    clear hs HR
    go_wp2_with fail
    go_ret
    exact ⟨rfl, X.out⟩
  subst hs
  by_cases hh : host = host2
  case neg =>
    have hhb := bs_ne hh
    have hr : R = false := by rw [← HR.out]; simp [hh]
    subst hr
    clear hh HR
    go_wp2_with fail
    go_ret
    exact ⟨rfl, X.out⟩
  subst hh
  by_cases hp : port = port2
  case neg =>
    have hpb : (port == port2) = false := by simpa using hp
    have hr : R = false := by rw [← HR.out]; simp [hp]
    subst hr
    clear hp HR
    go_wp2_with fail
    go_ret
    exact ⟨rfl, X.out⟩
  subst hp
  go_wp2_with fail
  refine (HN.out _ X.out).mono ?_
  rintro e w2 ⟨rfl, hb2⟩
  have X2 := Lib.hid (X.out.trans (Below.le hb2 X.out.size))
  have A3 := Lib.hid ((hb2.block _ (lt_of_heap A1.out)).trans A1.out)
  have A4 := Lib.hid ((hb2.block _ (lt_of_heap A2.out)).trans A2.out)
  clear c0 c1 c2 c3 c4 c5 c6 c7 d0 d1 d2 d3 d4 d5 d6 d7 hb2 A1 A2 X HN
  obtain ⟨c0, c1, c2, c3, c4, c5, c6, c7⟩ := cells8 A3.out
  obtain ⟨d0, d1, d2, d3, d4, d5, d6, d7⟩ := cells8 A4.out
  by_cases hpp : path = path2
  case neg =>
    have hnb : decide (path = path2) = false := by simpa using hpp
    rw [hnb]
    have hr : R = false := by rw [← HR.out]; simp [hpp]
    subst hr
    clear hpp hnb HR
    go_wp2_with fail
    go_ret
    exact ⟨rfl, X2.out⟩
  have hnb : decide (path = path2) = true := by simpa using hpp
  rw [hnb]
  subst hpp
  clear hnb
  by_cases hq : query = query2
  case neg =>
    have hqb := bs_ne hq
    have hr : R = false := by rw [← HR.out]; simp [hq]
    subst hr
    clear hq HR
    go_wp2_with fail
    go_ret
    exact ⟨rfl, X2.out⟩
  subst hq
  by_cases ha : asks = asks2
  case neg =>
    have hab : (asks == asks2) = false := by simpa using ha
    have hr : R = false := by rw [← HR.out]; simp [ha]
    subst hr
    clear ha HR
    go_wp2_with fail
    go_ret
    exact ⟨rfl, X2.out⟩
  subst ha
  by_cases hf : frag = frag2
  case neg =>
    have hfb := bs_ne hf
    have hr : R = false := by rw [← HR.out]; simp [hf]
    subst hr
    clear hf HR
    go_wp2_with fail
    go_ret
    exact ⟨rfl, X2.out⟩
  subst hf
  by_cases ho : points = points2
  case neg =>
    have hob : (points == points2) = false := by simpa using ho
    have hr : R = false := by rw [← HR.out]; simp [ho]
    subst hr
    clear ho HR
    go_wp2_with fail
    go_ret
    exact ⟨rfl, X2.out⟩
  subst ho
  have hr : R = true := by rw [← HR.out]; simp
  subst hr
  clear HR
  go_wp2_with fail
  go_ret
  exact ⟨rfl, X2.out⟩
end Go.Proofs.YtjcejijdeohkgaaGreatDoor
/- W27. -/
namespace Go.Proofs.YtjcejijdeohkgaaGreatDoor
open Go.RowKit

set_option maxRecDepth 100000 in
set_option maxHeartbeats 4000000 in
theorem ok_any (a : Option Addr) (c : Nat) (l : List Int) (w : World) (h : SlR w IntAt 1 (.slice a l.length c) l) : Calls Tryz.prog 25 #[.slice a l.length c] w fun e w' => e = .returned (.bool (l.all fun x => x == 0)) ∧ Below w.heap.size w w' := by
  have HS := Lib.hid h
  obtain ⟨q1, q2, q3⟩ := SlR.cap h
  clear h
  obtain ⟨R, hR⟩ : ∃ R, (l.all fun x => x == 0) = R := ⟨_, rfl⟩
  rw [hR]
  have HR := Lib.hid (show ((l.drop 0).all fun x => x == 0) = R from hR)
  clear hR
  go_enter Tryz.func25, Tryz.ntmps25
  go_upto_region 2 with fail
  go_loopg [7, 4] l.length (fun g v7 _ wr => ∃ k : Nat, g = l.length - k ∧ k ≤ l.length ∧ v7 = .int .i64 (k : Int) ∧ ((l.drop k).all fun x => x == 0) = R ∧ Below w.heap.size w wr)
  case atStart => exact ⟨0, rfl, Nat.zero_le _, rfl, HR.out, Below.refl _ _⟩
  case round =>
    clear HR
    obtain ⟨k, hg, hk, rfl, hr, hb⟩ := hrel
    have G := Lib.hid hg
    have HR := Lib.hid hr
    have HB := Lib.hid hb
    clear hg hr hb
    by_cases hlt : k < l.length
    · have hki : (k : Int) < (l.length : Int) := by omega
      have HAD := Lib.hid (show ((l.drop k).all fun x => x == 0) = ((l[k] == 0) && (l.drop (k + 1)).all fun x => x == 0) by rw [List.drop_eq_getElem_cons hlt]; rfl)
      obtain ⟨b, o, rfl, hi⟩ := HS.out.item k hlt
      have x0 : wr.cell? ⟨b, o + k, none⟩ = some (.int .i64 l[k]) := by have := kc HB.out hi; rwa [Nat.mul_one] at this
      clear hi
      generalize l[k] = X at *
      by_cases h0 : X = 0
      · subst h0
        have HR3 := Lib.hid (show ((l.drop (k + 1)).all fun x => x == 0) = R by rw [← HR.out, HAD.out]; rfl)
        go_wp2_with fail
        go_roundg (l.length - (k + 1))
        case measure => have := G.out; omega
        case rel => exact ⟨k + 1, rfl, by omega, by simp, HR3.out, HB.out⟩
      · have h1 : (X == 0) = false := by simpa using h0
        have hr : R = false := by rw [← HR.out, HAD.out, h1]; rfl
        subst hr
        go_wp2_with fail
        go_ret
        exact ⟨rfl, HB.out⟩
    · have hke : k = l.length := by omega
      have hr : R = true := by rw [← HR.out, hke, List.drop_length]; rfl
      subst hr
      clear HR
      have hnl : ¬ ((k : Int) < (l.length : Int)) := by omega
      go_wp2_with fail
      go_ret
      exact ⟨rfl, HB.out⟩
theorem call72 (args : Array Value) (w : World) : Sem.run Tryz.prog (callFunc 72 args) w = .ok (.enter 72 args) w := by go_simp
theorem call33 (args : Array Value) (w : World) : Sem.run Tryz.prog (callFunc 33 args) w = .ok (.enter 33 args) w := by go_simp
theorem call32 (args : Array Value) (w : World) : Sem.run Tryz.prog (callFunc 32 args) w = .ok (.enter 32 args) w := by go_simp
theorem call25 (args : Array Value) (w : World) : Sem.run Tryz.prog (callFunc 25 args) w = .ok (.enter 25 args) w := by go_simp
set_option maxRecDepth 100000 in
set_option maxHeartbeats 8000000 in
theorem check_any (u : Ur) (pv : Value) (w : World) (hT : TB w) (hu : Short u) (hv : SlR w StrB 1 pv u.path) : Calls Tryz.prog 33 #[u.v pv] w fun e w' => e = .returned (.int .i64 (checkU u)) ∧ Below w.heap.size w w' := by
  have p58 := call58
  have p28 := call28
  have p72 := call72
  have HTB := Lib.hid hT
  obtain ⟨R, hR⟩ : ∃ R, checkU u = R := ⟨_, rfl⟩
  rw [hR]
  unfold checkU at hR
  have HR := Lib.hid hR
  clear hR
  have HTX := Lib.hid (fun (w9 : World) (hb : Below w.heap.size w w9) => text_any u pv w9 (HTB.out.below hb) hu (hv.mono (fun _ _ _ h => kc hb h)))
  have HSM := Lib.hid (fun (v : Ur) (qv : Value) (w9 : World) (hb : Below w.heap.size w w9) (hq : SlR w9 StrB 1 qv v.path) => same_any u v pv qv w9 (hv.mono (fun _ _ _ h => kc hb h)) hq)
  obtain ⟨pa, pc, rfl, _⟩ := id hv
  have HP := Lib.hid (fun w9 hT9 => parse_any (textP u) w9 hT9)
  clear hT hu hv
  generalize textP u = TX at *
  obtain ⟨A, hA⟩ : ∃ A, w.heap.size = A := ⟨_, rfl⟩
  simp only [Ur.v] at HTX ⊢
  go_enter Tryz.func33, Tryz.ntmps33
  go_upto_region 1 with fail
  refine code_gen (Φ := fun wy => Hid (Below w.heap.size w wy) ∧ Hid (wy.heap[A]? = some (.cells #[.string (bs u.sch), .string (bs u.host), .int .i64 u.port, .slice pa u.path.length pc, .string (bs u.query), .bool u.asks, .string (bs u.frag), .bool u.points] 47 (0, 0)))) ⟨Lib.hid ((Below.refl _ _).alloc (Nat.le_refl _) _), Lib.hid (alloc_at hA _)⟩ ?_
  rintro w1 ⟨X1, B1⟩
  clear hA
  obtain ⟨c0, c1, c2, c3, c4, c5, c6, c7⟩ := cells8 B1.out
  go_wp2_with fail
  refine (HTX.out _ X1.out).mono ?_
  rintro e w2 ⟨rfl, hb2⟩
  have X2 := Lib.hid (X1.out.trans (Below.le hb2 X1.out.size))
  have B2 := Lib.hid ((hb2.block A (lt_of_heap B1.out)).trans B1.out)
  clear hb2 X1 B1 c0 c1 c2 c3 c4 c5 c6 c7 HTX
  have hsz : (bs TX).size = TX.length := bs_size TX
  by_cases h500 : 500 < TX.length
  · have hr : R = 2 := by rw [← HR.out, if_pos h500]
    subst hr
    have hsi : (500 : Int) < ((bs TX).size : Int) := by omega
    clear HR HP HSM hsz h500
    go_wp2_with fail
    go_ret
    exact ⟨rfl, X2.out⟩
  · rw [if_neg h500] at HR
    have hsi : ((bs TX).size : Int) ≤ 500 := by omega
    generalize bs TX = S at *
    clear hsz h500
    go_wp2_with fail
    refine (HP.out _ (HTB.out.below X2.out)).mono ?_
    intro e w3 hp
    cases hpl : parseP TX with
    | error x =>
      rw [hpl] at hp HR
      obtain ⟨rfl, hb3⟩ := hp
      have hx := parse_err hpl
      have hxb : (x == 0) = false := by rw [beq_eq_false_iff_ne]; omega
      have hxn : ¬ x = 0 := by omega
      have hr : R = 3 := HR.out.symm
      subst hr
      have X3 := Lib.hid (X2.out.trans (Below.le hb3 X2.out.size))
      clear hb3 hx hpl HR HP HSM
      unfold zU
      go_wp2_with fail
      go_ret
      exact ⟨rfl, X3.out.alloc X3.out.size _⟩
    | ok v =>
      rw [hpl] at hp HR
      obtain ⟨qv, rfl, hown, hb3⟩ := hp
      have HR2 := Lib.hid (show (if decide (u = v) = true then 0 else 3) = R by simpa using HR.out)
      have X3 := Lib.hid (X2.out.trans (Below.le hb3 X2.out.size))
      have B3 := Lib.hid ((hb3.block A (lt_of_heap B2.out)).trans B2.out)
      have SQ := Lib.hid (own_str hown)
      obtain ⟨qa, qc, rfl⟩ := own_shape hown
      have HSV := Lib.hid (HSM.out v (.slice qa v.path.length qc))
      clear hb3 hpl HR HP HSM hown X2 B2
      generalize decide (u = v) = D at *
      simp only [Ur.v] at HSV ⊢
      obtain ⟨C, hC⟩ : ∃ C, w3.heap.size = C := ⟨_, rfl⟩
      go_upto_region 5 with fail
      refine code_gen (Φ := fun wy => Hid (Below w.heap.size w wy) ∧ Hid (wy.heap[A]? = some (.cells #[.string (bs u.sch), .string (bs u.host), .int .i64 u.port, .slice pa u.path.length pc, .string (bs u.query), .bool u.asks, .string (bs u.frag), .bool u.points] 47 (0, 0))) ∧ Hid (wy.heap[C]? = some (.cells #[.string (bs v.sch), .string (bs v.host), .int .i64 v.port, .slice qa v.path.length qc, .string (bs v.query), .bool v.asks, .string (bs v.frag), .bool v.points] 47 (0, 0))) ∧ Hid (SlR wy StrB 1 (.slice qa v.path.length qc) v.path)) ?_ ?_
      · have ha : ∀ o, Below w3.heap.size w3 (w3.alloc o) := fun o => (Below.refl _ _).alloc (Nat.le_refl _) _
        exact ⟨Lib.hid (X3.out.alloc X3.out.size _), Lib.hid (((ha _).block A (lt_of_heap B3.out)).trans B3.out), Lib.hid (alloc_at hC _), Lib.hid (SQ.out.mono (fun _ _ _ h => kc (ha _) h))⟩
      clear SQ X3 B3 hC
      rintro w4 ⟨X4, B4, V4, S4⟩
      obtain ⟨c0, c1, c2, c3, c4, c5, c6, c7⟩ := cells8 B4.out
      obtain ⟨d0, d1, d2, d3, d4, d5, d6, d7⟩ := cells8 V4.out
      go_wp2_with fail
      refine (HSV.out _ X4.out S4.out).mono ?_
      rintro e w5 ⟨rfl, hb5⟩
      have X5 := Lib.hid (X4.out.trans (Below.le hb5 X4.out.size))
      clear c0 c1 c2 c3 c4 c5 c6 c7 d0 d1 d2 d3 d4 d5 d6 d7 hb5 HSV S4 V4 B4 X4
      cases D with
      | true =>
        have hr : R = 0 := HR2.out.symm
        subst hr
        clear HR2
        go_wp2_with fail
        go_ret
        exact ⟨rfl, X5.out⟩
      | false =>
        have hr : R = 3 := HR2.out.symm
        subst hr
        clear HR2
        go_wp2_with fail
        go_ret
        exact ⟨rfl, X5.out⟩
set_option maxRecDepth 100000 in
set_option maxHeartbeats 8000000 in
theorem write_any (u : Ur) (pv : Value) (w : World) (hT : TB w) (hu : Short u) (hv : SlR w StrB 1 pv u.path) : Calls Tryz.prog 32 #[u.v pv] w fun e w' => e = .returned (.tuple #[.string (bs (if checkU u = 0 then textP u else [])), .int .i64 (checkU u)]) ∧ Below w.heap.size w w' := by
  have p58 := call58
  have p33 := call33
  have HTX := Lib.hid (fun (w9 : World) (hb : Below w.heap.size w w9) => text_any u pv w9 (hT.below hb) hu (hv.mono (fun _ _ _ h => kc hb h)))
  have HCK := Lib.hid (fun (w9 : World) (hb : Below w.heap.size w w9) => check_any u pv w9 (hT.below hb) hu (hv.mono (fun _ _ _ h => kc hb h)))
  obtain ⟨pa, pc, rfl, _⟩ := id hv
  clear hT hu hv
  generalize textP u = TX at *
  generalize checkU u = X at *
  obtain ⟨RS, hRS⟩ : ∃ RS, (if X = 0 then TX else []) = RS := ⟨_, rfl⟩
  rw [hRS]
  have HRS := Lib.hid hRS
  clear hRS
  obtain ⟨A, hA⟩ : ∃ A, w.heap.size = A := ⟨_, rfl⟩
  simp only [Ur.v] at HTX HCK ⊢
  go_enter Tryz.func32, Tryz.ntmps32
  go_upto_region 1 with fail
  refine code_gen (Φ := fun wy => Hid (Below w.heap.size w wy) ∧ Hid (wy.heap[A]? = some (.cells #[.string (bs u.sch), .string (bs u.host), .int .i64 u.port, .slice pa u.path.length pc, .string (bs u.query), .bool u.asks, .string (bs u.frag), .bool u.points] 47 (0, 0)))) ⟨Lib.hid ((Below.refl _ _).alloc (Nat.le_refl _) _), Lib.hid (alloc_at hA _)⟩ ?_
  rintro w1 ⟨X1, B1⟩
  clear hA
  obtain ⟨c0, c1, c2, c3, c4, c5, c6, c7⟩ := cells8 B1.out
  go_wp2_with fail
  refine (HCK.out _ X1.out).mono ?_
  rintro e w2 ⟨rfl, hb2⟩
  have X2 := Lib.hid (X1.out.trans (Below.le hb2 X1.out.size))
  have B2 := Lib.hid ((hb2.block A (lt_of_heap B1.out)).trans B1.out)
  clear hb2 X1 B1 c0 c1 c2 c3 c4 c5 c6 c7 HCK
  by_cases h0 : X = 0
  · obtain rfl : RS = TX := by rw [← HRS.out, if_pos h0]
    subst h0
    clear HRS
    obtain ⟨c0, c1, c2, c3, c4, c5, c6, c7⟩ := cells8 B2.out
    go_wp2_with fail
    refine (HTX.out _ X2.out).mono ?_
    rintro e w3 ⟨rfl, hb3⟩
    have X3 := Lib.hid (X2.out.trans (Below.le hb3 X2.out.size))
    clear hb3 X2 B2 c0 c1 c2 c3 c4 c5 c6 c7 HTX
    go_wp2_with fail
    go_ret2
    exact ⟨rfl, X3.out⟩
  · have hxb : (X == 0) = false := by rw [beq_eq_false_iff_ne]; exact h0
    obtain rfl : RS = [] := by rw [← HRS.out, if_neg h0]
    clear HTX HRS
    go_wp2_with fail
    go_ret2
    exact ⟨rfl, X2.out⟩
end Go.Proofs.YtjcejijdeohkgaaGreatDoor
