/- The contracts of url.Check, url.Write, ok. -/
import Derived.Test.YtjcejijdeohkgaaGreatDoorW26
import Derived.Test.YtjcejijdeohkgaaGreatDoorY1
namespace Go.Proofs.YtjcejijdeohkgaaGreatDoor
open Go.RowKit

set_option maxRecDepth 100000 in
set_option maxHeartbeats 4000000 in
theorem ok_any (a : Option Addr) (c : Nat) (l : List Int) (w : World) (h : SlR w IntAt 1 (.slice a l.length c) l) : Calls Tryz.prog 25 #[.slice a l.length c] w fun e w' => e = .returned (.bool (l.all fun x => x == 0)) ∧ Below w.heap.size w w' := by
  have HS := Lib.hid h
  obtain ⟨q1, q2, q3⟩ := SlR.cap h
  clear h
  obtain ⟨R, hR⟩ : ∃ R, (l.all fun x => x == 0) = R := ⟨_, rfl⟩
  rw [hR]
  have HR := Lib.hid (show ((l.drop 0).all fun x => x == 0) = R from hR)
  clear hR
  go_enter Tryz.func25, Tryz.ntmps25
  go_upto_region 2 with fail
  go_loopg [7, 4] l.length (fun g v7 _ wr => ∃ k : Nat, g = l.length - k ∧ k ≤ l.length ∧ v7 = .int .i64 (k : Int) ∧ ((l.drop k).all fun x => x == 0) = R ∧ Below w.heap.size w wr)
  case atStart => exact ⟨0, rfl, Nat.zero_le _, rfl, HR.out, Below.refl _ _⟩
  case round =>
    clear HR
    obtain ⟨k, hg, hk, rfl, hr, hb⟩ := hrel
    have G := Lib.hid hg
    have HR := Lib.hid hr
    have HB := Lib.hid hb
    clear hg hr hb
    by_cases hlt : k < l.length
    · have hki : (k : Int) < (l.length : Int) := by omega
      have HAD := Lib.hid (show ((l.drop k).all fun x => x == 0) = ((l[k] == 0) && (l.drop (k + 1)).all fun x => x == 0) by rw [List.drop_eq_getElem_cons hlt]; rfl)
      obtain ⟨b, o, rfl, hi⟩ := HS.out.item k hlt
      have x0 : wr.cell? ⟨b, o + k, none⟩ = some (.int .i64 l[k]) := by have := kc HB.out hi; rwa [Nat.mul_one] at this
      clear hi
      generalize l[k] = X at *
      by_cases h0 : X = 0
      · subst h0
        have HR3 := Lib.hid (show ((l.drop (k + 1)).all fun x => x == 0) = R by rw [← HR.out, HAD.out]; rfl)
        go_wp2_with fail
        go_roundg (l.length - (k + 1))
        case measure => have := G.out; omega
        case rel => exact ⟨k + 1, rfl, by omega, by simp, HR3.out, HB.out⟩
      · have h1 : (X == 0) = false := by simpa using h0
        have hr : R = false := by rw [← HR.out, HAD.out, h1]; rfl
        subst hr
        go_wp2_with fail
        go_ret
        exact ⟨rfl, HB.out⟩
    · have hke : k = l.length := by omega
      have hr : R = true := by rw [← HR.out, hke, List.drop_length]; rfl
      subst hr
      clear HR
      have hnl : ¬ ((k : Int) < (l.length : Int)) := by omega
      go_wp2_with fail
      go_ret
      exact ⟨rfl, HB.out⟩
theorem call72 (args : Array Value) (w : World) : Sem.run Tryz.prog (callFunc 72 args) w = .ok (.enter 72 args) w := by go_simp
theorem call33 (args : Array Value) (w : World) : Sem.run Tryz.prog (callFunc 33 args) w = .ok (.enter 33 args) w := by go_simp
theorem call32 (args : Array Value) (w : World) : Sem.run Tryz.prog (callFunc 32 args) w = .ok (.enter 32 args) w := by go_simp
theorem call25 (args : Array Value) (w : World) : Sem.run Tryz.prog (callFunc 25 args) w = .ok (.enter 25 args) w := by go_simp
set_option maxRecDepth 100000 in
set_option maxHeartbeats 8000000 in
theorem check_any (u : Ur) (pv : Value) (w : World) (hT : TB w) (hu : Short u) (hv : SlR w StrB 1 pv u.path) : Calls Tryz.prog 33 #[u.v pv] w fun e w' => e = .returned (.int .i64 (checkU u)) ∧ Below w.heap.size w w' := by
  have p58 := call58
  have p28 := call28
  have p72 := call72
  have HTB := Lib.hid hT
  obtain ⟨R, hR⟩ : ∃ R, checkU u = R := ⟨_, rfl⟩
  rw [hR]
  unfold checkU at hR
  have HR := Lib.hid hR
  clear hR
  have HTX := Lib.hid (fun (w9 : World) (hb : Below w.heap.size w w9) => text_any u pv w9 (HTB.out.below hb) hu (hv.mono (fun _ _ _ h => kc hb h)))
  have HSM := Lib.hid (fun (v : Ur) (qv : Value) (w9 : World) (hb : Below w.heap.size w w9) (hq : SlR w9 StrB 1 qv v.path) => same_any u v pv qv w9 (hv.mono (fun _ _ _ h => kc hb h)) hq)
  obtain ⟨pa, pc, rfl, _⟩ := id hv
  have HP := Lib.hid (fun w9 hT9 => parse_any (textP u) w9 hT9)
  clear hT hu hv
  generalize textP u = TX at *
  obtain ⟨A, hA⟩ : ∃ A, w.heap.size = A := ⟨_, rfl⟩
  simp only [Ur.v] at HTX ⊢
  go_enter Tryz.func33, Tryz.ntmps33
  go_upto_region 1 with fail
  refine code_gen (Φ := fun wy => Hid (Below w.heap.size w wy) ∧ Hid (wy.heap[A]? = some (.cells #[.string (bs u.sch), .string (bs u.host), .int .i64 u.port, .slice pa u.path.length pc, .string (bs u.query), .bool u.asks, .string (bs u.frag), .bool u.points] 47 (0, 0)))) ⟨Lib.hid ((Below.refl _ _).alloc (Nat.le_refl _) _), Lib.hid (alloc_at hA _)⟩ ?_
  rintro w1 ⟨X1, B1⟩
  clear hA
  obtain ⟨c0, c1, c2, c3, c4, c5, c6, c7⟩ := cells8 B1.out
  go_wp2_with fail
  refine (HTX.out _ X1.out).mono ?_
  rintro e w2 ⟨rfl, hb2⟩
  have X2 := Lib.hid (X1.out.trans (Below.le hb2 X1.out.size))
  have B2 := Lib.hid ((hb2.block A (lt_of_heap B1.out)).trans B1.out)
  clear hb2 X1 B1 c0 c1 c2 c3 c4 c5 c6 c7 HTX
  have hsz : (bs TX).size = TX.length := bs_size TX
  by_cases h500 : 500 < TX.length
  · have hr : R = 2 := by rw [← HR.out, if_pos h500]
    subst hr
    have hsi : (500 : Int) < ((bs TX).size : Int) := by omega
    clear HR HP HSM hsz h500
    go_wp2_with fail
    go_ret
    exact ⟨rfl, X2.out⟩
  · rw [if_neg h500] at HR
    have hsi : ((bs TX).size : Int) ≤ 500 := by omega
    generalize bs TX = S at *
    clear hsz h500
    go_wp2_with fail
    refine (HP.out _ (HTB.out.below X2.out)).mono ?_
    intro e w3 hp
    cases hpl : parseP TX with
    | error x =>
      rw [hpl] at hp HR
      obtain ⟨rfl, hb3⟩ := hp
      have hx := parse_err hpl
      have hxb : (x == 0) = false := by rw [beq_eq_false_iff_ne]; omega
      have hxn : ¬ x = 0 := by omega
      have hr : R = 3 := HR.out.symm
      subst hr
      have X3 := Lib.hid (X2.out.trans (Below.le hb3 X2.out.size))
      clear hb3 hx hpl HR HP HSM
      unfold zU
      go_wp2_with fail
      go_ret
      exact ⟨rfl, X3.out.alloc X3.out.size _⟩
    | ok v =>
      rw [hpl] at hp HR
      obtain ⟨qv, rfl, hown, hb3⟩ := hp
      have HR2 := Lib.hid (show (if decide (u = v) = true then 0 else 3) = R by simpa using HR.out)
      have X3 := Lib.hid (X2.out.trans (Below.le hb3 X2.out.size))
      have B3 := Lib.hid ((hb3.block A (lt_of_heap B2.out)).trans B2.out)
      have SQ := Lib.hid (own_str hown)
      obtain ⟨qa, qc, rfl⟩ := own_shape hown
      have HSV := Lib.hid (HSM.out v (.slice qa v.path.length qc))
      clear hb3 hpl HR HP HSM hown X2 B2
      generalize decide (u = v) = D at *
      simp only [Ur.v] at HSV ⊢
      obtain ⟨C, hC⟩ : ∃ C, w3.heap.size = C := ⟨_, rfl⟩
      go_upto_region 5 with fail
      refine code_gen (Φ := fun wy => Hid (Below w.heap.size w wy) ∧ Hid (wy.heap[A]? = some (.cells #[.string (bs u.sch), .string (bs u.host), .int .i64 u.port, .slice pa u.path.length pc, .string (bs u.query), .bool u.asks, .string (bs u.frag), .bool u.points] 47 (0, 0))) ∧ Hid (wy.heap[C]? = some (.cells #[.string (bs v.sch), .string (bs v.host), .int .i64 v.port, .slice qa v.path.length qc, .string (bs v.query), .bool v.asks, .string (bs v.frag), .bool v.points] 47 (0, 0))) ∧ Hid (SlR wy StrB 1 (.slice qa v.path.length qc) v.path)) ?_ ?_
      · have ha : ∀ o, Below w3.heap.size w3 (w3.alloc o) := fun o => (Below.refl _ _).alloc (Nat.le_refl _) _
        exact ⟨Lib.hid (X3.out.alloc X3.out.size _), Lib.hid (((ha _).block A (lt_of_heap B3.out)).trans B3.out), Lib.hid (alloc_at hC _), Lib.hid (SQ.out.mono (fun _ _ _ h => kc (ha _) h))⟩
      clear SQ X3 B3 hC
      rintro w4 ⟨X4, B4, V4, S4⟩
      obtain ⟨c0, c1, c2, c3, c4, c5, c6, c7⟩ := cells8 B4.out
      obtain ⟨d0, d1, d2, d3, d4, d5, d6, d7⟩ := cells8 V4.out
      go_wp2_with fail
      refine (HSV.out _ X4.out S4.out).mono ?_
      rintro e w5 ⟨rfl, hb5⟩
      have X5 := Lib.hid (X4.out.trans (Below.le hb5 X4.out.size))
      clear c0 c1 c2 c3 c4 c5 c6 c7 d0 d1 d2 d3 d4 d5 d6 d7 hb5 HSV S4 V4 B4 X4
      cases D with
      | true =>
        have hr : R = 0 := HR2.out.symm
        subst hr
        clear HR2
        go_wp2_with fail
        go_ret
        exact ⟨rfl, X5.out⟩
      | false =>
        have hr : R = 3 := HR2.out.symm
        subst hr
        clear HR2
        go_wp2_with fail
        go_ret
        exact ⟨rfl, X5.out⟩
set_option maxRecDepth 100000 in
set_option maxHeartbeats 8000000 in
theorem write_any (u : Ur) (pv : Value) (w : World) (hT : TB w) (hu : Short u) (hv : SlR w StrB 1 pv u.path) : Calls Tryz.prog 32 #[u.v pv] w fun e w' => e = .returned (.tuple #[.string (bs (if checkU u = 0 then textP u else [])), .int .i64 (checkU u)]) ∧ Below w.heap.size w w' := by
  have p58 := call58
  have p33 := call33
  have HTX := Lib.hid (fun (w9 : World) (hb : Below w.heap.size w w9) => text_any u pv w9 (hT.below hb) hu (hv.mono (fun _ _ _ h => kc hb h)))
  have HCK := Lib.hid (fun (w9 : World) (hb : Below w.heap.size w w9) => check_any u pv w9 (hT.below hb) hu (hv.mono (fun _ _ _ h => kc hb h)))
  obtain ⟨pa, pc, rfl, _⟩ := id hv
  clear hT hu hv
  generalize textP u = TX at *
  generalize checkU u = X at *
  obtain ⟨RS, hRS⟩ : ∃ RS, (if X = 0 then TX else []) = RS := ⟨_, rfl⟩
  rw [hRS]
  have HRS := Lib.hid hRS
  clear hRS
  obtain ⟨A, hA⟩ : ∃ A, w.heap.size = A := ⟨_, rfl⟩
  simp only [Ur.v] at HTX HCK ⊢
  go_enter Tryz.func32, Tryz.ntmps32
  go_upto_region 1 with fail
  refine code_gen (Φ := fun wy => Hid (Below w.heap.size w wy) ∧ Hid (wy.heap[A]? = some (.cells #[.string (bs u.sch), .string (bs u.host), .int .i64 u.port, .slice pa u.path.length pc, .string (bs u.query), .bool u.asks, .string (bs u.frag), .bool u.points] 47 (0, 0)))) ⟨Lib.hid ((Below.refl _ _).alloc (Nat.le_refl _) _), Lib.hid (alloc_at hA _)⟩ ?_
  rintro w1 ⟨X1, B1⟩
  clear hA
  obtain ⟨c0, c1, c2, c3, c4, c5, c6, c7⟩ := cells8 B1.out
  go_wp2_with fail
  refine (HCK.out _ X1.out).mono ?_
  rintro e w2 ⟨rfl, hb2⟩
  have X2 := Lib.hid (X1.out.trans (Below.le hb2 X1.out.size))
  have B2 := Lib.hid ((hb2.block A (lt_of_heap B1.out)).trans B1.out)
  clear hb2 X1 B1 c0 c1 c2 c3 c4 c5 c6 c7 HCK
  by_cases h0 : X = 0
  · obtain rfl : RS = TX := by rw [← HRS.out, if_pos h0]
    subst h0
    clear HRS
    obtain ⟨c0, c1, c2, c3, c4, c5, c6, c7⟩ := cells8 B2.out
    go_wp2_with fail
    refine (HTX.out _ X2.out).mono ?_
    rintro e w3 ⟨rfl, hb3⟩
    have X3 := Lib.hid (X2.out.trans (Below.le hb3 X2.out.size))
    clear hb3 X2 B2 c0 c1 c2 c3 c4 c5 c6 c7 HTX
    go_wp2_with fail
    go_ret2
    exact ⟨rfl, X3.out⟩
  · have hxb : (X == 0) = false := by rw [beq_eq_false_iff_ne]; exact h0
    obtain rfl : RS = [] := by rw [← HRS.out, if_neg h0]
    clear HTX HRS
    go_wp2_with fail
    go_ret2
    exact ⟨rfl, X2.out⟩
end Go.Proofs.YtjcejijdeohkgaaGreatDoor
