/- The contract of url.Resolve. -/
import Derived.Test.YtjcejijdeohkgaaGreatDoorW25
import Derived.Test.YtjcejijdeohkgaaGreatDoorME
namespace Go.Proofs.YtjcejijdeohkgaaGreatDoor
open Go.RowKit

def endR (p : Except Int Ur) : Bs × Int := match p with
  | .error x => ([], x)
  | .ok u => if 500 < (textP u).length then ([], 2) else (textP u, 0)
theorem endR_err (x : Int) : endR (.error x) = ([], x) := rfl
theorem endR_big {u : Ur} (h : 500 < (textP u).length) : endR (.ok u) = ([], 2) := if_pos h
theorem endR_ok {u : Ur} (h : ¬ 500 < (textP u).length) : endR (.ok u) = (textP u, 0) := if_neg h
theorem resR_eq1 {base ref : Bs} {x : Int} (h : parseP base = .error x) : resR base ref = ([], x) := by
  unfold resR resolveP
  rw [h]
theorem resR_eq2 {base ref : Bs} {b : Ur} (h : parseP base = .ok b) (hl : 500 < ref.length) : resR base ref = ([], 2) := by
  unfold resR resolveP
  rw [h]
  simp only
  rw [if_pos hl]
theorem resR_eq3 {base ref : Bs} {b : Ur} (h : parseP base = .ok b) (hl : ¬ 500 < ref.length) : resR base ref = endR (aimP b ref) := by
  unfold resR resolveP endR
  rw [h]
  simp only
  rw [if_neg hl]
  cases aimP b ref with
  | error x => rfl
  | ok u =>
    by_cases h5 : 500 < (textP u).length
    · simp only [if_pos h5]
    · simp only [if_neg h5]
theorem aim_sch {b : Ur} {ref : Bs} {x : Bs × Bs} (h : schP ref = some x) : aimP b ref = parseP ref := by
  unfold aimP
  rw [h]
  rfl
theorem aim_two {b : Ur} {ref : Bs} (h : schP ref = none) (h2 : ref.take 2 = [47, 47]) : aimP b ref = parseP (b.sch ++ 58 :: ref) := by
  unfold aimP
  rw [h, if_neg (by simp), if_pos h2]
theorem aim_bes {b : Ur} {ref : Bs} (h : schP ref = none) (h2 : ¬ ref.take 2 = [47, 47]) : aimP b ref = besideP b ref := by
  unfold aimP
  rw [h, if_neg (by simp), if_neg h2]
theorem call27 (args : Array Value) (w : World) : Sem.run Tryz.prog (callFunc 27 args) w = .ok (.enter 27 args) w := by go_simp
theorem call19 (args : Array Value) (w : World) : Sem.run Tryz.prog (callFunc 19 args) w = .ok (.enter 19 args) w := by go_simp
set_option maxRecDepth 100000 in
set_option maxHeartbeats 16000000 in
theorem res_any (base ref : Bs) (w : World) (hT : TB w) : Calls Tryz.prog 19 #[.string (bs base), .string (bs ref)] w fun e w' => e = .returned (.tuple #[.string (bs (resR base ref).1), .int .i64 (resR base ref).2]) ∧ Below w.heap.size w w' := by
  have p28 := call28
  have p56 := call56
  have p27 := call27
  have p57 := call57
  have p58 := call58
  have HTB := Lib.hid hT
  obtain ⟨R, hR⟩ : ∃ R, resR base ref = R := ⟨_, rfl⟩
  rw [hR]
  have HR := Lib.hid hR
  have HP := Lib.hid (parse_any base w hT)
  clear hR hT
  go_enter Tryz.func19, Tryz.ntmps19
  go_wp2_with fail
  refine HP.out.mono ?_
  intro e w1 hp
  clear HP
  cases hpl : parseP base with
  | error x =>
    rw [hpl] at hp
    obtain ⟨rfl, hb1⟩ := hp
    have hx := parse_err hpl
    have hxb : (x == 0) = false := by rw [beq_eq_false_iff_ne]; omega
    have hxn : ¬ x = 0 := by omega
    have HRV := Lib.hid (show R = ([], x) by rw [← HR.out]; exact resR_eq1 hpl)
    have X1 := Lib.hid hb1
    clear hb1 hx hpl HR
    unfold zU
    go_wp2_with fail
    go_ret2
    rw [HRV.out]
    exact ⟨rfl, X1.out.alloc X1.out.size _⟩
  | ok b =>
    rw [hpl] at hp
    obtain ⟨pv, rfl, hown, hb1⟩ := hp
    have X1 := Lib.hid hb1
    have SM := Lib.hid (parse_small hpl)
    have PN := Lib.hid (parse_path hpl)
    have G := Lib.hid (parse_good hpl)
    have SB := Lib.hid (own_lower hown (Nat.zero_le _))
    obtain ⟨pa, pc, rfl⟩ := own_shape hown
    have HRV := Lib.hid (fun hl => HR.out.symm.trans (resR_eq3 (base := base) (ref := ref) hpl hl))
    have HRB := Lib.hid (fun hl => HR.out.symm.trans (resR_eq2 (base := base) (ref := ref) hpl hl))
    clear hb1 hown hpl HR
    have hsz : (bs ref).size = ref.length := bs_size ref
    simp only [Ur.v]
    by_cases h500 : 500 < ref.length
    · have hr := Lib.hid (HRB.out h500)
      have hsi : (500 : Int) < ((bs ref).size : Int) := by omega
      generalize bs ref = S at *
      clear hsz h500 HRV HRB
      go_wp2_with fail
      go_ret2
      rw [hr.out]
      exact ⟨rfl, X1.out.alloc X1.out.size _⟩
    · have hr := Lib.hid (HRV.out h500)
      have hsi : ((bs ref).size : Int) ≤ 500 := by omega
      have HRL := Lib.hid (show ref.length ≤ 500 by omega)
      clear hsz h500 HRV HRB
      obtain ⟨A, hA⟩ : ∃ A, w1.heap.size = A := ⟨_, rfl⟩
      have HAW := Lib.hid (show w.heap.size ≤ A by rw [← hA]; exact X1.out.size)
      go_upto_region 7 with fail
      refine code_gen (Φ := fun wy => Hid (Below w.heap.size w wy) ∧ Hid (wy.heap[A]? = some (.cells #[.string (bs b.sch), .string (bs b.host), .int .i64 b.port, .slice pa b.path.length pc, .string (bs b.query), .bool b.asks, .string (bs b.frag), .bool b.points] 47 (0, 0))) ∧ Hid (wy.heap[A + 1]? = some (.cells zU 47 (0, 0))) ∧ Hid (wy.ownsRow 0 9 1 (.slice pa b.path.length pc) b.path.length (b.path.map sB))) ?_ ?_
      · have L2 := Loc.start2 (w := w1) (.cells #[.string (bs b.sch), .string (bs b.host), .int .i64 b.port, .slice pa b.path.length pc, .string (bs b.query), .bool b.asks, .string (bs b.frag), .bool b.points] 47) (.cells zU 47)
        have k0 := L2.k0
        have k1 := L2.k1
        rw [hA] at k0 k1
        exact ⟨Lib.hid (X1.out.trans (Below.le L2.bl X1.out.size)), Lib.hid k0, Lib.hid k1, Lib.hid (own_below SB.out L2.bl (Nat.le_refl 0))⟩
      clear X1 SB hA
      rintro w2 ⟨X2, B2, Z2, SB⟩
      have HS := Lib.hid (scheme_any ref w2 (HTB.out.below X2.out) (by have := HRL.out; omega))
      go_wp2_with fail
      refine HS.out.mono ?_
      rintro e w3 ⟨rfl, hb3⟩
      have X3 := Lib.hid (X2.out.trans (Below.le hb3 X2.out.size))
      have B3 := Lib.hid ((hb3.block A (lt_of_heap B2.out)).trans B2.out)
      have Z3 := Lib.hid ((hb3.block (A + 1) (lt_of_heap Z2.out)).trans Z2.out)
      have S3 := Lib.hid (own_below SB.out hb3 (Nat.le_refl 0))
      have T3 := Lib.hid (HTB.out.below X3.out)
      clear hb3 HS X2 B2 Z2 SB
      have HSR := Lib.hid (show (schR ref).2.2 = (schP ref).isSome by unfold schR; cases schP ref <;> rfl)
      obtain ⟨SR, hSR⟩ : ∃ SR, schR ref = SR := ⟨_, rfl⟩
      rw [hSR] at HSR ⊢
      obtain ⟨sr1, sr2, sr3⟩ := SR
      clear hSR
      cases hsc : schP ref with
      | some x0 =>
        have h3 : sr3 = true := by have := HSR.out; rw [hsc] at this; exact this
        subst h3
        have HPR := Lib.hid (parse_any ref w3 T3.out)
        have hap0 := Lib.hid (aim_sch (b := b) hsc)
        go_wp2_with fail
        refine HPR.out.mono ?_
        intro e w4 hp4
        cases hap1 : parseP ref with
        | error x =>
          rw [hap1] at hp4
          obtain ⟨rfl, hb4⟩ := hp4
          have hap := hap0.out.trans hap1
          have hx := aim_err hap
          have X4 := Lib.hid (X3.out.trans (Below.le hb4 X3.out.size))
          have Z4 := Lib.hid ((hb4.block (A + 1) (lt_of_heap Z3.out)).trans Z3.out)
          clear hb4 hap0 hap1 X3 Z3 B3
          have hxb : (x == 0) = false := by rw [beq_eq_false_iff_ne]; omega
          have hxn : ¬ x = 0 := by omega
          have hr2 := Lib.hid (show R = ([], x) from hr.out.trans (by rw [hap]; rfl))
          obtain ⟨d0, d1, d2, d3, d4, d5, d6, d7⟩ := cells8 Z4.out
          have f0 := Lib.frozen_of_heap Z4.out 0
          have f1 := Lib.frozen_of_heap Z4.out 1
          have f2 := Lib.frozen_of_heap Z4.out 2
          have f3 := Lib.frozen_of_heap Z4.out 3
          have f4 := Lib.frozen_of_heap Z4.out 4
          have f5 := Lib.frozen_of_heap Z4.out 5
          have f6 := Lib.frozen_of_heap Z4.out 6
          have f7 := Lib.frozen_of_heap Z4.out 7
          clear hap hr hx
          unfold zU
          go_wp2_with fail
          have XB := Lib.hid (put8_below (b := A + 1) X4.out (Nat.le_succ_of_le HAW.out) (.string ⟨#[]⟩) (.string ⟨#[]⟩) (.int .i64 0) (.slice none 0 0) (.string ⟨#[]⟩) (.bool false) (.string ⟨#[]⟩) (.bool false))
          go_ret2
          rw [hr2.out]
          exact ⟨rfl, XB.out⟩
        | ok u =>
          rw [hap1] at hp4
          obtain ⟨qv, rfl, hq, hb4⟩ := hp4
          have hap := hap0.out.trans hap1
          have X4 := Lib.hid (X3.out.trans (Below.le hb4 X3.out.size))
          have Z4 := Lib.hid ((hb4.block (A + 1) (lt_of_heap Z3.out)).trans Z3.out)
          have SQ := Lib.hid (own_lower hq (Nat.zero_le _))
          obtain ⟨qa, qc, rfl⟩ := own_shape SQ.out
          have HSM0 := parse_small hap1
          clear hb4 hap0 hap1 X3 Z3 B3 hq
          have SU := Lib.hid HSM0
          have hr2 := Lib.hid (show R = endR (.ok u) from hr.out.trans (by rw [hap]))
          obtain ⟨d0, d1, d2, d3, d4, d5, d6, d7⟩ := cells8 Z4.out
          have f0 := Lib.frozen_of_heap Z4.out 0
          have f1 := Lib.frozen_of_heap Z4.out 1
          have f2 := Lib.frozen_of_heap Z4.out 2
          have f3 := Lib.frozen_of_heap Z4.out 3
          have f4 := Lib.frozen_of_heap Z4.out 4
          have f5 := Lib.frozen_of_heap Z4.out 5
          have f6 := Lib.frozen_of_heap Z4.out 6
          have f7 := Lib.frozen_of_heap Z4.out 7
          clear hap hr
          simp only [Ur.v]
          go_upto_region 13 with fail
          have EB := Lib.hid (put8_heap Z4.out rfl (.string (bs u.sch)) (.string (bs u.host)) (.int .i64 u.port) (.slice qa u.path.length qc) (.string (bs u.query)) (.bool u.asks) (.string (bs u.frag)) (.bool u.points))
          have XB := Lib.hid (put8_below (b := A + 1) X4.out (Nat.le_succ_of_le HAW.out) (.string (bs u.sch)) (.string (bs u.host)) (.int .i64 u.port) (.slice qa u.path.length qc) (.string (bs u.query)) (.bool u.asks) (.string (bs u.frag)) (.bool u.points))
          have SQ5 := Lib.hid (SQ.out.kept (put8_grown (gr_refl w4 (some (A + 1))) (.string (bs u.sch)) (.string (bs u.host)) (.int .i64 u.port) (.slice qa u.path.length qc) (.string (bs u.query)) (.bool u.asks) (.string (bs u.frag)) (.bool u.points)) (.inr (row_block SQ.out Z4.out (by decide))))
          refine code_gen (Φ := fun wy => Hid (Below w.heap.size w wy) ∧ Hid (wy.heap[A + 1]? = some (.cells #[.string (bs u.sch), .string (bs u.host), .int .i64 u.port, .slice qa u.path.length qc, .string (bs u.query), .bool u.asks, .string (bs u.frag), .bool u.points] 47 (0, 0))) ∧ Hid (wy.ownsRow 0 9 1 (.slice qa u.path.length qc) u.path.length (u.path.map sB))) ⟨XB, EB, SQ5⟩ ?_
          clear XB EB SQ5 SQ X4 Z4 d0 d1 d2 d3 d4 d5 d6 d7 f0 f1 f2 f3 f4 f5 f6 f7
          rintro w5 ⟨X5, E5, S5⟩
          obtain ⟨d0, d1, d2, d3, d4, d5, d6, d7⟩ := cells8 E5.out
          have HTX := Lib.hid (text_any u (.slice qa u.path.length qc) w5 (HTB.out.below X5.out) SU.out.short (own_str S5.out))
          simp only [Ur.v] at HTX
          have HTL := Lib.hid (bs_size (textP u))
          have HB := Lib.hid (fun h => hr2.out.trans (endR_big (u := u) h))
          have HO := Lib.hid (fun h => hr2.out.trans (endR_ok (u := u) h))
          clear hr2
          generalize textP u = TX at *
          go_wp2_with fail
          refine HTX.out.mono ?_
          rintro e w6 ⟨rfl, hb6⟩
          have X6 := Lib.hid (X5.out.trans (Below.le hb6 X5.out.size))
          clear hb6 HTX X5 E5 S5 d0 d1 d2 d3 d4 d5 d6 d7
          by_cases h5 : 500 < TX.length
          · have hr3 := Lib.hid (HB.out h5)
            have hsj : (500 : Int) < ((bs TX).size : Int) := by rw [HTL.out]; omega
            clear HB HO h5
            go_wp2_with fail
            go_ret2
            rw [hr3.out]
            exact ⟨rfl, X6.out⟩
          · have hr3 := Lib.hid (HO.out h5)
            have hsj : ((bs TX).size : Int) ≤ 500 := by rw [HTL.out]; omega
            clear HB HO h5
            go_wp2_with fail
            go_ret2
            rw [hr3.out]
            exact ⟨rfl, X6.out⟩
      | none =>
        have h3 : sr3 = false := by have := HSR.out; rw [hsc] at this; exact this
        subst h3
        have HPF : Hid (∀ w9, Calls Tryz.prog 27 #[.string (bs ref), .string ⟨#[47, 47]⟩] w9 fun e w' => e = .returned (.bool (decide (ref.take 2 = [47, 47]))) ∧ w' = w9) := Lib.hid (fun w9 => by
          have h := Tryz.strings_HasPrefix (bs ref) ⟨#[47, 47]⟩ w9
          rw [bs_list, show (⟨#[47, 47]⟩ : ByteArray).data.toList = [47, 47] from rfl, (pre_two ref).1] at h
          exact h)
        by_cases h2 : ref.take 2 = [47, 47]
        · rw [decide_eq_true h2] at HPF
          have hap00 := Lib.hid (aim_two (b := b) hsc h2)
          have HPR0 := parse_any (b.sch ++ 58 :: ref) w3 T3.out
          have eb : bs (b.sch ++ 58 :: ref) = bs b.sch ++ (⟨#[58]⟩ : ByteArray) ++ bs ref := by
            have e2 : (⟨#[58]⟩ : ByteArray) = bs [58] := rfl
            rw [e2, bs_app, bs_app]
            simp
          rw [eb] at HPR0
          have HPR := Lib.hid HPR0
          have hs1 : (bs b.sch).size ≤ 1048576 := by rw [bs_size]; have := SM.out.s; omega
          clear HPR0 eb h2 hsc
          obtain ⟨b0, b1, b2, b3, b4, b5, b6, b7⟩ := cells8 B3.out
          go_wp2_with fail
          refine (HPF.out _).mono ?_
          rintro e w3' ⟨rfl, rfl⟩
          have hap0 := Lib.hid (hap00.out)
          go_wp2_with fail
          refine HPR.out.mono ?_
          intro e w4 hp4
          cases hap1 : parseP (b.sch ++ 58 :: ref) with
          | error x =>
            rw [hap1] at hp4
            obtain ⟨rfl, hb4⟩ := hp4
            have hap := hap0.out.trans hap1
            have hx := aim_err hap
            have X4 := Lib.hid (X3.out.trans (Below.le hb4 X3.out.size))
            have Z4 := Lib.hid ((hb4.block (A + 1) (lt_of_heap Z3.out)).trans Z3.out)
            clear hb4 hap0 hap1 X3 Z3 B3
            have hxb : (x == 0) = false := by rw [beq_eq_false_iff_ne]; omega
            have hxn : ¬ x = 0 := by omega
            have hr2 := Lib.hid (show R = ([], x) from hr.out.trans (by rw [hap]; rfl))
            obtain ⟨d0, d1, d2, d3, d4, d5, d6, d7⟩ := cells8 Z4.out
            have f0 := Lib.frozen_of_heap Z4.out 0
            have f1 := Lib.frozen_of_heap Z4.out 1
            have f2 := Lib.frozen_of_heap Z4.out 2
            have f3 := Lib.frozen_of_heap Z4.out 3
            have f4 := Lib.frozen_of_heap Z4.out 4
            have f5 := Lib.frozen_of_heap Z4.out 5
            have f6 := Lib.frozen_of_heap Z4.out 6
            have f7 := Lib.frozen_of_heap Z4.out 7
            clear hap hr hx
            unfold zU
            go_wp2_with fail
            have XB := Lib.hid (put8_below (b := A + 1) X4.out (Nat.le_succ_of_le HAW.out) (.string ⟨#[]⟩) (.string ⟨#[]⟩) (.int .i64 0) (.slice none 0 0) (.string ⟨#[]⟩) (.bool false) (.string ⟨#[]⟩) (.bool false))
            go_ret2
            rw [hr2.out]
            exact ⟨rfl, XB.out⟩
          | ok u =>
            rw [hap1] at hp4
            obtain ⟨qv, rfl, hq, hb4⟩ := hp4
            have hap := hap0.out.trans hap1
            have X4 := Lib.hid (X3.out.trans (Below.le hb4 X3.out.size))
            have Z4 := Lib.hid ((hb4.block (A + 1) (lt_of_heap Z3.out)).trans Z3.out)
            have SQ := Lib.hid (own_lower hq (Nat.zero_le _))
            obtain ⟨qa, qc, rfl⟩ := own_shape SQ.out
            have HSM0 := parse_small hap1
            clear hb4 hap0 hap1 X3 Z3 B3 hq
            have SU := Lib.hid HSM0
            have hr2 := Lib.hid (show R = endR (.ok u) from hr.out.trans (by rw [hap]))
            obtain ⟨d0, d1, d2, d3, d4, d5, d6, d7⟩ := cells8 Z4.out
            have f0 := Lib.frozen_of_heap Z4.out 0
            have f1 := Lib.frozen_of_heap Z4.out 1
            have f2 := Lib.frozen_of_heap Z4.out 2
            have f3 := Lib.frozen_of_heap Z4.out 3
            have f4 := Lib.frozen_of_heap Z4.out 4
            have f5 := Lib.frozen_of_heap Z4.out 5
            have f6 := Lib.frozen_of_heap Z4.out 6
            have f7 := Lib.frozen_of_heap Z4.out 7
            clear hap hr
            simp only [Ur.v]
            go_upto_region 13 with fail
            have EB := Lib.hid (put8_heap Z4.out rfl (.string (bs u.sch)) (.string (bs u.host)) (.int .i64 u.port) (.slice qa u.path.length qc) (.string (bs u.query)) (.bool u.asks) (.string (bs u.frag)) (.bool u.points))
            have XB := Lib.hid (put8_below (b := A + 1) X4.out (Nat.le_succ_of_le HAW.out) (.string (bs u.sch)) (.string (bs u.host)) (.int .i64 u.port) (.slice qa u.path.length qc) (.string (bs u.query)) (.bool u.asks) (.string (bs u.frag)) (.bool u.points))
            have SQ5 := Lib.hid (SQ.out.kept (put8_grown (gr_refl w4 (some (A + 1))) (.string (bs u.sch)) (.string (bs u.host)) (.int .i64 u.port) (.slice qa u.path.length qc) (.string (bs u.query)) (.bool u.asks) (.string (bs u.frag)) (.bool u.points)) (.inr (row_block SQ.out Z4.out (by decide))))
            refine code_gen (Φ := fun wy => Hid (Below w.heap.size w wy) ∧ Hid (wy.heap[A + 1]? = some (.cells #[.string (bs u.sch), .string (bs u.host), .int .i64 u.port, .slice qa u.path.length qc, .string (bs u.query), .bool u.asks, .string (bs u.frag), .bool u.points] 47 (0, 0))) ∧ Hid (wy.ownsRow 0 9 1 (.slice qa u.path.length qc) u.path.length (u.path.map sB))) ⟨XB, EB, SQ5⟩ ?_
            clear XB EB SQ5 SQ X4 Z4 d0 d1 d2 d3 d4 d5 d6 d7 f0 f1 f2 f3 f4 f5 f6 f7
            rintro w5 ⟨X5, E5, S5⟩
            obtain ⟨d0, d1, d2, d3, d4, d5, d6, d7⟩ := cells8 E5.out
            have HTX := Lib.hid (text_any u (.slice qa u.path.length qc) w5 (HTB.out.below X5.out) SU.out.short (own_str S5.out))
            simp only [Ur.v] at HTX
            have HTL := Lib.hid (bs_size (textP u))
            have HB := Lib.hid (fun h => hr2.out.trans (endR_big (u := u) h))
            have HO := Lib.hid (fun h => hr2.out.trans (endR_ok (u := u) h))
            clear hr2
            generalize textP u = TX at *
            go_wp2_with fail
            refine HTX.out.mono ?_
            rintro e w6 ⟨rfl, hb6⟩
            have X6 := Lib.hid (X5.out.trans (Below.le hb6 X5.out.size))
            clear hb6 HTX X5 E5 S5 d0 d1 d2 d3 d4 d5 d6 d7
            by_cases h5 : 500 < TX.length
            · have hr3 := Lib.hid (HB.out h5)
              have hsj : (500 : Int) < ((bs TX).size : Int) := by rw [HTL.out]; omega
              clear HB HO h5
              go_wp2_with fail
              go_ret2
              rw [hr3.out]
              exact ⟨rfl, X6.out⟩
            · have hr3 := Lib.hid (HO.out h5)
              have hsj : ((bs TX).size : Int) ≤ 500 := by rw [HTL.out]; omega
              clear HB HO h5
              go_wp2_with fail
              go_ret2
              rw [hr3.out]
              exact ⟨rfl, X6.out⟩
        · rw [decide_eq_false h2] at HPF
          have hap00 := Lib.hid (aim_bes (b := b) hsc h2)
          have HPR := Lib.hid (beside_any b (.slice pa b.path.length pc) ref w3 T3.out G.out.path.1 PN.out S3.out HRL.out)
          simp only [Ur.v] at HPR
          clear h2 hsc
          obtain ⟨b0, b1, b2, b3, b4, b5, b6, b7⟩ := cells8 B3.out
          go_wp2_with fail
          refine (HPF.out _).mono ?_
          rintro e w3' ⟨rfl, rfl⟩
          have hap0 := Lib.hid (hap00.out)
          go_wp2_with fail
          refine HPR.out.mono ?_
          intro e w4 hp4
          cases hap1 : besideP b ref with
          | error x =>
            rw [hap1] at hp4
            obtain ⟨rfl, hb4⟩ := hp4
            have hap := hap0.out.trans hap1
            have hx := aim_err hap
            have X4 := Lib.hid (X3.out.trans (Below.le hb4 X3.out.size))
            have Z4 := Lib.hid ((hb4.block (A + 1) (lt_of_heap Z3.out)).trans Z3.out)
            clear hb4 hap0 hap1 X3 Z3 B3
            have hxb : (x == 0) = false := by rw [beq_eq_false_iff_ne]; omega
            have hxn : ¬ x = 0 := by omega
            have hr2 := Lib.hid (show R = ([], x) from hr.out.trans (by rw [hap]; rfl))
            obtain ⟨d0, d1, d2, d3, d4, d5, d6, d7⟩ := cells8 Z4.out
            have f0 := Lib.frozen_of_heap Z4.out 0
            have f1 := Lib.frozen_of_heap Z4.out 1
            have f2 := Lib.frozen_of_heap Z4.out 2
            have f3 := Lib.frozen_of_heap Z4.out 3
            have f4 := Lib.frozen_of_heap Z4.out 4
            have f5 := Lib.frozen_of_heap Z4.out 5
            have f6 := Lib.frozen_of_heap Z4.out 6
            have f7 := Lib.frozen_of_heap Z4.out 7
            clear hap hr hx
            unfold zU
            go_wp2_with fail
            have XB := Lib.hid (put8_below (b := A + 1) X4.out (Nat.le_succ_of_le HAW.out) (.string ⟨#[]⟩) (.string ⟨#[]⟩) (.int .i64 0) (.slice none 0 0) (.string ⟨#[]⟩) (.bool false) (.string ⟨#[]⟩) (.bool false))
            go_ret2
            rw [hr2.out]
            exact ⟨rfl, XB.out⟩
          | ok u =>
            rw [hap1] at hp4
            obtain ⟨qv, rfl, hq, hb4⟩ := hp4
            have hap := hap0.out.trans hap1
            have X4 := Lib.hid (X3.out.trans (Below.le hb4 X3.out.size))
            have Z4 := Lib.hid ((hb4.block (A + 1) (lt_of_heap Z3.out)).trans Z3.out)
            have SQ := Lib.hid (hq)
            obtain ⟨qa, qc, rfl⟩ := own_shape SQ.out
            have HSM0 := beside_small SM.out PN.out HRL.out (beside_good G.out hap1) hap1
            clear hb4 hap0 hap1 X3 Z3 B3 hq
            have SU := Lib.hid HSM0
            have hr2 := Lib.hid (show R = endR (.ok u) from hr.out.trans (by rw [hap]))
            obtain ⟨d0, d1, d2, d3, d4, d5, d6, d7⟩ := cells8 Z4.out
            have f0 := Lib.frozen_of_heap Z4.out 0
            have f1 := Lib.frozen_of_heap Z4.out 1
            have f2 := Lib.frozen_of_heap Z4.out 2
            have f3 := Lib.frozen_of_heap Z4.out 3
            have f4 := Lib.frozen_of_heap Z4.out 4
            have f5 := Lib.frozen_of_heap Z4.out 5
            have f6 := Lib.frozen_of_heap Z4.out 6
            have f7 := Lib.frozen_of_heap Z4.out 7
            clear hap hr
            simp only [Ur.v]
            go_upto_region 13 with fail
            have EB := Lib.hid (put8_heap Z4.out rfl (.string (bs u.sch)) (.string (bs u.host)) (.int .i64 u.port) (.slice qa u.path.length qc) (.string (bs u.query)) (.bool u.asks) (.string (bs u.frag)) (.bool u.points))
            have XB := Lib.hid (put8_below (b := A + 1) X4.out (Nat.le_succ_of_le HAW.out) (.string (bs u.sch)) (.string (bs u.host)) (.int .i64 u.port) (.slice qa u.path.length qc) (.string (bs u.query)) (.bool u.asks) (.string (bs u.frag)) (.bool u.points))
            have SQ5 := Lib.hid (SQ.out.kept (put8_grown (gr_refl w4 (some (A + 1))) (.string (bs u.sch)) (.string (bs u.host)) (.int .i64 u.port) (.slice qa u.path.length qc) (.string (bs u.query)) (.bool u.asks) (.string (bs u.frag)) (.bool u.points)) (.inr (row_block SQ.out Z4.out (by decide))))
            refine code_gen (Φ := fun wy => Hid (Below w.heap.size w wy) ∧ Hid (wy.heap[A + 1]? = some (.cells #[.string (bs u.sch), .string (bs u.host), .int .i64 u.port, .slice qa u.path.length qc, .string (bs u.query), .bool u.asks, .string (bs u.frag), .bool u.points] 47 (0, 0))) ∧ Hid (wy.ownsRow 0 9 1 (.slice qa u.path.length qc) u.path.length (u.path.map sB))) ⟨XB, EB, SQ5⟩ ?_
            clear XB EB SQ5 SQ X4 Z4 d0 d1 d2 d3 d4 d5 d6 d7 f0 f1 f2 f3 f4 f5 f6 f7
            rintro w5 ⟨X5, E5, S5⟩
            obtain ⟨d0, d1, d2, d3, d4, d5, d6, d7⟩ := cells8 E5.out
            have HTX := Lib.hid (text_any u (.slice qa u.path.length qc) w5 (HTB.out.below X5.out) SU.out.short (own_str S5.out))
            simp only [Ur.v] at HTX
            have HTL := Lib.hid (bs_size (textP u))
            have HB := Lib.hid (fun h => hr2.out.trans (endR_big (u := u) h))
            have HO := Lib.hid (fun h => hr2.out.trans (endR_ok (u := u) h))
            clear hr2
            generalize textP u = TX at *
            go_wp2_with fail
            refine HTX.out.mono ?_
            rintro e w6 ⟨rfl, hb6⟩
            have X6 := Lib.hid (X5.out.trans (Below.le hb6 X5.out.size))
            clear hb6 HTX X5 E5 S5 d0 d1 d2 d3 d4 d5 d6 d7
            by_cases h5 : 500 < TX.length
            · have hr3 := Lib.hid (HB.out h5)
              have hsj : (500 : Int) < ((bs TX).size : Int) := by rw [HTL.out]; omega
              clear HB HO h5
              go_wp2_with fail
              go_ret2
              rw [hr3.out]
              exact ⟨rfl, X6.out⟩
            · have hr3 := Lib.hid (HO.out h5)
              have hsj : ((bs TX).size : Int) ≤ 500 := by rw [HTL.out]; omega
              clear HB HO h5
              go_wp2_with fail
              go_ret2
              rw [hr3.out]
              exact ⟨rfl, X6.out⟩
end Go.Proofs.YtjcejijdeohkgaaGreatDoor
