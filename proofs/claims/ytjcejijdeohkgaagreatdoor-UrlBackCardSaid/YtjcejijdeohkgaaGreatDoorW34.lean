/- The law UrlBack over the walk. -/
import Derived.Test.YtjcejijdeohkgaaGreatDoorW29
namespace Go.Proofs.YtjcejijdeohkgaaGreatDoor
open Go.RowKit

set_option maxRecDepth 100000 in
set_option maxHeartbeats 8000000 in
theorem law_back (s : Bs) (w : World) (hT : TB w) : Calls Tryz.prog 9 #[.string (bs s)] w fun e w' => e = .returned (.bool true) ∧ Below w.heap.size w w' := by
  have p17 := call17
  have p28 := call28
  have p32 := call32
  have p33 := call33
  have p25 := call25
  have p34 := call34
  have HTB := Lib.hid hT
  have HP := Lib.hid (parse_any s w hT)
  clear hT
  go_enter Tryz.func9, Tryz.ntmps9
  go_wp2_with fail
  refine HP.out.mono ?_
  intro e w1 hp
  clear HP
  cases hpl : parseP s with
  | error x =>
    rw [hpl] at hp
    obtain ⟨rfl, hb1⟩ := hp
    have hx := parse_err hpl
    have hxb : (x == 0) = false := by rw [beq_eq_false_iff_ne]; omega
    have hxn : ¬ x = 0 := by omega
    have X1 := Lib.hid hb1
    clear hb1 hx hpl
    unfold zU
    go_wp2_with fail
    have X2 := Lib.hid (X1.out.alloc X1.out.size (.cells zU 47))
    unfold zU at X2
    refine (lives_any _ (HTB.out.below X2.out)).mono ?_
    rintro e w3 ⟨rfl, hb3⟩
    have X3 := Lib.hid (X2.out.trans (Below.le hb3 X2.out.size))
    clear hb3
    go_wp2_with fail
    refine (lives_any _ (HTB.out.below X3.out)).mono ?_
    rintro e w4 ⟨rfl, hb4⟩
    have X4 := Lib.hid (X3.out.trans (Below.le hb4 X3.out.size))
    clear hb4
    go_wp2_with fail
    go_ret
    exact ⟨rfl, X4.out⟩
  | ok u =>
    rw [hpl] at hp
    obtain ⟨qv, rfl, hown, hb1⟩ := hp
    have X1 := Lib.hid hb1
    have SH := Lib.hid (parse_small hpl).short
    have PB := Lib.hid (plain_back hpl)
    have SQ := Lib.hid (own_lower hown (Nat.zero_le _))
    obtain ⟨pa, pc, rfl⟩ := own_shape hown
    clear hown hb1 hpl
    simp only [Ur.v]
    obtain ⟨C, hC⟩ : ∃ C, w1.heap.size = C := ⟨_, rfl⟩
    go_upto_region 2 with fail
    refine code_gen (Φ := fun wy => Hid (Below w.heap.size w wy) ∧ Hid (wy.heap[C]? = some (.cells #[.string (bs u.sch), .string (bs u.host), .int .i64 u.port, .slice pa u.path.length pc, .string (bs u.query), .bool u.asks, .string (bs u.frag), .bool u.points] 47 (0, 0))) ∧ Hid (wy.ownsRow 0 9 1 (.slice pa u.path.length pc) u.path.length (u.path.map sB))) ?_ ?_
    · have ha : ∀ o, Below w1.heap.size w1 (w1.alloc o) := fun o => (Below.refl _ _).alloc (Nat.le_refl _) _
      exact ⟨Lib.hid (X1.out.alloc X1.out.size _), Lib.hid (alloc_at hC _), Lib.hid (own_below SQ.out (ha _) (Nat.le_refl 0))⟩
    clear SQ X1 hC
    rintro w2 ⟨X2, B2, S2⟩
    go_wp2_with fail
    refine (lives_any _ (HTB.out.below X2.out)).mono ?_
    rintro e w3 ⟨rfl, hb3⟩
    have X3 := Lib.hid (X2.out.trans (Below.le hb3 X2.out.size))
    have B3 := Lib.hid ((hb3.block C (lt_of_heap B2.out)).trans B2.out)
    have S3 := Lib.hid (own_below S2.out hb3 (Nat.le_refl 0))
    clear hb3 X2 B2 S2
    obtain ⟨c0, c1, c2, c3, c4, c5, c6, c7⟩ := cells8 B3.out
    have HW := Lib.hid (fun w9 hT9 (h9 : w9.ownsRow 0 9 1 (.slice pa u.path.length pc) u.path.length (u.path.map sB)) => write_any u (.slice pa u.path.length pc) w9 hT9 SH.out (own_str h9))
    have HK := Lib.hid (fun w9 hT9 (h9 : w9.ownsRow 0 9 1 (.slice pa u.path.length pc) u.path.length (u.path.map sB)) => check_any u (.slice pa u.path.length pc) w9 hT9 SH.out (own_str h9))
    simp only [Ur.v] at HW HK
    go_wp2_with fail
    refine (HW.out _ (HTB.out.below X3.out) S3.out).mono ?_
    rintro e w4 ⟨rfl, hb4⟩
    have X4 := Lib.hid (X3.out.trans (Below.le hb4 X3.out.size))
    have B4 := Lib.hid ((hb4.block C (lt_of_heap B3.out)).trans B3.out)
    have S4 := Lib.hid (own_below S3.out hb4 (Nat.le_refl 0))
    clear hb4 X3 B3 S3 HW c0 c1 c2 c3 c4 c5 c6 c7
    rcases PB.out with hck | ⟨hck, hpt⟩
    · rw [hck, if_neg (by decide)]
      rw [hck] at HK
      clear hck PB
      obtain ⟨c0, c1, c2, c3, c4, c5, c6, c7⟩ := cells8 B4.out
      go_wp2_with fail
      refine (HK.out _ (HTB.out.below X4.out) S4.out).mono ?_
      rintro e w5 ⟨rfl, hb5⟩
      have X5 := Lib.hid (X4.out.trans (Below.le hb5 X4.out.size))
      clear hb5
      go_wp2_with fail
      go_ret
      exact ⟨rfl, X5.out⟩
    · rw [hck, if_pos rfl]
      have HP2 := Lib.hid (parse_any (textP u) w4 (HTB.out.below X4.out))
      have HW2 := Lib.hid (fun qa qc w9 hT9 (h9 : w9.ownsRow 0 9 1 (.slice qa u.path.length qc) u.path.length (u.path.map sB)) => write_any u (.slice qa u.path.length qc) w9 hT9 SH.out (own_str h9))
      rw [hck, if_pos rfl] at HW2
      unfold ParseSaid at HP2
      rw [hpt] at HP2
      simp only [Ur.v] at HP2 HW2
      clear hck hpt PB HK
      generalize textP u = TX at *
      go_wp2_with fail
      refine HP2.out.mono ?_
      rintro e w5 ⟨qv, rfl, hq, hb5⟩
      have X5 := Lib.hid (X4.out.trans (Below.le hb5 X4.out.size))
      have B5 := Lib.hid ((hb5.block C (lt_of_heap B4.out)).trans B4.out)
      have S5 := Lib.hid (own_below S4.out hb5 (Nat.le_refl 0))
      have Q5 := Lib.hid (own_lower hq (Nat.zero_le _))
      obtain ⟨qa, qc, rfl⟩ := own_shape hq
      clear hq hb5 X4 B4 S4 HP2
      obtain ⟨D, hD⟩ : ∃ D, w5.heap.size = D := ⟨_, rfl⟩
      go_upto_region 8 with fail
      refine code_gen (Φ := fun wy => Hid (Below w.heap.size w wy) ∧ Hid (wy.heap[C]? = some (.cells #[.string (bs u.sch), .string (bs u.host), .int .i64 u.port, .slice pa u.path.length pc, .string (bs u.query), .bool u.asks, .string (bs u.frag), .bool u.points] 47 (0, 0))) ∧ Hid (wy.ownsRow 0 9 1 (.slice pa u.path.length pc) u.path.length (u.path.map sB)) ∧ Hid (wy.heap[D]? = some (.cells #[.string (bs u.sch), .string (bs u.host), .int .i64 u.port, .slice qa u.path.length qc, .string (bs u.query), .bool u.asks, .string (bs u.frag), .bool u.points] 47 (0, 0))) ∧ Hid (wy.ownsRow 0 9 1 (.slice qa u.path.length qc) u.path.length (u.path.map sB))) ?_ ?_
      · have ha : ∀ o, Below w5.heap.size w5 (w5.alloc o) := fun o => (Below.refl _ _).alloc (Nat.le_refl _) _
        exact ⟨Lib.hid (X5.out.alloc X5.out.size _), Lib.hid (((ha _).block C (lt_of_heap B5.out)).trans B5.out), Lib.hid (own_below S5.out (ha _) (Nat.le_refl 0)), Lib.hid (alloc_at hD _), Lib.hid (own_below Q5.out (ha _) (Nat.le_refl 0))⟩
      clear X5 B5 S5 Q5 hD
      rintro w6 ⟨X6, B6, S6, D6, Q6⟩
      obtain ⟨d0, d1, d2, d3, d4, d5, d6, d7⟩ := cells8 D6.out
      go_wp2_with fail
      refine (HW2.out qa qc _ (HTB.out.below X6.out) Q6.out).mono ?_
      rintro e w7 ⟨rfl, hb7⟩
      have X7 := Lib.hid (X6.out.trans (Below.le hb7 X6.out.size))
      have B7 := Lib.hid ((hb7.block C (lt_of_heap B6.out)).trans B6.out)
      have D7 := Lib.hid ((hb7.block D (lt_of_heap D6.out)).trans D6.out)
      have S7 := Lib.hid (own_below S6.out hb7 (Nat.le_refl 0))
      have Q7 := Lib.hid (own_below Q6.out hb7 (Nat.le_refl 0))
      clear hb7 X6 B6 D6 S6 Q6 HW2 d0 d1 d2 d3 d4 d5 d6 d7
      go_wp2_with fail
      refine (ok_any (some ⟨w7.heap.size, 0, none⟩) 3 [0, 0, 0] _ (ints_block (l := [0, 0, 0]) (alloc_at rfl _) rfl (by decide))).mono ?_
      rintro e w8 ⟨rfl, hb8⟩
      have ha : ∀ o, Below w7.heap.size w7 (w7.alloc o) := fun o => (Below.refl _ _).alloc (Nat.le_refl _) _
      have Y8 := Lib.hid ((ha _).trans (Below.le hb8 (ha _).size))
      have X8 := Lib.hid (X7.out.trans (Below.le Y8.out X7.out.size))
      have B8 := Lib.hid ((Y8.out.block C (lt_of_heap B7.out)).trans B7.out)
      have D8 := Lib.hid ((Y8.out.block D (lt_of_heap D7.out)).trans D7.out)
      have S8 := Lib.hid (own_below S7.out Y8.out (Nat.le_refl 0))
      have Q8 := Lib.hid (own_below Q7.out Y8.out (Nat.le_refl 0))
      clear ha hb8 Y8 X7 B7 D7 S7 Q7
      obtain ⟨c0, c1, c2, c3, c4, c5, c6, c7⟩ := cells8 B8.out
      obtain ⟨d0, d1, d2, d3, d4, d5, d6, d7⟩ := cells8 D8.out
      go_wp2_with fail
      refine (eqS_any pa qa pc qc u.path u.path _ (own_str S8.out) (own_str Q8.out)).mono ?_
      rintro e w9 ⟨rfl, hb9⟩
      have X9 := Lib.hid (X8.out.trans (Below.le hb9 X8.out.size))
      have B9 := Lib.hid ((hb9.block C (lt_of_heap B8.out)).trans B8.out)
      have D9 := Lib.hid ((hb9.block D (lt_of_heap D8.out)).trans D8.out)
      rw [show decide (u.path = u.path) = true by simp]
      clear hb9 X8 B8 D8 S8 Q8 c0 c1 c2 c3 c4 c5 c6 c7 d0 d1 d2 d3 d4 d5 d6 d7
      obtain ⟨c0, c1, c2, c3, c4, c5, c6, c7⟩ := cells8 B9.out
      obtain ⟨d0, d1, d2, d3, d4, d5, d6, d7⟩ := cells8 D9.out
      go_wp2_with fail
      go_ret
      exact ⟨rfl, X9.out⟩
end Go.Proofs.YtjcejijdeohkgaaGreatDoor
