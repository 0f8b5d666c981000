/- The law UrlDots over the walk. -/
import Derived.Test.YtjcejijdeohkgaaGreatDoorW29
namespace Go.Proofs.YtjcejijdeohkgaaGreatDoor
open Go.RowKit

/-- slices.Contains of a text that is not there. -/
theorem hasS_any (a : Option Addr) (c : Nat) (l : List Bs) (x : Bs) (w : World) (h : SlR w StrB 1 (.slice a l.length c) l) (hx : x ∉ l) : Calls Tryz.prog 29 #[.slice a l.length c, .string (bs x)] w fun e w' => e = .returned (.bool false) ∧ w' = w := by
  by_cases hl : l.length = 0
  · have e := List.eq_nil_of_length_eq_zero hl
    subst e
    exact Tryz.slices_Contains_string_empty a c (bs x) w
  · obtain ⟨b, o, rfl, _⟩ := h.item 0 (by omega)
    refine (Tryz.slices_Contains_string b o l.length c (l.map bs) (bs x) w (by simp) (SlR.cap h).1 (str_getD h)).mono ?_
    rintro e w' ⟨rfl, rfl⟩
    refine ⟨ret_bool ?_, rfl⟩
    rw [show (l.map bs).take l.length = l.map bs from List.take_of_length_le (by simp)]
    cases hc : Lib.containsS (l.map bs) (bs x) with
    | false => rfl
    | true =>
      rw [Lib.containsS_iff] at hc
      obtain ⟨y, hy, e⟩ := List.mem_map.1 hc
      rw [bs_inj e] at hy
      exact absurd hy hx
theorem call29 (args : Array Value) (w : World) : Sem.run Tryz.prog (callFunc 29 args) w = .ok (.enter 29 args) w := by go_simp
set_option maxRecDepth 100000 in
set_option maxHeartbeats 8000000 in
theorem law_dots (base ref : Bs) (w : World) (hT : TB w) : Calls Tryz.prog 7 #[.string (bs base), .string (bs ref)] w fun e w' => e = .returned (.bool true) ∧ Below w.heap.size w w' := by
  have p19 := call19
  have p17 := call17
  have p28 := call28
  have p29 := call29
  have HTB := Lib.hid hT
  have H1 := Lib.hid (res_any base ref w hT)
  have HD := Lib.hid (ask_dots base ref)
  have HBD := Lib.hid (resR_bad (b := base) (r := ref))
  have HP := Lib.hid (fun w9 hT9 => parse_any (resR base ref).1 w9 hT9)
  clear hT
  generalize resR base ref = S at *
  obtain ⟨s, e0⟩ := S
  go_enter Tryz.func7, Tryz.ntmps7
  go_wp2_with fail
  refine (H1.out).mono ?_
  rintro e w1 ⟨rfl, hb1⟩
  have X1 := Lib.hid (hb1)
  clear hb1
  go_wp2_with fail
  refine (lives_any _ (HTB.out.below X1.out)).mono ?_
  rintro e w2 ⟨rfl, hb2⟩
  have X2 := Lib.hid (X1.out.trans (Below.le hb2 X1.out.size))
  clear hb2
  clear H1 X1
  by_cases he : e0 = 0
  · obtain ⟨u, hu, hu1, hu2, hu3⟩ := HD.out he
    subst he
    clear HD HBD
    go_wp2_with fail
    refine (HP.out _ (HTB.out.below X2.out)).mono ?_
    intro e w3 hp
    rw [hu] at hp
    obtain ⟨qv, rfl, hown, hb3⟩ := hp
    have X3 := Lib.hid (X2.out.trans (Below.le hb3 X2.out.size))
    have SQ := Lib.hid (own_lower hown (Nat.zero_le _))
    obtain ⟨pa, pc, rfl⟩ := own_shape hown
    have HU2 := Lib.hid hu2
    have HU3 := Lib.hid hu3
    have hn : (0 : Int) < (u.path.length : Int) := by have := List.length_pos_iff.2 hu1; omega
    clear hown hb3 hu hu1 hu2 hu3 X2 HP
    simp only [Ur.v]
    obtain ⟨C, hC⟩ : ∃ C, w3.heap.size = C := ⟨_, rfl⟩
    go_upto_region 5 with fail
    refine code_gen (Φ := fun wy => Hid (Below w.heap.size w wy) ∧ Hid (wy.heap[C]? = some (.cells #[.string (bs u.sch), .string (bs u.host), .int .i64 u.port, .slice pa u.path.length pc, .string (bs u.query), .bool u.asks, .string (bs u.frag), .bool u.points] 47 (0, 0))) ∧ Hid (wy.ownsRow 0 9 1 (.slice pa u.path.length pc) u.path.length (u.path.map sB))) ?_ ?_
    · have ha : ∀ o, Below w3.heap.size w3 (w3.alloc o) := fun o => (Below.refl _ _).alloc (Nat.le_refl _) _
      exact ⟨Lib.hid (X3.out.alloc X3.out.size _), Lib.hid (alloc_at hC _), Lib.hid (own_below SQ.out (ha _) (Nat.le_refl 0))⟩
    clear SQ X3 hC
    rintro w4 ⟨X4, B4, S4⟩
    obtain ⟨c0, c1, c2, c3, c4, c5, c6, c7⟩ := cells8 B4.out
    go_wp2_with fail
    refine (hasS_any _ _ u.path [46] w4 (own_str S4.out) HU2.out).mono ?_
    rintro e w5 ⟨rfl, rfl⟩
    go_wp2_with fail
    refine (hasS_any _ _ u.path [46, 46] _ (own_str S4.out) HU3.out).mono ?_
    rintro e w6 ⟨rfl, rfl⟩
    go_wp2_with fail
    go_ret
    exact ⟨rfl, X4.out⟩
  · have heb : (e0 == 0) = false := by simpa using he
    have hs : s = [] := HBD.out he
    subst hs
    rw [show bs [] = (⟨#[]⟩ : ByteArray) from rfl]
    clear HD HBD HP
    go_wp2_with fail
    refine (lives_any _ (HTB.out.below X2.out)).mono ?_
    rintro e w3 ⟨rfl, hb3⟩
    have X3 := Lib.hid (X2.out.trans (Below.le hb3 X2.out.size))
    clear hb3
    go_wp2_with fail
    go_ret
    exact ⟨rfl, X3.out⟩
end Go.Proofs.YtjcejijdeohkgaaGreatDoor
