/- The law UrlHere over the walk. -/
import Derived.Test.YtjcejijdeohkgaaGreatDoorW29
namespace Go.Proofs.YtjcejijdeohkgaaGreatDoor
open Go.RowKit

theorem org_len (s : Bs) : (orgR s).1.length ≤ 3000 := by
  unfold orgR originP
  cases hp : parseP s with
  | error x => exact Nat.zero_le _
  | ok u =>
    have S := parse_small hp
    show (origP u).length ≤ 3000
    have h7 : (portT u.port).length ≤ 6 := by
      rcases Int.lt_or_le u.port 1 with h0 | h0
      · have : u.port = 0 := by have := S.p.1; omega
        rw [this]
        exact Nat.zero_le _
      · rw [portT_eq h0 S.p.2, List.length_cons]
        have := dec_len 4 u.port.toNat (by have := S.p.2; omega)
        omega
    have h1 := S.s
    have h2 := S.h
    unfold origP
    simp only [List.length_append, List.length_cons, List.length_nil]
    omega
theorem call23 (args : Array Value) (w : World) : Sem.run Tryz.prog (callFunc 23 args) w = .ok (.enter 23 args) w := by go_simp
theorem call26 (args : Array Value) (w : World) : Sem.run Tryz.prog (callFunc 26 args) w = .ok (.enter 26 args) w := by go_simp
set_option maxRecDepth 100000 in
set_option maxHeartbeats 8000000 in
theorem law_here (base ref : Bs) (w : World) (hT : TB w) (hbl : base.length ≤ 140737488355328) : Calls Tryz.prog 6 #[.string (bs base), .string (bs ref)] w fun e w' => e = .returned (.bool true) ∧ Below w.heap.size w w' := by
  have p19 := call19
  have p17 := call17
  have p23 := call23
  have p24 := call24
  have p25 := call25
  have p26 := call26
  have p27 := call27
  have HTB := Lib.hid hT
  have H1 := Lib.hid (res_any base ref w hT)
  have H2 := Lib.hid (fun w9 hT9 => org_any base w9 hT9)
  have H3 : Hid (∀ w9, TB w9 → Calls Tryz.prog 19 #[.string (bs base), .string ⟨#[]⟩] w9 fun e w' => e = .returned (.tuple #[.string (bs (resR base []).1), .int .i64 (resR base []).2]) ∧ Below w9.heap.size w9 w') := Lib.hid (fun w9 hT9 => res_any base [] w9 hT9)
  have H4 := Lib.hid (fun w9 => cut_any 35 base w9 (by omega))
  have H5 := Lib.hid (fun w9 hT9 => res_any (frontC 35 base) (frontC 35 base) w9 hT9)
  have H6 : Hid (∀ w9, Calls Tryz.prog 26 #[.string (bs ref), .string ⟨#[58]⟩] w9 fun e w' => e = .returned (.bool (ref.contains 58)) ∧ w' = w9) := Lib.hid (fun w9 => by
    have h := Tryz.strings_Contains_one (bs ref) 58 w9
    rw [bs_list, ib_iff] at h
    exact h)
  have H7 : Hid (∀ w9, Calls Tryz.prog 27 #[.string (bs ref), .string ⟨#[47, 47]⟩] w9 fun e w' => e = .returned (.bool (decide (ref.take 2 = [47, 47]))) ∧ w' = w9) := Lib.hid (fun w9 => by
    have h := Tryz.strings_HasPrefix (bs ref) ⟨#[47, 47]⟩ w9
    rw [bs_list, show (⟨#[47, 47]⟩ : ByteArray).data.toList = [47, 47] from rfl, (pre_two ref).1] at h
    exact h)
  have H8 := Lib.hid (fun w9 hT9 => org_any (resR base ref).1 w9 hT9)
  have H9 : Hid (∀ w9, Lib.hasPrefix (resR base ref).1 ((orgR base).1 ++ [47]) = true → Calls Tryz.prog 27 #[.string (bs (resR base ref).1), .string (bs (orgR base).1 ++ (⟨#[47]⟩ : ByteArray))] w9 fun e w' => e = .returned (.bool true) ∧ w' = w9) := Lib.hid (fun w9 hh => by
    have h := Tryz.strings_HasPrefix (bs (resR base ref).1) (bs (orgR base).1 ++ (⟨#[47]⟩ : ByteArray)) w9
    rw [show (⟨#[47]⟩ : ByteArray) = bs [47] from rfl, bs_app, bs_list, bs_list, hh] at h
    rw [show (⟨#[47]⟩ : ByteArray) = bs [47] from rfl, bs_app]
    exact h)
  have HA := Lib.hid (ask_here_bad base ref)
  have HB := Lib.hid (ask_here_empty base)
  have HC := Lib.hid (ask_here base ref)
  have hol : (bs (orgR base).1).size ≤ 1048576 := by rw [bs_size]; have := org_len base; omega
  clear hT hbl
  generalize ref.contains 58 = CT at *
  obtain ⟨TW, hTW⟩ : ∃ TW, decide (ref.take 2 = [47, 47]) = TW := ⟨_, rfl⟩
  rw [hTW] at H7
  have HTW := Lib.hid hTW
  clear hTW
  generalize orgR (resR base ref).1 = P at *
  generalize resR base [] = HR at *
  generalize resR (frontC 35 base) (frontC 35 base) = SM at *
  generalize resR base ref = S at *
  generalize orgR base = O at *
  generalize frontC 35 base = FR at *
  generalize backC 35 base = BK at *
  obtain ⟨s, e0⟩ := S
  obtain ⟨o, f⟩ := O
  obtain ⟨here, g⟩ := HR
  obtain ⟨same, h⟩ := SM
  obtain ⟨p, i⟩ := P
  go_enter Tryz.func6, Tryz.ntmps6
  go_wp2_with fail
  refine (H1.out).mono ?_
  rintro e w1 ⟨rfl, hb1⟩
  have X1 := Lib.hid (hb1)
  clear hb1
  go_wp2_with fail
  refine (H2.out _ (HTB.out.below X1.out)).mono ?_
  rintro e w2 ⟨rfl, hb2⟩
  have X2 := Lib.hid (X1.out.trans (Below.le hb2 X1.out.size))
  clear hb2
  go_wp2_with fail
  refine (H3.out _ (HTB.out.below X2.out)).mono ?_
  rintro e w3 ⟨rfl, hb3⟩
  have X3 := Lib.hid (X2.out.trans (Below.le hb3 X2.out.size))
  clear hb3
  go_wp2_with fail
  refine (H4.out _).mono ?_
  rintro e w4 ⟨rfl, q4, rfl⟩
  have X4 := Lib.hid (below_drewN X3.out q4)
  generalize w3.drewN q4 = w4 at *
  go_wp2_with fail
  refine (H5.out _ (HTB.out.below X4.out)).mono ?_
  rintro e w5 ⟨rfl, hb5⟩
  have X5 := Lib.hid (X4.out.trans (Below.le hb5 X4.out.size))
  clear hb5
  go_wp2_with fail
  refine (lives_any _ (HTB.out.below X5.out)).mono ?_
  rintro e w6 ⟨rfl, hb6⟩
  have X6 := Lib.hid (X5.out.trans (Below.le hb6 X5.out.size))
  clear hb6
  clear H1 H2 H3 H4 H5 X1 X2 X3 X4 X5
  by_cases hf : f = 0
  case neg =>
    have hfb : (f == 0) = false := by simpa using hf
    obtain ⟨hee, hgg⟩ := HA.out hf
    have heb : (e0 == 0) = false := by simpa using hee
    have hgb : (g == 0) = false := by simpa using hgg
    clear HA HB HC hee hgg H6 H7 H8 H9
    go_wp2_with fail
    refine (lives_any _ (HTB.out.below X6.out)).mono ?_
    rintro e w7 ⟨rfl, hb7⟩
    have X7 := Lib.hid (X6.out.trans (Below.le hb7 X6.out.size))
    clear hb7 X6
    go_wp2_with fail
    refine (ok_any (some ⟨w7.heap.size, 0, none⟩) 1 [e0] _ (ints_block (l := [e0]) (alloc_at rfl _) rfl (show 1 ≤ maxLen by decide))).mono ?_
    rintro e w8 ⟨rfl, hb8⟩
    have ha : ∀ o, Below w7.heap.size w7 (w7.alloc o) := fun o => (Below.refl _ _).alloc (Nat.le_refl _) _
    have X8 := Lib.hid (X7.out.trans (Below.le ((ha _).trans (Below.le hb8 (ha _).size)) X7.out.size))
    have k1 : ([e0].all fun x => x == 0) = false := by simpa using heb
    rw [k1]
    clear hb8 X7 ha k1
    go_wp2_with fail
    refine (ok_any (some ⟨w8.heap.size, 0, none⟩) 1 [g] _ (ints_block (l := [g]) (alloc_at rfl _) rfl (show 1 ≤ maxLen by decide))).mono ?_
    rintro e w9 ⟨rfl, hb9⟩
    have ha : ∀ o, Below w8.heap.size w8 (w8.alloc o) := fun o => (Below.refl _ _).alloc (Nat.le_refl _) _
    have X9 := Lib.hid (X8.out.trans (Below.le ((ha _).trans (Below.le hb9 (ha _).size)) X8.out.size))
    have k1 : ([g].all fun x => x == 0) = false := by simpa using hgb
    rw [k1]
    clear hb9 X8 ha k1
    go_wp2_with fail
    go_ret
    exact ⟨rfl, X9.out⟩
  have hem := HB.out hf
  injection hem with hem1 hem2
  subst hem1 hem2 hf
  clear HA HB
  have HC2 := Lib.hid (HC.out rfl)
  clear HC
  have HGG : g = 0 ∨ (g == 0) = false := by
    by_cases hg : g = 0
    · exact .inl hg
    · exact .inr (by simpa using hg)
  obtain ⟨HGX⟩ := Lib.hid HGG
  clear HGG
  rcases HGX with rfl | hgb
  ·
    by_cases he : e0 = 0
    case neg =>
      have heb : (e0 == 0) = false := by simpa using he
      clear HC2 H6 H7 H8 H9
      go_wp2_with fail
      go_ret
      exact ⟨rfl, X6.out⟩
    subst he
    cases CT with
    | true =>
      clear HC2 H8 H9 H7
      go_wp2_with fail
      refine (H6.out _).mono ?_
      rintro e w7 ⟨rfl, rfl⟩
      go_wp2_with fail
      go_ret
      exact ⟨rfl, X6.out⟩
    | false =>
      cases TW with
      | true =>
        clear HC2 H8 H9
        go_wp2_with fail
        refine (H6.out _).mono ?_
        rintro e w7 ⟨rfl, rfl⟩
        go_wp2_with fail
        refine (H7.out _).mono ?_
        rintro e w7 ⟨rfl, rfl⟩
        go_wp2_with fail
        go_ret
        exact ⟨rfl, X6.out⟩
      | false =>
        have h2 : ref.take 2 ≠ [47, 47] := of_decide_eq_false HTW.out
        obtain ⟨hp1, hp2⟩ := HC2.out rfl rfl h2
        injection hp1 with hp3 hp4
        subst hp3 hp4
        have H10 := Lib.hid (fun w9 => H9.out w9 hp2)
        clear HC2 h2 hp2 H9
        go_wp2_with fail
        refine (H6.out _).mono ?_
        rintro e w7 ⟨rfl, rfl⟩
        go_wp2_with fail
        refine (H7.out _).mono ?_
        rintro e w7 ⟨rfl, rfl⟩
        go_wp2_with fail
        refine (H8.out _ (HTB.out.below X6.out)).mono ?_
        rintro e w8 ⟨rfl, hb8⟩
        have X8 := Lib.hid (X6.out.trans (Below.le hb8 X6.out.size))
        clear hb8 X6 H8 H6 H7
        go_wp2_with fail
        refine (H10.out _).mono ?_
        rintro e w9 ⟨rfl, rfl⟩
        go_wp2_with fail
        go_ret
        exact ⟨rfl, X8.out⟩
  ·
    by_cases he : e0 = 0
    case neg =>
      have heb : (e0 == 0) = false := by simpa using he
      clear HC2 H6 H7 H8 H9
      go_wp2_with fail
      go_ret
      exact ⟨rfl, X6.out⟩
    subst he
    cases CT with
    | true =>
      clear HC2 H8 H9 H7
      go_wp2_with fail
      refine (H6.out _).mono ?_
      rintro e w7 ⟨rfl, rfl⟩
      go_wp2_with fail
      go_ret
      exact ⟨rfl, X6.out⟩
    | false =>
      cases TW with
      | true =>
        clear HC2 H8 H9
        go_wp2_with fail
        refine (H6.out _).mono ?_
        rintro e w7 ⟨rfl, rfl⟩
        go_wp2_with fail
        refine (H7.out _).mono ?_
        rintro e w7 ⟨rfl, rfl⟩
        go_wp2_with fail
        go_ret
        exact ⟨rfl, X6.out⟩
      | false =>
        have h2 : ref.take 2 ≠ [47, 47] := of_decide_eq_false HTW.out
        obtain ⟨hp1, hp2⟩ := HC2.out rfl rfl h2
        injection hp1 with hp3 hp4
        subst hp3 hp4
        have H10 := Lib.hid (fun w9 => H9.out w9 hp2)
        clear HC2 h2 hp2 H9
        go_wp2_with fail
        refine (H6.out _).mono ?_
        rintro e w7 ⟨rfl, rfl⟩
        go_wp2_with fail
        refine (H7.out _).mono ?_
        rintro e w7 ⟨rfl, rfl⟩
        go_wp2_with fail
        refine (H8.out _ (HTB.out.below X6.out)).mono ?_
        rintro e w8 ⟨rfl, hb8⟩
        have X8 := Lib.hid (X6.out.trans (Below.le hb8 X6.out.size))
        clear hb8 X6 H8 H6 H7
        go_wp2_with fail
        refine (H10.out _).mono ?_
        rintro e w9 ⟨rfl, rfl⟩
        go_wp2_with fail
        go_ret
        exact ⟨rfl, X8.out⟩
end Go.Proofs.YtjcejijdeohkgaaGreatDoor
