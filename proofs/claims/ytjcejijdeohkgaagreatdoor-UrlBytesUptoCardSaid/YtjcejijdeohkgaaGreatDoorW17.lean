/- The contract of url.place. -/
import Derived.Test.YtjcejijdeohkgaaGreatDoorW16
namespace Go.Proofs.YtjcejijdeohkgaaGreatDoor
open Go.RowKit

theorem dec_some : ∀ (l : Bs) (n : Nat), (∀ x ∈ l, x ∈ digs) → ∃ m, Lib.decFrom n l = some m
  | [], n, _ => ⟨n, rfl⟩
  | c :: r, n, h => by
    have key : ∀ x ∈ digs, ∃ d, Lib.digitVal x = some d := by
      intro x hx
      simp only [digs, List.mem_cons, List.not_mem_nil, or_false] at hx
      rcases hx with rfl | rfl | rfl | rfl | rfl | rfl | rfl | rfl | rfl | rfl
      all_goals exact ⟨_, rfl⟩
    obtain ⟨d, hd⟩ := key c (h c (by simp))
    obtain ⟨m, hm⟩ := dec_some r (n * 10 + d) (fun x hx => h x (List.mem_cons_of_mem _ hx))
    refine ⟨m, ?_⟩
    rw [Lib.decFrom, hd]
    exact hm
theorem num_digits {p : Bs} (h0 : p ≠ []) (hl : p.length ≤ 5) (h : ∀ x ∈ p, x ∈ digs) : Lib.atoi p = some (numP p) := by
  have key : ∃ m, Lib.atoi p = some m := by
    cases p with
    | nil => exact absurd rfl h0
    | cons c r =>
      obtain ⟨m, hm⟩ := dec_some (c :: r) 0 h
      have h43 : ∀ x ∈ digs, (x == 45) = false ∧ (x == 43) = false := by decide
      obtain ⟨n1, n2⟩ := h43 c (h c (by simp))
      refine ⟨(m : Int), ?_⟩
      simp only [Lib.atoi, n1, n2, Lib.decNat, Bool.false_eq_true, if_false, List.isEmpty_cons, hm, Option.map_some]
  obtain ⟨m, hm⟩ := key
  have e := Lib.atoiAll_short p (by omega)
  rw [hm] at e
  unfold numP
  rw [e, hm]
  rfl
theorem enc_rune_len (r : Int) : (Lib.encodeRune r).length ≤ 4 := by
  unfold Lib.encodeRune
  rw [List.length_map]
  unfold Lib.encodeRuneZ
  repeat' split
  all_goals simp
theorem map_len (f : Int → Int) : ∀ (n : Nat) (l : Bs), (Lib.mapGoD f n l).length ≤ 4 * n
  | 0, _ => by simp [Lib.mapGoD]
  | n + 1, l => by
    unfold Lib.mapGoD
    split
    · simp
    · rw [List.length_append]
      have h1 := map_len f n (l.drop (Lib.decodeL l).2)
      have h2 : (if 0 ≤ f (Lib.decodeL l).1 then Lib.encodeRune (f (Lib.decodeL l).1) else []).length ≤ 4 := by
        split
        · exact enc_rune_len _
        · simp
      omega
theorem small_len (l : Bs) : (smallP l).length ≤ 4 * l.length := map_len smR l.length l
theorem below_bytes (w : World) (e : TypeId) (s : ByteArray) : Below w.heap.size w (Lib.bytesWorld w e s) := ⟨rfl, rfl, rfl, by rw [Lib.bytesWorld_size]; omega, fun k hk => Lib.bytesWorld_at_old w e s k hk⟩
theorem call106 (args : Array Value) (w : World) : Sem.run Tryz.prog (callFunc 106 args) w = .ok (.enter 106 args) w := by go_simp
theorem call107 (args : Array Value) (w : World) : Sem.run Tryz.prog (callFunc 107 args) w = .ok (.enter 107 args) w := by go_simp
theorem call66 (args : Array Value) (w : World) : Sem.run Tryz.prog (callFunc 66 args) w = .ok (.enter 66 args) w := by go_simp
/-- What place leaves. -/
def PlaceSaid (w : World) (A : Nat) (sch : Bs) (v3 v4 v5 v6 v7 : Value) (p : Option (Bs × Int)) (e : Ending) (w' : World) : Prop :=
  match p with
  | some (h, n) => e = .returned (.bool true) ∧ UB w w' A #[.string (bs sch), .string (bs h), .int .i64 n, v3, v4, v5, v6, v7]
  | none => e = .returned (.bool false) ∧ ∃ cs, UB w w' A cs
set_option maxRecDepth 100000 in
set_option maxHeartbeats 8000000 in
theorem place_any (A : Nat) (sch : Bs) (v1 v3 v4 v5 v6 v7 : Value) (l : Bs) (w : World) (hT : TB w) (h3 : A ≠ 0 ∧ A ≠ 1 ∧ A ≠ 2 ∧ A ≠ 5) (hA : w.heap[A]? = some (.cells #[.string (bs sch), v1, .int .i64 0, v3, v4, v5, v6, v7] 47 (0, 0))) (hl : l.length ≤ 500) :
    Calls Tryz.prog 66 #[.pointer (some ⟨A, 0, none⟩), .string (bs l)] w fun e w' => PlaceSaid w A sch v3 v4 v5 v6 v7 (placeP sch l) e w' := by
  have p24 := call24
  have p94 := call94
  have p105 := call105
  have p18 := call18
  have p106 := call106
  have p107 := call107
  have HC1 := Lib.hid (cut_any 58 l w (by omega))
  have HTB := Lib.hid (fun (w1 : World) (cs : Array Value) (u : UB w w1 A cs) => u.tb hT h3)
  have HF := Lib.hid (show (frontC 58 l).length ≤ 500 from Nat.le_trans (front_len 58 l) hl)
  have HB := Lib.hid (show (backC 58 l).length ≤ 500 from Nat.le_trans (back_len 58 l) hl)
  have U0 := Lib.hid (UB.start hA)
  have HSL : Hid ((smallP (frontC 58 l)).length ≤ 1048576) := Lib.hid (by have := small_len (frontC 58 l); have := HF.out; omega)
  obtain ⟨R, hR⟩ : ∃ R, placeP sch l = R := ⟨_, rfl⟩
  rw [hR]
  unfold placeP at hR
  have HR := Lib.hid hR
  clear hA hl hR hT
  generalize List.contains l 58 = HAS at *
  generalize frontC 58 l = F at *
  generalize backC 58 l = P at *
  go_enter Tryz.func66, Tryz.ntmps66
  go_wp2_with fail
  refine HC1.out.mono ?_
  rintro e w1 ⟨rfl, q1, rfl⟩
  have U1 := Lib.hid (U0.out.drewN q1)
  clear HC1 U0
  generalize w.drewN q1 = w1 at *
  have HSM := Lib.hid (small_any F w1 (HTB.out _ _ U1.out) (by have := HF.out; omega))
  go_wp2_with fail
  refine HSM.out.mono ?_
  rintro e w2 ⟨rfl, hb2⟩
  have U2 := Lib.hid (U1.out.call hb2)
  clear hb2 HSM U1
  generalize smallP F = H at *
  obtain ⟨c0, c1, c2, c3, c4, c5, c6, c7⟩ := cells8 U2.out.c
  have f1 := Lib.frozen_of_heap U2.out.c 1
  have U3 := Lib.hid (U2.out.set 1 (.string (bs H)) (by simp))
  go_upto_region 3 with fail
  refine code_gen (Φ := fun wy => Hid (UB w wy A #[.string (bs sch), .string (bs H), .int .i64 0, v3, v4, v5, v6, v7])) U3 ?_
  clear U3 U2 c0 c1 c2 c3 c4 c5 c6 c7 f1
  intro w3 U3
  obtain ⟨c0, c1, c2, c3, c4, c5, c6, c7⟩ := cells8 U3.out.c
  have HHO := Lib.hid (host_any H w3 (HTB.out _ _ U3.out) HSL.out)
  go_wp2_with fail
  refine HHO.out.mono ?_
  rintro e w4 ⟨rfl, hb4⟩
  have U4 := Lib.hid (U3.out.call hb4)
  clear hb4 HHO U3 c0 c1 c2 c3 c4 c5 c6 c7
  generalize hostP H = HO at *
  cases HO with
  | false =>
    have hr : R = none := by rw [← HR.out, if_pos rfl]
    subst hr
    go_wp2_with fail
    go_ret
    exact ⟨rfl, _, U4.out⟩
  | true =>
    cases HAS with
    | false =>
      have hr : R = some (H, 0) := by rw [← HR.out, if_neg (by simp), if_pos rfl]
      subst hr
      go_wp2_with fail
      go_ret
      exact ⟨rfl, U4.out⟩
    | true =>
      have HR2 := Lib.hid (show (if P.length < 1 ∨ 5 < P.length ∨ Lib.trimS P digs ≠ [] then none
        else if numP P < 1 ∨ 65535 < numP P then none
        else some (H, if numP P = ownP sch then 0 else numP P)) = R by rw [← HR.out, if_neg (show ¬ (true = false) by decide), if_neg (show ¬ (true = false) by decide)])
      clear HR
      have hpz : (bs P).size = P.length := bs_size P
      by_cases hp1 : P.length < 1
      · have hr : R = none := by rw [← HR2.out, if_pos (.inl hp1)]
        subst hr
        have hpi : ((bs P).size : Int) < 1 := by omega
        generalize bs P = S at *
        clear HR2 hpz
        go_wp2_with fail
        go_ret
        exact ⟨rfl, _, U4.out⟩
      · by_cases hp5 : 5 < P.length
        · have hr : R = none := by rw [← HR2.out, if_pos (.inr (.inl hp5))]
          subst hr
          have hpi : (1 : Int) ≤ ((bs P).size : Int) := by omega
          have hpj : (5 : Int) < ((bs P).size : Int) := by omega
          generalize bs P = S at *
          clear HR2 hpz
          go_wp2_with fail
          go_ret
          exact ⟨rfl, _, U4.out⟩
        · have hpi : (1 : Int) ≤ ((bs P).size : Int) := by omega
          have hpj : ((bs P).size : Int) ≤ 5 := by omega
          have HTR := Lib.hid (trim_any P digs w4 (by omega) (by decide) (by decide))
          have HTI := Lib.hid (trim_iff P digs)
          generalize Lib.trimS P digs = T at *
          have e0 : Hid ((bs T).toList = T) := Lib.hid (by rw [Lib.toList_data, bs_list])
          cases ht : T.isEmpty with
          | false =>
            have hne : T ≠ [] := by rintro rfl; cases ht
            have hr : R = none := by rw [← HR2.out, if_pos (.inr (.inr hne))]
            subst hr
            have e1 : (bs T).toList.isEmpty = false := by rw [e0.out, ht]
            generalize bs P = S at *
            clear HR2 hpz hne ht HTI e0
            go_wp2_with fail
            refine HTR.out.mono ?_
            rintro e w5 ⟨rfl, hb5⟩
            have U5 := Lib.hid (U4.out.call hb5)
            clear hb5 HTR
            generalize bs T = S3 at *
            go_wp2_with fail
            go_ret
            exact ⟨rfl, _, U5.out⟩
          | true =>
            have hte : T = [] := by simpa using ht
            have e1 : (bs T).toList.isEmpty = true := by rw [e0.out, ht]
            have HND := Lib.hid (num_digits (p := P) (by intro e; rw [e] at hp1; exact hp1 (by decide)) (by omega) (HTI.out.1 hte))
            rw [if_neg (by rintro (h | h | h); exact hp1 h; exact hp5 h; exact h hte)] at HR2
            have HAT := Lib.hid (fun w9 => Tryz.strconv_Atoi (bs P) (numP P) (by rw [bs_size]; omega) (by rw [bs_list]; exact HND.out) w9)
            clear HND hpz ht hte HTI e0 hp1 hp5
            generalize numP P = n at *
            generalize bs P = S at *
            go_wp2_with fail
            refine HTR.out.mono ?_
            rintro e w5 ⟨rfl, hb5⟩
            have U5 := Lib.hid (U4.out.call hb5)
            clear hb5 HTR U4
            generalize bs T = S3 at *
            go_wp2_with fail
            refine (HAT.out _).mono ?_
            rintro e w6 ⟨rfl, t, rfl⟩
            have U6 := Lib.hid (U5.out.call (below_bytes w5 5 t))
            clear HAT U5
            generalize Lib.bytesWorld w5 5 t = w6 at *
            by_cases hn1 : n < 1
            · rw [if_pos (.inl hn1)] at HR2
              have hr := HR2.out
              subst hr
              clear HR2
              go_wp2_with fail
              go_ret
              exact ⟨rfl, _, U6.out⟩
            · by_cases hn2 : 65535 < n
              · rw [if_pos (.inr hn2)] at HR2
                have hr := HR2.out
                subst hr
                clear HR2
                go_wp2_with fail
                go_ret
                exact ⟨rfl, _, U6.out⟩
              · rw [if_neg (by omega)] at HR2
                have HOW := Lib.hid (fun w9 => own_any sch w9)
                generalize ownP sch = O at *
                obtain ⟨c0, c1, c2, c3, c4, c5, c6, c7⟩ := cells8 U6.out.c
                have f2 := Lib.frozen_of_heap U6.out.c 2
                have U7 := Lib.hid (U6.out.set 2 (.int .i64 n) (by simp))
                by_cases hno : n = O
                · have hnb : (n == O) = true := by simpa using hno
                  rw [if_pos hno] at HR2
                  have hr := HR2.out
                  subst hr
                  clear HR2 U7
                  go_wp2_with fail
                  refine (HOW.out _).mono ?_
                  rintro e w' ⟨rfl, rfl⟩
                  go_wp2_with fail
                  go_ret
                  exact ⟨rfl, U6.out⟩
                · have hnb : (n == O) = false := by simpa using hno
                  rw [if_neg hno] at HR2
                  have hr := HR2.out
                  subst hr
                  clear HR2
                  go_wp2_with fail
                  refine (HOW.out _).mono ?_
                  rintro e w' ⟨rfl, rfl⟩
                  go_wp2_with fail
                  go_ret
                  exact ⟨rfl, U7.out⟩
end Go.Proofs.YtjcejijdeohkgaaGreatDoor
