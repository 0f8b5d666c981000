/- The contracts of slices.Equal over entries, trail's Check, SameTrail, resolved. -/
import Derived.Test.YtjcejijdeohkgaaGreatDoorT5
namespace Go.Proofs.YtjcejijdeohkgaaGreatDoor
open Go.RowKit

theorem toList_inj {a b : ByteArray} (h : a.toList = b.toList) : a = b := by
  rw [Lib.toList_data, Lib.toList_data] at h
  rw [← Lib.mk_data a, ← Lib.mk_data b, h]
theorem neqE_same (k n : Bs) (s : Int) (w : World) : (binOp .neq 67 (.agg #[.string (bs k), .string (bs n), .int .i64 s]) (.agg #[.string (bs k), .string (bs n), .int .i64 s])).run Tryz.prog w = .ok (.bool false) w := by go_simp
theorem neqE_diff (k n : Bs) (s : Int) (k2 n2 : Bs) (s2 : Int) (h : (⟨k, n, s⟩ : En) ≠ ⟨k2, n2, s2⟩) (w : World) : (binOp .neq 67 (.agg #[.string (bs k), .string (bs n), .int .i64 s]) (.agg #[.string (bs k2), .string (bs n2), .int .i64 s2])).run Tryz.prog w = .ok (.bool true) w := by
  go_simp
  by_cases h1 : k = k2
  · by_cases h2 : n = n2
    · have h3 : s ≠ s2 := fun e => h (by rw [h1, h2, e])
      simp_all
    · have h4 : ¬ (bs n).toList = (bs n2).toList := fun e => h2 (bs_inj (toList_inj e))
      simp_all
  · have h4 : ¬ (bs k).toList = (bs k2).toList := fun e => h1 (bs_inj (toList_inj e))
    simp_all
set_option maxRecDepth 100000 in
set_option maxHeartbeats 4000000 in
theorem eqE_any (a a2 : Option Addr) (c c2 : Nat) (l l2 : List En) (w : World) (h1 : SlR w EnB 3 (.slice a l.length c) l) (h2 : SlR w EnB 3 (.slice a2 l2.length c2) l2) :
    Calls Tryz.prog 85 #[.slice a l.length c, .slice a2 l2.length c2] w fun e w' => e = .returned (.bool (decide (l = l2))) ∧ Below w.heap.size w w' := by
  have H1 := Lib.hid h1
  have H2 := Lib.hid h2
  obtain ⟨hct, _, _⟩ := SlR.cap h1
  obtain ⟨hct2, _, _⟩ := SlR.cap h2
  clear h1 h2
  obtain ⟨R, hR⟩ : ∃ R, decide (l = l2) = R := ⟨_, rfl⟩
  rw [hR]
  have HR := Lib.hid hR
  clear hR
  by_cases hlen : l.length = l2.length
  · have HLN := Lib.hid hlen
    rw [← hlen]
    go_enter Tryz.func85, Tryz.ntmps85
    go_wp2_with fail
    go_loopg [13] l.length (fun n vk wr => ∃ k : Nat, n = l.length - k ∧ k ≤ l.length ∧ vk = .int .i64 (k : Int) ∧ l.take k = l2.take k ∧ Below w.heap.size w wr)
    case atStart => exact ⟨0, rfl, Nat.zero_le _, rfl, rfl, Below.refl _ _⟩
    case round =>
      obtain ⟨k, hg, hk, rfl, ht, hb⟩ := hrel
      have G := Lib.hid hg
      have HT := Lib.hid ht
      have HB := Lib.hid hb
      clear hg hb ht
      by_cases hlt : k < l.length
      · have h1' : (k : Int) < (l.length : Int) := by omega
        have hlt2 : k < l2.length := by have := HLN.out; omega
        have h2' : (k : Int) < (l2.length : Int) := by omega
        obtain ⟨b, o, rfl, hq⟩ := H1.out.item k hlt
        obtain ⟨b2, o2, rfl, hq2⟩ := H2.out.item k hlt2
        have hq' := hq.below HB.out
        have hq2' := hq2.below HB.out
        clear hq hq2
        have HS := Lib.hid (show ∀ J K, l[k] = J → l2[k] = K → J = K → l.take (k + 1) = l2.take (k + 1) by
          intro J K e1 e2 e3
          rw [List.take_add_one, List.take_add_one, HT.out, List.getElem?_eq_getElem hlt, List.getElem?_eq_getElem hlt2, e1, e2, e3])
        have HD := Lib.hid (show ∀ J K, l[k] = J → l2[k] = K → J ≠ K → R = false by
          intro J K e1 e2 e3
          rw [← HR.out, decide_eq_false_iff_not]
          intro e
          subst e
          exact e3 (e1.symm.trans e2))
        obtain ⟨J, hJ⟩ : ∃ J, l[k] = J := ⟨_, rfl⟩
        obtain ⟨K, hK⟩ : ∃ K, l2[k] = K := ⟨_, rfl⟩
        have HS2 := Lib.hid (HS.out J K hJ hK)
        have HD2 := Lib.hid (HD.out J K hJ hK)
        rw [hJ] at hq'
        rw [hK] at hq2'
        clear hJ hK HS HD
        obtain ⟨jk, jn, js⟩ := J
        obtain ⟨kk, kn, ks⟩ := K
        obtain ⟨c0, c1, c2⟩ := hq'
        obtain ⟨d0, d1, d2⟩ := hq2'
        simp only at c0 d0 c1 d1 c2 d2
        by_cases he : (⟨jk, jn, js⟩ : En) = ⟨kk, kn, ks⟩
        · have HE := Lib.hid (HS2.out he)
          clear HS2 HD2
          injection he with e1 e2 e3
          subst e1
          subst e2
          subst e3
          have hn := neqE_same jk jn js
          go_upto_region 6 with fail
          go_quiet (fail)
          all_goals
            clear c0 d0 c1 d1 c2 d2 hn
            go_wp2_with fail
            go_roundg (l.length - (k + 1))
            case measure => rw [G.out]; omega
            case rel => exact ⟨k + 1, rfl, by omega, by simp, HE.out, below_drewN HB.out _⟩
        · have hRf := HD2.out he
          subst hRf
          have hn := neqE_diff jk jn js kk kn ks he
          clear HS2 HD2 he
          go_upto_region 6 with fail
          go_quiet (fail)
          all_goals
            clear c0 d0 c1 d1 c2 d2 hn
            go_wp2_with fail
            go_ret
            exact ⟨rfl, below_drewN HB.out _⟩
      · have hke : k = l.length := by omega
        subst hke
        have hnl : ¬ ((l.length : Int) < (l.length : Int)) := by omega
        have hRt : R = true := by
          rw [← HR.out, decide_eq_true_iff]
          have := HT.out
          rwa [List.take_length, HLN.out, List.take_length] at this
        subst hRt
        go_wp2_with fail
        go_ret
        exact ⟨rfl, HB.out⟩
  · have hli : ((l.length : Int) == (l2.length : Int)) = false := beq_eq_false_iff_ne.2 (by omega)
    have hRf : R = false := by rw [← HR.out, decide_eq_false_iff_not]; intro e; exact hlen (by rw [e])
    subst hRf
    clear hlen
    go_enter Tryz.func85, Tryz.ntmps85
    go_wp2_with fail
    go_ret
    exact ⟨rfl, Below.refl _ _⟩
theorem field_url (w : World) (u s : ByteArray) (d : Int) : (Instr.field 67 (.agg #[.string u, .string s, .int .i64 d]) 0).run Tryz.prog w = .ok (.string u) w := by kernel_rfl
theorem field_doc (w : World) (u s : ByteArray) (d : Int) : (Instr.field 67 (.agg #[.string u, .string s, .int .i64 d]) 2).run Tryz.prog w = .ok (.int .i64 d) w := by kernel_rfl
theorem call80 (args : Array Value) (w : World) : Sem.run Tryz.prog (callFunc 80 args) w = .ok (.enter 80 args) w := by go_simp
theorem call85 (args : Array Value) (w : World) : Sem.run Tryz.prog (callFunc 85 args) w = .ok (.enter 85 args) w := by go_simp
theorem call74 (args : Array Value) (w : World) : Sem.run Tryz.prog (callFunc 74 args) w = .ok (.enter 74 args) w := by go_simp
theorem call41 (args : Array Value) (w : World) : Sem.run Tryz.prog (callFunc 41 args) w = .ok (.enter 41 args) w := by go_simp
theorem call42 (args : Array Value) (w : World) : Sem.run Tryz.prog (callFunc 42 args) w = .ok (.enter 42 args) w := by go_simp
theorem call73 (args : Array Value) (w : World) : Sem.run Tryz.prog (callFunc 73 args) w = .ok (.enter 73 args) w := by go_simp
set_option maxRecDepth 100000 in
set_option maxHeartbeats 8000000 in
theorem tcheck_any (a : Option Addr) (c : Nat) (t : Tr) (w : World) (h : SlR w EnB 3 (.slice a t.l.length c) t.l) (hT : TB w) : Calls Tryz.prog 41 #[.agg #[.slice a t.l.length c, .int .i64 t.pos]] w fun e w' => e = .returned (.int .i64 (checkT t)) ∧ Below w.heap.size w w' := by
  have p80 := call80
  have p84 := call84
  have HTB := Lib.hid hT
  obtain ⟨q1, q2, q3⟩ := SlR.cap h
  obtain ⟨R, hR⟩ : ∃ R, checkT t = R := ⟨_, rfl⟩
  rw [hR]
  unfold checkT at hR
  have HR := Lib.hid hR
  have HL := Lib.hid (fun (w9 : World) (hb : Below w.heap.size w w9) => anyE_any 81 (fun e => decide (2000 < e.state.length)) (fun j w8 _ => long_any j w8) call81 a c t.l w9 (slE_below h hb) (hT.below hb))
  have HF := Lib.hid (fun (w9 : World) (hb : Below w.heap.size w w9) => anyE_any 82 (fun e => !cleanS e.url) (fun j w8 h8 => foul_any j w8 h8) call82 a c t.l w9 (slE_below h hb) (hT.below hb))
  have HD := Lib.hid (fun (w9 : World) (hb : Below w.heap.size w w9) (h50 : t.l.length ≤ 50) => docs_any a c t.l w9 (slE_below h hb) h50 (hT.below hb))
  obtain ⟨l, pos⟩ := t
  simp only at *
  clear h hT hR
  generalize l.any (fun e => decide (2000 < e.state.length)) = LG at *
  generalize l.any (fun e => !cleanS e.url) = FL at *
  generalize docsT l = DC at *
  obtain ⟨A, hA⟩ : ∃ A, w.heap.size = A := ⟨_, rfl⟩
  go_enter Tryz.func41, Tryz.ntmps41
  go_upto_region 1 with fail
  refine code_gen (Φ := fun wy => Hid (Below w.heap.size w wy) ∧ Hid (wy.heap[A]? = some (.cells #[.slice a l.length c, .int .i64 pos] 60 (0, 0)))) ⟨Lib.hid ((Below.refl _ _).alloc (Nat.le_refl _) _), Lib.hid (alloc_at hA _)⟩ ?_
  rintro w1 ⟨X, B1⟩
  clear hA
  obtain ⟨c0, c1⟩ := cells2 B1.out
  by_cases h50 : 50 < l.length
  · have hr : R = 2 := by rw [← HR.out, if_pos (.inl h50)]
    subst hr
    have h50i : (50 : Int) < (l.length : Int) := by omega
    go_wp2_with fail
    go_ret
    exact ⟨rfl, X.out⟩
  · have h50i : (l.length : Int) ≤ 50 := by omega
    have HN := Lib.hid (show l.length ≤ 50 by omega)
    have h50' := Lib.hid h50
    clear h50
    go_wp2_with fail
    refine (HL.out _ X.out).mono ?_
    rintro e w2 ⟨rfl, hb2⟩
    have X2 := Lib.hid (X.out.trans (Below.le hb2 X.out.size))
    have B2 := Lib.hid ((hb2.block A (lt_of_heap B1.out)).trans B1.out)
    clear hb2 X B1 c0 c1 HL
    obtain ⟨c0, c1⟩ := cells2 B2.out
    cases LG with
    | true =>
      have hr : R = 2 := by rw [← HR.out, if_pos (.inr rfl)]
      subst hr
      go_wp2_with fail
      go_ret
      exact ⟨rfl, X2.out⟩
    | false =>
      have HR2 := Lib.hid HR.out
      rw [if_neg (by rw [not_or]; exact ⟨h50'.out, by simp⟩)] at HR2
      clear HR h50'
      by_cases hp0 : pos < 0
      · have hr : R = 3 := by rw [← HR2.out, if_pos (.inl hp0)]
        subst hr
        go_wp2_with fail
        go_ret
        exact ⟨rfl, X2.out⟩
      by_cases hp1 : (l.length : Int) ≤ pos
      · have hr : R = 3 := by rw [← HR2.out, if_pos (.inr (.inl hp1))]
        subst hr
        go_wp2_with fail
        go_ret
        exact ⟨rfl, X2.out⟩
      have HP0 := Lib.hid hp0
      have HP1 := Lib.hid hp1
      go_wp2_with fail
      refine (HF.out _ X2.out).mono ?_
      rintro e w3 ⟨rfl, hb3⟩
      have X3 := Lib.hid (X2.out.trans (Below.le hb3 X2.out.size))
      have B3 := Lib.hid ((hb3.block A (lt_of_heap B2.out)).trans B2.out)
      clear hb3 X2 B2 c0 c1 HF
      obtain ⟨c0, c1⟩ := cells2 B3.out
      cases FL with
      | true =>
        have hr : R = 3 := by rw [← HR2.out, if_pos (.inr (.inr (.inl rfl)))]
        subst hr
        go_wp2_with fail
        go_ret
        exact ⟨rfl, X3.out⟩
      | false =>
        go_wp2_with fail
        refine (HD.out _ X3.out HN.out).mono ?_
        rintro e w4 ⟨rfl, hb4⟩
        have X4 := Lib.hid (X3.out.trans (Below.le hb4 X3.out.size))
        clear hb4 X3 B3 c0 c1 HD
        cases DC with
        | true =>
          have hr : R = 0 := by rw [← HR2.out, if_neg (by rw [not_or, not_or, not_or]; exact ⟨by have := HP0.out; omega, by have := HP1.out; omega, by simp, by simp⟩)]
          subst hr
          go_wp2_with fail
          go_ret
          exact ⟨rfl, X4.out⟩
        | false =>
          have hr : R = 3 := by rw [← HR2.out, if_pos (.inr (.inr (.inr rfl)))]
          subst hr
          go_wp2_with fail
          go_ret
          exact ⟨rfl, X4.out⟩
set_option maxRecDepth 100000 in
set_option maxHeartbeats 8000000 in
theorem sameT_any (a a2 : Option Addr) (c c2 : Nat) (t t2 : Tr) (w : World) (h : SlR w EnB 3 (.slice a t.l.length c) t.l) (h2 : SlR w EnB 3 (.slice a2 t2.l.length c2) t2.l) : Calls Tryz.prog 42 #[.agg #[.slice a t.l.length c, .int .i64 t.pos], .agg #[.slice a2 t2.l.length c2, .int .i64 t2.pos]] w fun e w' => e = .returned (.bool (decide (t = t2))) ∧ Below w.heap.size w w' := by
  have p85 := call85
  obtain ⟨R, hR⟩ : ∃ R, decide (t = t2) = R := ⟨_, rfl⟩
  rw [hR]
  have HE := Lib.hid (fun (w9 : World) (hb : Below w.heap.size w w9) => eqE_any a a2 c c2 t.l t2.l w9 (slE_below h hb) (slE_below h2 hb))
  obtain ⟨l, pos⟩ := t
  obtain ⟨l2, pos2⟩ := t2
  simp only at *
  have HR := Lib.hid (show (decide (pos = pos2) && decide (l = l2)) = R by rw [← hR]; exact Bool.eq_iff_iff.2 (by simp [and_comm]))
  clear h h2 hR
  obtain ⟨A, hA⟩ : ∃ A, w.heap.size = A := ⟨_, rfl⟩
  go_enter Tryz.func42, Tryz.ntmps42
  go_upto_region 1 with fail
  have L2 := Loc.start2 (w := w) (.cells #[.slice a l.length c, .int .i64 pos] 60) (.cells #[.slice a2 l2.length c2, .int .i64 pos2] 60)
  have k0 := L2.k0
  have k1 := L2.k1
  rw [hA] at k0 k1
  refine code_gen (Φ := fun wy => Hid (Below w.heap.size w wy) ∧ Hid (wy.heap[A]? = some (.cells #[.slice a l.length c, .int .i64 pos] 60 (0, 0))) ∧ Hid (wy.heap[A + 1]? = some (.cells #[.slice a2 l2.length c2, .int .i64 pos2] 60 (0, 0)))) ⟨Lib.hid L2.bl, Lib.hid k0, Lib.hid k1⟩ ?_
  clear L2 k0 k1 hA
  rintro w1 ⟨X, B1, B2⟩
  obtain ⟨c0, c1⟩ := cells2 B1.out
  obtain ⟨d0, d1⟩ := cells2 B2.out
  by_cases hp : pos = pos2
  · subst hp
    have hr := Lib.hid (show decide (l = l2) = R by rw [← HR.out]; simp)
    rw [hr.out] at HE
    clear HR hr
    go_wp2_with fail
    refine (HE.out _ X.out).mono ?_
    rintro e w2 ⟨rfl, hb2⟩
    have X2 := Lib.hid (X.out.trans (Below.le hb2 X.out.size))
    clear hb2 X B1 B2 c0 c1 d0 d1 HE
    go_wp2_with fail
    go_ret
    exact ⟨rfl, X2.out⟩
  · have hpb : (pos == pos2) = false := by simpa using hp
    have hr : R = false := by rw [← HR.out]; simp [hp]
    subst hr
    clear HR hp
    go_wp2_with fail
    go_ret
    exact ⟨rfl, X.out⟩
set_option maxRecDepth 100000 in
set_option maxHeartbeats 8000000 in
theorem resolved_any (a : Option Addr) (c : Nat) (t : Tr) (ref : Bs) (w : World) (h : SlR w EnB 3 (.slice a t.l.length c) t.l) (hT : TB w) : Calls Tryz.prog 73 #[.agg #[.slice a t.l.length c, .int .i64 t.pos], .string (bs ref)] w fun e w' => e = .returned (.tuple #[.string (bs (resolvedT t ref).1), .int .i64 (resolvedT t ref).2]) ∧ Below w.heap.size w w' := by
  have p41 := call41
  have p74 := call74
  have p19 := call19
  have pfu := field_url
  have HTB := Lib.hid hT
  obtain ⟨R, hR⟩ : ∃ R, resolvedT t ref = R := ⟨_, rfl⟩
  rw [hR]
  unfold resolvedT at hR
  have HR := Lib.hid hR
  have HC := Lib.hid (fun (w9 : World) (hb : Below w.heap.size w w9) => tcheck_any a c t w9 (slE_below h hb) (hT.below hb))
  have HH := Lib.hid (fun (hc : checkT t = 0) (w9 : World) (hb : Below w.heap.size w w9) => here_any a c t w9 (slE_below h hb) ((check_iff t).1 hc).p)
  have HRS := Lib.hid (fun (w9 : World) (hb : Below w.heap.size w w9) => res_any (hereE t).url ref w9 (hT.below hb))
  clear h hT hR
  generalize hereE t = HE at *
  generalize checkT t = X at *
  generalize resR HE.url ref = RS at *
  simp only [En.v] at HH
  obtain ⟨rs, re⟩ := RS
  obtain ⟨l, pos⟩ := t
  simp only at *
  obtain ⟨A, hA⟩ : ∃ A, w.heap.size = A := ⟨_, rfl⟩
  go_enter Tryz.func73, Tryz.ntmps73
  go_upto_region 1 with fail
  refine code_gen (Φ := fun wy => Hid (Below w.heap.size w wy) ∧ Hid (wy.heap[A]? = some (.cells #[.slice a l.length c, .int .i64 pos] 60 (0, 0)))) ⟨Lib.hid ((Below.refl _ _).alloc (Nat.le_refl _) _), Lib.hid (alloc_at hA _)⟩ ?_
  rintro w1 ⟨X1, B1⟩
  clear hA
  obtain ⟨c0, c1⟩ := cells2 B1.out
  go_wp2_with fail
  refine (HC.out _ X1.out).mono ?_
  rintro e w2 ⟨rfl, hb2⟩
  have X2 := Lib.hid (X1.out.trans (Below.le hb2 X1.out.size))
  have B2 := Lib.hid ((hb2.block A (lt_of_heap B1.out)).trans B1.out)
  clear hb2 X1 B1 c0 c1 HC
  by_cases h0 : X = 0
  · have hr : R = (rs, re) := by rw [← HR.out, if_pos h0]
    subst hr
    have HH2 := Lib.hid (HH.out h0)
    subst h0
    clear HR HH
    obtain ⟨c0, c1⟩ := cells2 B2.out
    go_wp2_with fail
    refine (HH2.out _ X2.out).mono ?_
    rintro e w3 ⟨rfl, hb3⟩
    have X3 := Lib.hid (X2.out.trans (Below.le hb3 X2.out.size))
    clear hb3 X2 B2 c0 c1 HH2
    go_wp2_with fail
    refine (HRS.out _ X3.out).mono ?_
    rintro e w4 ⟨rfl, hb4⟩
    have X4 := Lib.hid (X3.out.trans (Below.le hb4 X3.out.size))
    clear hb4 X3 HRS
    go_wp2_with fail
    go_ret2
    exact ⟨rfl, X4.out⟩
  · have hxb : (X == 0) = false := by simpa using h0
    have hr : R = ([], X) := by rw [← HR.out, if_neg h0]
    subst hr
    clear HR HH HRS
    go_wp2_with fail
    go_ret2
    exact ⟨rfl, X2.out⟩
end Go.Proofs.YtjcejijdeohkgaaGreatDoor
