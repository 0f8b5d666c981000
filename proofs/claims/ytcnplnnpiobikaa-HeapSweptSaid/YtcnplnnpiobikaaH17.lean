/- The contracts of heap.same, slices.EqualFunc over cells, SameCells. -/
import Derived.Test.YtcnplnnpiobikaaH15
namespace Go.Proofs.Ytcnplnnpiobikaa
open Go.RowKit

deriving instance DecidableEq for Cl
/-- slices.Equal over texts. -/
theorem eqS_any (a a2 : Option Addr) (c c2 : Nat) (l l2 : List ByteArray) (w : World) (h1 : SlR w StrAt 1 (.slice a l.length c) l) (h2 : SlR w StrAt 1 (.slice a2 l2.length c2) l2) :
    Calls Try.prog 27 #[.slice a l.length c, .slice a2 l2.length c2] w fun e w' => e = .returned (.bool (decide (l = l2))) ∧ Below w.heap.size w w' := by
  by_cases hl : l.length = 0
  · have e := List.eq_nil_of_length_eq_zero hl
    subst e
    refine (Try.slices_Equal_string_empty a a2 c l2.length c2 w (SlR.cap h2).1).mono ?_
    rintro e w' ⟨rfl, rfl⟩
    refine ⟨ret_bool ?_, Below.refl _ _⟩
    cases l2 <;> simp
  · by_cases hl2 : l.length = l2.length
    · obtain ⟨b, o, rfl, _⟩ := h1.item 0 (by omega)
      obtain ⟨b2, o2, rfl, _⟩ := h2.item 0 (by omega)
      have f1 : ∀ j, j < l.length → w.cell? ⟨b, o + j, none⟩ = some (.string (l.getD j ByteArray.empty)) := fun j hj => by
        obtain ⟨b', o', e, hi⟩ := h1.item j hj
        injection e with e
        injection e with e1 e2
        subst e1 e2
        have hi' : w.cell? ⟨b, o + j * 1, none⟩ = _ := hi
        rw [Nat.mul_one] at hi'
        rw [hi', List.getD_eq_getElem?_getD, List.getElem?_eq_getElem hj]
        rfl
      have f2 : ∀ j, j < l2.length → w.cell? ⟨b2, o2 + j, none⟩ = some (.string (l2.getD j ByteArray.empty)) := fun j hj => by
        obtain ⟨b', o', e, hi⟩ := h2.item j hj
        injection e with e
        injection e with e1 e2
        subst e1 e2
        have hi' : w.cell? ⟨b2, o2 + j * 1, none⟩ = _ := hi
        rw [Nat.mul_one] at hi'
        rw [hi', List.getD_eq_getElem?_getD, List.getElem?_eq_getElem hj]
        rfl
      refine (Try.slices_Equal_string b o l.length c b2 o2 l2.length c2 l l2 w (Nat.le_refl _) (Nat.le_refl _) (SlR.cap h1).1 (SlR.cap h2).1 f1 f2).mono ?_
      rintro e w' ⟨rfl, q, rfl⟩
      refine ⟨ret_bool ?_, below_drewN (Below.refl _ _) _⟩
      rw [List.take_length, List.take_length]
    · refine (Try.slices_Equal_string_lens a a2 l.length c l2.length c2 w hl2).mono ?_
      rintro e w' ⟨rfl, rfl⟩
      refine ⟨ret_bool ?_, Below.refl _ _⟩
      exact (decide_eq_false (fun e => hl2 (by rw [e]))).symm
/-- A cell as a value. -/
def ClVal (w : World) (v : Value) (c : Cl) : Prop := ∃ (na : Option Addr) (nc : Nat) (va : Option Addr) (vc : Nat), v = .agg #[.int .i64 c.kind, .slice na c.names.length nc, .slice va c.vals.length vc] ∧ SlR w StrAt 1 (.slice na c.names.length nc) c.names ∧ SlR w JvAt 3 (.slice va c.vals.length vc) c.vals
theorem ClVal.below {w w' : World} {v : Value} {c : Cl} (h : ClVal w v c) (hb : Below w.heap.size w w') : ClVal w' v c := by
  obtain ⟨na, nc, va, vc, e, h1, h2⟩ := h
  exact ⟨na, nc, va, vc, e, h1.mono (fun _ _ _ h => kc hb h), h2.mono (fun _ _ _ h => h.below hb)⟩
set_option maxRecDepth 100000 in
set_option maxHeartbeats 4000000 in
theorem same28_any (x y : Cl) (xv yv : Value) (w : World) (hx : ClVal w xv x) (hy : ClVal w yv y) : Calls Try.prog 28 #[xv, yv] w fun e w' => e = .returned (.bool (decide (x = y))) ∧ Below w.heap.size w w' := by
  obtain ⟨na, nc, va, vc, rfl, hn, hv⟩ := hx
  obtain ⟨na2, nc2, va2, vc2, rfl, hn2, hv2⟩ := hy
  obtain ⟨k, ns, vs⟩ := x
  obtain ⟨k2, ns2, vs2⟩ := y
  simp only at hn hv hn2 hv2 ⊢
  have HN := Lib.hid (fun (w1 : World) (hb : Below w.heap.size w w1) => eqS_any na na2 nc nc2 ns ns2 w1 (hn.mono (fun _ _ _ h => kc hb h)) (hn2.mono (fun _ _ _ h => kc hb h)))
  have HV := Lib.hid (fun (w1 : World) (hb : Below w.heap.size w w1) => eqV_any va va2 vc vc2 vs vs2 w1 (hv.mono (fun _ _ _ h => h.below hb)) (hv2.mono (fun _ _ _ h => h.below hb)))
  clear hn hv hn2 hv2
  have p13 := call13
  have p27 : ∀ (args : Array Value) (w : World), Sem.run Try.prog (callFunc 27 args) w = .ok (.enter 27 args) w := by intro args w; go_simp
  obtain ⟨R, hR⟩ : ∃ R, decide ((⟨k, ns, vs⟩ : Cl) = ⟨k2, ns2, vs2⟩) = R := ⟨_, rfl⟩
  rw [hR]
  have HR := Lib.hid (show (decide (k = k2) && decide (ns = ns2) && decide (vs = vs2)) = R by rw [← hR]; exact Bool.eq_iff_iff.2 (by simp [and_assoc]))
  clear hR
  go_enter Try.func28, Try.ntmps28
  obtain ⟨A, hA⟩ : ∃ A, w.heap.size = A := ⟨_, rfl⟩
  go_upto_region 1 with fail
  refine code_gen (Φ := fun wy => Hid (Below w.heap.size w wy) ∧ Hid (wy.heap[A]? = some (.cells #[.int .i64 k, .slice na ns.length nc, .slice va vs.length vc] 46 (0, 0))) ∧ Hid (wy.heap[A + 1]? = some (.cells #[.int .i64 k2, .slice na2 ns2.length nc2, .slice va2 vs2.length vc2] 46 (0, 0)))) ?_ ?_
  · have e1 := alloc_at hA (.cells #[.int .i64 k, .slice na ns.length nc, .slice va vs.length vc] 46)
    refine ⟨Lib.hid (((Below.refl _ _).alloc (Nat.le_refl _) _).alloc (al_le (Nat.le_refl _) _) _), Lib.hid ?_, Lib.hid (alloc_at (by rw [← hA]; simp) _)⟩
    exact (((Below.refl _ _).alloc (Nat.le_refl _) _).block A (lt_of_heap e1)).trans e1
  rintro w1 ⟨X, A1, A2⟩
  clear hA
  obtain ⟨c0, c1, c2⟩ := cells3 A1.out
  obtain ⟨d0, d1, d2⟩ := cells3 A2.out
  by_cases hk : k = k2
  · subst hk
    go_wp2_with fail
    refine (HN.out _ X.out).mono ?_
    rintro e w2 ⟨rfl, hb2⟩
    have X2 := Lib.hid (X.out.trans (Below.le hb2 X.out.size))
    have A3 := Lib.hid ((hb2.block _ (lt_of_heap A1.out)).trans A1.out)
    have A4 := Lib.hid ((hb2.block _ (lt_of_heap A2.out)).trans A2.out)
    clear c0 c1 c2 d0 d1 d2 hb2 A1 A2 X
    obtain ⟨c0, c1, c2⟩ := cells3 A3.out
    obtain ⟨d0, d1, d2⟩ := cells3 A4.out
    by_cases hns : ns = ns2
    · have hnb : decide (ns = ns2) = true := by simpa using hns
      rw [hnb] at HR ⊢
      go_wp2_with fail
      refine (HV.out _ X2.out).mono ?_
      rintro e w3 ⟨rfl, hb3⟩
      have X3 := Lib.hid (X2.out.trans (Below.le hb3 X2.out.size))
      have hr : decide (vs = vs2) = R := by rw [← HR.out]; simp
      rw [hr]
      clear hr hb3 c0 c1 c2 d0 d1 d2 HR HV HN
      go_wp2_with fail
      go_ret
      exact ⟨rfl, X3.out⟩
    · have hnb : decide (ns = ns2) = false := by simpa using hns
      rw [hnb] at HR ⊢
      have hr : R = false := by rw [← HR.out]; simp
      subst hr
      go_wp2_with fail
      go_ret
      exact ⟨rfl, X2.out⟩
  · have hkb : (k == k2) = false := by simpa using hk
    have hr : R = false := by rw [← HR.out]; simp [hk]
    subst hr
    clear hk
    go_wp2_with fail
    go_ret
    exact ⟨rfl, X.out⟩
set_option maxRecDepth 100000 in
set_option maxHeartbeats 4000000 in
theorem same26_any (x y : Cl) (xv yv : Value) (w : World) (hx : ClVal w xv x) (hy : ClVal w yv y) : Calls Try.prog 26 #[xv, yv] w fun e w' => e = .returned (.bool (decide (x = y))) ∧ Below w.heap.size w w' := by
  obtain ⟨na, nc, va, vc, rfl, hn, hv⟩ := hx
  obtain ⟨na2, nc2, va2, vc2, rfl, hn2, hv2⟩ := hy
  obtain ⟨k, ns, vs⟩ := x
  obtain ⟨k2, ns2, vs2⟩ := y
  simp only at hn hv hn2 hv2 ⊢
  have HN := Lib.hid (fun (w1 : World) (hb : Below w.heap.size w w1) => eqS_any na na2 nc nc2 ns ns2 w1 (hn.mono (fun _ _ _ h => kc hb h)) (hn2.mono (fun _ _ _ h => kc hb h)))
  have HV := Lib.hid (fun (w1 : World) (hb : Below w.heap.size w w1) => eqV_any va va2 vc vc2 vs vs2 w1 (hv.mono (fun _ _ _ h => h.below hb)) (hv2.mono (fun _ _ _ h => h.below hb)))
  clear hn hv hn2 hv2
  have p13 := call13
  have p27 : ∀ (args : Array Value) (w : World), Sem.run Try.prog (callFunc 27 args) w = .ok (.enter 27 args) w := by intro args w; go_simp
  obtain ⟨R, hR⟩ : ∃ R, decide ((⟨k, ns, vs⟩ : Cl) = ⟨k2, ns2, vs2⟩) = R := ⟨_, rfl⟩
  rw [hR]
  have HR := Lib.hid (show (decide (k = k2) && decide (ns = ns2) && decide (vs = vs2)) = R by rw [← hR]; exact Bool.eq_iff_iff.2 (by simp [and_assoc]))
  clear hR
  go_enter Try.func26, Try.ntmps26
  obtain ⟨A, hA⟩ : ∃ A, w.heap.size = A := ⟨_, rfl⟩
  go_upto_region 1 with fail
  refine code_gen (Φ := fun wy => Hid (Below w.heap.size w wy) ∧ Hid (wy.heap[A]? = some (.cells #[.int .i64 k, .slice na ns.length nc, .slice va vs.length vc] 46 (0, 0))) ∧ Hid (wy.heap[A + 1]? = some (.cells #[.int .i64 k2, .slice na2 ns2.length nc2, .slice va2 vs2.length vc2] 46 (0, 0)))) ?_ ?_
  · have e1 := alloc_at hA (.cells #[.int .i64 k, .slice na ns.length nc, .slice va vs.length vc] 46)
    refine ⟨Lib.hid (((Below.refl _ _).alloc (Nat.le_refl _) _).alloc (al_le (Nat.le_refl _) _) _), Lib.hid ?_, Lib.hid (alloc_at (by rw [← hA]; simp) _)⟩
    exact (((Below.refl _ _).alloc (Nat.le_refl _) _).block A (lt_of_heap e1)).trans e1
  rintro w1 ⟨X, A1, A2⟩
  clear hA
  obtain ⟨c0, c1, c2⟩ := cells3 A1.out
  obtain ⟨d0, d1, d2⟩ := cells3 A2.out
  by_cases hk : k = k2
  · subst hk
    go_wp2_with fail
    refine (HN.out _ X.out).mono ?_
    rintro e w2 ⟨rfl, hb2⟩
    have X2 := Lib.hid (X.out.trans (Below.le hb2 X.out.size))
    have A3 := Lib.hid ((hb2.block _ (lt_of_heap A1.out)).trans A1.out)
    have A4 := Lib.hid ((hb2.block _ (lt_of_heap A2.out)).trans A2.out)
    clear c0 c1 c2 d0 d1 d2 hb2 A1 A2 X
    obtain ⟨c0, c1, c2⟩ := cells3 A3.out
    obtain ⟨d0, d1, d2⟩ := cells3 A4.out
    by_cases hns : ns = ns2
    · have hnb : decide (ns = ns2) = true := by simpa using hns
      rw [hnb] at HR ⊢
      go_wp2_with fail
      refine (HV.out _ X2.out).mono ?_
      rintro e w3 ⟨rfl, hb3⟩
      have X3 := Lib.hid (X2.out.trans (Below.le hb3 X2.out.size))
      have hr : decide (vs = vs2) = R := by rw [← HR.out]; simp
      rw [hr]
      clear hr hb3 c0 c1 c2 d0 d1 d2 HR HV HN
      go_wp2_with fail
      go_ret
      exact ⟨rfl, X3.out⟩
    · have hnb : decide (ns = ns2) = false := by simpa using hns
      rw [hnb] at HR ⊢
      have hr : R = false := by rw [← HR.out]; simp
      subst hr
      go_wp2_with fail
      go_ret
      exact ⟨rfl, X2.out⟩
  · have hkb : (k == k2) = false := by simpa using hk
    have hr : R = false := by rw [← HR.out]; simp [hk]
    subst hr
    clear hk
    go_wp2_with fail
    go_ret
    exact ⟨rfl, X.out⟩
set_option maxRecDepth 100000 in
set_option maxHeartbeats 8000000 in
theorem eqC_any (f : Nat) (H : ∀ (x y : Cl) (xv yv : Value) (w : World), ClVal w xv x → ClVal w yv y → Calls Try.prog f #[xv, yv] w fun e w' => e = .returned (.bool (decide (x = y))) ∧ Below w.heap.size w w')
    (HF : ∀ (args : Array Value) (w : World), Sem.run Try.prog (callFunc f args) w = .ok (.enter f args) w)
    (a a2 : Option Addr) (c c2 : Nat) (l l2 : List Cl) (w : World) (h1 : HeapAt w (.slice a l.length c) l) (h2 : HeapAt w (.slice a2 l2.length c2) l2) :
    Calls Try.prog 25 #[.slice a l.length c, .slice a2 l2.length c2, .func (.func f) #[] #[]] w fun e w' => e = .returned (.bool (decide (l = l2))) ∧ Below w.heap.size w w' := by
  have HH := Lib.hid H
  have H1 := Lib.hid h1
  have H2 := Lib.hid h2
  obtain ⟨hct, _, _⟩ := SlR.cap h1
  obtain ⟨hct2, _, _⟩ := SlR.cap h2
  clear h1 h2 H
  obtain ⟨R, hR⟩ : ∃ R, decide (l = l2) = R := ⟨_, rfl⟩
  rw [hR]
  have HR := Lib.hid hR
  clear hR
  by_cases hlen : l.length = l2.length
  · have HLN := Lib.hid hlen
    rw [← hlen]
    clear hlen
    go_enter Try.func25, Try.ntmps25
    go_wp2_with fail
    go_loopg [17] l.length (fun n vk wr => ∃ k : Nat, n = l.length - k ∧ k ≤ l.length ∧ vk = .int .i64 (k : Int) ∧ l.take k = l2.take k ∧ Below w.heap.size w wr)
    case atStart => exact ⟨0, rfl, Nat.zero_le _, rfl, rfl, Below.refl _ _⟩
    case round =>
      obtain ⟨k, hg, hk, rfl, ht, hb⟩ := hrel
      have G := Lib.hid hg
      have HT := Lib.hid ht
      have HB := Lib.hid hb
      clear hg hb ht
      by_cases hlt : k < l.length
      · have h1' : (k : Int) < (l.length : Int) := by omega
        have hlt2 : k < l2.length := by have := HLN.out; omega
        obtain ⟨b, o, rfl, hq⟩ := H1.out.item k hlt
        obtain ⟨b2, o2, rfl, hq2⟩ := H2.out.item k hlt2
        have hq' := hq.below HB.out
        have hq2' := hq2.below HB.out
        clear hq hq2
        have HS := Lib.hid (show ∀ J K, l[k] = J → l2[k] = K → J = K → l.take (k + 1) = l2.take (k + 1) by
          intro J K e1 e2 e3
          rw [List.take_add_one, List.take_add_one, HT.out, List.getElem?_eq_getElem hlt, List.getElem?_eq_getElem hlt2, e1, e2, e3])
        have HD := Lib.hid (show ∀ J K, l[k] = J → l2[k] = K → J ≠ K → R = false by
          intro J K e1 e2 e3
          rw [← HR.out, decide_eq_false_iff_not]
          intro e
          subst e
          exact e3 (e1.symm.trans e2))
        obtain ⟨J, hJ⟩ : ∃ J, l[k] = J := ⟨_, rfl⟩
        obtain ⟨K, hK⟩ : ∃ K, l2[k] = K := ⟨_, rfl⟩
        have HS2 := Lib.hid (HS.out J K hJ hK)
        have HD2 := Lib.hid (HD.out J K hJ hK)
        rw [hJ] at hq'
        rw [hK] at hq2'
        clear hJ hK HS HD hlt2
        obtain ⟨na, nc, va, vc, c0, c1, c2, n1, v1⟩ := hq'.ex
        obtain ⟨na2, nc2, va2, vc2, d0, d1, d2, n2, v2⟩ := hq2'.ex
        have HX := Lib.hid (show ClVal wr (.agg #[.int .i64 J.kind, .slice na J.names.length nc, .slice va J.vals.length vc]) J from ⟨na, nc, va, vc, rfl, n1, v1⟩)
        have HY := Lib.hid (show ClVal wr (.agg #[.int .i64 K.kind, .slice na2 K.names.length nc2, .slice va2 K.vals.length vc2]) K from ⟨na2, nc2, va2, vc2, rfl, n2, v2⟩)
        clear hq' hq2' n1 v1 n2 v2
        obtain ⟨A, hA⟩ : ∃ A, wr.heap.size = A := ⟨_, rfl⟩
        go_upto_region 6 with fail
        refine code_gen (Φ := fun wy => Hid (Below wr.heap.size wr wy) ∧ Hid (wy.heap[A]? = some (.cells #[.int .i64 J.kind, .slice na J.names.length nc, .slice va J.vals.length vc] 46 (0, 0))) ∧ Hid (wy.heap.size = A + 1)) ⟨Lib.hid ((Below.refl _ _).alloc (Nat.le_refl _) _), Lib.hid (alloc_at hA _), Lib.hid (by rw [← hA]; simp)⟩ ?_
        rintro w3 ⟨X3, A3, S3⟩
        have e0 := kc X3.out d0
        have e1 := kc X3.out d1
        have e2 := kc X3.out d2
        clear c0 c1 c2 d0 d1 d2 hA
        go_upto_region 7 with fail
        refine code_gen (Φ := fun wy => Hid (Below wr.heap.size wr wy) ∧ Hid (wy.heap[A]? = some (.cells #[.int .i64 J.kind, .slice na J.names.length nc, .slice va J.vals.length vc] 46 (0, 0))) ∧ Hid (wy.heap[w3.heap.size]? = some (.cells #[.int .i64 K.kind, .slice na2 K.names.length nc2, .slice va2 K.vals.length vc2] 46 (0, 0)))) ⟨Lib.hid (X3.out.alloc X3.out.size _), Lib.hid ((((Below.refl _ _).alloc (Nat.le_refl _) _).block A (lt_of_heap A3.out)).trans A3.out), Lib.hid (alloc_at rfl _)⟩ ?_
        generalize w3.heap.size = A2
        rintro w4 ⟨X4, A4, B4⟩
        clear e0 e1 e2 X3 A3 S3
        obtain ⟨c0, c1, c2⟩ := cells3 A4.out
        obtain ⟨d0, d1, d2⟩ := cells3 B4.out
        go_wp2_with fail
        refine (HH.out J K _ _ w4 (HX.out.below X4.out) (HY.out.below X4.out)).mono ?_
        rintro e w5 ⟨rfl, hb5⟩
        have X5 := Lib.hid (HB.out.trans (Below.le (X4.out.trans (Below.le hb5 X4.out.size)) HB.out.size))
        clear c0 c1 c2 d0 d1 d2 hb5 HX HY A4 B4 X4
        by_cases he : J = K
        · have HE := Lib.hid (HS2.out he)
          have hb : decide (J = K) = true := by simpa using he
          rw [hb]
          clear hb HS2 HD2 he
          go_wp2_with fail
          go_roundg (l.length - (k + 1))
          case measure => rw [G.out]; omega
          case rel => exact ⟨k + 1, rfl, by omega, by simp, HE.out, X5.out⟩
        · have hRf := HD2.out he
          subst hRf
          have hb : decide (J = K) = false := by simpa using he
          rw [hb]
          clear hb HS2 HD2 he
          go_wp2_with fail
          go_ret
          exact ⟨rfl, X5.out⟩
      · have hke : k = l.length := by omega
        subst hke
        have hnl : ¬ ((l.length : Int) < (l.length : Int)) := by omega
        have hRt : R = true := by
          rw [← HR.out, decide_eq_true_iff]
          have := HT.out
          rwa [List.take_length, HLN.out, List.take_length] at this
        subst hRt
        go_wp2_with fail
        go_ret
        exact ⟨rfl, HB.out⟩
  · have hli : ((l.length : Int) == (l2.length : Int)) = false := beq_eq_false_iff_ne.2 (by omega)
    have hRf : R = false := by rw [← HR.out, decide_eq_false_iff_not]; intro e; exact hlen (by rw [e])
    subst hRf
    clear hlen
    go_enter Try.func25, Try.ntmps25
    go_wp2_with fail
    go_ret
    exact ⟨rfl, Below.refl _ _⟩
theorem call25 (args : Array Value) (w : World) : Sem.run Try.prog (callFunc 25 args) w = .ok (.enter 25 args) w := by go_simp
theorem call26 (args : Array Value) (w : World) : Sem.run Try.prog (callFunc 26 args) w = .ok (.enter 26 args) w := by go_simp
theorem call28 (args : Array Value) (w : World) : Sem.run Try.prog (callFunc 28 args) w = .ok (.enter 28 args) w := by go_simp
set_option maxRecDepth 100000 in
set_option maxHeartbeats 2000000 in
theorem sameCells_any (a a2 : Option Addr) (c c2 : Nat) (l l2 : List Cl) (w : World) (h1 : HeapAt w (.slice a l.length c) l) (h2 : HeapAt w (.slice a2 l2.length c2) l2) :
    Calls Try.prog 12 #[.slice a l.length c, .slice a2 l2.length c2] w fun e w' => e = .returned (.bool (decide (l = l2))) ∧ Below w.heap.size w w' := by
  have HE := Lib.hid (eqC_any 26 same26_any call26 a a2 c c2 l l2 w h1 h2)
  clear h1 h2
  have p25 := call25
  go_enter Try.func12, Try.ntmps12
  go_wp2_with fail
  refine HE.out.mono ?_
  rintro e w2 ⟨rfl, hb2⟩
  go_wp2_with fail
  go_ret
  exact ⟨rfl, hb2⟩
end Go.Proofs.Ytcnplnnpiobikaa
