/- The contract of jlex's next. -/
import Derived.Test.YtfikflmlcicedaaDoorJ8
namespace Go.Proofs.YtfikflmlcicedaaDoor
open Go.RowKit

theorem said_drewN {R : Nat} {s : ByteArray} {i : Nat} {out : Value} {w w' : World} {o : Out} {e : Ending} {q : Nat} (h : Said R s i out (w.drewN q) o e w') : Said R s i out w o e w' :=
  ⟨h.1, h.2.1, ⟨h.2.2.os, h.2.2.tape, h.2.2.output, h.2.2.size, h.2.2.block⟩⟩

set_option maxRecDepth 100000 in
set_option maxHeartbeats 4000000 in
theorem next_any (R B : Nat) (s : ByteArray) (i : Nat) (out : Value) (w : World) (hr : Rd w R s i out) (hi : i < s.size) (hs : s.size ≤ 2000) (tb : SpTab B w) (hB : B ≤ R) :
    Calls Tryd.prog 16 #[.pointer (some ⟨R, 0, none⟩)] w (Said R s i out w (nextT (rest s i))) := by
  obtain ⟨O, hO⟩ : ∃ O, nextT (rest s i) = O := ⟨_, rfl⟩
  rw [hO]
  unfold nextT at hO
  have HR := Lib.hid hr
  have TB := Lib.hid tb
  clear hr tb
  obtain ⟨c, hc⟩ : ∃ c, pk (rest s i) 0 = c := ⟨_, rfl⟩
  have hpk := fun w (h : Rd w R s i out) => peek_any R s i 0 out w h (by omega) hs (by omega)
  rw [hc] at hO hpk
  have HO := Lib.hid hO
  clear hO hc
  go_enter Tryd.func16, Tryd.ntmps16
  go_wp2_with fail
  refine (hpk _ (HR.out.alloc _)).mono ?_
  rintro e w1 ⟨rfl, q, rfl⟩
  have hl := HR.out.l
  obtain ⟨w1, hw1, X0⟩ : ∃ w1, w1 = (w.alloc (.cells #[.int .i64 0, .int .i64 0, .int .i64 0, .string ⟨#[]⟩, .int .i64 0] 28)).drewN q ∧ SX w w1 R B s out i :=
    ⟨_, rfl, SX.drewN ⟨HR.out.alloc _, TBx.new _ _ _ _ _ _, World.grownBy_alloc _ _ _, TB.out.on ((Below.refl _ _).alloc (by omega) _)⟩ q⟩
  rw [← hw1]
  clear hw1 hpk HR TB
  have X := Lib.hid X0
  clear X0
  have hne : w.heap.size ≠ R := by omega
  go_wp2_with fail
  refine (lt_any _ _).mono ?_
  rintro e w1 ⟨rfl, rfl⟩
  cases h1 : lt c
  · rw [h1] at HO
    go_wp2_with fail
    refine (dg_any _ _).mono ?_
    rintro e w1 ⟨rfl, rfl⟩
    cases h2 : dg c
    · rw [h2] at HO
      by_cases h3 : c = 34
      · subst h3
        clear h1 h2
        go_wp2_with fail
        refine (text_any R s i out _ X.out.rd hi hs).mono ?_
        rintro e w2 ⟨rfl, ⟨i2, hrd2, hti2⟩, hg2⟩
        have hbx2 := (X.out.bx).grown hg2 hne
        have HR2 := Lib.hid hrd2
        have HT2 := Lib.hid hti2
        have HG2 := Lib.hid (X.out.gr.trans hg2)
        clear hrd2 hti2 hg2
        obtain ⟨t0, t1, t2, t3, t4, g0, g1, g2, g3, g4, l2⟩ := hbx2
        have ho : textT (rest s i) = O := HO.out
        rw [ho] at HT2 ⊢
        clear ho
        unfold tokV
        go_wp2_with fail
        refine bodyPost_ret (v := _) (by simp [results, Tryd.results16, go_sem, t0, t1, t2, t3, t4]; rfl) rfl ?_
        exact said_of rfl (set5 HR2.out HG2.out hne _ _ _ _ _) HT2.out
      · have e3 : ((c.toNat : Int) == 34) = false := beq_eq_false_iff_ne.2 (u8_ne h3)
        have e4 : (c == 34) = false := beq_eq_false_iff_ne.2 h3
        rw [e4] at HO
        clear h1 h2 h3 e4
        go_wp2_with fail
        refine (sign_any R B s i out _ X.out.rd (Nat.le_of_lt hi) hs X.out.tb hB).mono ?_
        rintro e w2 ⟨rfl, ⟨i2, hrd2, hti2⟩, hg2⟩
        have hbx2 := (X.out.bx).grown hg2 hne
        have HR2 := Lib.hid hrd2
        have HT2 := Lib.hid hti2
        have HG2 := Lib.hid (X.out.gr.trans hg2)
        clear hrd2 hti2 hg2
        obtain ⟨t0, t1, t2, t3, t4, g0, g1, g2, g3, g4, l2⟩ := hbx2
        have ho : signT (rest s i) = O := HO.out
        rw [ho] at HT2 ⊢
        clear ho
        unfold tokV
        go_wp2_with fail
        refine bodyPost_ret (v := _) (by simp [results, Tryd.results16, go_sem, t0, t1, t2, t3, t4]; rfl) rfl ?_
        exact said_of rfl (set5 HR2.out HG2.out hne _ _ _ _ _) HT2.out
    · rw [h2] at HO
      clear h1 h2
      go_wp2_with fail
      refine (number_any R s i out _ X.out.rd (Nat.le_of_lt hi) hs).mono ?_
      rintro e w2 ⟨rfl, ⟨i2, hrd2, hti2⟩, hg2⟩
      have hbx2 := (X.out.bx).grown hg2 hne
      have HR2 := Lib.hid hrd2
      have HT2 := Lib.hid hti2
      have HG2 := Lib.hid (X.out.gr.trans hg2)
      clear hrd2 hti2 hg2
      obtain ⟨t0, t1, t2, t3, t4, g0, g1, g2, g3, g4, l2⟩ := hbx2
      have ho : numberT (rest s i) = O := HO.out
      rw [ho] at HT2 ⊢
      clear ho
      unfold tokV
      go_wp2_with fail
      refine bodyPost_ret (v := _) (by simp [results, Tryd.results16, go_sem, t0, t1, t2, t3, t4]; rfl) rfl ?_
      exact said_of rfl (set5 HR2.out HG2.out hne _ _ _ _ _) HT2.out
  · rw [h1] at HO
    clear h1
    go_wp2_with fail
    refine (name_any R B s i out _ X.out.rd (Nat.le_of_lt hi) hs X.out.tb hB).mono ?_
    rintro e w2 ⟨rfl, hrd2, hg2⟩
    have hbx2 := (X.out.bx).grown hg2 hne
    have HR2 := Lib.hid hrd2
    have HG2 := Lib.hid (X.out.gr.trans hg2)
    clear hrd2 hg2
    obtain ⟨t0, t1, t2, t3, t4, g0, g1, g2, g3, g4, l2⟩ := hbx2
    have ho : O = .tok (nameT (rest s i)) := HO.out.symm
    have HO2 := Lib.hid ho
    clear ho
    unfold tokV
    go_wp2_with fail
    refine bodyPost_ret (v := _) (by simp [results, Tryd.results16, go_sem, t0, t1, t2, t3, t4]; rfl) rfl ?_
    exact said_of (by rw [HO2.out]; rfl) (set5 HR2.out HG2.out hne _ _ _ _ _) (by rw [HO2.out]; intro t ht; cases ht; rfl)
end Go.Proofs.YtfikflmlcicedaaDoor
