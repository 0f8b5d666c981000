/- slices.Equal over values. -/
import Derived.Test.YtcnplnnpiobikaaH13
namespace Go.Proofs.Ytcnplnnpiobikaa
open Go.RowKit

theorem toList_inj {a b : ByteArray} (h : a.toList = b.toList) : a = b := by
  rw [Lib.toList_data, Lib.toList_data] at h
  rw [← Lib.mk_data a, ← Lib.mk_data b, h]
deriving instance DecidableEq for JV
theorem neqV_same (k n : Int) (s : ByteArray) (w : World) : (binOp .neq 31 (.agg #[.int .i64 k, .int .i64 n, .string s]) (.agg #[.int .i64 k, .int .i64 n, .string s])).run Try.prog w = .ok (.bool false) w := by go_simp
theorem neqV_diff (k n : Int) (s : ByteArray) (k2 n2 : Int) (s2 : ByteArray) (h : (⟨k, n, s⟩ : JV) ≠ ⟨k2, n2, s2⟩) (w : World) : (binOp .neq 31 (.agg #[.int .i64 k, .int .i64 n, .string s]) (.agg #[.int .i64 k2, .int .i64 n2, .string s2])).run Try.prog w = .ok (.bool true) w := by
  go_simp
  by_cases h1 : k = k2
  · by_cases h2 : n = n2
    · have h3 : s ≠ s2 := fun e => h (by rw [h1, h2, e])
      have h4 : ¬ s.toList = s2.toList := fun e => h3 (toList_inj e)
      simp_all
    · simp_all
  · simp_all
set_option maxRecDepth 100000 in
set_option maxHeartbeats 4000000 in
theorem eqV_any (a a2 : Option Addr) (c c2 : Nat) (l l2 : List JV) (w : World) (h1 : SlR w JvAt 3 (.slice a l.length c) l) (h2 : SlR w JvAt 3 (.slice a2 l2.length c2) l2) :
    Calls Try.prog 13 #[.slice a l.length c, .slice a2 l2.length c2] w fun e w' => e = .returned (.bool (decide (l = l2))) ∧ Below w.heap.size w w' := by
  have H1 := Lib.hid h1
  have H2 := Lib.hid h2
  obtain ⟨hct, _, _⟩ := SlR.cap h1
  obtain ⟨hct2, _, _⟩ := SlR.cap h2
  clear h1 h2
  obtain ⟨R, hR⟩ : ∃ R, decide (l = l2) = R := ⟨_, rfl⟩
  rw [hR]
  have HR := Lib.hid hR
  clear hR
  by_cases hlen : l.length = l2.length
  · have HLN := Lib.hid hlen
    rw [← hlen]
    go_enter Try.func13, Try.ntmps13
    go_wp2_with fail
    go_loopg [13] l.length (fun n vk wr => ∃ k : Nat, n = l.length - k ∧ k ≤ l.length ∧ vk = .int .i64 (k : Int) ∧ l.take k = l2.take k ∧ Below w.heap.size w wr)
    case atStart => exact ⟨0, rfl, Nat.zero_le _, rfl, rfl, Below.refl _ _⟩
    case round =>
      obtain ⟨k, hg, hk, rfl, ht, hb⟩ := hrel
      have G := Lib.hid hg
      have HT := Lib.hid ht
      have HB := Lib.hid hb
      clear hg hb ht
      by_cases hlt : k < l.length
      · have h1' : (k : Int) < (l.length : Int) := by omega
        have hlt2 : k < l2.length := by have := HLN.out; omega
        have h2' : (k : Int) < (l2.length : Int) := by omega
        obtain ⟨b, o, rfl, hq⟩ := H1.out.item k hlt
        obtain ⟨b2, o2, rfl, hq2⟩ := H2.out.item k hlt2
        have hq' := hq.below HB.out
        have hq2' := hq2.below HB.out
        clear hq hq2
        have HS := Lib.hid (show ∀ J K, l[k] = J → l2[k] = K → J = K → l.take (k + 1) = l2.take (k + 1) by
          intro J K e1 e2 e3
          rw [List.take_add_one, List.take_add_one, HT.out, List.getElem?_eq_getElem hlt, List.getElem?_eq_getElem hlt2, e1, e2, e3])
        have HD := Lib.hid (show ∀ J K, l[k] = J → l2[k] = K → J ≠ K → R = false by
          intro J K e1 e2 e3
          rw [← HR.out, decide_eq_false_iff_not]
          intro e
          subst e
          exact e3 (e1.symm.trans e2))
        obtain ⟨J, hJ⟩ : ∃ J, l[k] = J := ⟨_, rfl⟩
        obtain ⟨K, hK⟩ : ∃ K, l2[k] = K := ⟨_, rfl⟩
        have HS2 := Lib.hid (HS.out J K hJ hK)
        have HD2 := Lib.hid (HD.out J K hJ hK)
        rw [hJ] at hq'
        rw [hK] at hq2'
        clear hJ hK HS HD
        obtain ⟨jk, jn, js⟩ := J
        obtain ⟨kk, kn, ks⟩ := K
        obtain ⟨c0, c1, c2⟩ := hq'
        obtain ⟨d0, d1, d2⟩ := hq2'
        simp only at c0 d0 c1 d1 c2 d2
        by_cases he : (⟨jk, jn, js⟩ : JV) = ⟨kk, kn, ks⟩
        · have HE := Lib.hid (HS2.out he)
          clear HS2 HD2
          injection he with e1 e2 e3
          subst e1
          subst e2
          subst e3
          have hn := neqV_same jk jn js
          go_upto_region 6 with fail
          go_quiet (fail)
          all_goals
            clear c0 d0 c1 d1 c2 d2 hn
            go_wp2_with fail
            go_roundg (l.length - (k + 1))
            case measure => rw [G.out]; omega
            case rel => exact ⟨k + 1, rfl, by omega, by simp, HE.out, below_drewN HB.out _⟩
        · have hRf := HD2.out he
          subst hRf
          have hn := neqV_diff jk jn js kk kn ks he
          clear HS2 HD2 he
          go_upto_region 6 with fail
          go_quiet (fail)
          all_goals
            clear c0 d0 c1 d1 c2 d2 hn
            go_wp2_with fail
            go_ret
            exact ⟨rfl, below_drewN HB.out _⟩
      · have hke : k = l.length := by omega
        subst hke
        have hnl : ¬ ((l.length : Int) < (l.length : Int)) := by omega
        have hRt : R = true := by
          rw [← HR.out, decide_eq_true_iff]
          have := HT.out
          rwa [List.take_length, HLN.out, List.take_length] at this
        subst hRt
        go_wp2_with fail
        go_ret
        exact ⟨rfl, HB.out⟩
  · have hli : ((l.length : Int) == (l2.length : Int)) = false := beq_eq_false_iff_ne.2 (by omega)
    have hRf : R = false := by rw [← HR.out, decide_eq_false_iff_not]; intro e; exact hlen (by rw [e])
    subst hRf
    clear hlen
    go_enter Try.func13, Try.ntmps13
    go_wp2_with fail
    go_ret
    exact ⟨rfl, Below.refl _ _⟩
end Go.Proofs.Ytcnplnnpiobikaa
