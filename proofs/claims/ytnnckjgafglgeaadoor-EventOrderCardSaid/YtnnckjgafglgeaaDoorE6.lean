/- The contract of dom's up. -/
import Derived.Test.YtnnckjgafglgeaaDoorE5
namespace Go.Proofs.YtnnckjgafglgeaaDoor
open Go.RowKit

theorem DocAt.at {w : World} {b o n c : Nat} {nodes : List Nd} (h : DocAt w (.slice (some ⟨b, o, none⟩) n c) nodes) (k : Nat) (hk : k < nodes.length) : NodeAt w b (o + k * 6) nodes[k] := by
  obtain ⟨b', o', h1, h2⟩ := SlR.item h k hk
  injection h1 with h1
  injection h1 with h1 h3 _
  subst h1 h3
  exact h2
theorem par_at (nodes : List Nd) (k : Nat) (hk : k < nodes.length) : par nodes (k : Int) = nodes[k].parent := by
  unfold par
  rw [Int.toNat_natCast, List.getElem?_eq_getElem hk]
  rfl
theorem knd_at (nodes : List Nd) (k : Nat) (hk : k < nodes.length) : knd nodes (k : Int) = nodes[k].kind := by
  unfold knd
  rw [Int.toNat_natCast, List.getElem?_eq_getElem hk]
  rfl
theorem upF_go (nodes : List Nd) (m : Nat) (n : Int) (h1 : 0 ≤ par nodes n) (h2 : m ≤ nodes.length) : upF nodes (nodes.length + 2 - m) n m = upF nodes (nodes.length + 2 - (m + 1)) (par nodes n) (m + 1) := by
  rw [show nodes.length + 2 - m = (nodes.length + 2 - (m + 1)) + 1 by omega]
  conv => lhs; unfold upF
  rw [if_pos ⟨h1, h2⟩]
theorem upF_stop (nodes : List Nd) (m : Nat) (n : Int) (h : ¬(0 ≤ par nodes n ∧ m ≤ nodes.length)) : upF nodes (nodes.length + 2 - m) n m = m := by
  cases nodes.length + 2 - m with
  | zero => rfl
  | succ f => unfold upF; rw [if_neg h]
set_option maxRecDepth 100000 in
set_option maxHeartbeats 8000000 in
theorem up_any (nodes : List Nd) (a : Option Addr) (c : Nat) (q : Bool) (n : Int) (w : World) (h : DocAt w (.slice a nodes.length c) nodes) (h200 : nodes.length ≤ 200) (hv : ∀ k : Nat, k < nodes.length → par nodes (k : Int) < (nodes.length : Int)) (h0 : 0 ≤ n) (hn : n < (nodes.length : Int)) : Calls Tryd.prog 34 #[.agg #[.slice a nodes.length c, .bool q], .int .i64 n] w fun e w' => e = .returned (.int .i64 (up nodes n : Nat)) ∧ Below w.heap.size w w' := by
  obtain ⟨b, o, rfl, _⟩ := SlR.item h 0 (by omega)
  have HS := Lib.hid h
  have HV := Lib.hid hv
  obtain ⟨hc1, hc2, hc3⟩ := SlR.cap h
  clear h hv
  obtain ⟨U, hU⟩ : ∃ U, up nodes n = U := ⟨_, rfl⟩
  have HU := Lib.hid (show upF nodes (nodes.length + 2 - 0) n 0 = U from hU)
  rw [hU]
  clear hU
  go_enter Tryd.func34, Tryd.ntmps34
  obtain ⟨A, hA⟩ : ∃ A, w.heap.size = A := ⟨_, rfl⟩
  go_upto_region 1 with fail
  refine code_gen (Φ := fun wy => Hid (Below w.heap.size w wy) ∧ Hid (wy.heap[A]? = some (.cells #[.slice (some ⟨b, o, none⟩) nodes.length c, .bool q] 24 (0, 0)))) ⟨Lib.hid ((Below.refl _ _).alloc (Nat.le_refl _) _), Lib.hid (alloc_at hA _)⟩ ?_
  rintro w3 ⟨X, XA⟩
  clear hA
  go_loopg [1, 4] (nodes.length + 2) (fun g v1 v4 wr => ∃ (m k : Nat), g = nodes.length + 2 - m ∧ v1 = .int .i64 (k : Int) ∧ v4 = .int .i64 (m : Int) ∧ k < nodes.length ∧ m ≤ nodes.length + 1 ∧ upF nodes (nodes.length + 2 - m) (k : Int) m = U ∧ Below w.heap.size w wr ∧ wr.heap[A]? = some (.cells #[.slice (some ⟨b, o, none⟩) nodes.length c, .bool q] 24 (0, 0)))
  case atStart =>
    obtain ⟨k, rfl⟩ := Int.eq_ofNat_of_zero_le h0
    exact ⟨0, k, rfl, rfl, rfl, by omega, by omega, HU.out, X.out, XA.out⟩
  case round =>
    clear HU X XA
    obtain ⟨m, k, hg, rfl, rfl, hk, hm, hu, hb, ha⟩ := hrel
    have G := Lib.hid hg
    have HU := Lib.hid hu
    have HB := Lib.hid hb
    have HA := Lib.hid ha
    clear hg hu hb ha
    obtain ⟨c0, _⟩ := cells2 HA.out
    obtain ⟨_, _, _, _, _, _, _, _, e4, _⟩ := ((HS.out.at k hk).below HB.out).ex
    have hp := par_at nodes k hk
    rw [← hp] at e4
    have hlt := HV.out k hk
    obtain ⟨P, hP⟩ : ∃ P, par nodes (k : Int) = P := ⟨_, rfl⟩
    rw [hP] at e4 hlt
    have HP := Lib.hid hP
    have hki : (k : Int) < (nodes.length : Int) := by omega
    clear hp hP
    by_cases h1 : 0 ≤ P
    · by_cases h2 : m ≤ nodes.length
      · have h2i : (m : Int) ≤ (nodes.length : Int) := by omega
        go_wp2_with fail
        go_roundg (nodes.length + 2 - (m + 1))
        case measure => have := G.out; omega
        case rel =>
          obtain ⟨j, hj⟩ := Int.eq_ofNat_of_zero_le h1
          refine ⟨m + 1, j, rfl, by rw [hj], by simp, by omega, by omega, ?_, HB.out, HA.out⟩
          have := upF_go nodes m (k : Int) (by rw [HP.out]; exact h1) h2
          rw [HU.out, HP.out, hj] at this
          exact this.symm
      · have h2i : (nodes.length : Int) < (m : Int) := by omega
        have hs := upF_stop nodes m (k : Int) (by omega)
        rw [HU.out] at hs
        subst hs
        go_wp2_with fail
        go_ret
        exact ⟨rfl, HB.out⟩
    · have hs := upF_stop nodes m (k : Int) (by rw [HP.out]; omega)
      rw [HU.out] at hs
      subst hs
      go_wp2_with fail
      go_ret
      exact ⟨rfl, HB.out⟩
end Go.Proofs.YtnnckjgafglgeaaDoor
