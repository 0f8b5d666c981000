/- The contract of heap.Reach. -/
import Derived.Test.YtcnplnnpiobikaaH7
import Derived.Test.YtcnplnnpiobikaaShelf
import Derived.Sort.OwnSortedInts
namespace Go.Proofs.Ytcnplnnpiobikaa
open Go.RowKit

def sortI (l : List Int) : List Int := l.mergeSort fun x y => decide (x ≤ y)
def reachV (h : List Cl) (roots : List JV) : Int × List Int := if askErr h roots = 0 then (0, sortI (walkF h roots)) else (askErr h roots, [])
theorem fits_fit {h : List Cl} {v : JV} (hv : fits h v = true) : Fit h v := by
  unfold fits at hv
  unfold Fit
  simp only [Bool.and_eq_true, Bool.or_eq_true, decide_eq_true_eq] at hv
  rcases hv.2 with h1 | h1
  · omega
  · exact h1.1
theorem tail_fits {h : List Cl} {c : Cl} {n : Nat} (hc : tailOk h c n = true) : ∀ v ∈ c.vals, fits h v = true := by
  unfold tailOk at hc
  simp only [Bool.and_eq_true, Bool.not_eq_true'] at hc
  have h2 := hc.2.2
  rw [List.any_eq_false] at h2
  intro v hv
  have := h2 v hv
  simpa using this
theorem cell_fits {h : List Cl} {c : Cl} (hc : cellOk h c = true) : ∀ v ∈ c.vals, fits h v = true := by
  unfold cellOk at hc
  split at hc
  · split at hc
    · cases hc
    · exact tail_fits hc
  · split at hc
    · exact tail_fits hc
    · split at hc
      · exact tail_fits hc
      · cases hc
structure HeapOk (h : List Cl) : Prop where
  len : h.length ≤ 300
  small : ∀ c ∈ h, c.vals.length ≤ 200
  cells : ∀ c ∈ h, cellOk h c = true
theorem heap_ok {h : List Cl} (hc : checkErr h = 0) : HeapOk h := by
  unfold checkErr at hc
  split at hc
  · cases hc
  · split at hc
    · cases hc
    · split at hc
      · cases hc
      · rename_i h1 h2 h3
        refine ⟨by omega, fun c hc => ?_, fun c hc => ?_⟩
        · rw [Bool.not_eq_true, List.any_eq_false] at h2
          have := h2 c hc
          unfold tooMany at this
          simpa using this
        · rw [Bool.not_eq_true, List.any_eq_false] at h3
          have := h3 c hc
          simpa using this
theorem kids_mem {h : List Cl} {n : Int} {v : JV} (hv : v ∈ kids h n) : ∃ c ∈ h, v ∈ c.vals := by
  unfold kids at hv
  cases hx : h[n.toNat]? with
  | none => rw [hx] at hv; cases hv
  | some c =>
    rw [hx] at hv
    exact ⟨c, List.mem_of_getElem? hx, hv⟩
theorem HeapOk.fit {h : List Cl} (hk : HeapOk h) : AllFit h := fun n v hv => by
  obtain ⟨c, hc, hv⟩ := kids_mem hv
  exact fits_fit (cell_fits (hk.cells c hc) v hv)
theorem ask_ok {h : List Cl} {roots : List JV} (ha : askErr h roots = 0) : HeapOk h ∧ ∀ v ∈ roots, fits h v = true := by
  unfold askErr at ha
  split at ha
  · rename_i h0
    split at ha
    · cases ha
    · rename_i h1
      refine ⟨heap_ok h0, fun v hv => ?_⟩
      rw [Bool.not_eq_true, List.any_eq_false] at h1
      have := h1 v hv
      simpa using this
  · rename_i h0
    exact absurd ha h0
theorem own_sort {w w0 : World} {v : Value} {l : List Int} (h : w.ownsRow w0.heap.size 3 1 v l.length (l.map nV)) (hl : l.length ≤ 300) : Calls Try.prog 21 #[v] w fun e w' => e = .returned (.tuple #[]) ∧ w'.ownsRow w0.heap.size 3 1 v (sortI l).length ((sortI l).map nV) ∧ w.grownBy w' v.ownBlock := by
  rcases h.2 with ⟨rfl, h0⟩ | ⟨g, cap, cur, rfl, hB, hb, hn, hc, hs, ht⟩
  · have : l = [] := List.eq_nil_of_length_eq_zero h0
    subst this
    refine (Try.slices_Sort_int_none none 0 w).mono ?_
    rintro e w' ⟨rfl, rfl⟩
    exact ⟨rfl, by simpa [sortI] using h, gr_refl _ _⟩
  · rw [Nat.mul_one] at ht
    refine (Try.slices_Sort_int g 0 cap l w (holds_of_blockI hb ht) (lt_of_heap hb) (by omega)).mono ?_
    rintro e w' ⟨rfl, n, os, rfl⟩
    refine ⟨rfl, ?_, grownBy_sortedI _⟩
    have h1 := ownsRow_sortedI (w := w) (os := os) (n := n) (ss := l) (ts := sortI l) (base := w0.heap.size) (by simp [sortI]) hB hb hn hc hs
    have e : (sortI l).length = l.length := by simp [sortI]
    rw [e]
    exact h1
theorem call19 (args : Array Value) (w : World) : Sem.run Try.prog (callFunc 19 args) w = .ok (.enter 19 args) w := by go_simp
theorem call21 (args : Array Value) (w : World) : Sem.run Try.prog (callFunc 21 args) w = .ok (.enter 21 args) w := by go_simp
set_option maxRecDepth 100000 in
set_option maxHeartbeats 8000000 in
theorem reach_any (a : Option Addr) (c : Nat) (h : List Cl) (ra : Option Addr) (rc : Nat) (roots : List JV) (w : World) (hh : HeapAt w (.slice a h.length c) h) (hr : SlR w JvAt 3 (.slice ra roots.length rc) roots) :
    Calls Try.prog 8 #[.slice a h.length c, .slice ra roots.length rc] w fun e w' => ∃ v, e = .returned (.tuple #[v, .int .i64 (reachV h roots).1]) ∧ w'.ownsRow w.heap.size 3 1 v (reachV h roots).2.length ((reachV h roots).2.map nV) ∧ Below w.heap.size w w' := by
  have HAS := Lib.hid (asked_any a c h ra rc roots w hh hr)
  have HWA := Lib.hid (fun (w6 : World) (hb : Below w.heap.size w w6) (ha : askErr h roots = 0) => walked_any a c h ra rc roots w6 (hh.below hb) (hr.mono (fun _ _ _ h => h.below hb)) (ask_ok ha).1.fit (fun x hx => fits_fit ((ask_ok ha).2 x hx)) (ask_ok ha).1.len)
  have HWE := Lib.hid (fun (ha : askErr h roots = 0) => (walk_went (ask_ok ha).1.fit roots (fun x hx => fits_fit ((ask_ok ha).2 x hx))).st.len)
  have HLN := Lib.hid (fun (ha : askErr h roots = 0) => (ask_ok ha).1.len)
  clear hh hr
  obtain ⟨R, hR⟩ : ∃ R, reachV h roots = R := ⟨_, rfl⟩
  rw [hR]
  unfold reachV at hR
  have HR := Lib.hid hR
  clear hR
  generalize askErr h roots = E at *
  have q19 := call19
  have q20 := call20
  have q21 := call21
  go_enter Try.func8, Try.ntmps8
  go_wp2_with fail
  refine HAS.out.mono ?_
  rintro e w3 ⟨rfl, hb3⟩
  have X := Lib.hid hb3
  clear hb3 HAS
  by_cases hE0 : E = 0
  · subst hE0
    have HW3 := Lib.hid (HWA.out w3 X.out rfl)
    have HL := Lib.hid (Nat.le_trans (HWE.out rfl) (HLN.out rfl))
    have HR2 := Lib.hid (show ((0 : Int), sortI (walkF h roots)) = R by rw [← HR.out, if_pos rfl])
    clear HWA HWE HLN HR
    generalize walkF h roots = L at *
    go_wp2_with fail
    refine HW3.out.mono ?_
    rintro e w4 ⟨S, tv, rfl, av, hw4⟩
    have Y := Lib.hid hw4
    clear hw4 HW3
    obtain ⟨s0, s1, s2⟩ := cells3 Y.out.blk
    have HSO := Lib.hid (own_sort (w0 := w3) Y.out.alr (by have := HL.out; omega))
    go_wp2_with fail
    refine HSO.out.mono ?_
    rintro e w5 ⟨rfl, ho5, hg5⟩
    have Z := Lib.hid ho5
    have ZB := Lib.hid (show Below w.heap.size w w5 from (X.out.trans (Below.le Y.out.bl X.out.size)).grown hg5 (Nat.le_trans X.out.size Y.out.bl.size) (fun k hk => Nat.le_trans X.out.size (Y.out.alr.lt k hk).1))
    clear ho5 hg5 HSO s0 s1 s2 Y
    go_wp2_with fail
    go_ret2
    rw [← HR2.out]
    exact ⟨_, rfl, own_lower Z.out X.out.size, ZB.out⟩
  · have hr : R = (E, []) := by rw [← HR.out, if_neg hE0]
    subst hr
    go_wp2_with fail
    go_ret2
    exact ⟨_, rfl, World.ownsRow_nil _ _ _ _, X.out⟩
end Go.Proofs.Ytcnplnnpiobikaa
