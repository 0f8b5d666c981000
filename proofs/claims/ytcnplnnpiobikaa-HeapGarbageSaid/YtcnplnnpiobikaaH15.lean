/- The contract of heapLives. -/
import Derived.Test.YtcnplnnpiobikaaH14
import Derived.KernelRfl
namespace Go.Proofs.Ytcnplnnpiobikaa
open Go.RowKit

def rV (n : Int) : JV := ⟨4, n, ⟨#[]⟩⟩
def heapT : List Cl := [⟨1, [], []⟩, ⟨1, [], [rV 2]⟩, ⟨2, [⟨#[97]⟩], [rV 1]⟩]
theorem reachT : reachV heapT [rV 2] = (0, [1, 2]) := by
  have h1 : askErr heapT [rV 2] = 0 := by kernel_rfl
  have h2 : walkF heapT [rV 2] = [2, 1] := by kernel_rfl
  unfold reachV
  rw [if_pos h1, h2, show sortI [2, 1] = [1, 2] by simp [sortI, List.mergeSort, List.MergeSort.Internal.splitInTwo]]
theorem moveT : (moveV heapT [rV 2]).err = 0 ∧ (moveV heapT [rV 2]).cells = [⟨2, [⟨#[97]⟩], [rV 1]⟩, ⟨1, [], [rV 0]⟩] ∧ (moveV heapT [rV 2]).roots = [rV 0] := by
  have h1 : askErr heapT [rV 2] = 0 := by kernel_rfl
  have h2 : walkF heapT [rV 2] = [2, 1] := by kernel_rfl
  unfold moveV
  rw [if_pos h1, h2]
  exact ⟨rfl, by kernel_rfl, by kernel_rfl⟩
theorem call16 (args : Array Value) (w : World) : Sem.run Try.prog (callFunc 16 args) w = .ok (.enter 16 args) w := by go_simp
theorem call8 (args : Array Value) (w : World) : Sem.run Try.prog (callFunc 8 args) w = .ok (.enter 8 args) w := by go_simp
theorem call10 (args : Array Value) (w : World) : Sem.run Try.prog (callFunc 10 args) w = .ok (.enter 10 args) w := by go_simp
theorem call11 (args : Array Value) (w : World) : Sem.run Try.prog (callFunc 11 args) w = .ok (.enter 11 args) w := by go_simp
theorem call13 (args : Array Value) (w : World) : Sem.run Try.prog (callFunc 13 args) w = .ok (.enter 13 args) w := by go_simp
theorem call22 (args : Array Value) (w : World) : Sem.run Try.prog (callFunc 22 args) w = .ok (.enter 22 args) w := by go_simp
theorem ints_block {w : World} {g : Nat} {l : List Int} {cs : Array Value} {t : TypeId} (h : w.heap[g]? = some (.cells cs t (0, 0))) (hc : cs = (l.map nV).toArray) (hn : l.length ≤ maxLen) : SlR w IntAt 1 (.slice (some ⟨g, 0, none⟩) l.length l.length) l := by
  refine ⟨_, _, rfl, Nat.le_refl _, hn, fun _ => ⟨g, 0, rfl, fun k hk => ?_⟩⟩
  show w.cell? ⟨g, 0 + k * 1, none⟩ = _
  rw [Nat.zero_add, Nat.mul_one]
  refine (Lib.cell_of_heap h _).trans ?_
  subst hc
  simp [hk, nV]
/-- slices.Equal over numbers. -/
theorem eqI_any (a a2 : Option Addr) (c c2 : Nat) (l l2 : List Int) (w : World) (h1 : SlR w IntAt 1 (.slice a l.length c) l) (h2 : SlR w IntAt 1 (.slice a2 l2.length c2) l2) :
    Calls Try.prog 22 #[.slice a l.length c, .slice a2 l2.length c2] w fun e w' => e = .returned (.bool (decide (l = l2))) ∧ Below w.heap.size w w' := by
  by_cases hl : l.length = 0
  · have e := List.eq_nil_of_length_eq_zero hl
    subst e
    refine (Try.slices_Equal_int_empty a a2 c l2.length c2 w (SlR.cap h2).1).mono ?_
    rintro e w' ⟨rfl, rfl⟩
    refine ⟨ret_bool ?_, Below.refl _ _⟩
    cases l2 <;> simp
  · by_cases hl2 : l.length = l2.length
    · obtain ⟨b, o, rfl, _⟩ := h1.item 0 (by omega)
      obtain ⟨b2, o2, rfl, _⟩ := h2.item 0 (by omega)
      have f1 : ∀ j, j < l.length → w.cell? ⟨b, o + j, none⟩ = some (.int .i64 (l.getD j 0)) := fun j hj => by
        obtain ⟨b', o', e, hi⟩ := h1.item j hj
        injection e with e
        injection e with e1 e2
        subst e1 e2
        have hi' : w.cell? ⟨b, o + j * 1, none⟩ = _ := hi
        rw [Nat.mul_one] at hi'
        rw [hi', List.getD_eq_getElem?_getD, List.getElem?_eq_getElem hj]
        rfl
      have f2 : ∀ j, j < l2.length → w.cell? ⟨b2, o2 + j, none⟩ = some (.int .i64 (l2.getD j 0)) := fun j hj => by
        obtain ⟨b', o', e, hi⟩ := h2.item j hj
        injection e with e
        injection e with e1 e2
        subst e1 e2
        have hi' : w.cell? ⟨b2, o2 + j * 1, none⟩ = _ := hi
        rw [Nat.mul_one] at hi'
        rw [hi', List.getD_eq_getElem?_getD, List.getElem?_eq_getElem hj]
        rfl
      refine (Try.slices_Equal_int b o l.length c b2 o2 l2.length c2 l l2 w (Nat.le_refl _) (Nat.le_refl _) (SlR.cap h1).1 (SlR.cap h2).1 f1 f2).mono ?_
      rintro e w' ⟨rfl, q, rfl⟩
      refine ⟨ret_bool ?_, below_drewN (Below.refl _ _) _⟩
      rw [List.take_length, List.take_length]
      exact Bool.eq_iff_iff.2 (by simp)
    · refine (Try.slices_Equal_int_lens a a2 l.length c l2.length c2 w hl2).mono ?_
      rintro e w' ⟨rfl, rfl⟩
      refine ⟨ret_bool ?_, Below.refl _ _⟩
      exact (decide_eq_false (fun e => hl2 (by rw [e]))).symm
set_option maxRecDepth 100000 in
set_option maxHeartbeats 4000000 in
theorem lives_any (w : World) : Calls Try.prog 9 #[] w fun e w' => e = .returned (.bool true) ∧ Below w.heap.size w w' := by
  have p16 := call16
  have p8 := call8
  have p10 := call10
  have p11 := call11
  have p13 := call13
  have p22 := call22
  go_enter Try.func9, Try.ntmps9
  go_wp2_with fail
  refine (refTo_any 2 w).mono ?_
  rintro e w1 ⟨rfl, hb1⟩
  go_wp2_with fail
  refine (refTo_any 1 _).mono ?_
  rintro e w2 ⟨rfl, hb2⟩
  have T1 : Hid (SlR w2 JvAt 3 (.slice (some ⟨w1.heap.size, 0, none⟩) [rV 2].length 1) [rV 2]) := Lib.hid ((own_jv (own_block (n := 1) (alloc_at rfl _) (by decide) rfl rfl)).mono (fun _ _ _ h => (h.below ((Below.refl _ _).alloc (Nat.le_refl _) _)).below hb2))
  have T2 : Hid (SlR w2 StrAt 1 (.slice (some ⟨w1.heap.size + 1, 0, none⟩) [(⟨#[97]⟩ : ByteArray)].length 1) [⟨#[97]⟩]) := Lib.hid ((own_str (own_block (n := 1) (alloc_at (by simp) _) (by decide) rfl rfl)).mono (fun _ _ _ h => kc hb2 h))
  have X := Lib.hid (((hb1.alloc hb1.size _).alloc (Nat.le_trans hb1.size (al_le (Nat.le_refl _) _)) _).trans (Below.le hb2 (Nat.le_trans hb1.size (al_le (al_le (Nat.le_refl _) _) _))))
  clear hb1 hb2
  generalize w1.heap.size = g1 at *
  go_upto_region 2 with fail
  refine code_gen (Φ := fun wy => Hid (Below w.heap.size w wy) ∧ Hid (HeapAt wy (.slice (some ⟨w2.heap.size + 1, 0, none⟩) heapT.length 3) heapT)) ⟨Lib.hid ((X.out.alloc X.out.size _).alloc (Nat.le_trans X.out.size (al_le (Nat.le_refl _) _)) _), Lib.hid ?_⟩ ?_
  · refine ⟨_, _, rfl, Nat.le_refl _, by decide, fun _ => ⟨_, _, rfl, ?_⟩⟩
    have hB := alloc_at (w := w2.alloc (.cells #[.int .i64 4, .int .i64 1, .string ⟨#[]⟩] 31)) (k := w2.heap.size + 1) (by simp) (.cells #[.int .i64 1, .slice none 0 0, .slice none 0 0, .int .i64 1, .slice none 0 0, .slice (some ⟨g1, 0, none⟩) 1 1, .int .i64 2, .slice (some ⟨g1 + 1, 0, none⟩) 1 1, .slice (some ⟨w2.heap.size, 0, none⟩) 1 1] 46)
    intro k hk
    have nS : ∀ w : World, SlR w StrAt 1 (.slice none 0 0) [] := fun w => ⟨none, 0, rfl, Nat.le_refl _, by decide, fun h => by simp at h⟩
    have nV' : ∀ w : World, SlR w JvAt 3 (.slice none 0 0) [] := fun w => ⟨none, 0, rfl, Nat.le_refl _, by decide, fun h => by simp at h⟩
    have m1 := ((T1.out.mono (fun _ _ _ h => h.below ((Below.refl _ _).alloc (Nat.le_refl _) (.cells #[.int .i64 4, .int .i64 1, .string ⟨#[]⟩] 31)))).mono (fun _ _ _ h => h.below ((Below.refl _ _).alloc (Nat.le_refl _) (.cells #[.int .i64 1, .slice none 0 0, .slice none 0 0, .int .i64 1, .slice none 0 0, .slice (some ⟨g1, 0, none⟩) 1 1, .int .i64 2, .slice (some ⟨g1 + 1, 0, none⟩) 1 1, .slice (some ⟨w2.heap.size, 0, none⟩) 1 1] 46))))
    have m2 := ((T2.out.mono (fun _ _ _ h => kc ((Below.refl _ _).alloc (Nat.le_refl _) (.cells #[.int .i64 4, .int .i64 1, .string ⟨#[]⟩] 31)) h)).mono (fun _ _ _ h => kc ((Below.refl _ _).alloc (Nat.le_refl _) (.cells #[.int .i64 1, .slice none 0 0, .slice none 0 0, .int .i64 1, .slice none 0 0, .slice (some ⟨g1, 0, none⟩) 1 1, .int .i64 2, .slice (some ⟨g1 + 1, 0, none⟩) 1 1, .slice (some ⟨w2.heap.size, 0, none⟩) 1 1] 46)) h))
    have m3 := ((own_jv (own_block (w := w2.alloc (.cells #[.int .i64 4, .int .i64 1, .string ⟨#[]⟩] 31)) (g := w2.heap.size) (e := 31) (size := 3) (n := 1) (xs := [rV 1].flatMap JV.c) (alloc_at rfl _) (by decide) rfl rfl)).mono (fun _ _ _ h => h.below ((Below.refl _ _).alloc (Nat.le_refl _) (.cells #[.int .i64 1, .slice none 0 0, .slice none 0 0, .int .i64 1, .slice none 0 0, .slice (some ⟨g1, 0, none⟩) 1 1, .int .i64 2, .slice (some ⟨g1 + 1, 0, none⟩) 1 1, .slice (some ⟨w2.heap.size, 0, none⟩) 1 1] 46))))
    match k, hk with
    | 0, _ => exact ⟨none, 0, none, 0, (Lib.cell_of_heap hB _).trans rfl, (Lib.cell_of_heap hB _).trans rfl, (Lib.cell_of_heap hB _).trans rfl, nS _, nV' _⟩
    | 1, _ => exact ⟨none, 0, _, _, (Lib.cell_of_heap hB _).trans rfl, (Lib.cell_of_heap hB _).trans rfl, (Lib.cell_of_heap hB _).trans rfl, nS _, m1⟩
    | 2, _ => exact ⟨_, _, _, _, (Lib.cell_of_heap hB _).trans rfl, (Lib.cell_of_heap hB _).trans rfl, (Lib.cell_of_heap hB _).trans rfl, m2, m3⟩
  clear T1 T2 X
  generalize w2.heap.size + 1 = G
  rintro w3 ⟨X, HH⟩
  go_wp2_with fail
  refine (refTo_any 2 _).mono ?_
  rintro e w4 ⟨rfl, hb4⟩
  have X4 := Lib.hid (X.out.trans (Below.le hb4 X.out.size))
  have HH4 := Lib.hid (HH.out.below hb4)
  clear hb4 X HH
  go_wp2_with fail
  have T4 := Lib.hid (own_jv (own_block (w := w4.alloc (.cells #[.int .i64 4, .int .i64 2, .string ⟨#[]⟩] 31)) (g := w4.heap.size) (e := 31) (size := 3) (n := 1) (xs := [rV 2].flatMap JV.c) (alloc_at rfl _) (by decide) rfl rfl))
  have HRE := reach_any (some ⟨G, 0, none⟩) 3 heapT (some ⟨w4.heap.size, 0, none⟩) 1 [rV 2] _ (HH4.out.below ((Below.refl _ _).alloc (Nat.le_refl _) _)) T4.out
  rw [reachT] at HRE
  refine HRE.mono ?_
  clear HRE T4
  rintro e w5 ⟨v5, rfl, ho5, hb5⟩
  obtain ⟨a5, c5, rfl⟩ := own_shape ho5
  have L5 := Lib.hid (own_int ho5)
  have HH5 := Lib.hid ((HH4.out.below ((Below.refl _ _).alloc (Nat.le_refl _) _)).below hb5)
  have X5 := Lib.hid ((X4.out.alloc X4.out.size _).trans (Below.le hb5 (al_le X4.out.size _)))
  clear X4 HH4 ho5 hb5
  go_wp2_with fail
  refine (refTo_any 2 _).mono ?_
  rintro e w6 ⟨rfl, hb6⟩
  have X6 := Lib.hid (X5.out.trans (Below.le hb6 X5.out.size))
  have HH6 := Lib.hid (HH5.out.below hb6)
  have L6 := Lib.hid (L5.out.mono (fun _ _ _ h => kc hb6 h))
  clear hb6 X5 HH5 L5
  go_wp2_with fail
  have T6 := Lib.hid (own_jv (own_block (w := w6.alloc (.cells #[.int .i64 4, .int .i64 2, .string ⟨#[]⟩] 31)) (g := w6.heap.size) (e := 31) (size := 3) (n := 1) (xs := [rV 2].flatMap JV.c) (alloc_at rfl _) (by decide) rfl rfl))
  have HMV := move_any (some ⟨G, 0, none⟩) 3 heapT (some ⟨w6.heap.size, 0, none⟩) 1 [rV 2] _ (HH6.out.below ((Below.refl _ _).alloc (Nat.le_refl _) _)) T6.out (by decide)
  rw [moveT.1, moveT.2.1, moveT.2.2] at HMV
  refine HMV.mono ?_
  clear HMV T6
  rintro e w7 ⟨cv, rv, rfl, hc7, hr7, hb7⟩
  obtain ⟨ca, cc, rfl, _, _, hci⟩ := hc7
  obtain ⟨cb, co, rfl, hci2⟩ := hci (by decide)
  obtain ⟨ra, rc, rfl, hr7b⟩ := id hr7
  have HR7 := Lib.hid hr7
  have hk7 := (hci2 0 (by decide)).ex
  obtain ⟨na, nc, va, vc, k0, _⟩ := hk7
  simp only [List.getElem_cons_zero] at k0
  have L7 := Lib.hid ((L6.out.mono (fun _ _ _ h => kc ((Below.refl _ _).alloc (Nat.le_refl _) _) h)).mono (fun _ _ _ h => kc hb7 h))
  have X7 := Lib.hid ((X6.out.alloc X6.out.size _).trans (Below.le hb7 (al_le X6.out.size _)))
  clear X6 HH6 L6 hr7 hr7b hci hci2 hb7
  go_wp2_with fail
  have HOK := ok_any (some ⟨w7.heap.size, 0, none⟩) 2 [0, 0] (w7.alloc (.cells #[.int .i64 0, .int .i64 0] 25)) (ints_block (alloc_at rfl _) rfl (by decide))
  refine HOK.mono ?_
  clear HOK
  rintro e w8 ⟨rfl, hb8⟩
  have X8 := Lib.hid ((X7.out.alloc X7.out.size _).trans (Below.le hb8 (al_le X7.out.size _)))
  have L8 := Lib.hid ((L7.out.mono (fun _ _ _ h => kc ((Below.refl _ _).alloc (Nat.le_refl _) _) h)).mono (fun _ _ _ h => kc hb8 h))
  have HR8 := Lib.hid ((HR7.out.mono (fun _ _ _ h => h.below ((Below.refl _ _).alloc (Nat.le_refl _) _))).mono (fun _ _ _ h => h.below hb8))
  have k8 := kc hb8 (kc ((Below.refl _ _).alloc (Nat.le_refl _) _) k0)
  clear X7 L7 HR7 k0 hb8
  go_wp2_with fail
  have HEQ := eqI_any a5 (some ⟨w8.heap.size, 0, none⟩) c5 2 [1, 2] [1, 2] (w8.alloc (.cells #[.int .i64 1, .int .i64 2] 3)) (L8.out.mono (fun _ _ _ h => kc ((Below.refl _ _).alloc (Nat.le_refl _) _) h)) (ints_block (alloc_at rfl _) rfl (by decide))
  refine HEQ.mono ?_
  clear HEQ
  rintro e w9 ⟨rfl, hb9⟩
  have X9 := Lib.hid ((X8.out.alloc X8.out.size _).trans (Below.le hb9 (al_le X8.out.size _)))
  have HR9 := Lib.hid ((HR8.out.mono (fun _ _ _ h => h.below ((Below.refl _ _).alloc (Nat.le_refl _) _))).mono (fun _ _ _ h => h.below hb9))
  have k9 := kc hb9 (kc ((Below.refl _ _).alloc (Nat.le_refl _) _) k8)
  rw [Nat.zero_mul, Nat.add_zero] at k9
  clear X8 L8 HR8 k8 hb9
  go_wp2_with fail
  refine (refTo_any 0 _).mono ?_
  rintro e w10 ⟨rfl, hb10⟩
  have X10 := Lib.hid (X9.out.trans (Below.le hb10 X9.out.size))
  have HR10 := Lib.hid (HR9.out.mono (fun _ _ _ h => h.below hb10))
  clear X9 HR9 k9 hb10
  go_wp2_with fail
  have HEV := eqV_any ra (some ⟨w10.heap.size, 0, none⟩) rc 1 [rV 0] [rV 0] (w10.alloc (.cells #[.int .i64 4, .int .i64 0, .string ⟨#[]⟩] 31)) (HR10.out.mono (fun _ _ _ h => h.below ((Below.refl _ _).alloc (Nat.le_refl _) _))) (own_jv (own_block (w := w10.alloc (.cells #[.int .i64 4, .int .i64 0, .string ⟨#[]⟩] 31)) (g := w10.heap.size) (e := 31) (size := 3) (n := 1) (xs := [rV 0].flatMap JV.c) (alloc_at rfl _) (by decide) rfl rfl))
  refine HEV.mono ?_
  clear HEV
  rintro e w11 ⟨rfl, hb11⟩
  have X11 := Lib.hid ((X10.out.alloc X10.out.size _).trans (Below.le hb11 (al_le X10.out.size _)))
  clear X10 HR10 hb11
  go_wp2_with fail
  go_ret
  exact ⟨rfl, X11.out⟩
end Go.Proofs.Ytcnplnnpiobikaa
