/- The contract of (*walker).moved. -/
import Derived.Test.YtcnplnnpiobikaaH10
namespace Go.Proofs.Ytcnplnnpiobikaa
open Go.RowKit

/-- The first ones turned, the others as they were. -/
def part {α : Type} (f : α → α) (l : List α) (k : Nat) : List α := (l.take k).map f ++ l.drop k
theorem part_len {α : Type} (f : α → α) (l : List α) (k : Nat) : (part f l k).length = l.length := by
  unfold part
  rw [List.length_append, List.length_map, List.length_take, List.length_drop]
  omega
theorem part_get {α : Type} (f : α → α) (l : List α) (k : Nat) (h : k < l.length) : (part f l k)[k]'(by rw [part_len]; exact h) = l[k] := by
  unfold part
  rw [List.getElem_append_right (by rw [List.length_map, List.length_take]; omega)]
  simp only [List.length_map, List.length_take, List.getElem_drop]
  congr 1
  omega
theorem part_step {α : Type} (f : α → α) (l : List α) (k : Nat) (h : k < l.length) : (part f l k).set k (f l[k]) = part f l (k + 1) := by
  unfold part
  rw [List.set_append_right _ _ (by rw [List.length_map, List.length_take]; omega), List.length_map, List.length_take, Nat.min_eq_left (Nat.le_of_lt h), Nat.sub_self, List.drop_eq_getElem_cons h, List.set_cons_zero, List.take_add_one, List.getElem?_eq_getElem h, List.map_append]
  simp
theorem part_skip {α : Type} (f : α → α) (l : List α) (k : Nat) (h : k < l.length) (hf : f l[k] = l[k]) : part f l (k + 1) = part f l k := by
  rw [← part_step f l k h, hf]
  have h1 := part_get f l k h
  conv => lhs; rw [← h1]
  exact List.set_getElem_self _
theorem part_end {α : Type} (f : α → α) (l : List α) : part f l l.length = l.map f := by simp [part]
theorem jv_set : ∀ (l : List JV) (i : Nat) (x : Int) (h : i < l.length), (l.flatMap JV.c).set (i * 3 + 1) (.int .i64 x) = (l.set i ⟨l[i].k, x, l[i].s⟩).flatMap JV.c
  | [], i, x, h => by simp at h
  | v :: l, 0, x, _ => rfl
  | v :: l, i + 1, x, h => by
    have ih := jv_set l i x (by simpa using h)
    rw [List.set_cons_succ, List.flatMap_cons, List.flatMap_cons, List.set_append_right _ _ (by rw [JV.len, Nat.succ_mul]; omega), JV.len, Nat.succ_mul, show i * 3 + 3 + 1 - 3 = i * 3 + 1 by omega, ih]
    rfl
def movedV (tl : List Int) (v : JV) : JV := if 0 ≤ refV v then ⟨v.k, tl[(refV v).toNat]?.getD 0, v.s⟩ else v
/-- The row while it is turned. -/
structure MV (w wr : World) (va : Option Addr) (vc : Nat) (tl : List Int) (l : List JV) (k : Nat) : Prop where
  own : wr.ownsRow w.heap.size 31 3 (.slice va l.length vc) (part (movedV tl) l k).length ((part (movedV tl) l k).flatMap JV.c)
  bl : Below w.heap.size w wr
theorem MV.call {w wr w' : World} {va : Option Addr} {vc : Nat} {tl : List Int} {l : List JV} {k : Nat} (h : MV w wr va vc tl l k) (hb : Below wr.heap.size wr w') : MV w w' va vc tl l k := ⟨own_below h.own hb (Nat.le_refl _), h.bl.trans (Below.le hb h.bl.size)⟩
theorem MV.skip {w wr : World} {va : Option Addr} {vc : Nat} {tl : List Int} {l : List JV} {k : Nat} (h : MV w wr va vc tl l k) (hk : k < l.length) (hr : refV l[k] < 0) : MV w wr va vc tl l (k + 1) := by
  have e : part (movedV tl) l (k + 1) = part (movedV tl) l k := part_skip _ l k hk (by unfold movedV; rw [if_neg (by omega)])
  exact ⟨by rw [e]; exact h.own, h.bl⟩
theorem MV.step {w wr : World} {g vc : Nat} {tl : List Int} {l : List JV} {k m : Nat} {x : Int} (h : MV w wr (some ⟨g, 0, none⟩) vc tl l k) (hk : k < l.length) (hr : refV l[k] = (m : Int)) (hm : tl[m]? = some x) : MV w (wr.setCell ⟨g, k * 3 + 1, none⟩ (.int .i64 x)) (some ⟨g, 0, none⟩) vc tl l (k + 1) where
  own := by
    have h1 := own_at h.own (k * 3 + 1) (.int .i64 x)
    have hp := part_get (movedV tl) l k hk
    have e : movedV tl l[k] = ⟨l[k].k, x, l[k].s⟩ := by
      unfold movedV
      rw [hr, if_pos (by omega), Int.toNat_natCast, hm]
      rfl
    have e2 : (part (movedV tl) l k).set k ⟨l[k].k, x, l[k].s⟩ = part (movedV tl) l (k + 1) := by rw [← e]; exact part_step _ l k hk
    rw [jv_set _ k x (by rw [part_len]; exact hk), hp, e2] at h1
    rw [part_len] at h1 ⊢
    exact h1
  bl := below_grown h.bl (Lib.grownBy_setB (gr_refl wr _) _ _) ((h.own.lt g rfl).1) (Nat.le_refl _)
theorem MV.at_ {w wr : World} {va : Option Addr} {vc : Nat} {tl : List Int} {l : List JV} {k : Nat} (h : MV w wr va vc tl l k) (hk : k < l.length) : ∃ g, va = some ⟨g, 0, none⟩ ∧ JvAt wr g (k * 3) l[k] ∧ wr.frozen? ⟨g, k * 3 + 1, none⟩ = false := by
  have ho := h.own
  rw [part_len] at ho
  obtain ⟨g, rfl⟩ := own_some ho (by omega)
  have hl := part_len (movedV tl) l k
  have h3 : SlR wr JvAt 3 (.slice (some ⟨g, 0, none⟩) l.length vc) (part (movedV tl) l k) := own_jv h.own
  have hc := h3.cap
  obtain ⟨b, o, e1, h1⟩ := h3.item k (by rw [hl]; exact hk)
  injection e1 with e1
  injection e1 with e1 e2 _
  subst e1
  subst e2
  rw [part_get _ l k hk, Nat.zero_add] at h1
  exact ⟨g, rfl, h1, (own_room ho (k * 3 + 1) (by omega)).2⟩
set_option maxRecDepth 100000 in
set_option maxHeartbeats 8000000 in
theorem moved_any (S : Nat) (hv ac : Value) (ta : Option Addr) (tc : Nat) (tl : List Int) (va : Option Addr) (vc : Nat) (l : List JV) (w : World) (hb : w.heap[S]? = some (.cells #[hv, .slice ta tl.length tc, ac] 53 (0, 0))) (ht : SlR w IntAt 1 (.slice ta tl.length tc) tl) (hl : SlR w JvAt 3 (.slice va l.length vc) l) (hf : ∀ v ∈ l, refV v < (tl.length : Int)) (hz : l.length * 32 ≤ 140737488351232) :
    Calls Try.prog 24 #[.pointer (some ⟨S, 0, none⟩), .slice va l.length vc] w fun e w' => ∃ v', e = .returned v' ∧ w'.ownsRow w.heap.size 31 3 v' (l.map (movedV tl)).length ((l.map (movedV tl)).flatMap JV.c) ∧ Below w.heap.size w w' := by
  obtain ⟨ML, hML⟩ : ∃ ML, l.map (movedV tl) = ML := ⟨_, rfl⟩
  rw [hML]
  have HML := Lib.hid hML
  clear hML
  have HCL := Lib.hid (cloneV_any va vc l w hl hz)
  have HBK := Lib.hid hb
  have HT := Lib.hid ht
  have HF := Lib.hid hf
  have HRF := Lib.hid (fun (v : JV) (w : World) => ref_any v w)
  obtain ⟨q1, q2, q3⟩ := SlR.cap hl
  obtain ⟨t1, t2, t3⟩ := SlR.cap ht
  clear hb ht hl hf hz
  have q37 := call37
  have q38 := call38
  go_enter Try.func24, Try.ntmps24
  go_wp2_with fail
  refine HCL.out.mono ?_
  rintro e w3 ⟨v', rfl, ho, hb3⟩
  obtain ⟨ga, gc, rfl⟩ := own_shape ho
  have X0 := Lib.hid (show MV w w3 ga gc tl l 0 from ⟨by unfold part; simpa using ho, hb3⟩)
  clear ho hb3 HCL
  go_upto_region 3 with fail
  go_loopg [12, 5, 6, 7] l.length (fun g v12 _ _ _ wr => ∃ k : Nat, g = l.length - k ∧ k ≤ l.length ∧ v12 = .int .i64 (k : Int) ∧ MV w wr ga gc tl l k)
  case atStart => exact ⟨0, rfl, Nat.zero_le _, rfl, X0.out⟩
  case round =>
    clear X0
    obtain ⟨k, hg, hk, rfl, hx⟩ := hrel
    have G := Lib.hid hg
    have X := Lib.hid hx
    clear hg hx
    by_cases hlt : k < l.length
    · have hki : (k : Int) < (l.length : Int) := by omega
      obtain ⟨g, rfl, hjv, _⟩ := X.out.at_ hlt
      have HSK := Lib.hid (fun (wz : World) (hz : MV w wz (some ⟨g, 0, none⟩) gc tl l k) => hz.skip hlt)
      have HSP := Lib.hid (fun (wz : World) (m : Nat) (x : Int) (hz : MV w wz (some ⟨g, 0, none⟩) gc tl l k) => hz.step (m := m) (x := x) hlt)
      have HAT := Lib.hid (fun (wz : World) (hz : MV w wz (some ⟨g, 0, none⟩) gc tl l k) => hz.at_ hlt)
      have HFK := Lib.hid (HF.out l[k] (List.getElem_mem hlt))
      have HRK := Lib.hid (HRF.out l[k])
      generalize l[k] = V at *
      generalize refV V = r at *
      obtain ⟨k', n', s'⟩ := V
      obtain ⟨l0, l1, l2⟩ := hjv
      simp only at l0 l1 l2
      have HR2 : Hid (∀ w, Calls Try.prog 38 #[.agg #[.int .i64 k', .int .i64 n', .string s']] w fun e w' => e = .returned (.int .i64 r) ∧ Below w.heap.size w w') := Lib.hid HRK.out
      clear HRK
      obtain ⟨Bv, hBv⟩ : ∃ Bv, wr.heap.size = Bv := ⟨_, rfl⟩
      go_upto_region 5 with fail
      refine code_gen (Φ := fun wy => Hid (MV w wy (some ⟨g, 0, none⟩) gc tl l k) ∧ Hid (wy.heap[Bv]? = some (.cells #[.int .i64 k', .int .i64 n', .string s'] 31 (0, 0)))) ⟨Lib.hid (X.out.call ((Below.refl _ _).alloc (Nat.le_refl _) _)), Lib.hid (alloc_at hBv _)⟩ ?_
      rintro w6 ⟨Y, YB⟩
      clear hBv X l0 l1 l2
      obtain ⟨l0, l1, l2⟩ := cells3 YB.out
      go_wp2_with fail
      refine (HR2.out _).mono ?_
      rintro e w7 ⟨rfl, hb7⟩
      have Z := Lib.hid (Y.out.call hb7)
      clear hb7 Y YB l0 l1 l2 HR2
      by_cases hr0 : r < 0
      · have Z2 := Lib.hid (HSK.out _ Z.out hr0)
        go_wp2_with fail
        go_roundg (l.length - (k + 1))
        case measure => have := G.out; omega
        case rel => exact ⟨k + 1, rfl, by omega, by simp, Z2.out⟩
      · obtain ⟨m, rfl⟩ : ∃ m : Nat, r = (m : Int) := ⟨r.toNat, by omega⟩
        have hm : m < tl.length := by have := HFK.out; omega
        have hmi : (m : Int) < (tl.length : Int) := by omega
        have hm0 : (0 : Int) ≤ (m : Int) := by omega
        have Z2 := Lib.hid (HSP.out _ m tl[m] Z.out rfl (List.getElem?_eq_getElem hm))
        obtain ⟨_, e, hjv, hfz⟩ := HAT.out _ Z.out
        injection e with e
        injection e with e _ _
        subst e
        obtain ⟨tb, to_, rfl, hti⟩ := HT.out.item m hm
        have ti := kc Z.out.bl hti
        rw [Nat.mul_one] at ti
        obtain ⟨s0, s1, s2⟩ := cells3 ((Z.out.bl.block S (lt_of_heap HBK.out)).trans HBK.out)
        obtain ⟨l0, l1, l2⟩ := hjv
        clear hti
        generalize tl[m] = T at *
        go_wp2_with fail
        go_roundg (l.length - (k + 1))
        case measure => have := G.out; omega
        case rel => exact ⟨k + 1, rfl, by omega, by simp, Z2.out⟩
    · have hke : k = l.length := by omega
      have hnl : ¬ ((k : Int) < (l.length : Int)) := by omega
      have XR := Lib.hid (show wr.ownsRow w.heap.size 31 3 (.slice ga l.length gc) ML.length (ML.flatMap JV.c) from by
        have h1 := X.out.own
        rw [hke, part_end, HML.out] at h1
        exact h1)
      have XB := Lib.hid X.out.bl
      clear X hke hlt hk
      go_wp2_with fail
      go_ret
      exact ⟨_, rfl, XR.out, XB.out⟩
end Go.Proofs.Ytcnplnnpiobikaa
