/- The contracts of slices.Equal and slices.Contains over texts, url.same. -/
import Derived.Test.YtjcejijdeohkgaaGreatDoorW25
namespace Go.Proofs.YtjcejijdeohkgaaGreatDoor
open Go.RowKit

theorem map_bs_inj : ∀ {a b : List Bs}, a.map bs = b.map bs → a = b
  | [], [], _ => rfl
  | [], _ :: _, h => by cases h
  | _ :: _, [], h => by cases h
  | x :: a, y :: b, h => by
    rw [List.map_cons, List.map_cons] at h
    injection h with h1 h2
    rw [bs_inj h1, map_bs_inj h2]
theorem str_getD {w : World} {b o c : Nat} {l : List Bs} (h : SlR w StrB 1 (.slice (some ⟨b, o, none⟩) l.length c) l) : ∀ j, j < (l.map bs).length → w.cell? ⟨b, o + j, none⟩ = some (.string ((l.map bs).getD j ByteArray.empty)) := fun j hj => by
  have hj' : j < l.length := by simpa using hj
  obtain ⟨b', o', e, hi⟩ := h.item j hj'
  injection e with e
  injection e with e1 e2
  subst e1 e2
  have hi' : w.cell? ⟨b, o + j * 1, none⟩ = _ := hi
  rw [Nat.mul_one] at hi'
  rw [hi', List.getD_eq_getElem?_getD, List.getElem?_eq_getElem hj]
  simp
/-- slices.Equal over texts. -/
theorem eqS_any (a a2 : Option Addr) (c c2 : Nat) (l l2 : List Bs) (w : World) (h1 : SlR w StrB 1 (.slice a l.length c) l) (h2 : SlR w StrB 1 (.slice a2 l2.length c2) l2) :
    Calls Tryz.prog 34 #[.slice a l.length c, .slice a2 l2.length c2] w fun e w' => e = .returned (.bool (decide (l = l2))) ∧ Below w.heap.size w w' := by
  by_cases hl : l.length = 0
  · have e := List.eq_nil_of_length_eq_zero hl
    subst e
    refine (Tryz.slices_Equal_string_empty a a2 c l2.length c2 w (SlR.cap h2).1).mono ?_
    rintro e w' ⟨rfl, rfl⟩
    refine ⟨ret_bool ?_, Below.refl _ _⟩
    cases l2 <;> simp
  · by_cases hl2 : l.length = l2.length
    · obtain ⟨b, o, rfl, _⟩ := h1.item 0 (by omega)
      obtain ⟨b2, o2, rfl, _⟩ := h2.item 0 (by omega)
      refine (Tryz.slices_Equal_string b o l.length c b2 o2 l2.length c2 (l.map bs) (l2.map bs) w (by simp) (by simp) (SlR.cap h1).1 (SlR.cap h2).1 (str_getD h1) (str_getD h2)).mono ?_
      rintro e w' ⟨rfl, q, rfl⟩
      refine ⟨ret_bool ?_, below_drewN (Below.refl _ _) _⟩
      rw [show (l.map bs).take l.length = l.map bs from List.take_of_length_le (by simp), show (l2.map bs).take l2.length = l2.map bs from List.take_of_length_le (by simp)]
      exact Bool.eq_iff_iff.2 (by simp only [decide_eq_true_eq]; exact ⟨map_bs_inj, fun e => by rw [e]⟩)
    · refine (Tryz.slices_Equal_string_lens a a2 l.length c l2.length c2 w hl2).mono ?_
      rintro e w' ⟨rfl, rfl⟩
      refine ⟨ret_bool ?_, Below.refl _ _⟩
      exact (decide_eq_false (fun e => hl2 (by rw [e]))).symm
theorem call34 (args : Array Value) (w : World) : Sem.run Tryz.prog (callFunc 34 args) w = .ok (.enter 34 args) w := by go_simp
theorem bs_ne {a b : Bs} (h : ¬ a = b) : ((bs a).toList == (bs b).toList) = false := by
  rw [Lib.toList_data, Lib.toList_data, bs_list, bs_list, beq_eq_false_iff_ne]
  exact h
set_option maxRecDepth 100000 in
set_option maxHeartbeats 8000000 in
theorem same_any (u v : Ur) (pv qv : Value) (w : World) (hu : SlR w StrB 1 pv u.path) (hv : SlR w StrB 1 qv v.path) : Calls Tryz.prog 72 #[u.v pv, v.v qv] w fun e w' => e = .returned (.bool (decide (u = v))) ∧ Below w.heap.size w w' := by
  have p34 := call34
  obtain ⟨R, hR⟩ : ∃ R, decide (u = v) = R := ⟨_, rfl⟩
  rw [hR]
  obtain ⟨sch, host, port, path, query, asks, frag, points⟩ := u
  obtain ⟨sch2, host2, port2, path2, query2, asks2, frag2, points2⟩ := v
  have HR := Lib.hid hR
  clear hR
  obtain ⟨pa, pc, rfl, _⟩ := id hu
  obtain ⟨qa, qc, rfl, _⟩ := id hv
  simp only at hu hv
  have HN := Lib.hid (fun (w1 : World) (hb : Below w.heap.size w w1) => eqS_any pa qa pc qc path path2 w1 (hu.mono (fun _ _ _ h => kc hb h)) (hv.mono (fun _ _ _ h => kc hb h)))
  clear hu hv
  simp only [Ur.v]
  go_enter Tryz.func72, Tryz.ntmps72
  obtain ⟨A, hA⟩ : ∃ A, w.heap.size = A := ⟨_, rfl⟩
  go_upto_region 1 with fail
  refine code_gen (Φ := fun wy => Hid (Below w.heap.size w wy) ∧ Hid (wy.heap[A]? = some (.cells #[.string (bs sch), .string (bs host), .int .i64 port, .slice pa path.length pc, .string (bs query), .bool asks, .string (bs frag), .bool points] 47 (0, 0))) ∧ Hid (wy.heap[A + 1]? = some (.cells #[.string (bs sch2), .string (bs host2), .int .i64 port2, .slice qa path2.length qc, .string (bs query2), .bool asks2, .string (bs frag2), .bool points2] 47 (0, 0)))) ?_ ?_
  · have e1 := alloc_at hA (.cells #[.string (bs sch), .string (bs host), .int .i64 port, .slice pa path.length pc, .string (bs query), .bool asks, .string (bs frag), .bool points] 47)
    refine ⟨Lib.hid (((Below.refl _ _).alloc (Nat.le_refl _) _).alloc (al_le (Nat.le_refl _) _) _), Lib.hid ?_, Lib.hid (alloc_at (by rw [← hA]; simp) _)⟩
    exact (((Below.refl _ _).alloc (Nat.le_refl _) _).block A (lt_of_heap e1)).trans e1
  rintro w1 ⟨X, A1, A2⟩
  clear hA
  obtain ⟨c0, c1, c2, c3, c4, c5, c6, c7⟩ := cells8 A1.out
  obtain ⟨d0, d1, d2, d3, d4, d5, d6, d7⟩ := cells8 A2.out
  by_cases hs : sch = sch2
  case neg =>
    have hsb := bs_ne hs
    have hr : R = false := by rw [← HR.out]; simp [hs]
    subst hr
    clear hs HR
    go_wp2_with fail
    go_ret
    exact ⟨rfl, X.out⟩
  subst hs
  by_cases hh : host = host2
  case neg =>
    have hhb := bs_ne hh
    have hr : R = false := by rw [← HR.out]; simp [hh]
    subst hr
    clear hh HR
    go_wp2_with fail
    go_ret
    exact ⟨rfl, X.out⟩
  subst hh
  by_cases hp : port = port2
  case neg =>
    have hpb : (port == port2) = false := by simpa using hp
    have hr : R = false := by rw [← HR.out]; simp [hp]
    subst hr
    clear hp HR
    go_wp2_with fail
    go_ret
    exact ⟨rfl, X.out⟩
  subst hp
  go_wp2_with fail
  refine (HN.out _ X.out).mono ?_
  rintro e w2 ⟨rfl, hb2⟩
  have X2 := Lib.hid (X.out.trans (Below.le hb2 X.out.size))
  have A3 := Lib.hid ((hb2.block _ (lt_of_heap A1.out)).trans A1.out)
  have A4 := Lib.hid ((hb2.block _ (lt_of_heap A2.out)).trans A2.out)
  clear c0 c1 c2 c3 c4 c5 c6 c7 d0 d1 d2 d3 d4 d5 d6 d7 hb2 A1 A2 X HN
  obtain ⟨c0, c1, c2, c3, c4, c5, c6, c7⟩ := cells8 A3.out
  obtain ⟨d0, d1, d2, d3, d4, d5, d6, d7⟩ := cells8 A4.out
  by_cases hpp : path = path2
  case neg =>
    have hnb : decide (path = path2) = false := by simpa using hpp
    rw [hnb]
    have hr : R = false := by rw [← HR.out]; simp [hpp]
    subst hr
    clear hpp hnb HR
    go_wp2_with fail
    go_ret
    exact ⟨rfl, X2.out⟩
  have hnb : decide (path = path2) = true := by simpa using hpp
  rw [hnb]
  subst hpp
  clear hnb
  by_cases hq : query = query2
  case neg =>
    have hqb := bs_ne hq
    have hr : R = false := by rw [← HR.out]; simp [hq]
    subst hr
    clear hq HR
    go_wp2_with fail
    go_ret
    exact ⟨rfl, X2.out⟩
  subst hq
  by_cases ha : asks = asks2
  case neg =>
    have hab : (asks == asks2) = false := by simpa using ha
    have hr : R = false := by rw [← HR.out]; simp [ha]
    subst hr
    clear ha HR
    go_wp2_with fail
    go_ret
    exact ⟨rfl, X2.out⟩
  subst ha
  by_cases hf : frag = frag2
  case neg =>
    have hfb := bs_ne hf
    have hr : R = false := by rw [← HR.out]; simp [hf]
    subst hr
    clear hf HR
    go_wp2_with fail
    go_ret
    exact ⟨rfl, X2.out⟩
  subst hf
  by_cases ho : points = points2
  case neg =>
    have hob : (points == points2) = false := by simpa using ho
    have hr : R = false := by rw [← HR.out]; simp [ho]
    subst hr
    clear ho HR
    go_wp2_with fail
    go_ret
    exact ⟨rfl, X2.out⟩
  subst ho
  have hr : R = true := by rw [← HR.out]; simp
  subst hr
  clear HR
  go_wp2_with fail
  go_ret
  exact ⟨rfl, X2.out⟩
end Go.Proofs.YtjcejijdeohkgaaGreatDoor
