/- slices.Delete of one item, over jobs and timers. -/
import Derived.Test.YtpmklganodlciaaT5
import Derived.Laws.OwnMore
import Derived.Laws.IdiomCopy
import Derived.Lib.AppendZeros
import Derived.Lib.SliceRun
import Derived.Deep.RegionLaw
namespace Go.Proofs.Ytpmklganodlciaa
open Go.RowKit

theorem flat_take {α : Type} (enc : α → List Value) (s : Nat) (he : ∀ x, (enc x).length = s) : ∀ (l : List α) (i : Nat), (l.flatMap enc).take (i * s) = (l.take i).flatMap enc
  | [], i => by simp
  | a :: l, 0 => by simp
  | a :: l, i + 1 => by
    rw [List.flatMap_cons, List.take_succ_cons, List.flatMap_cons, List.take_append, he, List.take_of_length_le (by rw [he, Nat.succ_mul]; omega), show (i + 1) * s - s = i * s by rw [Nat.succ_mul]; omega, flat_take enc s he l i]
theorem flat_drop {α : Type} (enc : α → List Value) (s : Nat) (he : ∀ x, (enc x).length = s) : ∀ (l : List α) (i : Nat), (l.flatMap enc).drop (i * s) = (l.drop i).flatMap enc
  | [], i => by simp
  | a :: l, 0 => by simp
  | a :: l, i + 1 => by
    rw [List.flatMap_cons, List.drop_succ_cons, List.drop_append, he, List.drop_eq_nil_of_le (by rw [he, Nat.succ_mul]; omega), List.nil_append, show (i + 1) * s - s = i * s by rw [Nat.succ_mul]; omega, flat_drop enc s he l i]
/-- The first items of an own row. -/
theorem own_take {α : Type} {w : World} {enc : α → List Value} {s B : Nat} {e : TypeId} (he : ∀ x, (enc x).length = s) {g n cap : Nat} {l : List α} (h : w.ownsRow B e s (.slice (some ⟨g, 0, none⟩) n cap) l.length (l.flatMap enc)) (i : Nat) (hi : i ≤ l.length) :
    w.ownsRow B e s (.slice (some ⟨g, 0, none⟩) i cap) i ((l.take i).flatMap enc) := by
  rcases h.2 with ⟨h2, _⟩ | ⟨g', cap', cur, e1, e2, e3, e4, e5, e6, e7⟩
  · cases h2
  · cases e1
    refine ⟨by rw [flat_len enc s he, List.length_take, Nat.min_eq_left hi], .inr ⟨g, cap, cur, rfl, e2, e3, by omega, e5, e6, ?_⟩⟩
    rw [← flat_take enc s he, ← e7, List.take_take, Nat.min_eq_left (Nat.mul_le_mul_right s hi)]
theorem own_set {w : World} {B e s n g n' cap : Nat} {xs : List Value} (h : w.ownsRow B e s (.slice (some ⟨g, 0, none⟩) n' cap) n xs) (o : Nat) (ho : n * s ≤ o) (v : Value) : (w.setCell ⟨g, o, none⟩ v).ownsRow B e s (.slice (some ⟨g, 0, none⟩) n' cap) n xs := by
  refine ⟨h.1, ?_⟩
  rcases h.2 with ⟨h2, _⟩ | ⟨g', cap', cur, e1, e2, e3, e4, e5, e6, e7⟩
  · cases h2
  · cases e1
    refine .inr ⟨g, cap, cur.setIfInBounds o v, rfl, e2, heap_setCell_same w g o cur e v e3, e4, e5, by simpa using e6, ?_⟩
    rw [Array.toList_setIfInBounds, List.take_set_of_le (by omega)]
    exact e7
theorem own_sets {B e s n g n' cap : Nat} {xs : List Value} : ∀ (vs : List Value) (o : Nat) (w : World), w.ownsRow B e s (.slice (some ⟨g, 0, none⟩) n' cap) n xs → n * s ≤ o → (w.setCells g o vs).ownsRow B e s (.slice (some ⟨g, 0, none⟩) n' cap) n xs
  | [], _, _, h, _ => h
  | v :: r, o, w, h, ho => own_sets r (o + 1) _ (own_set h o ho v) (by omega)
theorem grown_sets {W : World} {g : Nat} : ∀ (vs : List Value) (o : Nat) (w : World), W.grownBy w (some g) → W.grownBy (w.setCells g o vs) (some g)
  | [], _, _, h => h
  | v :: r, o, w, h => by
    refine grown_sets r (o + 1) _ ?_
    have hb := (Below.refl g w).setCell (p := ⟨g, o, none⟩) (Nat.le_refl _) v
    refine ⟨hb.os.trans h.os, hb.tape.trans h.tape, hb.output.trans h.output, Nat.le_trans h.size hb.size, fun k hk hne => ?_⟩
    rw [Below.heap_setCell _ _ _ _ (fun e => hne (by rw [show k = g from e]))]
    exact h.block k hk hne
/-- append where there is room, as a step of a region that draws; the row is owned still. -/
theorem step_append_fits {P : Program} {ops : Array Oper} {o : Oper} {a : Act} {w : World} {K : Act → World → Prop} {Q : Exit → Act → World → Prop} {E : Prop}
    (hg : o.guard = none) (s x : Operand) (t : TypeId) (hop : o.op = Op.call { callee := Callee.builtin Builtin.append, args := #[s, x], argTypes := #[t, t] })
    (base : Nat) (e : TypeId) (i : TypeInfo) (size : Nat) (ht : P.underlying t = some (.slice e)) (hi : P.info? e = some i) (hsize : i.size = size)
    (g n cap : Nat) (xs : List Value) (hs : a.eval s = .slice (some ⟨g, 0, none⟩) n cap) (hown : w.ownsRow base e size (.slice (some ⟨g, 0, none⟩) n cap) n xs)
    (ad : Addr) (m c : Nat) (news : List Value) (hx : a.eval x = .slice (some ad) m c) (hl : news.length = m * size) (hnews : ∀ j u, news[j]? = some u → w.cell? (ad.add j) = some u) (h1 : ∀ u ∈ news, u.oneCell' = true)
    (hroom : n + m ≤ cap)
    (hK : ∀ w', w'.ownsRow base e size (.slice (some ⟨g, 0, none⟩) (n + m) cap) (n + m) (xs ++ news) → w.grownBy w' (some g) → K (a.put o.dst (.slice (some ⟨g, 0, none⟩) (n + m) cap)) w') :
    if Region.wanted o (yielded ops a.tmps) = true then Oper.wp P o a w K Q else E := by
  have hw : Region.wanted o (yielded ops a.tmps) = true := by simp [Region.wanted, hg]
  rw [if_pos hw]
  obtain ⟨w', hrun, h2, h3⟩ := run_append_fits (P := P) w base t o.type e i size ht hi hsize g n cap xs hown ad m c news hl hnews h1 hroom
  unfold Oper.wp
  simp [execOp, hop, resolve, invoke, builtin, hs, hx, hrun, Result.andThen]
  exact hK w' h2 h3
theorem own_drew {w : World} {B e s n : Nat} {v : Value} {xs : List Value} (h : w.ownsRow B e s v n xs) : w.drew.ownsRow B e s v n xs := h
/-- The items behind place i. -/
theorem own_news {α : Type} {w : World} {enc : α → List Value} {s B : Nat} {e : TypeId} (he : ∀ x, (enc x).length = s) {g n cap : Nat} {l : List α} (h : w.ownsRow B e s (.slice (some ⟨g, 0, none⟩) n cap) l.length (l.flatMap enc)) (i : Nat) :
    ∀ j u, ((l.drop i).flatMap enc)[j]? = some u → w.cell? ((⟨g, i * s, none⟩ : Addr).add j) = some u := by
  intro j u hj
  rw [← flat_drop enc s he, List.getElem?_drop] at hj
  have := h.cells (g := g) rfl (i * s + j) u hj
  rw [Addr.add_lit] at this ⊢
  rwa [Nat.zero_add] at this
def zT : List Value := [.int .i64 0, .int .i64 0, .int .i64 0, .int .i64 0, .string ⟨#[]⟩]
theorem clear_tim (w : World) (ty : TypeId) (b o c : Nat) (hc : ∀ j, j < 5 → (w.cell? ⟨b, o + j, none⟩).isSome = true) (hf : ∀ j, j < 5 → w.frozen? ⟨b, o + j, none⟩ = false) :
    (Builtin.clear_ #[24] ty #[.slice (some ⟨b, o, none⟩) 1 c]).run Try.prog w = .ok (.tuple #[]) (w.setCells b o zT) := by
  have hst := run_storeCells_cells (P := Try.prog) b o zT 0 w (by simpa [zT] using hc) (by simpa [zT] using hf) (by intro v hv; simp only [zT, List.mem_cons, List.not_mem_nil, or_false] at hv; rcases hv with rfl | rfl | rfl | rfl | rfl <;> rfl)
  simp only [Nat.add_zero] at hst
  have hz : (Builtin.zeroCells zTim.cells 1).toList = zT := by kernel_rfl
  have hv : ∀ w, (zeroValue 49).run Try.prog w = .ok zTim w := Try.zeroValue49
  simp [Builtin.clear_, run_underlying Try.underlying24, hv, hz, hst]
theorem own_room {w : World} {B e s n g n' cap : Nat} {xs : List Value} (h : w.ownsRow B e s (.slice (some ⟨g, 0, none⟩) n' cap) n xs) (o : Nat) (ho : o < cap * s) : (w.cell? ⟨g, o, none⟩).isSome = true ∧ w.frozen? ⟨g, o, none⟩ = false := by
  rcases h.2 with ⟨h2, _⟩ | ⟨g', cap', cur, e1, e2, e3, e4, e5, e6, e7⟩
  · cases h2
  · cases e1
    refine ⟨?_, ?_⟩
    · rw [cell_of_row w g o cur e (0, 0) e3, Array.getElem?_eq_getElem (by omega)]
      rfl
    · simp [World.frozen?, e3]
set_option maxRecDepth 100000 in
set_option maxHeartbeats 4000000 in
theorem delT_any (g cap i B : Nat) (l : List Tim) (w : World) (h : w.ownsRow B 49 5 (.slice (some ⟨g, 0, none⟩) l.length cap) l.length (l.flatMap Tim.c)) (hi : i < l.length) (hl : l.length ≤ 1000) :
    Calls Try.prog 42 #[.slice (some ⟨g, 0, none⟩) l.length cap, .int .i64 (i : Int), .int .i64 ((i : Int) + 1)] w fun e w' => e = .returned (.slice (some ⟨g, 0, none⟩) (l.length - 1) cap) ∧ w'.ownsRow B 49 5 (.slice (some ⟨g, 0, none⟩) (l.length - 1) cap) (l.eraseIdx i).length ((l.eraseIdx i).flatMap Tim.c) ∧ w.grownBy w' (some g) := by
  obtain ⟨i0, hi0, hz0, hz1, hz2⟩ := info_parts tim_info
  have hcap : l.length ≤ cap ∧ cap ≤ 9223372036854775807 := by
    rcases h.2 with ⟨h2, _⟩ | ⟨g', cap', cur, e1, e2, e3, e4, e5, _⟩
    · cases h2
    · cases e1; exact ⟨e4, by simp only [maxLen] at e5; omega⟩
  obtain ⟨hc1, hc2⟩ := hcap
  have HO := Lib.hid h
  clear h
  have k1 : (i : Int) < (l.length : Int) := by omega
  have k2 : (l.length : Int) ≤ (cap : Int) := by omega
  have k3 : (l.length : Int) ≤ 1000 := by omega
  have k4 : (0 : Int) ≤ (i : Int) := by omega
  go_enter Try.func42, Try.ntmps42
  go_wp2_with fail
  have k5 : (i : Int) ≤ (cap : Int) := by omega
  have k6 : (i : Int) + 1 ≤ (l.length : Int) := by omega
  have k7 : i ≤ cap := by omega
  have k8 : i + 1 ≤ l.length := by omega
  have k9 : i + 1 ≤ cap := by omega
  have k10 : (0 : Int) ≤ (i : Int) + 1 := by omega
  have k11 : (i : Int) ≤ (i : Int) + 1 := by omega
  have HT := Lib.hid (own_take Tim.len HO.out i (by omega))
  by_cases hce : cap = i + 1
  · subst hce
    have hle : l.length = i + 1 := by omega
    have HN0 : Hid (∀ j u, ([] : List Value)[j]? = some u → w.drew.cell? ((⟨g, 0, none⟩ : Addr).add j) = some u) := Lib.hid (by
      intro j u hj
      simp at hj)
    go_region_law ((refine step_append_fits (by rfl) (.tmp 22) (.tmp 25) 24 (by rfl) B 49 i0 5 Try.underlying24 hi0 hz1 g i (i + 1) ((l.take i).flatMap Tim.c) (by rfl) (own_drew HT.out) ⟨g, 0, none⟩ 0 0 [] (by rfl) (by simp) HN0.out (by intro u hu; cases hu) (by omega) ?_; intro w1 hown1 hgrow1; have X1 := Lib.hid hown1; have G1 := Lib.hid hgrow1; clear hown1 hgrow1))
    all_goals
      have X2 : Hid (w1.ownsRow B 49 5 (.slice (some ⟨g, 0, none⟩) i (i + 1)) i ((l.take i).flatMap Tim.c)) := Lib.hid (by have := X1.out; rwa [List.append_nil, Nat.add_zero] at this)
      have hcl : (Builtin.clear_ #[24] 0 #[.slice (some ⟨g, i * 5, none⟩) 1 1]).run Try.prog w1 = .ok (.tuple #[]) (w1.setCells g (i * 5) zT) := by
        have hr : ∀ j, j < 5 → i * 5 + j < (i + 1) * 5 := fun j hj => by omega
        exact clear_tim w1 0 g _ _ (fun j hj => (own_room X2.out _ (hr j hj)).1) (fun j hj => (own_room X2.out _ (hr j hj)).2)
      have XF : Hid ((w1.setCells g (i * 5) zT).ownsRow B 49 5 (.slice (some ⟨g, 0, none⟩) (l.length - 1) (i + 1)) (l.eraseIdx i).length ((l.eraseIdx i).flatMap Tim.c)) := Lib.hid (by
        rw [List.length_eraseIdx_of_lt hi, List.eraseIdx_eq_take_drop_succ, List.drop_eq_nil_of_le (by omega), List.append_nil, show l.length - 1 = i by omega]
        exact own_sets zT _ w1 X2.out (Nat.le_refl _))
      have GF : Hid (w.grownBy (w1.setCells g (i * 5) zT) (some g)) := Lib.hid (grown_sets zT _ w1 ⟨G1.out.os, G1.out.tape, G1.out.output, G1.out.size, G1.out.block⟩)
      generalize w1.setCells g (i * 5) zT = w2 at *
      go_wp2_with fail
      go_ret
      exact ⟨by rw [hle]; rfl, XF.out, GF.out⟩
  · have HNW := Lib.hid (own_news Tim.len (own_drew HO.out) (i + 1))
    go_region_law ((refine step_append_fits (by rfl) (.tmp 22) (.tmp 25) 24 (by rfl) B 49 i0 5 Try.underlying24 hi0 hz1 g i cap ((l.take i).flatMap Tim.c) (by rfl) (own_drew HT.out) ⟨g, (i + 1) * 5, none⟩ (l.length - (i + 1)) (cap - (i + 1)) ((l.drop (i + 1)).flatMap Tim.c) (by rfl) (by rw [flat_len Tim.c 5 Tim.len, List.length_drop]) HNW.out (tim_one _) (by omega) ?_; intro w1 hown1 hgrow1; have X1 := Lib.hid hown1; have G1 := Lib.hid hgrow1; clear hown1 hgrow1))
    all_goals
      have he : i + (l.length - (i + 1)) = l.length - 1 := by omega
      rw [he] at X1 ⊢
      have hcl : (Builtin.clear_ #[24] 0 #[.slice (some ⟨g, (l.length - 1) * 5, none⟩) (l.length - (l.length - 1)) (cap - (l.length - 1))]).run Try.prog w1 = .ok (.tuple #[]) (w1.setCells g ((l.length - 1) * 5) zT) := by
        rw [show l.length - (l.length - 1) = 1 by omega]
        have hr : ∀ j, j < 5 → (l.length - 1) * 5 + j < cap * 5 := fun j hj => by omega
        exact clear_tim w1 0 g _ _ (fun j hj => (own_room X1.out _ (hr j hj)).1) (fun j hj => (own_room X1.out _ (hr j hj)).2)
      have XF : Hid ((w1.setCells g ((l.length - 1) * 5) zT).ownsRow B 49 5 (.slice (some ⟨g, 0, none⟩) (l.length - 1) cap) (l.eraseIdx i).length ((l.eraseIdx i).flatMap Tim.c)) := Lib.hid (by
        rw [List.length_eraseIdx_of_lt hi, List.eraseIdx_eq_take_drop_succ, List.flatMap_append]
        exact own_sets zT _ w1 X1.out (Nat.le_refl _))
      have GF : Hid (w.grownBy (w1.setCells g ((l.length - 1) * 5) zT) (some g)) := Lib.hid (grown_sets zT _ w1 ⟨G1.out.os, G1.out.tape, G1.out.output, G1.out.size, G1.out.block⟩)
      generalize w1.setCells g ((l.length - 1) * 5) zT = w2 at *
      go_wp2_with fail
      go_ret
      exact ⟨rfl, XF.out, GF.out⟩
end Go.Proofs.Ytpmklganodlciaa
