/- The contract of heap.Sweep. -/
import Derived.Test.YtcnplnnpiobikaaH20
import Derived.OwnWalk
namespace Go.Proofs.Ytcnplnnpiobikaa
open Go.RowKit

def sweptL (h : List Cl) (S : List Int) : List Cl := (List.range h.length).map fun (i : Nat) => if S.contains (i : Int) then cellAt h i else ⟨0, [], []⟩
structure SweepR where
  cells : List Cl
  err : Int
def sweepV (h : List Cl) (roots : List JV) : SweepR := if askErr h roots = 0 then ⟨sweptL h (walkF h roots), 0⟩ else ⟨[], askErr h roots⟩
theorem sweptL_len (h : List Cl) (S : List Int) : (sweptL h S).length = h.length := by simp [sweptL]
theorem sweptL_get (h : List Cl) (S : List Int) (i : Nat) : (sweptL h S)[i]? = if i < h.length then some (if S.contains (i : Int) then cellAt h i else ⟨0, [], []⟩) else none := by
  unfold sweptL
  rw [List.getElem?_map]
  by_cases hi : i < h.length
  · rw [if_pos hi, List.getElem?_range hi]; rfl
  · rw [if_neg hi, List.getElem?_eq_none (by simp; omega)]; rfl
theorem sweptL_step (h : List Cl) (S : List Int) (m : Nat) : (sweptL h S).set m (cellAt h m) = sweptL h (S ++ [(m : Int)]) := by
  apply List.ext_getElem?
  intro i
  rw [List.getElem?_set, sweptL_get, sweptL_get, sweptL_len]
  by_cases e : m = i
  · subst e
    simp
  · rw [if_neg e]
    have e2 : ¬ (i : Int) = (m : Int) := by omega
    simp [e2]
theorem flat_set3 : ∀ (ts : List Tr) (k : Nat) (t : Tr), k < ts.length → ((((ts.flatMap Tr.c).set (k * 3) (.int .i64 t.kind)).set (k * 3 + 1) t.nv).set (k * 3 + 2) t.vv) = (ts.set k t).flatMap Tr.c
  | [], k, t, h => by simp at h
  | x :: ts, 0, t, _ => by simp [Tr.c]
  | x :: ts, k + 1, t, h => by
    have ih := flat_set3 ts k t (by simpa using h)
    rw [List.set_cons_succ, List.flatMap_cons, List.flatMap_cons, ← ih]
    have e1 : (k + 1) * 3 = k * 3 + 3 := by omega
    rw [e1]
    simp [Tr.c]
theorem made_trs (n : Nat) : (madeCells zCl.cells (n * 3)).toList = (List.replicate n (⟨0, .slice none 0 0, .slice none 0 0⟩ : Tr)).flatMap Tr.c := by
  apply List.ext_getElem?
  intro j
  have hz : zCl.cells = #[.int .i64 0, .slice none 0 0, .slice none 0 0] := rfl
  by_cases hj : j < n * 3
  · have e : j = j / 3 * 3 + j % 3 := by omega
    have h1 : (List.replicate n (⟨0, .slice none 0 0, .slice none 0 0⟩ : Tr)).length = n := by simp
    have h2 := flat_get Tr.c 3 Tr.len (List.replicate n (⟨0, .slice none 0 0, .slice none 0 0⟩ : Tr)) (j / 3) (j % 3) (by rw [h1]; omega) (by omega)
    rw [← e] at h2
    rw [h2, List.getElem_replicate, hz]
    have h3 : j % 3 = 0 ∨ j % 3 = 1 ∨ j % 3 = 2 := by omega
    unfold madeCells
    rw [Array.getElem?_toList]
    rcases h3 with h3 | h3 | h3 <;> simp [hj, h3, Tr.c]
  · have l1 : (madeCells zCl.cells (n * 3)).toList.length ≤ j := by simp [madeCells]; omega
    have l2 : ((List.replicate n (⟨0, .slice none 0 0, .slice none 0 0⟩ : Tr)).flatMap Tr.c).length ≤ j := by rw [flat_len Tr.c 3 Tr.len]; simp; omega
    rw [List.getElem?_eq_none l1, List.getElem?_eq_none l2]
/-- A new heap of free cells. -/
theorem MO.made {w0 wr : World} {a : Option Addr} {c n : Nat} (h : wr.ownsRow w0.heap.size 46 3 (.slice a n c) n (madeCells zCl.cells (n * 3)).toList) (hg : w0.grownBy wr none) : MO w0 wr (.slice a n c) (List.replicate n ⟨0, [], []⟩) := by
  refine ⟨(Below.refl _ _).grown hg (Nat.le_refl _) (fun k hk => by cases hk), List.replicate n ⟨0, .slice none 0 0, .slice none 0 0⟩, by simp, ?_, fun p hp => ?_⟩
  · rw [List.length_replicate, ← made_trs]
    exact h
  · rw [List.zip_replicate] at hp
    have := List.eq_of_mem_replicate hp
    subst this
    exact ⟨rfl, World.ownsRow_nil _ _ _ _, World.ownsRow_nil _ _ _ _, fun g _ => by simp [Value.ownBlock], fun g _ => by simp [Value.ownBlock]⟩
/-- One cell anew. -/
theorem MO.set {w0 wr : World} {g n c : Nat} {items : List Cl} (h : MO w0 wr (.slice (some ⟨g, 0, none⟩) n c) items) (k : Nat) (hk : k < items.length) (t : Tr) (x : Cl) (hkd : t.kind = x.kind) (hn : wr.ownsRow w0.heap.size 9 1 t.nv x.names.length (x.names.flatMap sC)) (hv : wr.ownsRow w0.heap.size 31 3 t.vv x.vals.length (x.vals.flatMap JV.c)) :
    MO w0 (((wr.setCell ⟨g, k * 3, none⟩ (.int .i64 t.kind)).setCell ⟨g, k * 3 + 1, none⟩ t.nv).setCell ⟨g, k * 3 + 2, none⟩ t.vv) (.slice (some ⟨g, 0, none⟩) n c) (items.set k x) := by
  obtain ⟨ts, h1, h2, h3⟩ := h.ex
  have hg : wr.grownBy (((wr.setCell ⟨g, k * 3, none⟩ (.int .i64 t.kind)).setCell ⟨g, k * 3 + 1, none⟩ t.nv).setCell ⟨g, k * 3 + 2, none⟩ t.vv) (some g) := Lib.grownBy_setB (Lib.grownBy_setB (Lib.grownBy_setB (gr_refl _ _) _ _) _ _) _ _
  have hB : w0.heap.size ≤ g := (h2.lt g rfl).1
  have own46 : ∀ {e s n' : Nat} {v : Value} {xs : List Value}, wr.ownsRow w0.heap.size e s v n' xs → e ≠ 46 → v.ownBlock ≠ some g := by
    intro e s n' v xs ho he
    rcases h2.2 with ⟨e2, _⟩ | ⟨gg, cap2, cur, e2, _, hb2, _⟩
    · cases e2
    · have : gg = g := by injection e2 with e2; injection e2 with e2; injection e2 with e2; exact e2.symm
      subst this
      exact row_block ho hb2 he
  refine ⟨below_grown h.bl hg hB (Nat.le_refl _), ts.set k t, by simp [h1], ?_, fun p hp => ?_⟩
  · rw [List.length_set, ← flat_set3 ts k t (by omega)]
    exact own_at (own_at (own_at h2 _ _) _ _) _ _
  · obtain ⟨i, hi, rfl⟩ := List.mem_iff_getElem.1 hp
    rw [List.getElem_zip, List.getElem_set, List.getElem_set]
    have hi2 : i < ts.length ∧ i < items.length := by rw [List.length_zip, List.length_set, List.length_set] at hi; omega
    by_cases e : k = i
    · rw [if_pos e, if_pos e]
      have d1 := own46 hn (by decide)
      have d2 := own46 hv (by decide)
      exact ⟨hkd, hn.kept hg (.inr d1), hv.kept hg (.inr d2), fun k' hk' => by
        have e3 : g = k' := by simpa [Value.ownBlock] using hk'
        rw [← e3]; exact d1, fun k' hk' => by
        have e3 : g = k' := by simpa [Value.ownBlock] using hk'
        rw [← e3]; exact d2⟩
    · rw [if_neg e, if_neg e]
      have hq := h3 (ts[i], items[i]) (by
        rw [List.mem_iff_getElem]
        exact ⟨i, by rw [List.length_zip]; omega, by rw [List.getElem_zip]⟩)
      exact ⟨hq.kind, hq.n.kept hg (.inr (own46 hq.n (by decide))), hq.v.kept hg (.inr (own46 hq.v (by decide))), hq.dn, hq.dv⟩
theorem MO.lower {w0 w5 wr : World} {ov : Value} {items : List Cl} (h : MO w5 wr ov items) (hb : Below w0.heap.size w0 w5) : MO w0 wr ov items := by
  obtain ⟨ts, h1, h2, h3⟩ := h.ex
  exact ⟨hb.trans (Below.le h.bl hb.size), ts, h1, own_lower h2 hb.size, fun p hp => ⟨(h3 p hp).kind, own_lower (h3 p hp).n hb.size, own_lower (h3 p hp).v hb.size, (h3 p hp).dn, (h3 p hp).dv⟩⟩
theorem MO.room {w0 wr : World} {g n c : Nat} {items : List Cl} (h : MO w0 wr (.slice (some ⟨g, 0, none⟩) n c) items) (o : Nat) (ho : o < c * 3) : (wr.cell? ⟨g, o, none⟩).isSome = true ∧ wr.frozen? ⟨g, o, none⟩ = false := by
  obtain ⟨ts, h1, h2, h3⟩ := h.ex
  exact own_room h2 o ho
set_option maxRecDepth 100000 in
set_option maxHeartbeats 16000000 in
theorem sweep_any (a : Option Addr) (c : Nat) (h : List Cl) (ra : Option Addr) (rc : Nat) (roots : List JV) (w : World) (hh : HeapAt w (.slice a h.length c) h) (hr : SlR w JvAt 3 (.slice ra roots.length rc) roots) :
    Calls Try.prog 15 #[.slice a h.length c, .slice ra roots.length rc] w fun e w' => ∃ ov, e = .returned (.tuple #[ov, .int .i64 (sweepV h roots).err]) ∧ MO w w' ov (sweepV h roots).cells := by
  have HH := Lib.hid hh
  have HAS := Lib.hid (asked_any a c h ra rc roots w hh hr)
  have HWA := Lib.hid (fun (w6 : World) (hb : Below w.heap.size w w6) (ha : askErr h roots = 0) => walked_any a c h ra rc roots w6 (hh.below hb) (hr.mono (fun _ _ _ h => h.below hb)) (ask_ok ha).1.fit (fun x hx => fits_fit ((ask_ok ha).2 x hx)) (ask_ok ha).1.len)
  have HST := Lib.hid (fun (ha : askErr h roots = 0) => (walk_went (ask_ok ha).1.fit roots (fun x hx => fits_fit ((ask_ok ha).2 x hx))).st)
  have HOK := Lib.hid (fun (ha : askErr h roots = 0) => ask_ok ha)
  obtain ⟨q1, q2, q3⟩ := SlR.cap hh
  obtain ⟨r1, r2, r3⟩ := SlR.cap hr
  clear hh hr
  obtain ⟨R, hR⟩ : ∃ R, sweepV h roots = R := ⟨_, rfl⟩
  rw [hR]
  unfold sweepV at hR
  have HR := Lib.hid hR
  clear hR
  generalize askErr h roots = E at *
  obtain ⟨bi, gi0, gi1, gi2, gi3⟩ := info_parts cl_info
  have p19 := call19
  have p20 := call20
  have p23 := call23
  go_enter Try.func15, Try.ntmps15
  go_wp2_with fail
  refine HAS.out.mono ?_
  rintro e w3 ⟨rfl, hb3⟩
  have X := Lib.hid hb3
  clear hb3 HAS
  by_cases hE0 : E = 0
  · subst hE0
    have HW3 := Lib.hid (HWA.out w3 X.out rfl)
    have HS2 := Lib.hid (HST.out rfl)
    obtain ⟨hk1, hk2⟩ := HOK.out rfl
    have HK := Lib.hid hk1
    clear hk1 hk2
    generalize walkF h roots = L at *
    have HR2 := Lib.hid (show (⟨sweptL h L, 0⟩ : SweepR) = R by rw [← HR.out, if_pos rfl])
    clear HWA HST HOK HR
    have hlen3 : (h.length : Int) ≤ 300 := by have := HK.out.len; omega
    go_wp2_with fail
    refine HW3.out.mono ?_
    rintro e w5 ⟨S, tv, rfl, av, hw5⟩
    obtain ⟨la, lc, rfl⟩ := own_shape hw5.alr
    have BK := Lib.hid hw5.blk
    have HL := Lib.hid (own_int hw5.alr)
    have X5 := Lib.hid (X.out.trans (Below.le hw5.bl X.out.size))
    have hLi : (L.length : Int) ≤ 300 := by have := HS2.out.len; omega
    clear hw5 HW3 X
    go_wp2_with (first | (at_make; refine wpList_make_full _ rfl _ _ 22 rfl w5.heap.size 46 bi zCl 3 Try.underlying22 gi0 gi1 gi2 .i64 .i64 _ _ h.length rfl rfl rfl rfl (by rw [gi3]; omega) (by unfold maxLen; omega) (Nat.le_refl _) ?_; intro w6 ho6 hg6; have W0 := Lib.hid (MO.made ho6 hg6); clear ho6 hg6; revert W0))
    intro W0
    have hz0 : List.replicate h.length (⟨0, [], []⟩ : Cl) = sweptL h [] := by simp [sweptL, List.map_const']
    rw [hz0] at W0
    generalize w5.heap.size = G at W0 ⊢
    clear hz0
    have BK6 := Lib.hid ((W0.out.bl.block _ (lt_of_heap BK.out)).trans BK.out)
    obtain ⟨s0, s1, s2⟩ := cells3 BK6.out
    go_wp2_with fail
    clear s0 s1 s2 BK6
    go_loopg [28] L.length (fun g v28 wr => ∃ k : Nat, g = L.length - k ∧ k ≤ L.length ∧ v28 = .int .i64 (k : Int) ∧ MO w5 wr (.slice (some ⟨G, 0, none⟩) h.length h.length) (sweptL h (L.take k)))
    case atStart => exact ⟨0, rfl, Nat.zero_le _, rfl, W0.out⟩
    case round =>
      clear W0
      obtain ⟨k, hg, hk, rfl, hx⟩ := hrel
      have GG := Lib.hid hg
      have X := Lib.hid hx
      clear hg hx
      by_cases hlt : k < L.length
      · have hki : (k : Int) < (L.length : Int) := by omega
        have hva := HS2.out.va L[k] (List.getElem_mem hlt)
        have HTK := Lib.hid (show L.take (k + 1) = L.take k ++ [L[k]] by rw [List.take_add_one, List.getElem?_eq_getElem hlt]; rfl)
        obtain ⟨b, o, rfl, hi⟩ := HL.out.item k hlt
        have x0 : wr.cell? ⟨b, o + k, none⟩ = some (.int .i64 L[k]) := by have := kc X.out.bl hi; rwa [Nat.mul_one] at this
        clear hi
        generalize L[k] = n at *
        obtain ⟨m, rfl⟩ : ∃ m : Nat, n = (m : Int) := ⟨n.toNat, by omega⟩
        have hm : m < h.length := by omega
        have hmi : (m : Int) < (h.length : Int) := by omega
        obtain ⟨hb_, ho_, rfl, hcl⟩ := HH.out.item m hm
        have hck := HK.out.cells h[m] (List.getElem_mem hm)
        have hsm := HK.out.small h[m] (List.getElem_mem hm)
        have hnm := cellOk_names hck
        have HCA := Lib.hid (cellAt_get hm)
        have HST := Lib.hid (sweptL_step h (L.take k) m)
        have hcl2 := (hcl.below X5.out).below X.out.bl
        clear hcl hck hva
        generalize h[m] = C at *
        rw [HCA.out] at HST
        clear HCA
        obtain ⟨kd, nms, vls⟩ := C
        obtain ⟨na, nc, va, vc, d0, d1, d2, d3, d4⟩ := hcl2.ex
        simp only at d0 d1 d2 d3 d4 hsm hnm HST
        clear hcl2
        have HCP := Lib.hid (copied_any kd nms vls na va nc vc wr d3 d4 (by omega) (by omega))
        go_wp2_with fail
        refine HCP.out.mono ?_
        rintro e w7 ⟨nv, vv, rfl, on, ov, hb7⟩
        obtain ⟨nva, nvc, rfl⟩ := own_shape on
        obtain ⟨vva, vvc, rfl⟩ := own_shape ov
        have Y := Lib.hid (X.out.call hb7)
        have ON := Lib.hid (own_lower on X.out.bl.size)
        have OV := Lib.hid (own_lower ov X.out.bl.size)
        clear on ov hb7 HCP d0 d1 d2 d3 d4 x0 X
        have hr0 := Y.out.room (m * 3) (by omega)
        have hr1 := Y.out.room (m * 3 + 1) (by omega)
        have hr2 := Y.out.room (m * 3 + 2) (by omega)
        obtain ⟨x0, y0⟩ := Option.isSome_iff_exists.1 hr0.1
        obtain ⟨x1, y1⟩ := Option.isSome_iff_exists.1 hr1.1
        obtain ⟨x2, y2⟩ := Option.isSome_iff_exists.1 hr2.1
        have z0 := hr0.2
        have z1 := hr1.2
        have z2 := hr2.2
        have Z := Lib.hid (Y.out.set m (by rw [sweptL_len]; exact hm) ⟨kd, .slice nva nms.length nvc, .slice vva vls.length vvc⟩ ⟨kd, nms, vls⟩ rfl ON.out OV.out)
        rw [HST.out] at Z
        clear hr0 hr1 hr2 HST
        go_wp2_with fail
        go_roundg (L.length - (k + 1))
        case measure => have := GG.out; omega
        case rel => exact ⟨k + 1, rfl, by omega, by simp, by rw [HTK.out]; exact Z.out⟩
      · have hke : k = L.length := by omega
        have hnl : ¬ ((k : Int) < (L.length : Int)) := by omega
        have XF := Lib.hid (show MO w5 wr (.slice (some ⟨G, 0, none⟩) h.length h.length) (sweptL h L) from by
          have h1 := X.out
          rwa [hke, List.take_length] at h1)
        clear hke hlt X
        go_wp2_with fail
        go_ret2
        rw [← HR2.out]
        exact ⟨_, rfl, XF.out.lower X5.out⟩
  · have hEb : (E == 0) = false := by simpa using hE0
    have hr : R = ⟨[], E⟩ := by rw [← HR.out, if_neg hE0]
    subst hr
    clear hE0
    go_wp2_with fail
    go_ret2
    exact ⟨_, rfl, ⟨X.out, [], rfl, World.ownsRow_nil _ _ _ _, fun p hp => by cases hp⟩⟩
end Go.Proofs.Ytcnplnnpiobikaa
