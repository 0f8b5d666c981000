/- The contract of event's steps: the way down. -/
import Derived.Test.YtnnckjgafglgeaaDoorE11
namespace Go.Proofs.YtnnckjgafglgeaaDoor
open Go.RowKit

structure St where
  node : Int
  phase : Int
  down : Bool
def St.c (s : St) : List Value := [.int .i64 s.node, .int .i64 s.phase, .bool s.down]
theorem St.len (s : St) : (St.c s).length = 3 := rfl
def phaseOf (last k other : Int) : Int := if k = last then 2 else other
def downL (last : Int) : Nat → List Int → List St
  | _, [] => []
  | k, n :: l => ⟨n, phaseOf last (k : Int) 1, true⟩ :: downL last (k + 1) l
theorem downL_step (last : Int) (path : List Int) (k : Nat) (h : k < path.length) : downL last k (path.drop k) = ⟨path[k], phaseOf last (k : Int) 1, true⟩ :: downL last (k + 1) (path.drop (k + 1)) := by
  rw [List.drop_eq_getElem_cons h]
  rfl
def upL (path : List Int) (bub : Bool) (last : Int) : Nat → List St
  | 0 => []
  | k + 1 => if bub = true ∨ (k : Int) = last then ⟨path[k]?.getD 0, phaseOf last (k : Int) 3, false⟩ :: upL path bub last k else []
def stepsV (path : List Int) (bub : Bool) : List St := downL ((path.length : Int) - 1) 0 path ++ upL path bub ((path.length : Int) - 1) path.length
theorem call35 (args : Array Value) (w : World) : Sem.run Tryd.prog (callFunc 35 args) w = .ok (.enter 35 args) w := by go_simp
set_option maxRecDepth 100000 in
set_option maxHeartbeats 2000000 in
theorem phase_any (k other last : Int) (P : Nat) (w : World) (h : w.cell? ⟨P, 0, none⟩ = some (.int .i64 last)) : Calls Tryd.prog 35 #[.int .i64 k, .int .i64 other, .pointer (some ⟨P, 0, none⟩)] w fun e w' => e = .returned (.int .i64 (phaseOf last k other)) ∧ Below w.heap.size w w' := by
  go_enter Tryd.func35, Tryd.ntmps35
  by_cases hk : k = last
  · subst hk
    go_wp2_with fail
    go_ret
    exact ⟨by simp [phaseOf], Below.refl _ _⟩
  · have hk' : (k == last) = false := by simpa using hk
    go_wp2_with fail
    go_ret
    exact ⟨by simp [phaseOf, hk], Below.refl _ _⟩
def zSt : Value := .agg #[.int .i64 0, .int .i64 0, .bool false]
theorem st_info : (Tryd.prog.info? 66).map (fun i => (i.zero, i.size, i.bytes)) = some (some zSt, 3, 24) := by kernel_rfl
/-- The world while steps are made. -/
structure SW (w wr : World) (P : Nat) (last : Int) (v : Value) (l : List St) : Prop where
  own : wr.ownsRow (P + 1) 66 3 v l.length (l.flatMap St.c)
  bl : Below w.heap.size w wr
  d : wr.heap[P]? = some (.cells #[.int .i64 last] 3 (0, 0))
  sz : w.heap.size ≤ P
theorem SW.le {w wr : World} {P : Nat} {last : Int} {v : Value} {l : List St} (h : SW w wr P last v l) : P + 1 ≤ wr.heap.size := lt_of_heap h.d
theorem SW.call {w wr w' : World} {P : Nat} {last : Int} {v : Value} {l : List St} (h : SW w wr P last v l) (hb : Below wr.heap.size wr w') : SW w w' P last v l := ⟨own_below h.own hb (Nat.le_refl _), h.bl.trans (Below.le hb h.bl.size), (hb.block _ (lt_of_heap h.d)).trans h.d, h.sz⟩
theorem SW.push {w wr w' : World} {P : Nat} {last : Int} {v v' : Value} {l : List St} (h : SW w wr P last v l) (o1 : Obj) (s : St) (hown : w'.ownsRow (P + 1) 66 3 v' (l.length + 1) (l.flatMap St.c ++ St.c s)) (hg : (wr.alloc o1).grownBy w' v.ownBlock) : SW w w' P last v' (l ++ [s]) where
  own := by simpa using hown
  bl := (h.bl.alloc h.bl.size o1).grown hg (al_le h.bl.size o1) (fun k hk => Nat.le_trans (Nat.le_trans h.sz (Nat.le_succ P)) (h.own.lt k hk).1)
  d := (hg.block P (Nat.lt_of_lt_of_le (lt_of_heap h.d) (World.grownBy_alloc _ _ none).size) (fun e => by have := (h.own.lt P e.symm).1; omega)).trans (alloc_keep h.d o1)
  sz := h.sz
theorem cell_st (s : St) (t : TypeId) (w : World) : ∀ j u, (St.c s)[j]? = some u → (w.alloc (.cells #[.int .i64 s.node, .int .i64 s.phase, .bool s.down] t)).cell? ((⟨w.heap.size, 0, none⟩ : Addr).add j) = some u := World.news_of_block (heap_alloc_new w _)
theorem one_st (s : St) : ∀ u ∈ St.c s, u.oneCell' = true := by
  intro u hu
  simp only [St.c, List.mem_cons, List.not_mem_nil, or_false] at hu
  rcases hu with rfl | rfl | rfl <;> rfl
set_option maxRecDepth 100000 in
set_option maxHeartbeats 16000000 in
theorem steps_any (path : List Int) (pa : Option Addr) (pc : Nat) (bub : Bool) (w : World) (h : SlR w IntAt 1 (.slice pa path.length pc) path) (hl : path.length ≤ 42) : Calls Tryd.prog 27 #[.slice pa path.length pc, .bool bub] w fun e w' => ∃ v, e = .returned v ∧ w'.ownsRow w.heap.size 66 3 v (stepsV path bub).length ((stepsV path bub).flatMap St.c) ∧ Below w.heap.size w w' := by
  have HS := Lib.hid h
  clear h
  obtain ⟨R, hR⟩ : ∃ R, stepsV path bub = R := ⟨_, rfl⟩
  have HR := Lib.hid (show downL ((path.length : Int) - 1) 0 path ++ upL path bub ((path.length : Int) - 1) path.length = R from hR)
  rw [hR]
  clear hR
  have hli : (path.length : Int) ≤ 42 := by omega
  obtain ⟨last, hlast⟩ : ∃ last, (path.length : Int) - 1 = last := ⟨_, rfl⟩
  rw [hlast] at HR
  obtain ⟨bi, hi0, hz0, hz1, hz2⟩ := info_parts st_info
  have hcall := call35
  go_enter Tryd.func27, Tryd.ntmps27
  obtain ⟨P, hP⟩ : ∃ P, w.heap.size = P := ⟨_, rfl⟩
  go_upto_region 2 with fail
  refine code_gen (Φ := fun wy => Hid (SW w wy P last (.slice none 0 0) [])) (Lib.hid ⟨World.ownsRow_nil _ _ _ _, (Below.refl _ _).alloc (Nat.le_refl _) _, by rw [← hlast]; exact alloc_at hP _, Nat.le_of_eq hP⟩) ?_
  intro w3 X
  have HP := Lib.hid hP
  have HLA := Lib.hid hlast
  clear hP hlast
  go_upto_region 5 with fail
  go_loopg [7, 17] path.length (fun g v7 v17 wr => ∃ (k : Nat) (l : List St), g = path.length - k ∧ v17 = .int .i64 (k : Int) ∧ k ≤ path.length ∧ l ++ (downL last k (path.drop k) ++ upL path bub last path.length) = R ∧ l.length = k ∧ SW w wr P last v7 l)
  case atStart => exact ⟨0, [], rfl, rfl, Nat.zero_le _, HR.out, rfl, X.out⟩
  case round =>
    clear HR X
    obtain ⟨k, l, hg, rfl, hk, hr, hll, hw⟩ := hrel
    obtain ⟨v, hv⟩ : ∃ v, v = u7 := ⟨_, rfl⟩
    subst hv
    have G := Lib.hid hg
    have HR := Lib.hid hr
    have HLL := Lib.hid hll
    have X := Lib.hid hw
    clear hg hr hll hw
    by_cases hlt : k < path.length
    · have hki : (k : Int) < (path.length : Int) := by omega
      obtain ⟨b, o, rfl, hit⟩ := HS.out.item k hlt
      have HR2 := Lib.hid HR.out
      rw [downL_step last path k hlt] at HR2
      obtain ⟨N, hN⟩ : ∃ N, path[k] = N := ⟨_, rfl⟩
      rw [hN] at hit HR2
      have d0 : wr.cell? ⟨b, o + k * 1, none⟩ = some (.int .i64 N) := kc X.out.bl hit
      rw [Nat.mul_one] at d0
      clear hit hN HR
      obtain ⟨F, hF⟩ : ∃ F, phaseOf last (k : Int) 1 = F := ⟨_, rfl⟩
      have HPH := Lib.hid (fun (w6 : World) (h6 : w6.cell? ⟨P, 0, none⟩ = some (.int .i64 last)) => phase_any (k : Int) 1 last P w6 h6)
      rw [hF] at HPH HR2
      clear hF
      go_wp2_with fail
      refine (HPH.out _ ((Lib.cell_of_heap X.out.d 0).trans rfl)).mono ?_
      rintro e w6 ⟨rfl, hb6⟩
      have Y := Lib.hid (X.out.call hb6)
      clear hb6 X d0
      go_wp2_with (at_builtin; refine wpList_append_own _ rfl (.tmp 22) (.tmp 28) 63 rfl (P + 1) 66 bi zSt 3 24 Tryd.underlying63 hi0 hz0 hz1 hz2 rfl (by decide) v _ _ rfl (Y.out.own.alloc _) ⟨_, 0, none⟩ 1 1 (St.c ⟨N, F, true⟩) rfl rfl (cell_st ⟨N, F, true⟩ _ _) (one_st _) (by unfold maxLen; have := HLL.out; omega) (by have := HLL.out; omega) (al_le Y.out.le _) ?_)
      intro v' w7 hown hgrow _
      have X3 := Lib.hid (Y.out.push _ ⟨N, F, true⟩ hown hgrow)
      clear hown hgrow Y
      go_wp2_with fail
      go_roundg (path.length - (k + 1))
      case measure => have := G.out; omega
      case rel => exact ⟨k + 1, l ++ [⟨N, F, true⟩], rfl, by simp, by omega, by rw [List.append_assoc]; exact HR2.out, by have := HLL.out; simp [this], X3.out⟩
    · have hke := Lib.hid (show k = path.length by omega)
      have HR2 := Lib.hid HR.out
      rw [hke.out, List.drop_length] at HR2
      have HR3 := Lib.hid (show l ++ upL path bub last path.length = R from HR2.out)
      clear HR HR2
      have c0 : wr.cell? ⟨P, 0, none⟩ = some (.int .i64 last) := (Lib.cell_of_heap X.out.d 0).trans rfl
      go_upto_region 10 with fail
      clear c0
      go_loopg [7, 10] path.length (fun g v7 v10 wz => ∃ (x : Int) (l2 : List St), v10 = .int .i64 x ∧ x + 1 = (g : Int) ∧ g ≤ path.length ∧ l2 ++ upL path bub last g = R ∧ l2.length ≤ 90 - g ∧ SW w wz P last v7 l2)
      case atStart => exact ⟨last, l, rfl, by have := HLA.out; omega, Nat.le_refl _, HR3.out, by have := HLL.out; omega, X.out⟩
      case round =>
        clear HR3 X HLL G
        obtain ⟨x, l2, rfl, hx1, hgl, hr, hll, hw⟩ := hrel
        obtain ⟨v, hv⟩ : ∃ v, v = u7 := ⟨_, rfl⟩
        subst hv
        have HR := Lib.hid hr
        have HLL := Lib.hid hll
        have Y := Lib.hid hw
        clear hr hll hw
        have c0 : wr.cell? ⟨P, 0, none⟩ = some (.int .i64 last) := (Lib.cell_of_heap Y.out.d 0).trans rfl
        by_cases hg0 : gk = 0
        · subst hg0
          obtain rfl : x = -1 := by omega
          have hr : l2 = R := by
            have := HR.out
            simpa [upL] using this
          subst hr
          have hle : w.heap.size ≤ P + 1 := by have := HP.out; omega
          go_wp2_with fail
          go_ret
          exact ⟨_, rfl, own_lower Y.out.own hle, Y.out.bl⟩
        obtain ⟨m, rfl⟩ : ∃ m, gk = m + 1 := ⟨gk - 1, by omega⟩
        obtain rfl : x = (m : Int) := by omega
        have hm : m < path.length := by omega
        have hmi : (m : Int) < (path.length : Int) := by omega
        obtain ⟨b, o, rfl, hit⟩ := HS.out.item m hm
        have hgd : path[m]?.getD 0 = path[m] := by simp [hm]
        obtain ⟨N, hN⟩ : ∃ N, path[m] = N := ⟨_, rfl⟩
        rw [hN] at hit hgd
        have d0 : wr.cell? ⟨b, o + m * 1, none⟩ = some (.int .i64 N) := kc Y.out.bl hit
        rw [Nat.mul_one] at d0
        have HIT : Hid (w.cell? ⟨b, o + m, none⟩ = some (.int .i64 N)) := Lib.hid (by have := hit; unfold IntAt at this; rwa [Nat.mul_one] at this)
        clear hit hN
        obtain ⟨F, hF⟩ : ∃ F, phaseOf last (m : Int) 3 = F := ⟨_, rfl⟩
        have HPH := Lib.hid (fun (w6 : World) (h6 : w6.cell? ⟨P, 0, none⟩ = some (.int .i64 last)) => phase_any (m : Int) 3 last P w6 h6)
        have HR3 := Lib.hid (show l2 ++ (if bub = true ∨ (m : Int) = last then ⟨path[m]?.getD 0, phaseOf last (m : Int) 3, false⟩ :: upL path bub last m else []) = R from HR.out)
        rw [hF] at HPH HR3
        rw [hgd] at HR3
        clear hF hgd HR
        cases bub with
        | true =>
          have HR4 := Lib.hid HR3.out
          rw [if_pos (.inl rfl)] at HR4
          go_upto_region 12 with fail
          go_region_law (first | (refine step_append_lies _ (by rfl) (.tmp 44) (.tmp 53) 63 (by rfl) (P + 1) 66 bi zSt 3 24 Tryd.underlying63 hi0 hz0 hz1 hz2 (by rfl) (by decide) v l2.length (l2.flatMap St.c) (by rfl) (Z.out.own.alloc _) ⟨w6.heap.size, 0, none⟩ 1 1 (St.c ⟨N, F, false⟩) (by rfl) (by rfl) (cell_st ⟨N, F, false⟩ _ _) (one_st _) (by decide) (by unfold maxLen; have := HLL.out; omega) (by have := HLL.out; omega) (al_le Z.out.le _) _ rfl ?_; intro g cap w7 hown hgrow _ _; have X3 := Lib.hid (Z.out.push _ ⟨N, F, false⟩ hown hgrow); clear hown hgrow) | (go_simp; go_at_call 35; refine calls_gen (Φ := fun wy => Hid (SW w wy P last v l2)) (by first | exact Y | exact Lib.hid (Y.out.call ⟨rfl, rfl, rfl, Nat.le_refl _, fun _ _ => rfl⟩)) ?_; intro w5 Y5; refine (HPH.out _ ((Lib.cell_of_heap Y5.out.d 0).trans rfl)).mono ?_; rintro e w6 ⟨rfl, hb6⟩; have Z := Lib.hid (Y5.out.call hb6); have d6 := kc Z.out.bl HIT.out; clear hb6))
          all_goals
            clear c0 d0 Y
            go_wp2_with fail
            go_roundg m
            case measure => omega
            case rel => exact ⟨(m : Int) - 1, l2 ++ [⟨N, F, false⟩], rfl, by omega, by omega, by rw [List.append_assoc]; exact HR4.out, by have := HLL.out; simp; omega, X3.out⟩
        | false =>
          by_cases hl2 : (m : Int) = last
          · have HR4 := Lib.hid HR3.out
            rw [if_pos (.inr hl2)] at HR4
            subst hl2
            go_upto_region 12 with fail
            go_region_law (first | (refine step_append_lies _ (by rfl) (.tmp 44) (.tmp 53) 63 (by rfl) (P + 1) 66 bi zSt 3 24 Tryd.underlying63 hi0 hz0 hz1 hz2 (by rfl) (by decide) v l2.length (l2.flatMap St.c) (by rfl) (Z.out.own.alloc _) ⟨w6.heap.size, 0, none⟩ 1 1 (St.c ⟨N, F, false⟩) (by rfl) (by rfl) (cell_st ⟨N, F, false⟩ _ _) (one_st _) (by decide) (by unfold maxLen; have := HLL.out; omega) (by have := HLL.out; omega) (al_le Z.out.le _) _ rfl ?_; intro g cap w7 hown hgrow _ _; have X3 := Lib.hid (Z.out.push _ ⟨N, F, false⟩ hown hgrow); clear hown hgrow) | (go_simp; go_at_call 35; refine calls_gen (Φ := fun wy => Hid (SW w wy P (m : Int) v l2)) (by first | exact Y | exact Lib.hid (Y.out.call ⟨rfl, rfl, rfl, Nat.le_refl _, fun _ _ => rfl⟩)) ?_; intro w5 Y5; refine (HPH.out _ ((Lib.cell_of_heap Y5.out.d 0).trans rfl)).mono ?_; rintro e w6 ⟨rfl, hb6⟩; have Z := Lib.hid (Y5.out.call hb6); have d6 := kc Z.out.bl HIT.out; clear hb6))
            all_goals
              clear c0 d0 Y
              go_wp2_with fail
              go_roundg m
              case measure => omega
              case rel => exact ⟨(m : Int) - 1, l2 ++ [⟨N, F, false⟩], rfl, by omega, by omega, by rw [List.append_assoc]; exact HR4.out, by have := HLL.out; simp; omega, X3.out⟩
          · have hr : l2 = R := by
              have := HR3.out
              rw [if_neg (by simp [hl2])] at this
              simpa using this
            have hl3 : ((m : Int) == last) = false := by simpa using hl2
            subst hr
            have hle : w.heap.size ≤ P + 1 := by have := HP.out; omega
            go_wp2_with fail
            go_ret
            exact ⟨_, rfl, own_lower Y.out.own hle, Y.out.bl⟩
end Go.Proofs.YtnnckjgafglgeaaDoor
