/- HeapReach, walked. -/
import Derived.Test.YtcnplnnpiobikaaH15
import Derived.Maps.Own
import Derived.Maps.OwnSet
import Derived.Maps.Views
namespace Go.Proofs.Ytcnplnnpiobikaa
open Go.RowKit Go.Maps

theorem sort_mem {l : List Int} {x : Int} : x ∈ sortI l ↔ x ∈ l := by unfold sortI; exact List.mem_mergeSort
theorem sort_nodup {l : List Int} (h : l.Nodup) : (sortI l).Nodup := (List.mergeSort_perm l _).nodup_iff.2 h
theorem sort_len (l : List Int) : (sortI l).length = l.length := by simp [sortI]
theorem sub_len : ∀ (l m : List Int), l.Nodup → (∀ x ∈ l, x ∈ m) → l.length ≤ m.length
  | [], _, _, _ => Nat.zero_le _
  | x :: l, m, hn, hs => by
    have hx : x ∈ m := hs x (by simp)
    rw [List.nodup_cons] at hn
    have := sub_len l (m.erase x) hn.2 (fun y hy => (List.mem_erase_of_ne (fun e => by subst e; exact hn.1 hy)).2 (hs y (List.mem_cons_of_mem _ hy)))
    rw [List.length_erase_of_mem hx] at this
    have := List.length_pos_of_mem hx
    rw [List.length_cons]
    omega
theorem nodup_len {l m : List Int} (h1 : l.Nodup) (h2 : m.Nodup) (h : ∀ x, x ∈ l ↔ x ∈ m) : l.length = m.length :=
  Nat.le_antisymm (sub_len l m h1 (fun x hx => (h x).1 hx)) (sub_len m l h2 (fun x hx => (h x).2 hx))
theorem ask_one {h : List Cl} {roots : List JV} (ha : askErr h roots = 0) {v : JV} (hv : v ∈ roots) : askErr h [v] = 0 := by
  have h1 := (ask_ok ha).2 v hv
  unfold askErr at ha ⊢
  split at ha
  · rename_i h0
    rw [if_pos h0]
    simp [h1]
  · rename_i h0
    exact absurd ha h0
theorem law3 : Keyed Try.prog 3 := int_keyed Try.underlying3
theorem zero3 (w : World) : (zeroValue 3).run Try.prog w = .ok (.int .i64 0) w := by kernel_rfl
def insI (mm : List Int) (x : Int) : List Int := if mm.contains x then mm else mm ++ [x]
theorem insI_mem {mm : List Int} {x y : Int} : y ∈ insI mm x ↔ y ∈ mm ∨ y = x := by
  unfold insI
  split
  · rename_i h
    have h' : x ∈ mm := by simpa using h
    constructor
    · exact .inl
    · rintro (h | rfl)
      · exact h
      · exact h'
  · simp
theorem tight {w : World} {k : TypeId} {R : Value → Option (DataW Unit × List MemPlace)} {b n : Nat} {D : DataW Unit} (h : w.ownsMap Try.prog k R b n D) : w.ownsMap Try.prog k R b (Maps.size D) D := by
  obtain ⟨es, clock, hb, F, hs, rfl⟩ := h
  exact ⟨es, clock, hb, F, by simp [Maps.size, length_sorted], rfl⟩
/-- The map of what was seen. -/
structure MX (w0 wr : World) (mm : List Int) (D : DataW Unit) : Prop where
  map : wr.ownsMap Try.prog 3 (plainElem Try.prog 3) w0.heap.size mm.length D
  at_ : ∀ x, (Lit.int .i64 x).wf = true → D.atKey (.int .i64 x) (.lit (.int .i64 0)) = .lit (.int .i64 (if mm.contains x then 1 else 0))
  has_ : ∀ x, (Lit.int .i64 x).wf = true → has D (.int .i64 x) = mm.contains x
  td : Tidy D
  sz : Maps.size D = mm.length
  nd : mm.Nodup
  bl : Below w0.heap.size w0 wr
theorem MX.put {w0 wr w' : World} {mm : List Int} {D : DataW Unit} (h : MX w0 wr mm D) (x : Int) (hx : (Lit.int .i64 x).wf = true) (hm : w'.ownsMap Try.prog 3 (plainElem Try.prog 3) w0.heap.size (mm.length + 1) (D.put (.int .i64 x) (.lit (.int .i64 1)))) (hg : wr.grownBy w' (some w0.heap.size)) :
    MX w0 w' (insI mm x) (D.put (.int .i64 x) (.lit (.int .i64 1))) := by
  have hk : WideAt.IsKeyLit (.int .i64 x) := trivial
  have hsz : Maps.size (D.put (.int .i64 x) (.lit (.int .i64 1))) = (insI mm x).length := by
    rw [size_put h.td, h.has_ x hx, h.sz]
    unfold insI
    split
    · rfl
    · rw [List.length_append]; rfl
  have hc : ∀ y, (insI mm x).contains y = (mm.contains y || y == x) := fun y => by
    rw [Bool.eq_iff_iff]
    simp [insI_mem]
  refine ⟨hsz ▸ tight hm, fun y hy => ?_, fun y hy => ?_, h.td.put hk _, hsz, ?_, h.bl.grown hg h.bl.size (fun k hk => by cases hk; exact Nat.le_refl _)⟩
  · by_cases e : y = x
    · subst e
      rw [atKey_put_same h.td.isMap hk, if_pos (by rw [hc]; simp)]
    · rw [atKey_put_other (by intro e2; injection e2 with _ e2; exact e e2), h.at_ y hy, hc]
      simp [e]
  · by_cases e : y = x
    · subst e
      rw [has_put_same h.td.isMap hk, hc]; simp
    · rw [has_put_other (by intro e2; injection e2 with _ e2; exact e e2), h.has_ y hy, hc]
      simp [e]
  · unfold insI
    split
    · exact h.nd
    · rename_i e
      have e' : x ∉ mm := by simpa using e
      rw [List.nodup_append]
      exact ⟨h.nd, by simp, fun a ha b hb e2 => by simp at hb; subst hb; exact e' (e2 ▸ ha)⟩
theorem map_below {w w' : World} {k : TypeId} {R : Value → Option (DataW Unit × List MemPlace)} {b n : Nat} {D : DataW Unit} (h : w.ownsMap Try.prog k R b n D) (hb : Below w.heap.size w w') : w'.ownsMap Try.prog k R b n D := by
  have hl := h.lt
  obtain ⟨es, clock, hk, F⟩ := h
  exact ⟨es, clock, (hb.block _ hl).trans hk, F⟩
theorem MX.call {w0 wr w' : World} {mm : List Int} {D : DataW Unit} (h : MX w0 wr mm D) (hb : Below wr.heap.size wr w') : MX w0 w' mm D :=
  ⟨map_below h.map hb, h.at_, h.has_, h.td, h.sz, h.nd, h.bl.trans (Below.le hb h.bl.size)⟩
theorem wf_small {x : Int} (h1 : 0 ≤ x) (h2 : x < 300) : (Lit.int .i64 x).wf = true := by
  have e1 : IntKind.i64.min = -9223372036854775808 := by decide
  have e2 : IntKind.i64.max = 9223372036854775807 := by decide
  simp only [Lit.wf, e1, e2, Bool.and_eq_true, decide_eq_true_eq]
  omega
set_option maxRecDepth 100000 in
set_option maxHeartbeats 16000000 in
theorem law_reach (a : Option Addr) (c : Nat) (h : List Cl) (ra : Option Addr) (rc : Nat) (roots : List JV) (w : World) (hh : HeapAt w (.slice a h.length c) h) (hr : SlR w JvAt 3 (.slice ra roots.length rc) roots) :
    Calls Try.prog 3 #[.slice a h.length c, .slice ra roots.length rc] w fun e w' => e = .returned (.bool true) ∧ Below w.heap.size w w' := by
  have HH := Lib.hid hh
  have HRS := Lib.hid hr
  have HRE := Lib.hid (reach_any a c h ra rc roots w hh hr)
  obtain ⟨q1, q2, q3⟩ := SlR.cap hh
  obtain ⟨r1, r2, r3⟩ := SlR.cap hr
  clear hh hr
  have p8 := call8
  have p9 : ∀ (args : Array Value) (w : World), Sem.run Try.prog (callFunc 9 args) w = .ok (.enter 9 args) w := by intro args w; go_simp
  obtain ⟨R, hR⟩ : ∃ R, reachV h roots = R := ⟨_, rfl⟩
  rw [hR] at HRE
  have HR := Lib.hid hR
  clear hR
  obtain ⟨E, LL⟩ := R
  simp only at HRE
  go_enter Try.func3, Try.ntmps3
  go_wp2_with fail
  refine HRE.out.mono ?_
  clear HRE
  rintro e w3 ⟨v3, rfl, ho3, hb3⟩
  obtain ⟨a3, c3, rfl⟩ := own_shape ho3
  have O3 := Lib.hid (own_int ho3)
  have X3 := Lib.hid hb3
  obtain ⟨l1, l2, l3⟩ := SlR.cap O3.out
  clear ho3 hb3
  go_wp2_with fail
  refine (lives_any w3).mono ?_
  rintro e w4 ⟨rfl, hb4⟩
  have X4 := Lib.hid (X3.out.trans (Below.le hb4 X3.out.size))
  have O4 := Lib.hid (O3.out.mono (fun _ _ _ h => kc hb4 h))
  clear X3 O3 hb4
  by_cases hE0 : askErr h roots = 0
  · have hp : E = 0 ∧ LL = sortI (walkF h roots) := by
      have := HR.out
      unfold reachV at this
      rw [if_pos hE0] at this
      injection this with e1 e2
      exact ⟨e1.symm, e2.symm⟩
    obtain ⟨rfl, hLL⟩ := hp
    obtain ⟨hk1, hk2⟩ := ask_ok hE0
    have HF := Lib.hid hk1.fit
    have HST := Lib.hid (walk_went hk1.fit roots (fun x hx => fits_fit (hk2 x hx))).st
    have HME := Lib.hid (fun n => walk_each hk1.fit roots (fun x hx => fits_fit (hk2 x hx)) n)
    have HS1 := Lib.hid (fun v hv => (walk_went hk1.fit [v] (fun x hx => by rw [List.mem_singleton] at hx; subst hx; exact fits_fit (hk2 _ hv))).st)
    have HA1 := Lib.hid (fun v (hv : v ∈ roots) => ask_one hE0 hv)
    have HLN := Lib.hid hk1.len
    have HLL := Lib.hid hLL
    clear HR hLL hk1 hk2 hE0
    have hmm := @run_makeMap Try.prog
    go_upto_region 5 with fail
    clear hmm
    refine code_gen (Φ := fun wy => Hid (MX w4 wy [] (.map []))) (Lib.hid ⟨World.ownsMap_made _ _ _ _, fun x _ => rfl, fun x _ => rfl, tidy_empty, rfl, List.nodup_nil, (Below.refl _ _).alloc (Nat.le_refl _) _⟩) ?_
    intro w5 X0
    go_upto_region 6 with fail
    go_loopg [37] roots.length (fun g v37 wr => ∃ (k : Nat) (mm : List Int) (D : DataW Unit), g = roots.length - k ∧ k ≤ roots.length ∧ v37 = .int .i64 (k : Int) ∧ MX w4 wr mm D ∧ (∀ n, n ∈ mm ↔ ∃ v ∈ roots.take k, n ∈ walkF h [v]))
    case atStart => exact ⟨0, [], _, rfl, Nat.zero_le _, rfl, X0.out, fun n => by simp⟩
    case round =>
      clear X0
      obtain ⟨k, mm, D, hg, hk, rfl, hx, hmem⟩ := hrel
      have G := Lib.hid hg
      have X := Lib.hid hx
      have HM := Lib.hid hmem
      clear hg hx hmem
      by_cases hlt : k < roots.length
      · have hki : (k : Int) < (roots.length : Int) := by omega
        obtain ⟨b, o, rfl, hq⟩ := HRS.out.item k hlt
        have HTK := Lib.hid (show roots.take (k + 1) = roots.take k ++ [roots[k]] by rw [List.take_add_one, List.getElem?_eq_getElem hlt]; rfl)
        have HV1 := Lib.hid (HS1.out roots[k] (List.getElem_mem hlt))
        have HV2 := Lib.hid (HA1.out roots[k] (List.getElem_mem hlt))
        have hq' := (hq.below X4.out).below X.out.bl
        clear hq
        generalize roots[k] = v at *
        obtain ⟨vk, vn, vs⟩ := v
        obtain ⟨c0, c1, c2⟩ := hq'
        simp only at c0 c1 c2
        obtain ⟨B, hB⟩ : ∃ B, wr.heap.size = B := ⟨_, rfl⟩
        go_upto_region 8 with fail
        refine code_gen (Φ := fun wy => Hid (MX w4 wy mm D) ∧ Hid (wy.heap[B]? = some (.cells #[.int .i64 vk, .int .i64 vn, .string vs] 31 (0, 0)))) ⟨Lib.hid (X.out.call ((Below.refl _ _).alloc (Nat.le_refl _) _)), Lib.hid (alloc_at hB _)⟩ ?_
        rintro w6 ⟨Z, ZB⟩
        clear c0 c1 c2 hB X
        obtain ⟨c0, c1, c2⟩ := cells3 ZB.out
        go_wp2_with fail
        have HRE := reach_any a c h (some ⟨w6.heap.size, 0, none⟩) 1 [⟨vk, vn, vs⟩] (w6.alloc (.cells #[.int .i64 vk, .int .i64 vn, .string vs] 31)) (((HH.out.below X4.out).below Z.out.bl).below ((Below.refl _ _).alloc (Nat.le_refl _) _)) (own_jv (own_block (n := 1) (alloc_at rfl _) (by decide) rfl rfl))
        unfold reachV at HRE
        rw [if_pos HV2.out] at HRE
        simp only at HRE
        have HL2 := Lib.hid (show ∀ n, n ∈ sortI (walkF h [⟨vk, vn, vs⟩]) ↔ n ∈ walkF h [⟨vk, vn, vs⟩] from fun n => sort_mem)
        have HL3 := Lib.hid (show (sortI (walkF h [⟨vk, vn, vs⟩])).length ≤ 300 by rw [sort_len]; exact Nat.le_trans HV1.out.len HLN.out)
        generalize sortI (walkF h [⟨vk, vn, vs⟩]) = LK at *
        refine HRE.mono ?_
        clear HRE
        rintro e w7 ⟨kv, rfl, ok7, hb7⟩
        obtain ⟨ka, kc', rfl⟩ := own_shape ok7
        have Z7 := Lib.hid ((Z.out.call ((Below.refl _ _).alloc (Nat.le_refl _) _)).call hb7)
        have hszz : w4.heap.size < (w6.alloc (.cells #[.int .i64 vk, .int .i64 vn, .string vs] 31)).heap.size := Nat.lt_of_lt_of_le Z.out.map.lt (al_le (Nat.le_refl _) _)
        have KN := Lib.hid (show (Value.slice ka LK.length kc').ownBlock ≠ some w4.heap.size from fun e => by have := (ok7.lt _ e).1; omega)
        have OK7 := Lib.hid (own_lower ok7 (Nat.le_of_lt hszz))
        obtain ⟨k1, k2, k3⟩ := SlR.cap (own_int ok7)
        clear ok7 hb7 hszz c0 c1 c2 Z ZB
        go_wp2_with fail
        go_loopg [52] LK.length (fun g v52 wr => ∃ (j : Nat) (m2 : List Int) (D : DataW Unit), g = LK.length - j ∧ j ≤ LK.length ∧ v52 = .int .i64 (j : Int) ∧ MX w4 wr m2 D ∧ wr.ownsRow w4.heap.size 3 1 (.slice ka LK.length kc') LK.length (LK.map nV) ∧ (∀ n, n ∈ m2 ↔ (n ∈ mm ∨ n ∈ LK.take j)))
        case atStart => exact ⟨0, mm, _, rfl, Nat.zero_le _, rfl, Z7.out, OK7.out, fun n => by simp⟩
        case round =>
          clear Z7 OK7
          obtain ⟨j, m2, D2, hg2, hj, rfl, hx2, ho2, hm2⟩ := hrel
          have G2 := Lib.hid hg2
          have X2 := Lib.hid hx2
          have O2 := Lib.hid ho2
          have M2 := Lib.hid hm2
          clear hg2 hx2 ho2 hm2
          by_cases hjl : j < LK.length
          · have hji : (j : Int) < (LK.length : Int) := by omega
            obtain ⟨b3, o3, rfl, hi⟩ := (own_int O2.out).item j hjl
            have x0 : wr.cell? ⟨b3, o3 + j, none⟩ = some (.int .i64 LK[j]) := by have := hi; unfold IntAt at this; rwa [Nat.mul_one] at this
            clear hi
            have HT2 := Lib.hid (show LK.take (j + 1) = LK.take j ++ [LK[j]] by rw [List.take_add_one, List.getElem?_eq_getElem hjl]; rfl)
            have hva := HV1.out.va LK[j] ((HL2.out _).1 (List.getElem_mem hjl))
            have HW := Lib.hid (wf_small hva.1 (by have := HLN.out; omega))
            have HB2 := Lib.hid (show m2.length ≤ 300 by
              have := nodup_bound 300 m2 X2.out.nd (fun n hn => by
                have hN := HLN.out
                rcases (M2.out n).1 hn with h1 | h1
                · obtain ⟨v, hv, hn⟩ := (HM.out n).1 h1
                  have := (HS1.out v (List.mem_of_mem_take hv)).va n hn
                  omega
                · have := HV1.out.va n ((HL2.out _).1 (List.mem_of_mem_take h1))
                  omega)
              omega)
            generalize LK[j] = x at *
            clear hva hji hlt
            go_wp2_with (first | (at_mapUpdate; refine wpList_mapUpdate_own _ rfl _ _ _ 29 rfl 3 3 law3 Try.underlying29 _ w4.heap.size _ D2 rfl X2.out.map (by have := HB2.out; unfold maxLen; omega) _ _ _ rfl rfl (keyOf_int_mk Try.underlying3 HW.out) (.lit (.int .i64 1)) [] (plainElem_int Try.underlying3 (by decide)) ?_))
            intro w8 hm8 hg8
            have X8 := Lib.hid (X2.out.put x HW.out hm8 hg8)
            have O8 := Lib.hid (O2.out.kept hg8 (.inr KN.out))
            clear hm8 hg8 x0 X2 O2 HB2
            go_wp2_with fail
            go_roundg (LK.length - (j + 1))
            case measure => have := G2.out; omega
            case rel => exact ⟨j + 1, _, _, rfl, by omega, by simp, X8.out, O8.out, fun n => by rw [insI_mem, M2.out, HT2.out, List.mem_append, List.mem_singleton, or_assoc]⟩
          · have hje : j = LK.length := by omega
            have hnl : ¬ ((j : Int) < (LK.length : Int)) := by omega
            have M3 := Lib.hid (show ∀ n, n ∈ m2 ↔ ∃ v ∈ roots.take (k + 1), n ∈ walkF h [v] from fun n => by
              rw [M2.out, hje, List.take_length, HL2.out, HM.out, HTK.out]
              simp only [List.mem_append, List.mem_singleton]
              constructor
              · rintro (⟨v, hv, hn⟩ | hn)
                · exact ⟨v, .inl hv, hn⟩
                · exact ⟨_, .inr rfl, hn⟩
              · rintro ⟨v, hv | rfl, hn⟩
                · exact .inl ⟨v, hv, hn⟩
                · exact .inr hn)
            clear hje hjl
            go_wp2_with fail
            go_roundg (roots.length - (k + 1))
            case measure => have := G.out; omega
            case rel => exact ⟨k + 1, m2, D2, rfl, by omega, by simp, X2.out, M3.out⟩
      · have hke : k = roots.length := by omega
        have hnl : ¬ ((k : Int) < (roots.length : Int)) := by omega
        have MM := Lib.hid (show ∀ n, n ∈ mm ↔ n ∈ LL from fun n => by
          rw [HM.out, hke, List.take_length, ← HME.out, HLL.out, sort_mem])
        have ML := Lib.hid (show Maps.size D = LL.length by
          rw [X.out.sz]
          exact nodup_len X.out.nd (by rw [HLL.out]; exact sort_nodup HST.out.nd) MM.out)
        have OL := Lib.hid (O4.out.mono (fun _ _ _ h => kc X.out.bl h))
        clear hke hlt hk G HM
        go_wp2_with fail
        go_loopg [62] LL.length (fun g v62 wy => ∃ i : Nat, g = LL.length - i ∧ i ≤ LL.length ∧ v62 = .int .i64 (i : Int) ∧ Hid (wy = wr))
        case atStart => exact ⟨0, rfl, Nat.zero_le _, rfl, Lib.hid rfl⟩
        case round =>
          obtain ⟨i, hg3, hi3, rfl, hw3⟩ := hrel
          have hw3' := hw3.out
          subst hw3'
          have G3 := Lib.hid hg3
          clear hg3 hw3
          by_cases hil : i < LL.length
          · have hii : (i : Int) < (LL.length : Int) := by omega
            obtain ⟨b3, o3, rfl, hi⟩ := OL.out.item i hil
            have x0 : wr.cell? ⟨b3, o3 + i, none⟩ = some (.int .i64 LL[i]) := by have := hi; unfold IntAt at this; rwa [Nat.mul_one] at this
            clear hi
            have hmL : LL[i] ∈ LL := List.getElem_mem hil
            have hva := HST.out.va LL[i] ((show ∀ y, y ∈ LL → y ∈ walkF h roots from fun y hy => by rw [HLL.out] at hy; exact sort_mem.1 hy) _ hmL)
            have HW := Lib.hid (wf_small hva.1 (by have := HLN.out; omega))
            have HC := (MM.out _).2 hmL
            generalize LL[i] = x at *
            obtain ⟨cc, hrun, hat, _⟩ := X.out.map.lookup_int law3 Try.underlying29 Try.underlying3 (zero3 _) (keyOf_int_mk Try.underlying3 HW.out)
            rw [X.out.at_ x HW.out, if_pos (by simpa using HC)] at hat
            have hc1 : cc = 1 := by injection hat with hat; injection hat with _ hat; exact hat.symm
            subst hc1
            clear hat HC hmL hva
            go_wp2_with fail
            go_roundg (LL.length - (i + 1))
            case measure => have := G3.out; omega
            case rel => exact ⟨i + 1, rfl, by omega, by simp, Lib.hid rfl⟩
          · have hnl : ¬ ((i : Int) < (LL.length : Int)) := by omega
            clear hil
            go_wp2_with (first | (at_len; refine wpList_len_own _ rfl _ 29 rfl 3 3 Try.underlying29 _ w4.heap.size _ D rfl X.out.map ?_; rw [ML.out]; revert G3))
            intro G3
            go_wp2_with fail
            go_ret
            exact ⟨rfl, X4.out.trans (Below.le X.out.bl X4.out.size)⟩
  · have hp : E ≠ 0 ∧ LL = [] := by
      have := HR.out
      unfold reachV at this
      rw [if_neg hE0] at this
      injection this with e1 e2
      exact ⟨fun e => hE0 (e1.trans e), e2.symm⟩
    obtain ⟨hEn, rfl⟩ := hp
    have hEb : (E == 0) = false := by simpa using hEn
    clear hE0 HR
    go_wp2_with fail
    refine (lives_any w4).mono ?_
    rintro e w5 ⟨rfl, hb5⟩
    have X5 := Lib.hid (X4.out.trans (Below.le hb5 X4.out.size))
    clear hb5
    go_wp2_with fail
    go_ret
    exact ⟨rfl, X5.out⟩
end Go.Proofs.Ytcnplnnpiobikaa
