/- The contracts of slices.Clone over entries, trail.here, bare, origin, clean, Check's closures. -/
import Derived.Test.YtjcejijdeohkgaaGreatDoorW28
import Derived.Test.YtjcejijdeohkgaaGreatDoorME
namespace Go.Proofs.YtjcejijdeohkgaaGreatDoor
open Go.RowKit

def En.c (e : En) : List Value := [.string (bs e.url), .string (bs e.state), .int .i64 e.doc]
def En.v (e : En) : Value := .agg #[.string (bs e.url), .string (bs e.state), .int .i64 e.doc]
theorem En.len : ∀ e : En, (En.c e).length = 3 := fun _ => rfl
/-- An entry's cells. -/
structure EnB (w : World) (b x : Nat) (e : En) : Prop where
  c0 : w.cell? ⟨b, x, none⟩ = some (.string (bs e.url))
  c1 : w.cell? ⟨b, x + 1, none⟩ = some (.string (bs e.state))
  c2 : w.cell? ⟨b, x + 2, none⟩ = some (.int .i64 e.doc)
theorem EnB.below {w w' : World} {b x : Nat} {e : En} (h : EnB w b x e) (hb : Below w.heap.size w w') : EnB w' b x e := ⟨kc hb h.c0, kc hb h.c1, kc hb h.c2⟩
theorem slE_below {w w' : World} {v : Value} {l : List En} (h : SlR w EnB 3 v l) (hb : Below w.heap.size w w') : SlR w' EnB 3 v l := h.mono (fun _ _ _ h => h.below hb)
theorem slE_sl {w : World} {v : Value} {l : List En} (h : SlR w EnB 3 v l) : Sl w En.c 3 v l := by
  obtain ⟨a, c, h1, h2, h3, h4⟩ := h
  refine ⟨a, c, h1, h2, h3, fun h0 => ?_⟩
  obtain ⟨b, o, h5, h6⟩ := h4 h0
  refine ⟨b, o, h5, cell_lt (h6 0 h0).c0, fun k hk i hi => ?_⟩
  obtain ⟨c0, c1, c2⟩ := h6 k hk
  match i, hi with
  | 0, _ => exact c0
  | 1, _ => exact c1
  | 2, _ => exact c2
theorem own_slE {w : World} {B : Nat} {v : Value} {l : List En} (h : w.ownsRow B 67 3 v l.length (l.flatMap En.c)) : SlR w EnB 3 v l := by
  obtain ⟨a, c, e1, e2, e3, e4⟩ := Own.sl (enc := En.c) (s := 3) En.len h
  refine ⟨a, c, e1, e2, e3, fun h0 => ?_⟩
  obtain ⟨b, o, e5, _, e6⟩ := e4 h0
  refine ⟨b, o, e5, fun k hk => ⟨?_, ?_, ?_⟩⟩
  · exact e6 k hk 0 (by decide)
  · exact e6 k hk 1 (by decide)
  · exact e6 k hk 2 (by decide)
def zEn : Value := .agg #[.string ⟨#[]⟩, .string ⟨#[]⟩, .int .i64 0]
theorem en_info : (Tryz.prog.info? 67).map (fun i => (i.zero, i.size, i.bytes)) = some (some zEn, 3, 40) := by kernel_rfl
theorem one_ens (ls : List En) : ∀ u ∈ ls.flatMap En.c, u.oneCell' = true := by
  intro u hu
  obtain ⟨l, _, h⟩ := List.mem_flatMap.1 hu
  simp only [En.c, List.mem_cons, List.not_mem_nil, or_false] at h
  rcases h with rfl | rfl | rfl
  all_goals rfl
set_option maxRecDepth 100000 in
set_option maxHeartbeats 4000000 in
theorem cloneE_any (a : Option Addr) (c : Nat) (l : List En) (w : World) (h : SlR w EnB 3 (.slice a l.length c) l) (hl : l.length ≤ 1048576) :
    Calls Tryz.prog 79 #[.slice a l.length c] w fun e w' => ∃ v', e = .returned v' ∧ w'.ownsRow w.heap.size 67 3 v' l.length (l.flatMap En.c) ∧ Below w.heap.size w w' := by
  obtain ⟨i0, hi0, hz0, hz1, hz2⟩ := info_parts en_info
  have q := fun (w : World) (a : Option Addr) (n c n' c' : Nat) => Lib.run_eql_slice_nil w _ _ a n c n' c' Tryz.underlying58
  have HS := Lib.hid h
  clear h
  cases a with
  | none =>
    have h0 : l = [] := HS.out.none_nil
    subst h0
    go_enter Tryz.func79, Tryz.ntmps79
    go_wp2_with fail
    go_ret
    exact ⟨_, rfl, World.ownsRow_nil _ _ _ _, Below.refl _ _⟩
  | some ad =>
    go_enter Tryz.func79, Tryz.ntmps79
    have hnews : ∀ j u, (l.flatMap En.c)[j]? = some u → w.cell? (ad.add j) = some u := by
      by_cases h : l = []
      · subst h; intro j u hj; simp at hj
      · obtain ⟨b, o, e⟩ := (slE_sl HS.out).some_of h
        injection e with e
        subst e
        exact Sl.flat En.len (by decide) (slE_sl HS.out)
    have HN := Lib.hid hnews
    clear hnews
    go_wp2_with (at_builtin; refine wpList_append_own _ rfl _ _ 58 rfl w.heap.size 67 i0 zEn 3 40 Tryz.underlying58 hi0 hz0 hz1 hz2 rfl (by decide) _ _ _ rfl (World.ownsRow_made w #[] 0 (Nat.le_refl _) (Nat.zero_le _) rfl) ad l.length c (l.flatMap En.c) rfl (flat_len En.c 3 En.len l) (fun j u hj => Lib.cell?_alloc_some _ (HN.out j u hj)) (one_ens l) (by unfold maxLen; omega) (by omega) (by simp) ?_)
    intro v' w1 hown hgrow _
    have X : Hid (w1.ownsRow w.heap.size 67 3 v' l.length (l.flatMap En.c)) := Lib.hid (by simpa using hown)
    have B : Hid (Below w.heap.size w w1) := Lib.hid (((Below.refl _ w).alloc (Nat.le_refl _) _).grown hgrow (by simp) (by intro k hk; simp [Value.ownBlock] at hk; omega))
    clear hown hgrow
    go_wp2_with fail
    go_ret
    exact ⟨v', rfl, X.out, B.out⟩
theorem here_get {t : Tr} {k : Nat} (hk : k < t.l.length) (hp : t.pos = k) : hereE t = t.l[k] := by
  unfold hereE
  have : t.pos.toNat = k := by omega
  rw [this, List.getD_eq_getElem?_getD, List.getElem?_eq_getElem hk]
  rfl
set_option maxRecDepth 100000 in
set_option maxHeartbeats 4000000 in
theorem here_any (a : Option Addr) (c : Nat) (t : Tr) (w : World) (h : SlR w EnB 3 (.slice a t.l.length c) t.l) (hp : 0 ≤ t.pos ∧ t.pos < t.l.length) :
    Calls Tryz.prog 74 #[.agg #[.slice a t.l.length c, .int .i64 t.pos]] w fun e w' => e = .returned (hereE t).v ∧ Below w.heap.size w w' := by
  obtain ⟨l, pos⟩ := t
  simp only at h hp ⊢
  obtain ⟨k, rfl⟩ : ∃ k : Nat, pos = (k : Int) := ⟨pos.toNat, by omega⟩
  have hk : k < l.length := by omega
  have hki : (k : Int) < (l.length : Int) := by omega
  have HG := Lib.hid (here_get (t := ⟨l, (k : Int)⟩) hk rfl)
  obtain ⟨b, o, rfl, he⟩ := h.item k hk
  rw [HG.out]
  generalize l[k] = E at *
  obtain ⟨c0, c1, c2⟩ := he
  clear h hp HG
  obtain ⟨A, hA⟩ : ∃ A, w.heap.size = A := ⟨_, rfl⟩
  go_enter Tryz.func74, Tryz.ntmps74
  go_upto_region 1 with fail
  have L2 := Loc.start2 (w := w) (.cells #[.slice (some ⟨b, o, none⟩) l.length c, .int .i64 (k : Int)] 60) (.cells #[.string ⟨#[]⟩, .string ⟨#[]⟩, .int .i64 0] 67)
  have k0 := L2.k0
  have k1 := L2.k1
  rw [hA] at k0 k1
  refine code_gen (Φ := fun wy => Hid (Below w.heap.size w wy) ∧ Hid (wy.heap[A]? = some (.cells #[.slice (some ⟨b, o, none⟩) l.length c, .int .i64 (k : Int)] 60 (0, 0))) ∧ Hid (wy.heap[A + 1]? = some (.cells #[.string ⟨#[]⟩, .string ⟨#[]⟩, .int .i64 0] 67 (0, 0)))) ⟨Lib.hid L2.bl, Lib.hid k0, Lib.hid k1⟩ ?_
  clear L2 k0 k1
  rintro w1 ⟨X, A0, A1⟩
  have x0 := kc X.out c0
  have x1 := kc X.out c1
  have x2 := kc X.out c2
  obtain ⟨d0, d1⟩ := cells2 A0.out
  obtain ⟨e0, e1, e2⟩ := cells3 A1.out
  have f0 := Lib.frozen_of_heap A1.out 0
  have f1 := Lib.frozen_of_heap A1.out 1
  have f2 := Lib.frozen_of_heap A1.out 2
  have HA := Lib.hid (show w.heap.size ≤ A + 1 by omega)
  clear c0 c1 c2 hA
  go_wp2_with fail
  have EB := Lib.hid (set_heap (set_heap (set_heap A1.out 0 (.string (bs E.url)) (by simp)) 1 (.string (bs E.state)) (by simp)) 2 (.int .i64 E.doc) (by simp))
  have XB := Lib.hid (((X.out.setCell (p := ⟨A + 1, 0, none⟩) HA.out (.string (bs E.url))).setCell (p := ⟨A + 1, 1, none⟩) HA.out (.string (bs E.state))).setCell (p := ⟨A + 1, 2, none⟩) HA.out (.int .i64 E.doc))
  obtain ⟨g0, g1, g2⟩ := cells3 EB.out
  refine bodyPost_ret (v := .agg #[.string (bs E.url), .string (bs E.state), .int .i64 E.doc]) (by simp [results, Tryz.results74, go_sem, g0, g1, g2]) rfl ?_
  exact ⟨rfl, XB.out⟩
theorem call23' (args : Array Value) (w : World) : Sem.run Tryz.prog (callFunc 23 args) w = .ok (.enter 23 args) w := by go_simp
set_option maxRecDepth 100000 in
set_option maxHeartbeats 1000000 in
theorem bare_any (s : Bs) (w : World) (hs : s.length < 9223372036854775807) : Calls Tryz.prog 75 #[.string (bs s)] w fun e w' => e = .returned (.string (bs (frontC 35 s))) ∧ Below w.heap.size w w' := by
  have p24 := call24
  have HC := Lib.hid (cut_any 35 s w hs)
  go_enter Tryz.func75, Tryz.ntmps75
  go_wp2_with fail
  refine HC.out.mono ?_
  rintro e w1 ⟨rfl, q, rfl⟩
  have X := Lib.hid (below_drewN (Below.refl w.heap.size w) q)
  go_wp2_with fail
  go_ret
  exact ⟨rfl, X.out⟩
set_option maxRecDepth 100000 in
set_option maxHeartbeats 1000000 in
theorem orgT_any (s : Bs) (w : World) (hT : TB w) : Calls Tryz.prog 111 #[.string (bs s)] w fun e w' => e = .returned (.string (bs (orgT s))) ∧ Below w.heap.size w w' := by
  have p23 := call23'
  have HC := Lib.hid (org_any s w hT)
  unfold orgT
  generalize orgR s = R at *
  go_enter Tryz.func111, Tryz.ntmps111
  go_wp2_with fail
  refine HC.out.mono ?_
  rintro e w1 ⟨rfl, hb⟩
  have X := Lib.hid hb
  clear hb
  go_wp2_with fail
  go_ret
  exact ⟨rfl, X.out⟩
theorem bs_neq {a b : Bs} (h : ¬ a = b) : ((bs a).toList == (bs b).toList) = false := by
  rw [Lib.toList_data, Lib.toList_data, bs_list, bs_list, beq_eq_false_iff_ne]
  exact h
set_option maxRecDepth 100000 in
set_option maxHeartbeats 1000000 in
theorem clean_any83 (s : Bs) (w : World) (hT : TB w) : Calls Tryz.prog 83 #[.string (bs s)] w fun e w' => e = .returned (.bool (cleanS s)) ∧ Below w.heap.size w w' := by
  have p19 := call19
  have HC := Lib.hid (res_any s s w hT)
  obtain ⟨R, hR⟩ : ∃ R, cleanS s = R := ⟨_, rfl⟩
  rw [hR]
  unfold cleanS at hR
  generalize resR s s = Q at *
  obtain ⟨u, e0⟩ := Q
  have HR := Lib.hid (show (decide (u = s) && decide (e0 = 0)) = R by rw [← hR]; exact Bool.eq_iff_iff.2 (by simp))
  clear hR
  go_enter Tryz.func83, Tryz.ntmps83
  go_wp2_with fail
  refine HC.out.mono ?_
  rintro e w1 ⟨rfl, hb⟩
  have X := Lib.hid hb
  clear hb HC
  by_cases h0 : e0 = 0
  · subst h0
    by_cases hu : u = s
    · subst hu
      have hr : R = true := by rw [← HR.out]; simp
      subst hr
      clear HR
      go_wp2_with fail
      go_ret
      exact ⟨rfl, X.out⟩
    · have hub := bs_neq hu
      have hr : R = false := by rw [← HR.out]; simp [hu]
      subst hr
      clear HR hu
      go_wp2_with fail
      go_ret
      exact ⟨rfl, X.out⟩
  · have heb : (e0 == 0) = false := by simpa using h0
    have hr : R = false := by rw [← HR.out]; simp [h0]
    subst hr
    clear HR h0
    go_wp2_with fail
    go_ret
    exact ⟨rfl, X.out⟩
theorem call83 (args : Array Value) (w : World) : Sem.run Tryz.prog (callFunc 83 args) w = .ok (.enter 83 args) w := by go_simp
theorem call81 (args : Array Value) (w : World) : Sem.run Tryz.prog (callFunc 81 args) w = .ok (.enter 81 args) w := by go_simp
theorem call82 (args : Array Value) (w : World) : Sem.run Tryz.prog (callFunc 82 args) w = .ok (.enter 82 args) w := by go_simp
set_option maxRecDepth 100000 in
set_option maxHeartbeats 1000000 in
theorem long_any (e0 : En) (w : World) : Calls Tryz.prog 81 #[e0.v] w fun e w' => e = .returned (.bool (decide (2000 < e0.state.length))) ∧ Below w.heap.size w w' := by
  obtain ⟨url, st, doc⟩ := e0
  simp only [En.v]
  have hz : (bs st).size = st.length := bs_size st
  by_cases h : 2000 < st.length
  · have hi : (2000 : Int) < ((bs st).size : Int) := by omega
    rw [decide_eq_true h]
    clear h hz
    go_enter Tryz.func81, Tryz.ntmps81
    go_wp2_with fail
    go_ret
    exact ⟨rfl, (Below.refl _ _).alloc (Nat.le_refl _) _⟩
  · have hi : ¬ ((2000 : Int) < ((bs st).size : Int)) := by omega
    rw [decide_eq_false h]
    clear h hz
    go_enter Tryz.func81, Tryz.ntmps81
    go_wp2_with fail
    go_ret
    exact ⟨rfl, (Below.refl _ _).alloc (Nat.le_refl _) _⟩
set_option maxRecDepth 100000 in
set_option maxHeartbeats 1000000 in
theorem foul_any (e0 : En) (w : World) (hT : TB w) : Calls Tryz.prog 82 #[e0.v] w fun e w' => e = .returned (.bool (!cleanS e0.url)) ∧ Below w.heap.size w w' := by
  have p83 := call83
  obtain ⟨url, st, doc⟩ := e0
  simp only [En.v]
  have HC := Lib.hid (fun o => clean_any83 url (w.alloc o) (hT.below ((Below.refl _ _).alloc (Nat.le_refl _) _)))
  generalize cleanS url = C at *
  go_enter Tryz.func82, Tryz.ntmps82
  go_wp2_with fail
  refine (HC.out _).mono ?_
  rintro e w1 ⟨rfl, hb⟩
  have X := Lib.hid (((Below.refl w.heap.size w).alloc (Nat.le_refl _) (.cells #[.string (bs url), .string (bs st), .int .i64 doc] 67)).trans (Below.le hb (al_le (Nat.le_refl _) _)))
  clear hb HC
  go_wp2_with fail
  go_ret
  exact ⟨rfl, X.out⟩
end Go.Proofs.YtjcejijdeohkgaaGreatDoor
