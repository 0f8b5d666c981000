/- Plain: heaps that are alike. -/
import Derived.Test.YtcnplnnpiobikaaH18
import Derived.Test.YtcnplnnpiobikaaH16
namespace Go.Proofs.Ytcnplnnpiobikaa

def mvI (ix : Int → Int) (v : JV) : JV := if 0 ≤ refV v then ⟨v.k, ix (refV v), v.s⟩ else v
def pos (L : List Int) (n : Int) : Int := idxP (fun x => x == n) L
theorem ref_four {v : JV} (h : 0 ≤ refV v) : v.k = 4 ∧ refV v = v.n := by
  unfold refV at h ⊢
  split at h
  · rename_i e; exact ⟨e, by rw [if_pos e]⟩
  · omega
theorem ref_mvI {ix : Int → Int} {v : JV} (h : 0 ≤ refV v) : refV (mvI ix v) = ix (refV v) := by
  unfold mvI
  rw [if_pos h]
  have := (ref_four h).1
  simp [refV, this]
theorem mvI_neg {ix : Int → Int} {v : JV} (h : refV v < 0) : mvI ix v = v := by
  unfold mvI
  rw [if_neg (by omega)]
theorem mvI_pos {ix : Int → Int} {v : JV} (h : 0 ≤ refV v) : mvI ix v = ⟨v.k, ix (refV v), v.s⟩ := by
  unfold mvI
  rw [if_pos h]
theorem kids_cell (h : List Cl) (n : Int) : kids h n = (cellAt h n).vals := by
  unfold kids cellAt
  cases h[n.toNat]? <;> rfl
theorem kind_cellAt (h : List Cl) (n : Int) : kindAt h n = (cellAt h n).kind := by
  unfold kindAt cellAt
  cases h[n.toNat]? <;> rfl
/-- Places of h that lie anew in m. -/
structure Iso (h m : List Cl) (T : List Int) (ix : Int → Int) : Prop where
  nd : T.Nodup
  clo : ∀ n ∈ T, ∀ x ∈ kids h n, refV x < 0 ∨ refV x ∈ T
  nn : ∀ n ∈ T, 0 ≤ n ∧ n < (h.length : Int)
  inn : ∀ n ∈ T, 0 ≤ ix n ∧ ix n < (m.length : Int)
  inj : ∀ n ∈ T, ∀ k ∈ T, ix n = ix k → n = k
  cell : ∀ n ∈ T, cellAt m (ix n) = ⟨(cellAt h n).kind, (cellAt h n).names, (cellAt h n).vals.map (mvI ix)⟩
/-- What a walk keeps to. -/
structure Keeps (T all r : List Int) : Prop where
  nd : r.Nodup
  sub : ∀ n ∈ r, n ∈ T
  len : all.length ≤ r.length
theorem iso_kids {h m : List Cl} {T : List Int} {ix : Int → Int} (I : Iso h m T ix) {n : Int} (hn : n ∈ T) : kids m (ix n) = (kids h n).map (mvI ix) := by
  rw [kids_cell, I.cell n hn, kids_cell]
theorem iso_come {h m : List Cl} {T : List Int} {ix : Int → Int} (I : Iso h m T ix) : ∀ (f g : Nat) (all : List Int) (v : JV), T.length < f + all.length → T.length < g + all.length → Keeps T all all → (refV v < 0 ∨ refV v ∈ T) →
    comeF m g (all.map ix) (mvI ix v) = (comeF h f all v).map ix ∧ Keeps T all (comeF h f all v)
  | 0, g, all, v, h1, _, K, _ => by have := sub_len all T K.nd K.sub; omega
  | f + 1, 0, all, v, _, h2, K, _ => by have := sub_len all T K.nd K.sub; omega
  | f + 1, g + 1, all, v, h1, h2, K, hv => by
    unfold comeF
    by_cases hc : refV v < 0 ∨ refV v ∈ all
    · rw [if_pos hc]
      refine ⟨?_, K⟩
      by_cases hn : refV v < 0
      · rw [if_pos (.inl (by rw [mvI_neg hn]; exact hn))]
      · have hm : refV v ∈ all := hc.resolve_left hn
        rw [if_pos (.inr (by rw [ref_mvI (by omega)]; exact List.mem_map.2 ⟨_, hm, rfl⟩))]
    · rw [if_neg hc]
      have hn : ¬ refV v < 0 := fun h' => hc (.inl h')
      have hm : refV v ∉ all := fun h' => hc (.inr h')
      have hT : refV v ∈ T := hv.resolve_left hn
      have e1 : refV (mvI ix v) = ix (refV v) := ref_mvI (by omega)
      have hc2 : ¬ (refV (mvI ix v) < 0 ∨ refV (mvI ix v) ∈ all.map ix) := by
        rw [e1]
        rintro (h' | h')
        · have := (I.inn _ hT).1; omega
        · obtain ⟨k, hk, e⟩ := List.mem_map.1 h'
          exact hm (I.inj k (K.sub k hk) _ hT e ▸ hk)
      rw [if_neg hc2, e1, iso_kids I hT]
      have K1 : Keeps T (all ++ [refV v]) (all ++ [refV v]) := ⟨by
        rw [List.nodup_append]
        refine ⟨K.nd, by simp, fun a ha b hb => ?_⟩
        rw [List.mem_singleton] at hb
        subst hb
        exact fun e => hm (e ▸ ha), fun n hn => by
        rcases List.mem_append.1 hn with hn | hn
        · exact K.sub n hn
        · rw [List.mem_singleton] at hn
          subst hn
          exact hT, Nat.le_refl _⟩
      have fold : ∀ (vs : List JV) (a : List Int), (∀ x ∈ vs, refV x < 0 ∨ refV x ∈ T) → Keeps T a a → T.length < f + a.length → T.length < g + a.length → (vs.map (mvI ix)).foldl (comeF m g) (a.map ix) = (vs.foldl (comeF h f) a).map ix ∧ Keeps T a (vs.foldl (comeF h f) a) := by
        intro vs
        induction vs with
        | nil => intro a _ K _ _; exact ⟨rfl, K⟩
        | cons x vs ih =>
          intro a hx K l1 l2
          obtain ⟨e2, K2⟩ := iso_come I f g a x l1 l2 K (hx x (by simp))
          have hl := K2.len
          obtain ⟨e3, K3⟩ := ih (comeF h f a x) (fun y hy => hx y (List.mem_cons_of_mem _ hy)) ⟨K2.nd, K2.sub, Nat.le_refl _⟩ (by omega) (by omega)
          rw [List.map_cons, List.foldl_cons, List.foldl_cons, e2]
          exact ⟨e3, K3.nd, K3.sub, Nat.le_trans hl K3.len⟩
      obtain ⟨e4, K4⟩ := fold (kids h (refV v)) (all ++ [refV v]) (I.clo _ hT) K1 (by rw [List.length_append]; simp only [List.length_cons, List.length_nil]; omega) (by rw [List.length_append]; simp only [List.length_cons, List.length_nil]; omega)
      rw [List.map_append] at e4
      refine ⟨e4, K4.nd, K4.sub, ?_⟩
      have := K4.len
      rw [List.length_append] at this
      omega
theorem iso_fold {h m : List Cl} {T : List Int} {ix : Int → Int} (I : Iso h m T ix) (f g : Nat) : ∀ (vs : List JV) (a : List Int), (∀ x ∈ vs, refV x < 0 ∨ refV x ∈ T) → Keeps T a a → T.length < f + a.length → T.length < g + a.length → (vs.map (mvI ix)).foldl (comeF m g) (a.map ix) = (vs.foldl (comeF h f) a).map ix ∧ Keeps T a (vs.foldl (comeF h f) a)
  | [], a, _, K, _, _ => ⟨rfl, K⟩
  | x :: vs, a, hx, K, l1, l2 => by
    obtain ⟨e2, K2⟩ := iso_come I f g a x l1 l2 K (hx x (by simp))
    have hl := K2.len
    obtain ⟨e3, K3⟩ := iso_fold I f g vs (comeF h f a x) (fun y hy => hx y (List.mem_cons_of_mem _ hy)) ⟨K2.nd, K2.sub, Nat.le_refl _⟩ (by omega) (by omega)
    rw [List.map_cons, List.foldl_cons, List.foldl_cons, e2]
    exact ⟨e3, K3.nd, K3.sub, Nat.le_trans hl K3.len⟩
theorem nodup_map {T : List Int} {ix : Int → Int} (hn : T.Nodup) (hi : ∀ n ∈ T, ∀ k ∈ T, ix n = ix k → n = k) : (T.map ix).Nodup := by
  unfold List.Nodup at hn ⊢
  rw [List.pairwise_map]
  exact hn.imp_of_mem fun {a b} ha hb hab e => hab (hi a ha b hb e)
theorem iso_walk {h m : List Cl} {T : List Int} {ix : Int → Int} (I : Iso h m T ix) (roots : List JV) (hr : ∀ x ∈ roots, refV x < 0 ∨ refV x ∈ T) :
    walkF m (roots.map (mvI ix)) = (walkF h roots).map ix ∧ (walkF h roots).Nodup ∧ ∀ n ∈ walkF h roots, n ∈ T := by
  have l1 : T.length ≤ h.length := nodup_bound _ T I.nd I.nn
  have l2 : T.length ≤ m.length := by
    have := nodup_bound m.length (T.map ix) (nodup_map I.nd I.inj) (fun x hx => by
      obtain ⟨n, hn, rfl⟩ := List.mem_map.1 hx
      exact I.inn n hn)
    rwa [List.length_map] at this
  obtain ⟨e, K⟩ := iso_fold I (h.length + 1) (m.length + 1) roots [] hr ⟨List.nodup_nil, fun n hn => (by cases hn), Nat.le_refl _⟩ (by simp; omega) (by simp; omega)
  exact ⟨e, K.nd, K.sub⟩
theorem pos_map {T : List Int} {ix : Int → Int} (hi : ∀ n ∈ T, ∀ k ∈ T, ix n = ix k → n = k) {n : Int} (hn : n ∈ T) : ∀ (L : List Int), (∀ x ∈ L, x ∈ T) → pos (L.map ix) (ix n) = pos L n
  | [], _ => rfl
  | x :: L, hs => by
    have ih := pos_map hi hn L (fun y hy => hs y (List.mem_cons_of_mem _ hy))
    unfold pos at ih ⊢
    rw [List.map_cons]
    unfold idxP
    rw [ih]
    have e : (ix x == ix n) = (x == n) := by
      rw [Bool.eq_iff_iff]
      simp only [beq_iff_eq]
      exact ⟨hi x (hs x (by simp)) n hn, fun e => by rw [e]⟩
    rw [e]
theorem moved_mvI {N : Nat} {L : List Int} {v : JV} (h : refV v < (N : Int)) : movedV (toOf N L) v = mvI (pos L) v := by
  unfold movedV mvI
  split
  · rename_i h0
    have hl : (refV v).toNat < N := by omega
    have e : (toOf N L)[(refV v).toNat]?.getD 0 = pos L (refV v) := by
      rw [List.getElem?_eq_getElem (by rw [toOf_len]; exact hl), toOf_get N L _ hl]
      have : ((refV v).toNat : Int) = refV v := by omega
      rw [this]
      rfl
    rw [e]
  · rfl
theorem mvI_mvI {T L : List Int} {ix : Int → Int} (hi : ∀ n ∈ T, ∀ k ∈ T, ix n = ix k → n = k) (h0 : ∀ n ∈ T, 0 ≤ ix n) (hL : ∀ x ∈ L, x ∈ T) {v : JV} (hv : refV v < 0 ∨ refV v ∈ T) : mvI (pos (L.map ix)) (mvI ix v) = mvI (pos L) v := by
  by_cases hn : refV v < 0
  · rw [mvI_neg hn, mvI_neg hn, mvI_neg hn]
  · have hT := hv.resolve_left hn
    have e1 : refV (mvI ix v) = ix (refV v) := ref_mvI (by omega)
    have e2 : mvI (pos (L.map ix)) (mvI ix v) = ⟨(mvI ix v).k, pos (L.map ix) (ix (refV v)), (mvI ix v).s⟩ := by
      rw [mvI_pos (ix := pos (L.map ix)) (by rw [e1]; exact h0 _ hT), e1]
    rw [e2, pos_map hi hT L hL]
    unfold mvI
    rw [if_pos (by omega), if_pos (by omega)]
/-- What is moved of either is one. -/
theorem iso_move {h m : List Cl} {T : List Int} {ix : Int → Int} (I : Iso h m T ix) (roots : List JV) (hr : ∀ x ∈ roots, refV x < 0 ∨ refV x ∈ T) (a1 : askErr h roots = 0) (a2 : askErr m (roots.map (mvI ix)) = 0) :
    moveV m (roots.map (mvI ix)) = moveV h roots := by
  obtain ⟨e, hnd, hsub⟩ := iso_walk I roots hr
  unfold moveV
  rw [if_pos a1, if_pos a2, e]
  have hv : ∀ v : JV, refV v < 0 ∨ refV v ∈ T → movedV (toOf m.length ((walkF h roots).map ix)) (mvI ix v) = movedV (toOf h.length (walkF h roots)) v := by
    intro v hv
    have b1 : refV v < (h.length : Int) := by
      rcases hv with h' | h'
      · omega
      · exact (I.nn _ h').2
    have b2 : refV (mvI ix v) < (m.length : Int) := by
      by_cases hn : refV v < 0
      · rw [mvI_neg hn]; omega
      · rw [ref_mvI (by omega)]; exact (I.inn _ (hv.resolve_left hn)).2
    rw [moved_mvI b1, moved_mvI b2]
    exact mvI_mvI I.inj (fun n hn => (I.inn n hn).1) hsub hv
  congr 1
  · rw [List.map_map]
    refine List.map_congr_left fun n hn => ?_
    have hT := hsub n hn
    show movedC m _ (ix n) = movedC h _ n
    unfold movedC
    rw [I.cell n hT]
    simp only [List.map_map]
    congr 1
    refine List.map_congr_left fun v hv' => ?_
    exact hv v (I.clo n hT v (by rw [kids_cell]; exact hv'))
  · rw [List.map_map]
    exact List.map_congr_left fun v hv' => hv v (hr v hv')
/-- A value of h, where it lies anew. -/
theorem iso_fits {h m : List Cl} {T : List Int} {ix : Int → Int} (I : Iso h m T ix) (hk : ∀ n ∈ T, kindAt h n ≠ 0) {v : JV} (hv : refV v < 0 ∨ refV v ∈ T) (hf : fits h v = true) : fits m (mvI ix v) = true := by
  unfold fits at hf ⊢
  simp only [Bool.and_eq_true, Bool.or_eq_true, decide_eq_true_eq] at hf ⊢
  by_cases hn : refV v < 0
  · rw [mvI_neg hn]
    exact ⟨hf.1, .inl hn⟩
  · have hT := hv.resolve_left hn
    have h4 := (ref_four (by omega : 0 ≤ refV v)).1
    have e1 : refV (mvI ix v) = ix (refV v) := ref_mvI (by omega)
    refine ⟨?_, .inr ⟨by rw [e1]; exact (I.inn _ hT).2, ?_⟩⟩
    · have h5 := hf.1
      unfold mvI
      rw [if_pos (by omega)]
      have h6 := (I.inn _ hT).1
      unfold chk at h5 ⊢
      simp only [h4] at h5 ⊢
      simp at h5 ⊢
      exact ⟨h6, h5.2⟩
    · rw [e1, kind_cellAt, I.cell _ hT]
      have := hk _ hT
      rw [kind_cellAt] at this
      simpa using this
theorem cell_ok_iso {h m : List Cl} {c d : Cl} (hc : cellOk h c = true) (hk : d.kind = c.kind) (hn : d.names = c.names) (hl : d.vals.length = c.vals.length) (hf : ∀ v ∈ d.vals, fits m v = true) : cellOk m d = true := by
  have ht : ∀ n, tailOk h c n = true → tailOk m d n = true := by
    intro n h1
    unfold tailOk at h1 ⊢
    simp only [Bool.and_eq_true, Bool.not_eq_true'] at h1 ⊢
    rw [hn]
    refine ⟨h1.1, h1.2.1, ?_⟩
    rw [List.any_eq_false]
    intro v hv
    simp [hf v hv]
  unfold cellOk at hc ⊢
  rw [hk, hl]
  split at hc
  · rename_i h1
    rw [if_pos h1]
    split at hc
    · cases hc
    · rename_i h2
      rw [if_neg h2]
      exact ht _ hc
  · rename_i h1
    rw [if_neg h1]
    split at hc
    · rename_i h2
      rw [if_pos h2]
      exact ht _ hc
    · rename_i h2
      rw [if_neg h2]
      split at hc
      · rename_i h3
        rw [if_pos h3]
        exact ht _ hc
      · cases hc
theorem check_zero {m : List Cl} (h1 : m.length ≤ 300) (h2 : ∀ c ∈ m, c.vals.length ≤ 200) (h3 : ∀ c ∈ m, cellOk m c = true) : checkErr m = 0 := by
  unfold checkErr
  rw [if_neg (by omega), if_neg, if_neg]
  · rw [Bool.not_eq_true, List.any_eq_false]
    intro c hc
    simp [h3 c hc]
  · rw [Bool.not_eq_true, List.any_eq_false]
    intro c hc
    have := h2 c hc
    simp [tooMany]
    omega
theorem ask_zero {m : List Cl} {roots : List JV} (h1 : checkErr m = 0) (h2 : ∀ v ∈ roots, fits m v = true) : askErr m roots = 0 := by
  unfold askErr
  rw [if_pos h1, if_neg]
  rw [Bool.not_eq_true, List.any_eq_false]
  intro v hv
  simp [h2 v hv]
/-- What is walked to is no free cell. -/
theorem walk_kind {h : List Cl} {roots : List JV} (ha : askErr h roots = 0) : ∀ n ∈ walkF h roots, kindAt h n ≠ 0 := by
  obtain ⟨hk, hr⟩ := ask_ok ha
  have key : ∀ v : JV, fits h v = true → refV v < 0 ∨ kindAt h (refV v) ≠ 0 := by
    intro v hv
    unfold fits at hv
    simp only [Bool.and_eq_true, Bool.or_eq_true, decide_eq_true_eq] at hv
    rcases hv.2 with h' | h'
    · exact .inl h'
    · exact .inr (by simpa using h'.2)
  exact walk_least (fun n => kindAt h n ≠ 0) (fun n _ x hx => by
    obtain ⟨c, hc, hx⟩ := kids_mem hx
    exact key x (cell_fits (hk.cells c hc) x hx)) (h.length + 1) roots [] (fun x hx => key x (hr x hx)) (fun n hn => by cases hn)
theorem cellAt_mem {h : List Cl} {n : Int} (h0 : 0 ≤ n) (h1 : n < (h.length : Int)) : cellAt h n ∈ h := by
  unfold cellAt
  have : n.toNat < h.length := by omega
  rw [List.getElem?_eq_getElem this]
  exact List.getElem_mem this
end Go.Proofs.Ytcnplnnpiobikaa
