/- Plain: heaps, and what can be reached. -/
import GoSem.ClaimData
namespace Go.Proofs.Ytcnplnnpiobikaa

structure JV where
  k : Int
  n : Int
  s : ByteArray
structure Cl where
  kind : Int
  names : List ByteArray
  vals : List JV
def refV (v : JV) : Int := if v.k = 4 then v.n else -1
def kids (h : List Cl) (n : Int) : List JV := ((h[n.toNat]?).map Cl.vals).getD []
def comeF (h : List Cl) : Nat → List Int → JV → List Int
  | 0, all, _ => all
  | f + 1, all, v => if refV v < 0 ∨ refV v ∈ all then all else (kids h (refV v)).foldl (comeF h f) (all ++ [refV v])
def walkF (h : List Cl) (roots : List JV) : List Int := roots.foldl (comeF h (h.length + 1)) []
/-- A place of the heap, or none. -/
def Fit (h : List Cl) (v : JV) : Prop := refV v < (h.length : Int)
def AllFit (h : List Cl) : Prop := ∀ n, ∀ v ∈ kids h n, Fit h v
structure St (h : List Cl) (all : List Int) : Prop where
  nd : all.Nodup
  va : ∀ n ∈ all, 0 ≤ n ∧ n < (h.length : Int)
theorem nodup_bound : ∀ (n : Nat) (l : List Int), l.Nodup → (∀ x ∈ l, 0 ≤ x ∧ x < (n : Int)) → l.length ≤ n
  | 0, l, _, h => by
    cases l with
    | nil => simp
    | cons x l =>
      have := h x (by simp)
      omega
  | n + 1, l, hn, h => by
    by_cases hm : (n : Int) ∈ l
    · have h1 := List.length_erase_of_mem hm
      have h2 := nodup_bound n (l.erase (n : Int)) (hn.erase _) (fun x hx => by
        have hx2 := (hn.mem_erase_iff).1 hx
        have := h x hx2.2
        have := hx2.1
        omega)
      omega
    · have := nodup_bound n l hn (fun x hx => by
        have := h x hx
        have : x ≠ (n : Int) := fun e => hm (e ▸ hx)
        omega)
      omega
theorem St.len {h : List Cl} {all : List Int} (s : St h all) : all.length ≤ h.length := nodup_bound h.length all s.nd s.va
/-- What a walk on leaves. -/
structure Went (h : List Cl) (all r : List Int) (vs : List JV) : Prop where
  pre : ∃ t, r = all ++ t
  st : St h r
  has : ∀ v ∈ vs, refV v < 0 ∨ refV v ∈ r
  clo : ∀ n ∈ r, n ∉ all → ∀ x ∈ kids h n, refV x < 0 ∨ refV x ∈ r
theorem Went.nil {h : List Cl} {all : List Int} (s : St h all) : Went h all all [] := ⟨⟨[], by simp⟩, s, (fun v hv => by cases hv), fun n hn hm => absurd hn hm⟩
theorem Went.cons {h : List Cl} {all r1 r2 : List Int} {v : JV} {vs : List JV} (h1 : Went h all r1 [v]) (h2 : Went h r1 r2 vs) : Went h all r2 (v :: vs) := by
  obtain ⟨t1, e1⟩ := h1.pre
  obtain ⟨t2, e2⟩ := h2.pre
  have sub : ∀ n, n ∈ r1 → n ∈ r2 := fun n hn => by rw [e2]; exact List.mem_append_left _ hn
  refine ⟨⟨t1 ++ t2, by rw [e2, e1, List.append_assoc]⟩, h2.st, fun x hx => ?_, fun n hn hm x hx => ?_⟩
  · rcases List.mem_cons.1 hx with rfl | hx
    · rcases h1.has x (by simp) with h | h
      · exact .inl h
      · exact .inr (sub _ h)
    · exact h2.has x hx
  · by_cases h3 : n ∈ r1
    · rcases h1.clo n h3 hm x hx with h | h
      · exact .inl h
      · exact .inr (sub _ h)
    · exact h2.clo n hn h3 x hx
theorem Went.length {h : List Cl} {all r : List Int} {vs : List JV} (w : Went h all r vs) : all.length ≤ r.length := by
  obtain ⟨t, e⟩ := w.pre
  rw [e, List.length_append]
  omega
theorem come_went {h : List Cl} (hf : AllFit h) : ∀ (f : Nat) (all : List Int) (v : JV), h.length + 1 ≤ f + all.length → St h all → Fit h v → Went h all (comeF h f all v) [v]
  | 0, all, v, hl, s, _ => by have := s.len; omega
  | f + 1, all, v, hl, s, hv => by
    unfold comeF
    by_cases hc : refV v < 0 ∨ refV v ∈ all
    · rw [if_pos hc]
      exact ⟨⟨[], by simp⟩, s, (fun x hx => by rw [List.mem_singleton] at hx; subst hx; exact hc), fun n hn hm => absurd hn hm⟩
    · rw [if_neg hc]
      have hc1 : 0 ≤ refV v := by
        rcases Int.lt_or_le (refV v) 0 with h' | h'
        · exact absurd (.inl h') hc
        · exact h'
      have hc2 : refV v ∉ all := fun h' => hc (.inr h')
      have s1 : St h (all ++ [refV v]) := ⟨by
        rw [List.nodup_append]
        refine ⟨s.nd, by simp, fun a ha b hb => ?_⟩
        rw [List.mem_singleton] at hb
        subst hb
        exact fun e => hc2 (e ▸ ha), fun n hn => by
        rcases List.mem_append.1 hn with hn | hn
        · exact s.va n hn
        · rw [List.mem_singleton] at hn
          subst hn
          exact ⟨hc1, hv⟩⟩
      have fold : ∀ (vs : List JV) (a : List Int), (∀ x ∈ vs, Fit h x) → St h a → h.length + 1 ≤ f + a.length → Went h a (vs.foldl (comeF h f) a) vs := by
        intro vs
        induction vs with
        | nil => intro a _ s _; exact Went.nil s
        | cons x vs ih =>
          intro a hx s hl
          have w1 := come_went hf f a x hl s (hx x (by simp))
          exact w1.cons (ih (comeF h f a x) (fun y hy => hx y (List.mem_cons_of_mem _ hy)) w1.st (by have := w1.length; omega))
      have w := fold (kids h (refV v)) (all ++ [refV v]) (fun x hx => hf _ x hx) s1 (by rw [List.length_append]; simp only [List.length_cons, List.length_nil]; omega)
      obtain ⟨t, e⟩ := w.pre
      have hin : refV v ∈ (kids h (refV v)).foldl (comeF h f) (all ++ [refV v]) := by rw [e]; simp
      refine ⟨⟨refV v :: t, by rw [e]; simp⟩, w.st, fun x hx => ?_, fun n hn hm x hx => ?_⟩
      · rw [List.mem_singleton] at hx
        subst hx
        exact .inr hin
      · by_cases hnv : n = refV v
        · subst hnv
          exact w.has x hx
        · exact w.clo n hn (fun h' => by
            rcases List.mem_append.1 h' with h' | h'
            · exact hm h'
            · rw [List.mem_singleton] at h'; exact hnv h') x hx
theorem fold_went {h : List Cl} (hf : AllFit h) (f : Nat) : ∀ (vs : List JV) (a : List Int), (∀ x ∈ vs, Fit h x) → St h a → h.length + 1 ≤ f + a.length → Went h a (vs.foldl (comeF h f) a) vs
  | [], a, _, s, _ => Went.nil s
  | x :: vs, a, hx, s, hl => by
    have w1 := come_went hf f a x hl s (hx x (by simp))
    exact w1.cons (fold_went hf f vs (comeF h f a x) (fun y hy => hx y (List.mem_cons_of_mem _ hy)) w1.st (by have := w1.length; omega))
theorem walk_went {h : List Cl} (hf : AllFit h) (roots : List JV) (hr : ∀ x ∈ roots, Fit h x) : Went h [] (walkF h roots) roots :=
  fold_went hf _ roots [] hr ⟨List.nodup_nil, fun n hn => by cases hn⟩ (by simp)
/-- Nothing is reached but what must be. -/
theorem come_least {h : List Cl} (T : Int → Prop) (hT : ∀ n, T n → ∀ x ∈ kids h n, refV x < 0 ∨ T (refV x)) : ∀ (f : Nat) (all : List Int) (v : JV), (∀ n ∈ all, T n) → (refV v < 0 ∨ T (refV v)) → ∀ n ∈ comeF h f all v, T n
  | 0, all, v, ha, _ => ha
  | f + 1, all, v, ha, hv => by
    unfold comeF
    by_cases hc : refV v < 0 ∨ refV v ∈ all
    · rw [if_pos hc]; exact ha
    · rw [if_neg hc]
      have hv2 : T (refV v) := hv.resolve_left (fun h' => hc (.inl h'))
      have fold : ∀ (vs : List JV) (a : List Int), (∀ x ∈ vs, refV x < 0 ∨ T (refV x)) → (∀ n ∈ a, T n) → ∀ n ∈ vs.foldl (comeF h f) a, T n := by
        intro vs
        induction vs with
        | nil => intro a _ h' ; exact h'
        | cons x vs ih =>
          intro a hx h'
          exact ih _ (fun y hy => hx y (List.mem_cons_of_mem _ hy)) (come_least T hT f a x h' (hx x (by simp)))
      exact fold _ _ (hT _ hv2) (fun n hn => by
        rcases List.mem_append.1 hn with hn | hn
        · exact ha n hn
        · rw [List.mem_singleton] at hn; subst hn; exact hv2)
theorem walk_least {h : List Cl} (T : Int → Prop) (hT : ∀ n, T n → ∀ x ∈ kids h n, refV x < 0 ∨ T (refV x)) (f : Nat) : ∀ (vs : List JV) (a : List Int), (∀ x ∈ vs, refV x < 0 ∨ T (refV x)) → (∀ n ∈ a, T n) → ∀ n ∈ vs.foldl (comeF h f) a, T n
  | [], _, _, h => h
  | x :: vs, a, hx, h' => walk_least T hT f vs _ (fun y hy => hx y (List.mem_cons_of_mem _ hy)) (come_least T hT f a x h' (hx x (by simp)))
/-- All together reach just what each one does. -/
theorem walk_each {h : List Cl} (hf : AllFit h) (roots : List JV) (hr : ∀ x ∈ roots, Fit h x) (n : Int) : n ∈ walkF h roots ↔ ∃ v ∈ roots, n ∈ walkF h [v] := by
  have w := walk_went hf roots hr
  constructor
  · intro hn
    refine walk_least (fun m => ∃ v ∈ roots, m ∈ walkF h [v]) (fun m hm x hx => ?_) (h.length + 1) roots [] (fun x hx => ?_) (fun n hn => by cases hn) n hn
    · obtain ⟨v, hv, hm⟩ := hm
      have w1 := walk_went hf [v] (fun y hy => by rw [List.mem_singleton] at hy; subst hy; exact hr _ hv)
      rcases w1.clo m hm (by simp) x hx with h' | h'
      · exact .inl h'
      · exact .inr ⟨v, hv, h'⟩
    · have w1 := walk_went hf [x] (fun y hy => by rw [List.mem_singleton] at hy; subst hy; exact hr _ hx)
      rcases w1.has x (by simp) with h' | h'
      · exact .inl h'
      · exact .inr ⟨x, hx, h'⟩
  · rintro ⟨v, hv, hn⟩
    refine walk_least (fun m => m ∈ walkF h roots) (fun m hm x hx => w.clo m hm (by simp) x hx) (h.length + 1) [v] [] (fun x hx => ?_) (fun n hn => by cases hn) n hn
    rw [List.mem_singleton] at hx
    subst hx
    exact w.has x hv
end Go.Proofs.Ytcnplnnpiobikaa
