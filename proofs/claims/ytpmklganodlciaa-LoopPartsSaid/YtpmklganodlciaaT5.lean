/- slices.Clone over jobs and timers; copied. -/
import Derived.Test.YtpmklganodlciaaT4
import Derived.Lib.SliceRun
namespace Go.Proofs.Ytpmklganodlciaa
open Go.RowKit

theorem Job.len (j : Job) : (Job.c j).length = 7 := rfl
theorem Tim.len (t : Tim) : (Tim.c t).length = 5 := rfl
theorem flat_len {α : Type} (enc : α → List Value) (s : Nat) (he : ∀ x, (enc x).length = s) (l : List α) : (l.flatMap enc).length = l.length * s := by
  induction l with
  | nil => simp
  | cons a l ih => rw [List.flatMap_cons, List.length_append, ih, he, List.length_cons, Nat.succ_mul, Nat.add_comm]
theorem flat_get {α : Type} (enc : α → List Value) (s : Nat) (he : ∀ x, (enc x).length = s) : ∀ (l : List α) (k i : Nat) (h : k < l.length), i < s → (l.flatMap enc)[k * s + i]? = (enc l[k])[i]?
  | a :: l, 0, i, _, hi => by
    rw [List.flatMap_cons, List.getElem?_append_left (by rw [he]; omega)]
    simp
  | a :: l, k + 1, i, h, hi => by
    rw [List.flatMap_cons, List.getElem?_append_right (by rw [he, Nat.succ_mul]; omega)]
    have := flat_get enc s he l k i (by simpa using h) hi
    rw [show (k + 1) * s + i - (enc a).length = k * s + i by rw [he, Nat.succ_mul]; omega, this]
    rfl
/-- The cells of such a slice, one behind the other. -/
theorem Sl.flat {α : Type} {w : World} {enc : α → List Value} {s : Nat} (he : ∀ x, (enc x).length = s) (hs : 0 < s) {b o n c : Nat} {l : List α} (h : Sl w enc s (.slice (some ⟨b, o, none⟩) n c) l) :
    ∀ j u, (l.flatMap enc)[j]? = some u → w.cell? ((⟨b, o, none⟩ : Addr).add j) = some u := by
  intro j u hj
  have hlt : j < l.length * s := by
    have := (List.getElem?_eq_some_iff.1 hj).1
    rwa [flat_len enc s he] at this
  have hk : j / s < l.length := (Nat.div_lt_iff_lt_mul hs).2 hlt
  obtain ⟨a', c', h1, _, _, h4⟩ := h
  injection h1 with h1 _ _
  obtain ⟨b', o', h5, _, h7⟩ := h4 (Nat.lt_of_le_of_lt (Nat.zero_le _) hk)
  rw [← h1] at h5
  injection h5 with h5
  injection h5 with h5 h6 _
  subst h5
  subst h6
  have hjj : j / s * s + j % s = j := by rw [Nat.mul_comm]; exact Nat.div_add_mod j s
  have h8 := h7 (j / s) hk (j % s) (Nat.mod_lt j hs)
  rw [← flat_get enc s he l (j / s) (j % s) hk (Nat.mod_lt j hs), hjj, show o + j / s * s + j % s = o + j by omega] at h8
  have hadd : (⟨b, o, none⟩ : Addr).add j = ⟨b, o + j, none⟩ := by unfold Addr.add; split <;> simp_all
  rw [hadd, h8, hj]
theorem Own.sl {α : Type} {w : World} {enc : α → List Value} {s B : Nat} {e : TypeId} (he : ∀ x, (enc x).length = s) {v : Value} {l : List α} (h : w.ownsRow B e s v l.length (l.flatMap enc)) : Sl w enc s v l := by
  rcases h.2 with ⟨rfl, h0⟩ | ⟨g, cap, cur, rfl, hB, hh, hc, hm, hs, ht⟩
  · have : l = [] := List.eq_nil_of_length_eq_zero h0
    subst this
    exact ⟨none, 0, rfl, Nat.le_refl _, by simp [maxLen], fun h => by simp at h⟩
  · refine ⟨_, cap, rfl, hc, hm, fun _ => ⟨g, 0, rfl, ?_, fun k hk i hi => ?_⟩⟩
    · rcases Nat.lt_or_ge g w.heap.size with h' | h'
      · exact h'
      · simp [Array.getElem?_eq_none h'] at hh
    · have hlt : k * s + i < l.length * s := by
        have : (k + 1) * s ≤ l.length * s := Nat.mul_le_mul_right s hk
        rw [Nat.succ_mul] at this
        omega
      rw [Nat.zero_add, h.cellAt (k * s + i) hlt]
      exact flat_get enc s he l k i hk hi
def zJob : Value := .agg #[.int .i64 0, .int .i64 0, .bool false, .string ⟨#[]⟩, .int .i64 0, .int .i64 0, .string ⟨#[]⟩]
def zTim : Value := .agg #[.int .i64 0, .int .i64 0, .int .i64 0, .int .i64 0, .string ⟨#[]⟩]
theorem job_info : (Try.prog.info? 39).map (fun i => (i.zero, i.size, i.bytes)) = some (some zJob, 7, 72) := by kernel_rfl
theorem tim_info : (Try.prog.info? 49).map (fun i => (i.zero, i.size, i.bytes)) = some (some zTim, 5, 48) := by kernel_rfl
theorem job_one (l : List Job) : ∀ u ∈ l.flatMap Job.c, u.oneCell' = true := by
  intro u hu
  obtain ⟨j, _, hj⟩ := List.mem_flatMap.1 hu
  simp only [Job.c, List.mem_cons, List.not_mem_nil, or_false] at hj
  rcases hj with rfl | rfl | rfl | rfl | rfl | rfl | rfl <;> rfl
theorem tim_one (l : List Tim) : ∀ u ∈ l.flatMap Tim.c, u.oneCell' = true := by
  intro u hu
  obtain ⟨j, _, hj⟩ := List.mem_flatMap.1 hu
  simp only [Tim.c, List.mem_cons, List.not_mem_nil, or_false] at hj
  rcases hj with rfl | rfl | rfl | rfl | rfl <;> rfl
theorem Sl.some_of {α : Type} {w : World} {enc : α → List Value} {s : Nat} {a : Option Addr} {n c : Nat} {l : List α} (h : Sl w enc s (.slice a n c) l) (hl : l ≠ []) : ∃ b o, a = some ⟨b, o, none⟩ := by
  obtain ⟨a', c', h1, _, _, h4⟩ := h
  injection h1 with h1 _ _
  obtain ⟨b', o', h5, _, _⟩ := h4 (List.length_pos_iff.2 hl)
  exact ⟨b', o', h1.trans h5⟩
set_option maxRecDepth 100000 in
set_option maxHeartbeats 4000000 in
theorem cloneJ_any (a : Option Addr) (c : Nat) (l : List Job) (w : World) (h : Sl w Job.c 7 (.slice a l.length c) l) (hl : l.length ≤ 1000) :
    Calls Try.prog 37 #[.slice a l.length c] w fun e w' => ∃ v', e = .returned v' ∧ w'.ownsRow w.heap.size 39 7 v' l.length (l.flatMap Job.c) ∧ Below w.heap.size w w' := by
  obtain ⟨i0, hi0, hz0, hz1, hz2⟩ := info_parts job_info
  have q := fun (w : World) (a : Option Addr) (n c n' c' : Nat) => Lib.run_eql_slice_nil w _ _ a n c n' c' Try.underlying23
  have HS := Lib.hid h
  clear h
  cases a with
  | none =>
    have h0 : l = [] := by
      by_cases h : l = []
      · exact h
      · obtain ⟨b, o, e⟩ := HS.out.some_of h
        cases e
    subst h0
    go_enter Try.func37, Try.ntmps37
    go_wp2_with fail
    go_ret
    exact ⟨_, rfl, World.ownsRow_nil _ _ _ _, Below.refl _ _⟩
  | some ad =>
    go_enter Try.func37, Try.ntmps37
    have hnews : ∀ j u, (l.flatMap Job.c)[j]? = some u → w.cell? (ad.add j) = some u := by
      by_cases h : l = []
      · subst h; intro j u hj; simp at hj
      · obtain ⟨b, o, e⟩ := HS.out.some_of h
        injection e with e
        subst e
        exact Sl.flat Job.len (by decide) HS.out
    have HN := Lib.hid hnews
    clear hnews
    go_wp2_with (at_builtin; refine wpList_append_own _ rfl _ _ 23 rfl w.heap.size 39 i0 zJob 7 72 Try.underlying23 hi0 hz0 hz1 hz2 rfl (by decide) _ _ _ rfl (World.ownsRow_made w #[] 0 (Nat.le_refl _) (Nat.zero_le _) rfl) ad l.length c (l.flatMap Job.c) rfl (flat_len Job.c 7 Job.len l) (fun j u hj => Lib.cell?_alloc_some _ (HN.out j u hj)) (job_one l) (by unfold maxLen; omega) (by omega) (by simp) ?_)
    intro v' w1 hown hgrow _
    have X : Hid (w1.ownsRow w.heap.size 39 7 v' l.length (l.flatMap Job.c)) := Lib.hid (by simpa using hown)
    have B : Hid (Below w.heap.size w w1) := Lib.hid (((Below.refl _ w).alloc (Nat.le_refl _) _).grown hgrow (by simp) (by intro k hk; simp [Value.ownBlock] at hk; omega))
    clear hown hgrow
    go_wp2_with fail
    go_ret
    exact ⟨v', rfl, X.out, B.out⟩
set_option maxRecDepth 100000 in
set_option maxHeartbeats 4000000 in
theorem cloneT_any (a : Option Addr) (c : Nat) (l : List Tim) (w : World) (h : Sl w Tim.c 5 (.slice a l.length c) l) (hl : l.length ≤ 1000) :
    Calls Try.prog 38 #[.slice a l.length c] w fun e w' => ∃ v', e = .returned v' ∧ w'.ownsRow w.heap.size 49 5 v' l.length (l.flatMap Tim.c) ∧ Below w.heap.size w w' := by
  obtain ⟨i0, hi0, hz0, hz1, hz2⟩ := info_parts tim_info
  have q := fun (w : World) (a : Option Addr) (n c n' c' : Nat) => Lib.run_eql_slice_nil w _ _ a n c n' c' Try.underlying24
  have HS := Lib.hid h
  clear h
  cases a with
  | none =>
    have h0 : l = [] := by
      by_cases h : l = []
      · exact h
      · obtain ⟨b, o, e⟩ := HS.out.some_of h
        cases e
    subst h0
    go_enter Try.func38, Try.ntmps38
    go_wp2_with fail
    go_ret
    exact ⟨_, rfl, World.ownsRow_nil _ _ _ _, Below.refl _ _⟩
  | some ad =>
    go_enter Try.func38, Try.ntmps38
    have hnews : ∀ j u, (l.flatMap Tim.c)[j]? = some u → w.cell? (ad.add j) = some u := by
      by_cases h : l = []
      · subst h; intro j u hj; simp at hj
      · obtain ⟨b, o, e⟩ := HS.out.some_of h
        injection e with e
        subst e
        exact Sl.flat Tim.len (by decide) HS.out
    have HN := Lib.hid hnews
    clear hnews
    go_wp2_with (at_builtin; refine wpList_append_own _ rfl _ _ 24 rfl w.heap.size 49 i0 zTim 5 48 Try.underlying24 hi0 hz0 hz1 hz2 rfl (by decide) _ _ _ rfl (World.ownsRow_made w #[] 0 (Nat.le_refl _) (Nat.zero_le _) rfl) ad l.length c (l.flatMap Tim.c) rfl (flat_len Tim.c 5 Tim.len l) (fun j u hj => Lib.cell?_alloc_some _ (HN.out j u hj)) (tim_one l) (by unfold maxLen; omega) (by omega) (by simp) ?_)
    intro v' w1 hown hgrow _
    have X : Hid (w1.ownsRow w.heap.size 49 5 v' l.length (l.flatMap Tim.c)) := Lib.hid (by simpa using hown)
    have B : Hid (Below w.heap.size w w1) := Lib.hid (((Below.refl _ w).alloc (Nat.le_refl _) _).grown hgrow (by simp) (by intro k hk; simp [Value.ownBlock] at hk; omega))
    clear hown hgrow
    go_wp2_with fail
    go_ret
    exact ⟨v', rfl, X.out, B.out⟩
end Go.Proofs.Ytpmklganodlciaa
