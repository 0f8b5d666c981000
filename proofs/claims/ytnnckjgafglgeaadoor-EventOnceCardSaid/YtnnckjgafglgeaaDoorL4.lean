/- Plain: the laws of sending. -/
import Derived.Test.YtnnckjgafglgeaaDoorL1
import Derived.Test.YtnnckjgafglgeaaDoorL3
namespace Go.Proofs.YtnnckjgafglgeaaDoor

/-! ### Who stops it cuts it. -/
def free (x : Lis) : Lis := { x with stops := false, all := false }
theorem free_hears (ev : Ev) (a : St) (x : Lis) : hearsAt ev a (free x) = hearsAt ev a x := rfl
theorem heardAt_free (ev : Ev) (a : St) : ∀ ls : List Lis, heardAt ev (ls.map free) a = heardAt ev ls a
  | [] => rfl
  | x :: ls => by
    have ih := heardAt_free ev a ls
    unfold heardAt at ih ⊢
    rw [List.map_cons]
    by_cases h : hearsAt ev a x = true
    · rw [List.filter_cons_of_pos (by rw [free_hears]; exact h), List.filter_cons_of_pos h, List.map_cons, List.map_cons, ih]
      rfl
    · rw [List.filter_cons_of_neg (by rw [free_hears]; exact h), List.filter_cons_of_neg h, ih]
theorem full_free (ev : Ev) (ls : List Lis) (sts : List St) : full ev (ls.map free) sts = full ev ls sts := by
  unfold full
  congr 1
  funext a
  exact heardAt_free ev a ls
theorem stopsAny_free (ls : List Lis) : stopsAny (ls.map free) = false := by
  unfold stopsAny
  rw [List.any_eq_false]
  intro x hx
  obtain ⟨y, _, rfl⟩ := List.mem_map.1 hx
  simp [free]
theorem stops_begin (ev : Ev) (ls : List Lis) (sts : List St) : (sendS ev ls sts).heard = (sendS ev (ls.map free) sts).heard.take (sendS ev ls sts).heard.length ∧ (sendS ev ls sts).heard.length ≤ (sendS ev (ls.map free) sts).heard.length ∧ (stopsAny ls = false → (sendS ev ls sts).heard.length = (sendS ev (ls.map free) sts).heard.length) := by
  rw [send_full ev (ls.map free) sts (stopsAny_free ls), full_free]
  obtain ⟨t, h1, h2⟩ := send_pre ev ls sts
  rw [← h1]
  refine ⟨by rw [List.take_left' rfl], by simp, fun h => ?_⟩
  obtain ⟨h3, h4⟩ := send_flags ev ls sts h
  rw [h2 h3 h4]
  simp
/-! ### Who hears once is gone. -/
def wants (h : List Hd) (y : Lis) : Bool := !(y.once && hasHd h y.id)
theorem left_wants (ev : Ev) (ls : List Lis) (sts : List St) (hn : (ls.map Lis.id).Nodup) : ls.filter (fun x => !(sendS ev ls sts).gone.contains x.id) = ls.filter (wants (sendS ev ls sts).heard) := by
  apply List.filter_congr
  intro x hx
  unfold wants
  rw [send_gone ev ls sts hn x hx]
theorem stopsAny_sub (ls : List Lis) (p : Lis → Bool) (h : stopsAny ls = false) : stopsAny (ls.filter p) = false := by
  unfold stopsAny at h ⊢
  rw [List.any_eq_false] at h ⊢
  intro x hx
  exact h x (List.mem_filter.1 hx).1
theorem any_id (ls : List Lis) (p : Lis → Bool) (hn : (ls.map Lis.id).Nodup) (x : Lis) (hx : x ∈ ls) : ((ls.filter p).any fun y => y.id == x.id) = p x := by
  rw [Bool.eq_iff_iff, List.any_eq_true]
  constructor
  · rintro ⟨y, hy, he⟩
    obtain ⟨h1, h2⟩ := List.mem_filter.1 hy
    have := id_inj ls hn y h1 x hx (by simpa using he)
    subst this
    exact h2
  · intro h
    exact ⟨x, List.mem_filter.2 ⟨hx, h⟩, by simp⟩
theorem heardAt_sub (ev : Ev) (a : St) (ls0 : List Lis) (p : Lis → Bool) (hn : (ls0.map Lis.id).Nodup) : ∀ ls : List Lis, (∀ x ∈ ls, x ∈ ls0) → heardAt ev (ls.filter p) a = (heardAt ev ls a).filter (fun w => (ls0.filter p).any fun y => y.id == w.lis)
  | [], _ => rfl
  | x :: ls, hs => by
    have ih := heardAt_sub ev a ls0 p hn ls (fun y hy => hs y (List.mem_cons_of_mem _ hy))
    have hx := any_id ls0 p hn x (hs x (by simp))
    unfold heardAt at ih ⊢
    by_cases hp : p x = true
    · rw [List.filter_cons_of_pos hp]
      by_cases h : hearsAt ev a x = true
      · rw [List.filter_cons_of_pos h, List.filter_cons_of_pos h, List.map_cons, List.map_cons, List.filter_cons_of_pos (by show ((ls0.filter p).any fun y => y.id == x.id) = true; rw [hx]; exact hp), ih]
      · rw [List.filter_cons_of_neg h, List.filter_cons_of_neg h, ih]
    · rw [List.filter_cons_of_neg hp]
      by_cases h : hearsAt ev a x = true
      · rw [List.filter_cons_of_pos h, List.map_cons, List.filter_cons_of_neg (by show ¬ ((ls0.filter p).any fun y => y.id == x.id) = true; rw [hx]; exact hp), ih]
      · rw [List.filter_cons_of_neg h, ih]
theorem full_sub (ev : Ev) (ls : List Lis) (p : Lis → Bool) (hn : (ls.map Lis.id).Nodup) : ∀ sts : List St, full ev (ls.filter p) sts = (full ev ls sts).filter (fun w => (ls.filter p).any fun y => y.id == w.lis)
  | [] => rfl
  | a :: sts => by
    have ih := full_sub ev ls p hn sts
    unfold full at ih ⊢
    rw [List.flatMap_cons, List.flatMap_cons, List.filter_append, ih, heardAt_sub ev a ls p hn ls (fun _ h => h)]
/-- Sent again to those that are left. -/
theorem once_again (ev : Ev) (ls : List Lis) (sts : List St) (hn : (ls.map Lis.id).Nodup) (hs : stopsAny ls = false) :
    (sendS ev (ls.filter (wants (sendS ev ls sts).heard)) sts).heard = (sendS ev ls sts).heard.filter (fun w => (ls.filter (wants (sendS ev ls sts).heard)).any fun y => y.id == w.lis) := by
  rw [send_full ev _ sts (stopsAny_sub ls _ hs)]
  conv => rhs; rw [send_full ev ls sts hs]
  have := full_sub ev ls (wants (sendS ev ls sts).heard) hn sts
  rw [this]
  rw [send_full ev ls sts hs]
theorem nodup_sub (ls : List Lis) (p : Lis → Bool) (hn : (ls.map Lis.id).Nodup) : ((ls.filter p).map Lis.id).Nodup := List.Pairwise.sublist (List.Sublist.map _ List.filter_sublist) hn
theorem once_left (ev : Ev) (ls : List Lis) (sts : List St) (hn : (ls.map Lis.id).Nodup) (hs : stopsAny ls = false) (L : List Lis) (hL : L = ls.filter (wants (sendS ev ls sts).heard)) :
    L.filter (fun x => !(sendS ev L sts).gone.contains x.id) = L := by
  rw [List.filter_eq_self]
  intro x hx
  have hnL : (L.map Lis.id).Nodup := by rw [hL]; exact nodup_sub ls _ hn
  rw [send_gone ev L sts hnL x hx]
  rw [hL] at hx
  obtain ⟨hx1, hx2⟩ := List.mem_filter.1 hx
  unfold wants at hx2
  cases ho : x.once with
  | false => rfl
  | true =>
    rw [ho, Bool.true_and] at hx2
    rw [Bool.true_and]
    have h0 : hasHd (sendS ev ls sts).heard x.id = false := by simpa using hx2
    have h1 : hasHd (sendS ev L sts).heard x.id = false := by
      unfold hasHd at h0 ⊢
      rw [List.any_eq_false] at h0 ⊢
      intro w hw
      rw [hL, once_again ev ls sts hn hs] at hw
      exact h0 w (List.mem_filter.1 hw).1
    rw [h1]
    rfl
end Go.Proofs.YtnnckjgafglgeaaDoor
