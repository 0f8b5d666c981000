/- What is heard, in plain words: the whole, its begin; who is gone; what is prevented. -/
import Derived.Test.YtnnckjgafglgeaaDoorE13
namespace Go.Proofs.YtnnckjgafglgeaaDoor

def mkHd (a : St) (x : Lis) : Hd := ⟨x.id, a.node, a.phase⟩
def heardAt (ev : Ev) (ls : List Lis) (a : St) : List Hd := (ls.filter (hearsAt ev a)).map (mkHd a)
/-- What would be heard if nobody stopped it. -/
def full (ev : Ev) (ls : List Lis) (sts : List St) : List Hd := sts.flatMap (heardAt ev ls)
theorem doS_all (ev : Ev) (a : St) : ∀ (ls : List Lis) (s : Sd), s.all = true → ls.foldl (doStep ev a) s = s
  | [], _, _ => rfl
  | x :: ls, s, h => by
    have : doStep ev a s x = s := by simp [doStep, h]
    rw [List.foldl_cons, this, doS_all ev a ls s h]
theorem doS_pre (ev : Ev) (a : St) : ∀ (ls : List Lis) (s : Sd), ∃ t, (ls.foldl (doStep ev a) s).heard ++ t = s.heard ++ heardAt ev ls a ∧ ((ls.foldl (doStep ev a) s).all = false → t = [])
  | [], s => ⟨[], by simp [heardAt], fun _ => rfl⟩
  | x :: ls, s => by
    by_cases ha : s.all = true
    · exact ⟨heardAt ev (x :: ls) a, by rw [doS_all ev a _ s ha], fun h => by rw [doS_all ev a _ s ha, ha] at h; cases h⟩
    · have ha' : s.all = false := by simpa using ha
      rw [List.foldl_cons]
      by_cases hx : hearsAt ev a x = true
      · have e : doStep ev a s x = hearS ev.can s x a := by simp [doStep, ha', hx]
        rw [e]
        obtain ⟨t, h1, h2⟩ := doS_pre ev a ls (hearS ev.can s x a)
        refine ⟨t, ?_, h2⟩
        rw [h1]
        simp [hearS, heardAt, hx, mkHd]
      · have e : doStep ev a s x = s := by simp [doStep, hx]
        rw [e]
        obtain ⟨t, h1, h2⟩ := doS_pre ev a ls s
        refine ⟨t, ?_, h2⟩
        rw [h1]
        simp [heardAt, hx]
theorem sd_halt (ev : Ev) (ls : List Lis) : ∀ (sts : List St) (s : Sd), (s.stops = true ∨ s.all = true) → sts.foldl (sdStep ev ls) s = s
  | [], _, _ => rfl
  | a :: sts, s, h => by
    have : sdStep ev ls s a = s := by rcases h with h | h <;> simp [sdStep, h]
    rw [List.foldl_cons, this, sd_halt ev ls sts s h]
theorem sd_pre (ev : Ev) (ls : List Lis) : ∀ (sts : List St) (s : Sd), ∃ t, (sts.foldl (sdStep ev ls) s).heard ++ t = s.heard ++ full ev ls sts ∧ ((sts.foldl (sdStep ev ls) s).stops = false → (sts.foldl (sdStep ev ls) s).all = false → t = [])
  | [], s => ⟨[], by simp [full], fun _ _ => rfl⟩
  | a :: sts, s => by
    by_cases hs : s.stops = true ∨ s.all = true
    · refine ⟨full ev ls (a :: sts), by rw [sd_halt ev ls _ s hs], fun h1 h2 => ?_⟩
      rw [sd_halt ev ls _ s hs] at h1 h2
      rcases hs with h | h
      · rw [h] at h1; cases h1
      · rw [h] at h2; cases h2
    · have e : sdStep ev ls s a = ls.foldl (doStep ev a) s := by
        have h1 : s.stops = false := by cases h : s.stops <;> simp [h] at hs ⊢
        have h2 : s.all = false := by cases h : s.all <;> simp [h] at hs ⊢
        simp [sdStep, h1, h2, doS]
      rw [List.foldl_cons, e]
      obtain ⟨t1, h1, h2⟩ := doS_pre ev a ls s
      generalize ls.foldl (doStep ev a) s = s1 at *
      by_cases hs1 : s1.stops = true ∨ s1.all = true
      · refine ⟨t1 ++ full ev ls sts, ?_, fun h3 h4 => ?_⟩
        · rw [sd_halt ev ls _ s1 hs1, ← List.append_assoc, h1]
          simp [full]
        · rw [sd_halt ev ls _ s1 hs1] at h3 h4
          rcases hs1 with h | h
          · rw [h] at h3; cases h3
          · rw [h] at h4; cases h4
      · have h3 : s1.all = false := by cases h : s1.all <;> simp [h] at hs1 ⊢
        have ht := h2 h3
        subst ht
        rw [List.append_nil] at h1
        obtain ⟨t, h4, h5⟩ := sd_pre ev ls sts s1
        exact ⟨t, by rw [h4, h1]; simp [full], h5⟩
theorem send_pre (ev : Ev) (ls : List Lis) (sts : List St) : ∃ t, (sendS ev ls sts).heard ++ t = full ev ls sts ∧ ((sendS ev ls sts).stops = false → (sendS ev ls sts).all = false → t = []) := by
  obtain ⟨t, h1, h2⟩ := sd_pre ev ls sts ⟨[], [], false, false, false⟩
  exact ⟨t, by rw [List.nil_append] at h1; exact h1, h2⟩
/-- What holds at the start and stays when one more hears holds in the end. -/
theorem do_inv (ev : Ev) (ls : List Lis) (a : St) (I : Sd → Prop) (hs : ∀ s x, x ∈ ls → hearsAt ev a x = true → I s → I (hearS ev.can s x a)) : ∀ (l2 : List Lis) (s : Sd), (∀ x ∈ l2, x ∈ ls) → I s → I (l2.foldl (doStep ev a) s)
  | [], _, _, h => h
  | x :: l2, s, hm, h => by
    rw [List.foldl_cons]
    refine do_inv ev ls a I hs l2 _ (fun y hy => hm y (List.mem_cons_of_mem _ hy)) ?_
    unfold doStep
    split
    · rename_i hc
      simp only [Bool.and_eq_true] at hc
      exact hs s x (hm x (by simp)) hc.2 h
    · exact h
theorem sd_inv (ev : Ev) (ls : List Lis) (I : Sd → Prop) (hs : ∀ s x a, x ∈ ls → hearsAt ev a x = true → I s → I (hearS ev.can s x a)) : ∀ (sts : List St) (s : Sd), I s → I (sts.foldl (sdStep ev ls) s)
  | [], _, h => h
  | a :: sts, s, h => by
    rw [List.foldl_cons]
    refine sd_inv ev ls I hs sts _ ?_
    unfold sdStep
    split
    · exact do_inv ev ls a I (fun s x => hs s x a) ls s (fun _ h => h) h
    · exact h
theorem send_inv (ev : Ev) (ls : List Lis) (sts : List St) (I : Sd → Prop) (h0 : I ⟨[], [], false, false, false⟩) (hs : ∀ s x a, x ∈ ls → hearsAt ev a x = true → I s → I (hearS ev.can s x a)) : I (sendS ev ls sts) := sd_inv ev ls I hs sts _ h0
def stopsAny (ls : List Lis) : Bool := ls.any fun x => x.stops || x.all
theorem send_flags (ev : Ev) (ls : List Lis) (sts : List St) (h : stopsAny ls = false) : (sendS ev ls sts).stops = false ∧ (sendS ev ls sts).all = false := by
  refine send_inv ev ls sts (fun s => s.stops = false ∧ s.all = false) ⟨rfl, rfl⟩ (fun s x a hx _ hI => ?_)
  have hx2 : x.stops = false ∧ x.all = false := by
    have := List.any_eq_false.1 h x hx
    simpa using this
  simp [hearS, hI.1, hI.2, hx2.1, hx2.2]
theorem send_full (ev : Ev) (ls : List Lis) (sts : List St) (h : stopsAny ls = false) : (sendS ev ls sts).heard = full ev ls sts := by
  obtain ⟨t, h1, h2⟩ := send_pre ev ls sts
  obtain ⟨h3, h4⟩ := send_flags ev ls sts h
  have := h2 h3 h4
  subst this
  simpa using h1
/-- Numbers that are told once. -/
theorem twice_nodup : ∀ (l seen : List Int), twiceIn seen l = false ↔ l.Nodup ∧ ∀ x ∈ l, x ∉ seen
  | [], seen => by simp [twiceIn]
  | x :: l, seen => by
    unfold twiceIn
    rw [Bool.or_eq_false_iff, twice_nodup l (seen ++ [x])]
    constructor
    · rintro ⟨h1, h2, h3⟩
      refine ⟨List.nodup_cons.2 ⟨fun hm => h3 x hm (by simp), h2⟩, fun y hy => ?_⟩
      rcases List.mem_cons.1 hy with rfl | hy
      · simpa using h1
      · exact fun hm => h3 y hy (by simp [hm])
    · rintro ⟨h1, h2⟩
      obtain ⟨h3, h4⟩ := List.nodup_cons.1 h1
      refine ⟨by simpa using h2 x (by simp), h4, fun y hy hm => ?_⟩
      rcases List.mem_append.1 hm with hm | hm
      · exact h2 y (by simp [hy]) hm
      · have : y = x := by simpa using hm
        subst this
        exact h3 hy
theorem id_inj : ∀ (ls : List Lis), (ls.map Lis.id).Nodup → ∀ x ∈ ls, ∀ y ∈ ls, x.id = y.id → x = y
  | [], _, x, hx, _, _, _ => by cases hx
  | z :: ls, h, x, hx, y, hy, e => by
    rw [List.map_cons, List.nodup_cons] at h
    rcases List.mem_cons.1 hx with hx | hx
    · rcases List.mem_cons.1 hy with hy | hy
      · rw [hx, hy]
      · exact absurd (List.mem_map.2 ⟨y, hy, by rw [← e, hx]⟩) h.1
    · rcases List.mem_cons.1 hy with hy | hy
      · exact absurd (List.mem_map.2 ⟨x, hx, by rw [e, hy]⟩) h.1
      · exact id_inj ls h.2 x hx y hy e
def hasHd (h : List Hd) (n : Int) : Bool := h.any fun w => w.lis == n
theorem hasHd_step (h : List Hd) (w : Hd) (n : Int) : hasHd (h ++ [w]) n = (hasHd h n || w.lis == n) := by simp [hasHd]
theorem send_no (ev : Ev) (ls : List Lis) (sts : List St) (hn : (ls.map Lis.id).Nodup) : (sendS ev ls sts).no = ((ls.any fun y => y.prev && hasHd (sendS ev ls sts).heard y.id) && ev.can) := by
  refine send_inv ev ls sts (fun s => s.no = ((ls.any fun y => y.prev && hasHd s.heard y.id) && ev.can)) ?_ (fun s x a hx _ hI => ?_)
  · simp [hasHd]
  · have e : (ls.any fun y => y.prev && hasHd (hearS ev.can s x a).heard y.id) = ((ls.any fun y => y.prev && hasHd s.heard y.id) || x.prev) := by
      rw [Bool.eq_iff_iff]
      simp only [List.any_eq_true, Bool.or_eq_true, Bool.and_eq_true, hearS, hasHd_step, beq_iff_eq]
      constructor
      · rintro ⟨y, hy, hp, h | h⟩
        · exact .inl ⟨y, hy, hp, h⟩
        · have := id_inj ls hn x hx y hy h
          subst this
          exact .inr hp
      · rintro (⟨y, hy, hp, h⟩ | h)
        · exact ⟨y, hy, hp, .inl h⟩
        · exact ⟨x, hx, h, .inr rfl⟩
    show (hearS ev.can s x a).no = _
    rw [e]
    simp only [hearS, hI]
    cases ev.can <;> simp
theorem send_gone (ev : Ev) (ls : List Lis) (sts : List St) (hn : (ls.map Lis.id).Nodup) : ∀ y ∈ ls, (sendS ev ls sts).gone.contains y.id = (y.once && hasHd (sendS ev ls sts).heard y.id) := by
  refine send_inv ev ls sts (fun s => ∀ y ∈ ls, s.gone.contains y.id = (y.once && hasHd s.heard y.id)) ?_ (fun s x a hx _ hI y hy => ?_)
  · simp [hasHd]
  · show (hearS ev.can s x a).gone.contains y.id = (y.once && hasHd (s.heard ++ [⟨x.id, a.node, a.phase⟩]) y.id)
    rw [hasHd_step]
    by_cases e : x.id = y.id
    · have := id_inj ls hn x hx y hy e
      subst this
      have hI2 := hI x hx
      cases ho : x.once with
      | true => simp [hearS, ho]
      | false =>
        rw [ho] at hI2
        simp only [hearS, ho]
        simpa using hI2
    · have hb : (x.id == y.id) = false := by simpa using e
      have hI2 := hI y hy
      rw [show ((Hd.mk x.id a.node a.phase).lis == y.id) = (x.id == y.id) from rfl, hb, Bool.or_false, ← hI2]
      cases ho : x.once with
      | true => simp [hearS, ho, Ne.symm e]
      | false => simp [hearS, ho]
end Go.Proofs.YtnnckjgafglgeaaDoor
