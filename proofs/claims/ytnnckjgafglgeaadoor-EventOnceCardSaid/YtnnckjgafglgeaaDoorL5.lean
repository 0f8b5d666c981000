/- Plain: what Send answers, as the laws ask it. -/
import Derived.Test.YtnnckjgafglgeaaDoorE19
import Derived.Test.YtnnckjgafglgeaaDoorL6
namespace Go.Proofs.YtnnckjgafglgeaaDoor

theorem asked_free (nodes : List Nd) (ls : List Lis) (ev : Ev) : askedV nodes (ls.map free) ev = askedV nodes ls ev := by
  unfold askedV
  have h1 : (ls.map free).any (badNode nodes.length) = ls.any (badNode nodes.length) := by rw [List.any_map]; rfl
  have h2 : (ls.map free).map Lis.id = ls.map Lis.id := by rw [List.map_map]; rfl
  rw [List.length_map, h1, h2]
theorem asked_sub (nodes : List Nd) (ls : List Lis) (ev : Ev) (p : Lis → Bool) (h : (askedV nodes ls ev).1 = 0) : askedV nodes (ls.filter p) ev = askedV nodes ls ev := by
  obtain ⟨h0, h1, h2, h3, h4, h5⟩ := asked_facts nodes ls ev h
  rw [h5]
  unfold askedV
  have hl := List.length_filter_le p ls
  rw [if_pos h0, if_neg (by omega), if_neg, if_neg, if_neg h4]
  · have hn := ((twice_nodup _ _).1 h3).1
    have : twiceIn [] ((ls.filter p).map Lis.id) = false := (twice_nodup _ _).2 ⟨nodup_sub ls p hn, fun x _ => by simp⟩
    rw [this]
    simp
  · rw [Bool.not_eq_true]
    rw [List.any_eq_false] at h2 ⊢
    exact fun x hx => h2 x (List.mem_filter.1 hx).1
theorem sd_len (ev : Ev) (ls : List Lis) (h : ls.length ≤ 60) : ∀ (sts : List St) (s : Sd), (sts.foldl (sdStep ev ls) s).heard.length ≤ s.heard.length + sts.length * 60
  | [], s => by simp
  | a :: sts, s => by
    rw [List.foldl_cons]
    have h1 := sd_len ev ls h sts (sdStep ev ls s a)
    have h2 := (sdStep_grow ev ls s a).2
    simp only [List.length_cons]
    omega
/-- What we know where Send has no error. -/
structure SentOk (nodes : List Nd) (ls : List Lis) (ev : Ev) (p : List Int) : Prop where
  path : pathV nodes ev.target = (0, p)
  ok : PathOk nodes ev.target p
  nd : (ls.map Lis.id).Nodup
  len : ls.length ≤ 60
  heard : (sendV nodes ls ev).heard = (sendS ev ls (stepsV p ev.bub)).heard
  no : (sendV nodes ls ev).no = (sendS ev ls (stepsV p ev.bub)).no
  left : (sendV nodes ls ev).left = ls.filter (fun x => !(sendS ev ls (stepsV p ev.bub)).gone.contains x.id)
  ask : askedV nodes ls ev = (0, p)
  hl : (sendV nodes ls ev).heard.length ≤ 5040
theorem sent_err (nodes : List Nd) (ls : List Lis) (ev : Ev) : (sendV nodes ls ev).err = (askedV nodes ls ev).1 := by
  unfold sendV
  split
  · rename_i h; exact h.symm
  · rfl
theorem sent_ok (nodes : List Nd) (ls : List Lis) (ev : Ev) (h : (sendV nodes ls ev).err = 0) : ∃ p, SentOk nodes ls ev p := by
  rw [sent_err] at h
  obtain ⟨h0, h1, h2, h3, h4, h5⟩ := asked_facts nodes ls ev h
  refine ⟨(pathV nodes ev.target).2, ?_, ?_, ((twice_nodup _ _).1 h3).1, h1, ?_, ?_, ?_, ?_, ?_⟩
  · rw [h5] at h
    rw [← h]
  · rw [h5] at h
    exact path_ok h
  · unfold sendV; rw [if_pos h, h5]
  · unfold sendV; rw [if_pos h, h5]
  · unfold sendV; rw [if_pos h, h5]
  · rw [h5] at h ⊢
    rw [← h]
  · unfold sendV
    rw [if_pos h, h5]
    have a1 := sd_len ev ls h1 (stepsV (pathV nodes ev.target).2 ev.bub) ⟨[], [], false, false, false⟩
    have a2 := stepsV_len (pathV nodes ev.target).2 ev.bub
    have a3 := pathV_len nodes ev.target
    show (List.foldl (sdStep ev ls) ⟨[], [], false, false, false⟩ (stepsV (pathV nodes ev.target).2 ev.bub)).heard.length ≤ 5040
    simp only [List.length_nil] at a1
    omega
theorem sent_no (nodes : List Nd) (ls : List Lis) (ev : Ev) (h : (sendV nodes ls ev).err ≠ 0) : (sendV nodes ls ev).heard = [] ∧ (sendV nodes ls ev).no = false ∧ (sendV nodes ls ev).left = [] := by
  rw [sent_err] at h
  unfold sendV
  rw [if_neg h]
  exact ⟨rfl, rfl, rfl⟩
theorem SentOk.of_ask {nodes : List Nd} {ls ls2 : List Lis} {ev : Ev} {p : List Int} (h : SentOk nodes ls ev p) (ha : askedV nodes ls2 ev = askedV nodes ls ev) : SentOk nodes ls2 ev p := by
  have he : (sendV nodes ls2 ev).err = 0 := by rw [sent_err, ha, h.ask]
  obtain ⟨p2, h2⟩ := sent_ok nodes ls2 ev he
  have : (0, p2) = ((0 : Int), p) := by rw [← h2.ask, ha, h.ask]
  injection this with _ this
  subst this
  exact h2
/-! ### EventPrevents -/
theorem prevents_says {nodes : List Nd} {ls : List Lis} {ev : Ev} {p : List Int} (h : SentOk nodes ls ev p) : (sendV nodes ls ev).no = ((ls.any fun y => y.prev && hasHd (sendV nodes ls ev).heard y.id) && ev.can) := by
  rw [h.no, h.heard]
  exact send_no ev ls _ h.nd
/-! ### EventStops -/
theorem stops_says (nodes : List Nd) (ls : List Lis) (ev : Ev) : (sendV nodes (ls.map free) ev).err = (sendV nodes ls ev).err ∧ ((sendV nodes ls ev).err = 0 → (sendV nodes ls ev).heard = (sendV nodes (ls.map free) ev).heard.take (sendV nodes ls ev).heard.length ∧ (sendV nodes ls ev).heard.length ≤ (sendV nodes (ls.map free) ev).heard.length ∧ (stopsAny ls = false → (sendV nodes ls ev).heard.length = (sendV nodes (ls.map free) ev).heard.length)) := by
  refine ⟨by rw [sent_err, sent_err, asked_free], fun h => ?_⟩
  obtain ⟨p, hp⟩ := sent_ok nodes ls ev h
  have hq := hp.of_ask (asked_free nodes ls ev)
  rw [hp.heard, hq.heard]
  exact stops_begin ev ls _
/-! ### EventOnce -/
structure OnceSays (nodes : List Nd) (ls : List Lis) (ev : Ev) : Prop where
  left : (sendV nodes ls ev).left = ls.filter (wants (sendV nodes ls ev).heard)
  err : (sendV nodes (sendV nodes ls ev).left ev).err = 0
  heard : stopsAny ls = false → (sendV nodes (sendV nodes ls ev).left ev).heard = (sendV nodes ls ev).heard.filter (fun w => (sendV nodes ls ev).left.any fun y => y.id == w.lis)
  again : stopsAny ls = false → (sendV nodes (sendV nodes ls ev).left ev).left = (sendV nodes ls ev).left
theorem once_says (nodes : List Nd) (ls : List Lis) (ev : Ev) (h : (sendV nodes ls ev).err = 0) : OnceSays nodes ls ev := by
  obtain ⟨p, hp⟩ := sent_ok nodes ls ev h
  have hl : (sendV nodes ls ev).left = ls.filter (wants (sendV nodes ls ev).heard) := by
    rw [hp.left, hp.heard]
    exact left_wants ev ls _ hp.nd
  have hq : SentOk nodes (sendV nodes ls ev).left ev p := hp.of_ask (by rw [hl]; exact asked_sub nodes ls ev _ (by rw [hp.ask]))
  refine ⟨hl, by rw [sent_err, hq.ask], fun hs => ?_, fun hs => ?_⟩
  · rw [hq.heard, hl, hp.heard]
    exact once_again ev ls _ hp.nd hs
  · rw [hq.left]
    exact once_left ev ls _ hp.nd hs _ (by rw [hl, hp.heard])
/-! ### EventOrder -/
theorem SentOk.once {nodes : List Nd} {ls : List Lis} {ev : Ev} {p : List Int} (h : SentOk nodes ls ev p) : Once p := by
  intro i j y hi hj
  rw [h.ok.eq] at hi hj
  exact way_inj h.ok.doc h.ok.val hi hj
structure OrdSays (ls : List Lis) (ev : Ev) (p : List Int) (hs : List Hd) : Prop where
  at_ : ∀ w ∈ hs, OrdAt ls p ev w
  le : ∀ (k : Nat) (hk : k < hs.length), lastPl (pl ls p) (hs.take k) ≤ pl ls p hs[k] ∧ hs[k].lis ∉ (hs.take k).map Hd.lis
theorem ord_says {nodes : List Nd} {ls : List Lis} {ev : Ev} {p : List Int} (h : SentOk nodes ls ev p) : OrdSays ls ev p (sendV nodes ls ev).heard := by
  obtain ⟨h1, h2⟩ := send_ord ev ls p h.nd h.once
  rw [h.heard]
  refine ⟨h1, fun k hk => last_le _ _ (fun w hw => ?_) h2 k hk⟩
  obtain ⟨m, i, hm, hi, _, _, _, _, e, _⟩ := (h1 w hw).ex
  rw [e]
  split <;> omega
end Go.Proofs.YtnnckjgafglgeaaDoor
