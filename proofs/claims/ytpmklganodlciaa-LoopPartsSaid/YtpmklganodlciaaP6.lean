/- Plain: to run for a while, and then for another one, is to run for both together. -/
import Derived.Test.YtpmklganodlciaaP5
import Derived.Test.YtpmklganodlciaaP3
namespace Go.Proofs.Ytpmklganodlciaa
open Go.RowKit

theorem nxt_small {q : Lp} {u : Int} {j : Job} {r : List Job} (h : q.smalls = j :: r) : q.nxt u = (⟨q.now, q.next, q.tasks, r, q.tims⟩, j, true) := by simp only [Lp.nxt, h]
theorem nxt_due {q : Lp} {u : Int} {t : Tim} {r : List Tim} (h : q.smalls = []) (ht : q.tims = t :: r) (hd : dueAt q.now q.tasks q.tims u = true) : q.nxt u = ((q.fire t r).1, (q.fire t r).2, true) := by
  obtain ⟨now, next, ts, ss, ms⟩ := q
  simp only at h ht hd
  subst h ht
  simp only [Lp.nxt, hd]
theorem nxt_task {q : Lp} {u : Int} {j : Job} {r : List Job} (h : q.smalls = []) (hd : dueAt q.now q.tasks q.tims u = false) (ht : q.tasks = j :: r) : q.nxt u = (⟨q.now, q.next, r, q.smalls, q.tims⟩, j, true) := by
  obtain ⟨now, next, ts, ss, ms⟩ := q
  simp only at h ht hd
  subst h ht
  simp only [Lp.nxt, hd]
theorem nxt_none {q : Lp} {u : Int} (h : q.smalls = []) (hd : dueAt q.now q.tasks q.tims u = false) (ht : q.tasks = []) : q.nxt u = (⟨u, q.next, q.tasks, q.smalls, q.tims⟩, Job.zero, false) := by
  obtain ⟨now, next, ts, ss, ms⟩ := q
  simp only at h ht hd
  subst h ht
  simp only [Lp.nxt, hd]
theorem due_mono {now : Int} {ts : List Job} {ms : List Tim} {u1 u2 : Int} (h : dueAt now ts ms u1 = true) (hu : u1 ≤ u2) : dueAt now ts ms u2 = true := by
  unfold dueAt at h ⊢
  cases ms with
  | nil => simp at h
  | cons t r =>
    simp only [Bool.or_eq_true, Bool.and_eq_true, decide_eq_true_eq] at h ⊢
    rcases h with h | ⟨h1, h2⟩
    · exact .inl h
    · exact .inr ⟨h1, by omega⟩
theorem due_task {now : Int} {j : Job} {r : List Job} {ms : List Tim} {u1 u2 : Int} (h : dueAt now (j :: r) ms u1 = false) : dueAt now (j :: r) ms u2 = false := by
  unfold dueAt at h ⊢
  cases ms with
  | nil => rfl
  | cons t r => simpa using h
theorem nxt_mono (q : Lp) (u1 u2 : Int) (h1 : q.now ≤ u1) (h12 : u1 ≤ u2) :
    ((q.nxt u1).2.2 = true → q.nxt u2 = q.nxt u1) ∧ ((q.nxt u1).2.2 = false → (q.nxt u1).1.nxt u2 = q.nxt u2) := by
  rcases nxt_ways q u1 with ⟨j, r, e1, e2⟩ | ⟨e1, t, r, e2, hd, e3⟩ | ⟨e1, hd, j, r, e2, e3⟩ | ⟨e1, hd, e2, e3⟩
  · refine ⟨(fun _ => by rw [nxt_small e1, e2]), (fun e => by rw [e2] at e; cases e)⟩
  · refine ⟨(fun _ => by rw [nxt_due e1 e2 (due_mono hd h12), e3]), (fun e => by rw [e3] at e; cases e)⟩
  · refine ⟨fun _ => ?_, (fun e => by rw [e3] at e; cases e)⟩
    rw [e3]
    refine nxt_task e1 ?_ e2
    rw [e2] at hd ⊢
    exact due_task hd
  · refine ⟨(fun e => by rw [e3] at e; cases e), fun _ => ?_⟩
    rw [e3]
    simp only
    obtain ⟨now, next, ts, ss, ms⟩ := q
    simp only at e1 e2 hd h1 ⊢
    subst e1 e2
    cases ms with
    | nil =>
      rw [nxt_none rfl rfl rfl, nxt_none rfl rfl rfl]
    | cons t r =>
      have hd1 : ¬ t.at_ ≤ now ∧ ¬ t.at_ ≤ u1 := by
        unfold dueAt at hd
        simp only [List.isEmpty_nil, Bool.true_and, Bool.or_eq_false_iff, decide_eq_false_iff_not] at hd
        exact hd
      by_cases hu : t.at_ ≤ u2
      · have ha : dueAt u1 [] (t :: r) u2 = true := by simp [dueAt, hu]
        have hb : dueAt now [] (t :: r) u2 = true := by simp [dueAt, hu]
        rw [nxt_due rfl rfl ha, nxt_due rfl rfl hb]
        simp only [Lp.fire]
        rw [show max u1 t.at_ = t.at_ by omega, show max now t.at_ = t.at_ by omega]
      · have ha : dueAt u1 [] (t :: r) u2 = false := by simp [dueAt, hu]; omega
        have hb : dueAt now [] (t :: r) u2 = false := by simp [dueAt, hu]; omega
        rw [nxt_none rfl ha rfl, nxt_none rfl hb rfl]
theorem runL_ge : ∀ (n : Nat) (u : Int) (q : Lp) (out : List Job), out.length ≤ (runL n u q out).2.length
  | 0, _, _, _ => Nat.le_refl _
  | n + 1, u, q, out => by
    unfold runL
    split
    · have := runL_ge n u (q.nxt u).1 (out ++ [(q.nxt u).2.1])
      simp only [List.length_append, List.length_cons, List.length_nil] at this
      omega
    · exact Nat.le_refl _
theorem runL_now : ∀ (n : Nat) (u : Int) (q : Lp) (out : List Job), (runL n u q out).2.length < out.length + n → (runL n u q out).1.now = u
  | 0, _, _, _, h => by simp [runL] at h
  | n + 1, u, q, out, h => by
    unfold runL at h ⊢
    split
    · rename_i hi
      rw [if_pos hi] at h
      exact runL_now n u _ _ (by simp only [List.length_append, List.length_cons, List.length_nil]; omega)
    · rename_i hi
      rcases nxt_ways q u with ⟨j, r, e1, e2⟩ | ⟨e1, t, r, e2, hd, e3⟩ | ⟨e1, hd, j, r, e2, e3⟩ | ⟨e1, hd, e2, e3⟩
      · rw [e2] at hi; exact absurd rfl hi
      · rw [e3] at hi; exact absurd rfl hi
      · rw [e3] at hi; exact absurd rfl hi
      · rw [e3]
theorem runL_parts : ∀ (n : Nat) (q : Lp) (out : List Job) (u1 u2 : Int), Right q → q.now ≤ u1 → u1 ≤ u2 → u2 ≤ 1000000000 → (runL n u1 q out).2.length < out.length + n →
    runL (out.length + n - (runL n u1 q out).2.length) u2 (runL n u1 q out).1 (runL n u1 q out).2 = runL n u2 q out
  | 0, q, out, u1, u2, _, _, _, _, h => by simp [runL] at h
  | n + 1, q, out, u1, u2, hr, h1, h12, h2, h => by
    obtain ⟨m1, m2⟩ := nxt_mono q u1 u2 h1 h12
    obtain ⟨r1, r2, r3⟩ := nxt_right q u1 hr h1 (by omega)
    by_cases hi : (q.nxt u1).2.2 = true
    · have e1 : runL (n + 1) u1 q out = runL n u1 (q.nxt u1).1 (out ++ [(q.nxt u1).2.1]) := by rw [runL, if_pos hi]
      have e2 : runL (n + 1) u2 q out = runL n u2 (q.nxt u1).1 (out ++ [(q.nxt u1).2.1]) := by rw [runL, m1 hi, if_pos hi]
      rw [e1] at h ⊢
      rw [e2]
      have ih := runL_parts n (q.nxt u1).1 (out ++ [(q.nxt u1).2.1]) u1 u2 r1 r3 h12 h2 (by simp only [List.length_append, List.length_cons, List.length_nil]; omega)
      rw [← ih]
      congr 1
      simp only [List.length_append, List.length_cons, List.length_nil]
      omega
    · have e1 : runL (n + 1) u1 q out = ((q.nxt u1).1, out) := by rw [runL, if_neg hi]
      rw [e1]
      simp only
      rw [show out.length + (n + 1) - out.length = n + 1 by omega]
      have hm := m2 (by simpa using hi)
      simp only [runL, hm]
theorem post_now (q : Lp) (a : Qst) (b : Bool) : (q.post a b).1.now = q.now := by
  unfold Lp.post
  split
  · split <;> rfl
  · split
    · rfl
    · split <;> rfl
theorem timerE_now (q : Lp) (a : Qst) (L E : Int) : (q.timerE a L E).1.now = q.now := by
  unfold Lp.timerE
  split
  · rfl
  · split
    · rfl
    · split <;> rfl
theorem timer_now (q : Lp) (a : Qst) (b : Bool) : (q.timer a b).1.now = q.now := timerE_now _ _ _ _
theorem do_now (q : Lp) (a : Qst) : (q.do_ a).1.now = q.now := by
  unfold Lp.do_
  split
  · exact post_now _ _ _
  · split
    · exact post_now _ _ _
    · split
      · exact timer_now _ _ _
      · split
        · exact timer_now _ _ _
        · split <;> rfl
theorem step_now (s : Lp × List Job) (a : Qst) (h : Right s.1) : s.1.now ≤ (playStep s a).1.now ∧ (playStep s a).1.now ≤ s.1.now + 1000000 := by
  unfold playStep
  split
  · split
    · rename_i hr
      rw [runs_iff] at hr
      obtain ⟨_, a2, a3, _⟩ := runL_right (300 - s.2.length) (s.1.now + a.n) s.1 s.2 h (by omega) hr.2
      omega
    · omega
  · split
    · rename_i he
      rw [(ask_right _ _ he).2.2.1, do_now]
      omega
    · omega
theorem played_now (l : List Qst) : 0 ≤ (played l).1.now ∧ (played l).1.now ≤ 1000000 * (l.length : Int) := by
  have key : ∀ (l : List Qst) (s : Lp × List Job), Right s.1 → s.2.length ≤ 300 → s.1.now ≤ (l.foldl playStep s).1.now ∧ (l.foldl playStep s).1.now ≤ s.1.now + 1000000 * (l.length : Int) := by
    intro l
    induction l with
    | nil => intro s _ _; simp
    | cons a l ih =>
      intro s h hl
      obtain ⟨h1, h2⟩ := step_right s a h hl
      obtain ⟨b1, b2⟩ := step_now s a h
      obtain ⟨c1, c2⟩ := ih (playStep s a) h1 h2
      simp only [List.foldl_cons, List.length_cons]
      omega
  have := key l (Lp.zero, []) zero_right (by simp)
  simpa [played, Lp.zero] using this
/-- A run for n. -/
def runQ (n : Int) : Qst := ⟨6, 0, n, ⟨#[]⟩, 0, 0, ⟨#[]⟩⟩
theorem step_run (s : Lp × List Job) (n : Int) (h0 : 0 ≤ n) (h1 : n ≤ 1000000) (h2 : s.1.now + n ≤ 1000000000) : playStep s (runQ n) = runL (300 - s.2.length) (s.1.now + n) s.1 s.2 := by
  unfold playStep
  rw [if_pos (show (runQ n).do_ = 6 from rfl), if_pos (runs_iff.2 ⟨⟨h0, h1⟩, h2⟩)]
  rfl
theorem parts_played (asks : List Qst) (a b : Int) (ha0 : 0 ≤ a) (hb0 : 0 ≤ b) (ha : a ≤ 500000) (hb : b ≤ 500000) (hl : asks.length ≤ 150) (h : (played (asks ++ [runQ a, runQ b])).2.length < 300) : played (asks ++ [runQ a, runQ b]) = played (asks ++ [runQ (a + b)]) := by
  have e1 : played (asks ++ [runQ a, runQ b]) = playStep (playStep (played asks) (runQ a)) (runQ b) := by
    unfold played
    rw [List.foldl_append]
    rfl
  have e2 : played (asks ++ [runQ (a + b)]) = playStep (played asks) (runQ (a + b)) := by
    unfold played
    rw [List.foldl_append]
    rfl
  rw [e1] at h ⊢
  rw [e2]
  obtain ⟨r1, r2⟩ := played_right asks
  obtain ⟨n1, n2⟩ := played_now asks
  generalize played asks = s at *
  have hs1 := step_run s a ha0 (by omega) (by omega)
  rw [hs1] at h ⊢
  rw [step_run s (a + b) (by omega) (by omega) (by omega)]
  obtain ⟨q1, q2, q3, q4⟩ := runL_right (300 - s.2.length) (s.1.now + a) s.1 s.2 r1 (by omega) (by omega)
  have hb' := step_run (runL (300 - s.2.length) (s.1.now + a) s.1 s.2) b hb0 (by omega) (by omega)
  rw [hb'] at h ⊢
  have hge := runL_ge (300 - (runL (300 - s.2.length) (s.1.now + a) s.1 s.2).2.length) ((runL (300 - s.2.length) (s.1.now + a) s.1 s.2).1.now + b) (runL (300 - s.2.length) (s.1.now + a) s.1 s.2).1 (runL (300 - s.2.length) (s.1.now + a) s.1 s.2).2
  have hlt : (runL (300 - s.2.length) (s.1.now + a) s.1 s.2).2.length < s.2.length + (300 - s.2.length) := by omega
  have hnow := runL_now (300 - s.2.length) (s.1.now + a) s.1 s.2 hlt
  have hp := runL_parts (300 - s.2.length) s.1 s.2 (s.1.now + a) (s.1.now + (a + b)) r1 (by omega) (by omega) (by omega) hlt
  rw [hnow, show s.1.now + a + b = s.1.now + (a + b) by omega, ← hp]
  congr 1
  omega
theorem parts_plain (asks : List Qst) (a b : Int) (ha0 : 0 ≤ a) (hb0 : 0 ≤ b) (ha : a ≤ 500000) (hb : b ≤ 500000) (hl : asks.length ≤ 150) :
    (play (asks ++ [runQ a, runQ b])).2.2 = (play (asks ++ [runQ (a + b)])).2.2 ∧ ((play (asks ++ [runQ a, runQ b])).2.2 = 0 → (play (asks ++ [runQ a, runQ b])).1.length < 300 → play (asks ++ [runQ a, runQ b]) = play (asks ++ [runQ (a + b)])) := by
  have l1 : ¬ 200 < (asks ++ [runQ a, runQ b]).length := by simp; omega
  have l2 : ¬ 200 < (asks ++ [runQ (a + b)]).length := by simp; omega
  have w6 : within 6 1 6 = true := by decide
  cases hall : asks.all (fun a => within a.do_ 1 6) with
  | true =>
    have a1 : (asks ++ [runQ a, runQ b]).all (fun a => within a.do_ 1 6) = true := by simp [hall, runQ, w6]
    have a2 : (asks ++ [runQ (a + b)]).all (fun a => within a.do_ 1 6) = true := by simp [hall, runQ, w6]
    unfold play
    rw [if_neg l1, if_neg l2, if_pos a1, if_pos a2]
    refine ⟨rfl, fun _ h => ?_⟩
    rw [parts_played asks a b ha0 hb0 ha hb hl h]
  | false =>
    have a1 : ¬ (asks ++ [runQ a, runQ b]).all (fun a => within a.do_ 1 6) = true := by rw [List.all_append, hall]; simp
    have a2 : ¬ (asks ++ [runQ (a + b)]).all (fun a => within a.do_ 1 6) = true := by rw [List.all_append, hall]; simp
    unfold play
    rw [if_neg l1, if_neg l2, if_neg a1, if_neg a2]
    exact ⟨rfl, fun h => by cases h⟩
end Go.Proofs.Ytpmklganodlciaa
