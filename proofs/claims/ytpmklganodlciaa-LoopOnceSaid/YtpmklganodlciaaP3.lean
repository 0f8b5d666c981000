/- Plain: what Play does; what it leaves is right. -/
import Derived.Test.YtpmklganodlciaaP2
namespace Go.Proofs.Ytpmklganodlciaa
open Go.RowKit

def runL : Nat → Int → Lp → List Job → Lp × List Job
  | 0, _, q, out => (q, out)
  | n + 1, u, q, out => if (q.nxt u).2.2 then runL n u (q.nxt u).1 (out ++ [(q.nxt u).2.1]) else ((q.nxt u).1, out)
def runs (a : Qst) (q : Lp) : Bool := within a.n 0 1000000 && decide (q.now + a.n ≤ 1000000000)
def playStep (s : Lp × List Job) (a : Qst) : Lp × List Job :=
  if a.do_ = 6 then (if runs a s.1 then runL (300 - s.2.length) (s.1.now + a.n) s.1 s.2 else s)
  else if (s.1.ask a).2.2 = 0 then ((s.1.ask a).1, s.2) else s
def played (asks : List Qst) : Lp × List Job := asks.foldl playStep (Lp.zero, [])
def play (asks : List Qst) : List Job × Lp × Int :=
  if 200 < asks.length then ([], Lp.zero, 2) else if asks.all (fun a => within a.do_ 1 6) then ((played asks).2, (played asks).1, 0) else ([], Lp.zero, 3)
theorem zero_right : Right Lp.zero := by
  refine ⟨?_, ?_, ?_, ?_, ?_, ?_, ?_, ?_, ?_, ?_, ?_, ?_, ?_⟩ <;> simp [Lp.zero, Lp.nums, Srt]
theorem runL_right : ∀ (n : Nat) (u : Int) (q : Lp) (out : List Job), Right q → q.now ≤ u → u ≤ 1000000000 → Right (runL n u q out).1 ∧ q.now ≤ (runL n u q out).1.now ∧ (runL n u q out).1.now ≤ u ∧ (runL n u q out).2.length ≤ out.length + n
  | 0, u, q, out, h, h1, h2 => ⟨h, Int.le_refl _, h1, Nat.le_refl _⟩
  | n + 1, u, q, out, h, h1, h2 => by
    obtain ⟨r1, r2, r3⟩ := nxt_right q u h h1 h2
    unfold runL
    split
    · obtain ⟨a, b, c, d⟩ := runL_right n u (q.nxt u).1 (out ++ [(q.nxt u).2.1]) r1 r3 h2
      exact ⟨a, by omega, c, by simp only [List.length_append, List.length_cons, List.length_nil] at d; omega⟩
    · exact ⟨r1, r2, r3, by simp only; omega⟩
theorem runs_iff {a : Qst} {q : Lp} : runs a q = true ↔ (0 ≤ a.n ∧ a.n ≤ 1000000) ∧ q.now + a.n ≤ 1000000000 := by
  unfold runs
  rw [Bool.and_eq_true, within_iff, decide_eq_true_eq]
theorem step_right (s : Lp × List Job) (a : Qst) (h : Right s.1) (hl : s.2.length ≤ 300) : Right (playStep s a).1 ∧ (playStep s a).2.length ≤ 300 := by
  unfold playStep
  split
  · split
    · rename_i hr
      rw [runs_iff] at hr
      obtain ⟨a1, _, _, d⟩ := runL_right (300 - s.2.length) (s.1.now + a.n) s.1 s.2 h (by omega) hr.2
      exact ⟨a1, by omega⟩
    · exact ⟨h, hl⟩
  · split
    · rename_i he
      exact ⟨(ask_right _ _ he).2.2.2, hl⟩
    · exact ⟨h, hl⟩
theorem fold_right : ∀ (l : List Qst) (s : Lp × List Job), Right s.1 → s.2.length ≤ 300 → Right (l.foldl playStep s).1 ∧ (l.foldl playStep s).2.length ≤ 300
  | [], s, h, hl => ⟨h, hl⟩
  | a :: l, s, h, hl => by
    obtain ⟨h1, h2⟩ := step_right s a h hl
    exact fold_right l _ h1 h2
theorem played_right (l : List Qst) : Right (played l).1 ∧ (played l).2.length ≤ 300 := fold_right l _ zero_right (by simp)
theorem played_snoc (l : List Qst) (a : Qst) : played (l ++ [a]) = playStep (played l) a := by
  unfold played
  rw [List.foldl_append]
  rfl
end Go.Proofs.Ytpmklganodlciaa
