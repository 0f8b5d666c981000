/- loop.do. -/
import Derived.Test.YtpmklganodlciaaT16
import Derived.Test.YtpmklganodlciaaTB
import Derived.Test.YtpmklganodlciaaT9
namespace Go.Proofs.Ytpmklganodlciaa
open Go.RowKit

theorem idxP_lt {α : Type} (p : α → Bool) : ∀ l, idxP p l < l.length
  | [] => by simp [idxP]
  | x :: l => by
    have := idxP_lt p l
    unfold idxP
    simp only [List.length_cons, Int.natCast_add, Int.cast_ofNat_Int]
    split
    · omega
    · split <;> omega
theorem own_some {w : World} {B e s n c : Nat} {a : Option Addr} {xs : List Value} (h : w.ownsRow B e s (.slice a n c) n xs) (h0 : 0 < n) : ∃ g, a = some ⟨g, 0, none⟩ := by
  rcases h.2 with ⟨_, h2⟩ | ⟨g, cap, cur, e1, _⟩
  · omega
  · injection e1 with e1
    exact ⟨g, e1⟩
/-- The bounds of a loop that is right. -/
structure Bnd (now next : Int) (ts ss : List Job) (ms : List Tim) : Prop where
  h1 : ts.length ≤ 100
  h2 : ss.length ≤ 100
  h3 : ms.length ≤ 100
  hs : Srt ms
  hn1 : 0 ≤ next
  hn2 : next ≤ 1000000000
  hw1 : 0 ≤ now
  hw2 : now ≤ 1000000000
def Lp.do_ (q : Lp) (a : Qst) : Lp × Int × Int :=
  if a.do_ = 1 then q.post a false else if a.do_ = 2 then q.post a true else if a.do_ = 3 then q.timer a false else if a.do_ = 4 then q.timer a true
  else if idxP (fun t => t.id == a.n) q.tims < 0 then (q, 0, 5) else ({ q with tims := q.tims.eraseIdx (idxP (fun t => t.id == a.n) q.tims).toNat }, 0, 0)
set_option maxRecDepth 100000 in
set_option maxHeartbeats 4000000 in
theorem do_one (B : Nat) (now next : Int) (ts ss : List Job) (ms : List Tim) (vt vs vm : Value) (a : Qst) (w : World) (h : LpOwn w B ts ss ms vt vs vm) (hB : B ≤ w.heap.size) (hb : Bnd now next ts ss ms) (hk : a.do_ = 1) :
    Calls Try.prog 28 #[askedV now next vt vs vm a] w (AskSaid w B (own3 vt vs vm) ((⟨now, next, ts, ss, ms⟩ : Lp).do_ a)) := by
  obtain ⟨ta, sa, ma, tc, sc, mc, rfl, rfl, rfl⟩ := h.shape
  obtain ⟨q0, q1, q2, q3, q4, q5, q6⟩ := a
  have HO := Lib.hid h
  have HS := Lib.hid hb
  clear h hb
  unfold askedV
  simp only
  simp only at hk
  subst hk
  go_enter Try.func28, Try.ntmps28
  go_wp2_with fail
  refine calls_gen (Φ := fun w4 => Hid (Fx B (own3 (.slice ta ts.length tc) (.slice sa ss.length sc) (.slice ma ms.length mc)) w w4 ts ss ms (.slice ta ts.length tc) (.slice sa ss.length sc) (.slice ma ms.length mc) [.cells #[.int .i64 now, .int .i64 next, .slice ta ts.length tc, .slice sa ss.length sc, .slice ma ms.length mc, .int .i64 1, .int .i64 q1, .int .i64 q2, .string q3, .int .i64 q4, .int .i64 q5, .string q6] 64, .cells #[.int .i64 0, .int .i64 0, .slice none 0 0, .slice none 0 0, .slice none 0 0] 26])) (Lib.hid (Fx.start2 HO.out _ _)) ?_
  intro w4 X
  clear HO
  obtain ⟨r, hr⟩ : ∃ r, (⟨now, next, ts, ss, ms⟩ : Lp).post ⟨1, q1, q2, q3, q4, q5, q6⟩ false = r := ⟨_, rfl⟩
  have hc := post_any B now next ts ss ms (.slice ta ts.length tc) (.slice sa ss.length sc) (.slice ma ms.length mc) ⟨1, q1, q2, q3, q4, q5, q6⟩ false w4 X.out.own (by have := X.out.sz; omega) HS.out.h1 HS.out.h2 HS.out.hn1 HS.out.hn2
  rw [hr] at hc
  have hd : (⟨now, next, ts, ss, ms⟩ : Lp).do_ ⟨1, q1, q2, q3, q4, q5, q6⟩ = r := by rw [← hr]; simp only [Lp.do_]; rfl
  have HD := Lib.hid hd
  clear hd hr
  obtain ⟨⟨now', next', ts', ss', ms'⟩, id, er⟩ := r
  refine hc.mono ?_
  clear hc
  rintro e w5 ⟨vt, vs, vm, rfl, ho, hbl, hat⟩
  obtain ⟨ta2, sa2, ma2, tc2, sc2, mc2, rfl, rfl, rfl⟩ := ho.shape
  have Y := Lib.hid (X.out.ask ho hbl hat)
  clear ho hbl hat X
  simp only [Lp.v]
  obtain ⟨d0, d1, d2, d3, d4⟩ := cells5 Y.out.k1
  obtain ⟨f0, f1, f2, f3, f4⟩ := frz5 Y.out.k1
  go_wp2_with fail
  refine body_put5 Y.out.k1 ?_
  intro W6 hh hg
  clear d0 d1 d2 d3 d4 f0 f1 f2 f3 f4
  obtain ⟨e0, e1, e2, e3, e4⟩ := cells5 hh
  refine bodyPost_ret (v := _) (by simp [results, Try.results28, go_sem, e0, e1, e2, e3, e4]; rfl) rfl ?_
  rw [HD.out]
  exact ⟨_, _, _, rfl, Y.out.done (by omega) (by simp) hg⟩
set_option maxRecDepth 100000 in
set_option maxHeartbeats 4000000 in
theorem do_two (B : Nat) (now next : Int) (ts ss : List Job) (ms : List Tim) (vt vs vm : Value) (a : Qst) (w : World) (h : LpOwn w B ts ss ms vt vs vm) (hB : B ≤ w.heap.size) (hb : Bnd now next ts ss ms) (hk : a.do_ = 2) :
    Calls Try.prog 28 #[askedV now next vt vs vm a] w (AskSaid w B (own3 vt vs vm) ((⟨now, next, ts, ss, ms⟩ : Lp).do_ a)) := by
  obtain ⟨ta, sa, ma, tc, sc, mc, rfl, rfl, rfl⟩ := h.shape
  obtain ⟨q0, q1, q2, q3, q4, q5, q6⟩ := a
  have HO := Lib.hid h
  have HS := Lib.hid hb
  clear h hb
  unfold askedV
  simp only
  simp only at hk
  subst hk
  go_enter Try.func28, Try.ntmps28
  go_wp2_with fail
  refine calls_gen (Φ := fun w4 => Hid (Fx B (own3 (.slice ta ts.length tc) (.slice sa ss.length sc) (.slice ma ms.length mc)) w w4 ts ss ms (.slice ta ts.length tc) (.slice sa ss.length sc) (.slice ma ms.length mc) [.cells #[.int .i64 now, .int .i64 next, .slice ta ts.length tc, .slice sa ss.length sc, .slice ma ms.length mc, .int .i64 2, .int .i64 q1, .int .i64 q2, .string q3, .int .i64 q4, .int .i64 q5, .string q6] 64, .cells #[.int .i64 0, .int .i64 0, .slice none 0 0, .slice none 0 0, .slice none 0 0] 26])) (Lib.hid (Fx.start2 HO.out _ _)) ?_
  intro w4 X
  clear HO
  obtain ⟨r, hr⟩ : ∃ r, (⟨now, next, ts, ss, ms⟩ : Lp).post ⟨2, q1, q2, q3, q4, q5, q6⟩ true = r := ⟨_, rfl⟩
  have hc := post_any B now next ts ss ms (.slice ta ts.length tc) (.slice sa ss.length sc) (.slice ma ms.length mc) ⟨2, q1, q2, q3, q4, q5, q6⟩ true w4 X.out.own (by have := X.out.sz; omega) HS.out.h1 HS.out.h2 HS.out.hn1 HS.out.hn2
  rw [hr] at hc
  have hd : (⟨now, next, ts, ss, ms⟩ : Lp).do_ ⟨2, q1, q2, q3, q4, q5, q6⟩ = r := by rw [← hr]; simp only [Lp.do_]; rfl
  have HD := Lib.hid hd
  clear hd hr
  obtain ⟨⟨now', next', ts', ss', ms'⟩, id, er⟩ := r
  refine hc.mono ?_
  clear hc
  rintro e w5 ⟨vt, vs, vm, rfl, ho, hbl, hat⟩
  obtain ⟨ta2, sa2, ma2, tc2, sc2, mc2, rfl, rfl, rfl⟩ := ho.shape
  have Y := Lib.hid (X.out.ask ho hbl hat)
  clear ho hbl hat X
  simp only [Lp.v]
  obtain ⟨d0, d1, d2, d3, d4⟩ := cells5 Y.out.k1
  obtain ⟨f0, f1, f2, f3, f4⟩ := frz5 Y.out.k1
  go_wp2_with fail
  refine body_put5 Y.out.k1 ?_
  intro W6 hh hg
  clear d0 d1 d2 d3 d4 f0 f1 f2 f3 f4
  obtain ⟨e0, e1, e2, e3, e4⟩ := cells5 hh
  refine bodyPost_ret (v := _) (by simp [results, Try.results28, go_sem, e0, e1, e2, e3, e4]; rfl) rfl ?_
  rw [HD.out]
  exact ⟨_, _, _, rfl, Y.out.done (by omega) (by simp) hg⟩
set_option maxRecDepth 100000 in
set_option maxHeartbeats 4000000 in
theorem do_three (B : Nat) (now next : Int) (ts ss : List Job) (ms : List Tim) (vt vs vm : Value) (a : Qst) (w : World) (h : LpOwn w B ts ss ms vt vs vm) (hB : B ≤ w.heap.size) (hb : Bnd now next ts ss ms) (hk : a.do_ = 3) :
    Calls Try.prog 28 #[askedV now next vt vs vm a] w (AskSaid w B (own3 vt vs vm) ((⟨now, next, ts, ss, ms⟩ : Lp).do_ a)) := by
  obtain ⟨ta, sa, ma, tc, sc, mc, rfl, rfl, rfl⟩ := h.shape
  obtain ⟨q0, q1, q2, q3, q4, q5, q6⟩ := a
  have HO := Lib.hid h
  have HS := Lib.hid hb
  clear h hb
  unfold askedV
  simp only
  simp only at hk
  subst hk
  go_enter Try.func28, Try.ntmps28
  go_wp2_with fail
  refine calls_gen (Φ := fun w4 => Hid (Fx B (own3 (.slice ta ts.length tc) (.slice sa ss.length sc) (.slice ma ms.length mc)) w w4 ts ss ms (.slice ta ts.length tc) (.slice sa ss.length sc) (.slice ma ms.length mc) [.cells #[.int .i64 now, .int .i64 next, .slice ta ts.length tc, .slice sa ss.length sc, .slice ma ms.length mc, .int .i64 3, .int .i64 q1, .int .i64 q2, .string q3, .int .i64 q4, .int .i64 q5, .string q6] 64, .cells #[.int .i64 0, .int .i64 0, .slice none 0 0, .slice none 0 0, .slice none 0 0] 26])) (Lib.hid (Fx.start2 HO.out _ _)) ?_
  intro w4 X
  clear HO
  obtain ⟨r, hr⟩ : ∃ r, (⟨now, next, ts, ss, ms⟩ : Lp).timer ⟨3, q1, q2, q3, q4, q5, q6⟩ false = r := ⟨_, rfl⟩
  have hc := timer_any B now next ts ss ms (.slice ta ts.length tc) (.slice sa ss.length sc) (.slice ma ms.length mc) ⟨3, q1, q2, q3, q4, q5, q6⟩ false w4 X.out.own (by have := X.out.sz; omega) HS.out.h3 HS.out.hs HS.out.hn1 HS.out.hn2 HS.out.hw1 HS.out.hw2
  rw [hr] at hc
  have hd : (⟨now, next, ts, ss, ms⟩ : Lp).do_ ⟨3, q1, q2, q3, q4, q5, q6⟩ = r := by rw [← hr]; simp only [Lp.do_]; rfl
  have HD := Lib.hid hd
  clear hd hr
  obtain ⟨⟨now', next', ts', ss', ms'⟩, id, er⟩ := r
  refine hc.mono ?_
  clear hc
  rintro e w5 ⟨vt, vs, vm, rfl, ho, hbl, hat⟩
  obtain ⟨ta2, sa2, ma2, tc2, sc2, mc2, rfl, rfl, rfl⟩ := ho.shape
  have Y := Lib.hid (X.out.ask ho hbl hat)
  clear ho hbl hat X
  simp only [Lp.v]
  obtain ⟨d0, d1, d2, d3, d4⟩ := cells5 Y.out.k1
  obtain ⟨f0, f1, f2, f3, f4⟩ := frz5 Y.out.k1
  go_wp2_with fail
  refine body_put5 Y.out.k1 ?_
  intro W6 hh hg
  clear d0 d1 d2 d3 d4 f0 f1 f2 f3 f4
  obtain ⟨e0, e1, e2, e3, e4⟩ := cells5 hh
  refine bodyPost_ret (v := _) (by simp [results, Try.results28, go_sem, e0, e1, e2, e3, e4]; rfl) rfl ?_
  rw [HD.out]
  exact ⟨_, _, _, rfl, Y.out.done (by omega) (by simp) hg⟩
set_option maxRecDepth 100000 in
set_option maxHeartbeats 4000000 in
theorem do_four (B : Nat) (now next : Int) (ts ss : List Job) (ms : List Tim) (vt vs vm : Value) (a : Qst) (w : World) (h : LpOwn w B ts ss ms vt vs vm) (hB : B ≤ w.heap.size) (hb : Bnd now next ts ss ms) (hk : a.do_ = 4) :
    Calls Try.prog 28 #[askedV now next vt vs vm a] w (AskSaid w B (own3 vt vs vm) ((⟨now, next, ts, ss, ms⟩ : Lp).do_ a)) := by
  obtain ⟨ta, sa, ma, tc, sc, mc, rfl, rfl, rfl⟩ := h.shape
  obtain ⟨q0, q1, q2, q3, q4, q5, q6⟩ := a
  have HO := Lib.hid h
  have HS := Lib.hid hb
  clear h hb
  unfold askedV
  simp only
  simp only at hk
  subst hk
  go_enter Try.func28, Try.ntmps28
  go_wp2_with fail
  refine calls_gen (Φ := fun w4 => Hid (Fx B (own3 (.slice ta ts.length tc) (.slice sa ss.length sc) (.slice ma ms.length mc)) w w4 ts ss ms (.slice ta ts.length tc) (.slice sa ss.length sc) (.slice ma ms.length mc) [.cells #[.int .i64 now, .int .i64 next, .slice ta ts.length tc, .slice sa ss.length sc, .slice ma ms.length mc, .int .i64 4, .int .i64 q1, .int .i64 q2, .string q3, .int .i64 q4, .int .i64 q5, .string q6] 64, .cells #[.int .i64 0, .int .i64 0, .slice none 0 0, .slice none 0 0, .slice none 0 0] 26])) (Lib.hid (Fx.start2 HO.out _ _)) ?_
  intro w4 X
  clear HO
  obtain ⟨r, hr⟩ : ∃ r, (⟨now, next, ts, ss, ms⟩ : Lp).timer ⟨4, q1, q2, q3, q4, q5, q6⟩ true = r := ⟨_, rfl⟩
  have hc := timer_any B now next ts ss ms (.slice ta ts.length tc) (.slice sa ss.length sc) (.slice ma ms.length mc) ⟨4, q1, q2, q3, q4, q5, q6⟩ true w4 X.out.own (by have := X.out.sz; omega) HS.out.h3 HS.out.hs HS.out.hn1 HS.out.hn2 HS.out.hw1 HS.out.hw2
  rw [hr] at hc
  have hd : (⟨now, next, ts, ss, ms⟩ : Lp).do_ ⟨4, q1, q2, q3, q4, q5, q6⟩ = r := by rw [← hr]; simp only [Lp.do_]; rfl
  have HD := Lib.hid hd
  clear hd hr
  obtain ⟨⟨now', next', ts', ss', ms'⟩, id, er⟩ := r
  refine hc.mono ?_
  clear hc
  rintro e w5 ⟨vt, vs, vm, rfl, ho, hbl, hat⟩
  obtain ⟨ta2, sa2, ma2, tc2, sc2, mc2, rfl, rfl, rfl⟩ := ho.shape
  have Y := Lib.hid (X.out.ask ho hbl hat)
  clear ho hbl hat X
  simp only [Lp.v]
  obtain ⟨d0, d1, d2, d3, d4⟩ := cells5 Y.out.k1
  obtain ⟨f0, f1, f2, f3, f4⟩ := frz5 Y.out.k1
  go_wp2_with fail
  refine body_put5 Y.out.k1 ?_
  intro W6 hh hg
  clear d0 d1 d2 d3 d4 f0 f1 f2 f3 f4
  obtain ⟨e0, e1, e2, e3, e4⟩ := cells5 hh
  refine bodyPost_ret (v := _) (by simp [results, Try.results28, go_sem, e0, e1, e2, e3, e4]; rfl) rfl ?_
  rw [HD.out]
  exact ⟨_, _, _, rfl, Y.out.done (by omega) (by simp) hg⟩
set_option maxRecDepth 100000 in
set_option maxHeartbeats 4000000 in
theorem do_five (B : Nat) (now next : Int) (ts ss : List Job) (ms : List Tim) (vt vs vm : Value) (a : Qst) (w : World) (h : LpOwn w B ts ss ms vt vs vm) (hb : Bnd now next ts ss ms) (k1 : (a.do_ == 1) = false) (k2 : (a.do_ == 2) = false) (k3 : (a.do_ == 3) = false) (k4 : (a.do_ == 4) = false) :
    Calls Try.prog 28 #[askedV now next vt vs vm a] w (AskSaid w B (own3 vt vs vm) ((⟨now, next, ts, ss, ms⟩ : Lp).do_ a)) := by
  obtain ⟨ta, sa, ma, tc, sc, mc, rfl, rfl, rfl⟩ := h.shape
  obtain ⟨q0, q1, q2, q3, q4, q5, q6⟩ := a
  have HO := Lib.hid h
  have HS := Lib.hid hb
  clear h hb
  unfold askedV
  simp only
  simp only at k1 k2 k3 k4
  have hd : (⟨now, next, ts, ss, ms⟩ : Lp).do_ ⟨q0, q1, q2, q3, q4, q5, q6⟩ = if idxP (fun t => t.id == q2) ms < 0 then (⟨now, next, ts, ss, ms⟩, 0, 5) else (⟨now, next, ts, ss, ms.eraseIdx (idxP (fun t => t.id == q2) ms).toNat⟩, 0, 0) := by
    simp only [Lp.do_]
    rw [if_neg (by simpa using k1), if_neg (by simpa using k2), if_neg (by simpa using k3), if_neg (by simpa using k4)]
  have HD := Lib.hid hd
  clear hd
  have HF := Lib.hid call41
  have hcall := call41
  go_enter Try.func28, Try.ntmps28
  go_wp2_with fail
  refine calls_gen (Φ := fun w4 => Hid (Fx B (own3 (.slice ta ts.length tc) (.slice sa ss.length sc) (.slice ma ms.length mc)) w w4 ts ss ms (.slice ta ts.length tc) (.slice sa ss.length sc) (.slice ma ms.length mc) [.cells #[.int .i64 now, .int .i64 next, .slice ta ts.length tc, .slice sa ss.length sc, .slice ma ms.length mc, .int .i64 q0, .int .i64 q1, .int .i64 q2, .string q3, .int .i64 q4, .int .i64 q5, .string q6] 64, .cells #[.int .i64 0, .int .i64 0, .slice none 0 0, .slice none 0 0, .slice none 0 0] 26])) (Lib.hid (Fx.start2 HO.out _ _)) ?_
  intro w4 X
  clear HO
  obtain ⟨c0, c1, c2, c3, c4, c5, c6, c7, c8, c9, c10, c11⟩ := cells12 X.out.k0
  refine (idxT_any 41 (fun t => t.id == q2) w.heap.size 7 (.int .i64 q2) (fun j w h => isId_any _ _ j w h) HF.out ma mc ms w4 (Own.sl Tim.len X.out.own.m) (by have := HS.out.h3; omega) c7).mono ?_
  rintro e w5 ⟨rfl, hb5⟩
  have Y := Lib.hid (X.out.call hb5)
  clear c0 c1 c2 c3 c4 c5 c6 c7 c8 c9 c10 c11 hb5 X HF hcall
  have hlt := idxP_lt (fun t => t.id == q2) ms
  obtain ⟨i, hi⟩ : ∃ i, idxP (fun t => t.id == q2) ms = i := ⟨_, rfl⟩
  rw [hi] at HD hlt ⊢
  clear hi
  have h100 := HS.out.h3
  obtain ⟨c0, c1, c2, c3, c4, c5, c6, c7, c8, c9, c10, c11⟩ := cells12 Y.out.k0
  obtain ⟨d0, d1, d2, d3, d4⟩ := cells5 Y.out.k1
  obtain ⟨f0, f1, f2, f3, f4⟩ := frz5 Y.out.k1
  by_cases hneg : i < 0
  · go_wp2_with fail
    refine body_put5 Y.out.k1 ?_
    intro W6 hh hg
    clear c0 c1 c2 c3 c4 c5 c6 c7 c8 c9 c10 c11 d0 d1 d2 d3 d4 f0 f1 f2 f3 f4
    obtain ⟨e0, e1, e2, e3, e4⟩ := cells5 hh
    refine bodyPost_ret (v := _) (by simp [results, Try.results28, go_sem, e0, e1, e2, e3, e4]; rfl) rfl ?_
    rw [HD.out, if_pos hneg]
    exact ⟨_, _, _, rfl, Y.out.done (by omega) (by simp) hg⟩
  · obtain ⟨n, rfl⟩ : ∃ n : Nat, i = n := ⟨i.toNat, by omega⟩
    have hn : n < ms.length := by omega
    obtain ⟨g, rfl⟩ := own_some Y.out.own.m (by omega)
    have G0 := Lib.frozen_of_heap Y.out.k0 4
    go_wp2_with fail
    refine (delT_any g mc n B ms w5 Y.out.own.m hn (by omega)).mono ?_
    rintro e w6 ⟨rfl, ho, hgr⟩
    have hlen : ms.length - 1 = (ms.eraseIdx n).length := by rw [List.length_eraseIdx_of_lt hn]
    rw [hlen] at ho ⊢
    have X6 := Lib.hid (Y.out.setM ho hgr (fun k e => .inl e))
    clear ho hgr Y c0 c1 c2 c3 c4 c5 c6 c7 c8 c9 c10 c11 d0 d1 d2 d3 d4 f0 f1 f2 f3 f4 G0 hlen
    obtain ⟨me, hme⟩ : ∃ me, ms.eraseIdx n = me := ⟨_, rfl⟩
    rw [show ((n : Int)).toNat = n from rfl, hme] at HD
    rw [hme] at X6 ⊢
    clear hme
    obtain ⟨c0, c1, c2, c3, c4, c5, c6, c7, c8, c9, c10, c11⟩ := cells12 X6.out.k0
    obtain ⟨d0, d1, d2, d3, d4⟩ := cells5 X6.out.k1
    obtain ⟨f0, f1, f2, f3, f4⟩ := frz5 X6.out.k1
    have G0 := Lib.frozen_of_heap X6.out.k0 4
    go_wp2_with fail
    have Y := Lib.hid (X6.out.set 0 rfl 4 (.slice (some ⟨g, 0, none⟩) me.length mc) (by simp))
    clear G0
    refine body_put5 Y.out.k1 ?_
    intro W6 hh hg
    clear c0 c1 c2 c3 c4 c5 c6 c7 c8 c9 c10 c11 d0 d1 d2 d3 d4 f0 f1 f2 f3 f4
    obtain ⟨e0, e1, e2, e3, e4⟩ := cells5 hh
    refine bodyPost_ret (v := _) (by simp [results, Try.results28, go_sem, e0, e1, e2, e3, e4]; rfl) rfl ?_
    rw [HD.out, if_neg (Int.not_lt.2 hneg)]
    exact ⟨_, _, _, rfl, Y.out.done (by omega) (by simp) hg⟩
theorem do_any (B : Nat) (now next : Int) (ts ss : List Job) (ms : List Tim) (vt vs vm : Value) (a : Qst) (w : World) (h : LpOwn w B ts ss ms vt vs vm) (hB : B ≤ w.heap.size) (hb : Bnd now next ts ss ms) :
    Calls Try.prog 28 #[askedV now next vt vs vm a] w (AskSaid w B (own3 vt vs vm) ((⟨now, next, ts, ss, ms⟩ : Lp).do_ a)) := by
  by_cases k1 : a.do_ = 1
  · exact do_one B now next ts ss ms vt vs vm a w h hB hb k1
  by_cases k2 : a.do_ = 2
  · exact do_two B now next ts ss ms vt vs vm a w h hB hb k2
  by_cases k3 : a.do_ = 3
  · exact do_three B now next ts ss ms vt vs vm a w h hB hb k3
  by_cases k4 : a.do_ = 4
  · exact do_four B now next ts ss ms vt vs vm a w h hB hb k4
  exact do_five B now next ts ss ms vt vs vm a w h hb (by simpa using k1) (by simpa using k2) (by simpa using k3) (by simpa using k4)
end Go.Proofs.Ytpmklganodlciaa
