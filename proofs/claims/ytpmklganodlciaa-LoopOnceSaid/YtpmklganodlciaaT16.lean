/- loop.post of a small job (printed by gen_t16.py). -/
import Derived.Test.YtpmklganodlciaaT15
namespace Go.Proofs.Ytpmklganodlciaa
open Go.RowKit

set_option maxRecDepth 100000 in
set_option maxHeartbeats 4000000 in
theorem post_small (B : Nat) (now next : Int) (ts ss : List Job) (ms : List Tim) (vt vs vm : Value) (a : Qst) (w : World) (h : LpOwn w B ts ss ms vt vs vm) (hB : B ≤ w.heap.size) (h2 : ss.length ≤ 100) (hn1 : 0 ≤ next) (hn2 : next ≤ 1000000000) :
    Calls Try.prog 39 #[askedV now next vt vs vm a, .bool true] w (AskSaid w B (own3 vt vs vm) ((⟨now, next, ts, ss, ms⟩ : Lp).post a true)) := by
  obtain ⟨ta, sa, ma, tc, sc, mc, rfl, rfl, rfl⟩ := h.shape
  obtain ⟨q0, q1, q2, q3, q4, q5, q6⟩ := a
  have HO := Lib.hid h
  clear h
  unfold askedV
  simp only
  have HFU := Lib.hid (fun now next vt vs vm a n w => full_any now next vt vs vm a n w)
  unfold askedV at HFU
  go_enter Try.func39, Try.ntmps39
  · go_wp2_with fail
    obtain ⟨w4, hw4, H0, H1, H2, H3, HL, HB⟩ : ∃ w4, w4 = ((((w.alloc (.cells #[.int .i64 now, .int .i64 next, .slice ta ts.length tc, .slice sa ss.length sc, .slice ma ms.length mc, .int .i64 q0, .int .i64 q1, .int .i64 q2, .string q3, .int .i64 q4, .int .i64 q5, .string q6] 64)).alloc (.cells #[.int .i64 0, .int .i64 0, .slice none 0 0, .slice none 0 0, .slice none 0 0] 26)).alloc (.cells #[.int .i64 now, .int .i64 next, .slice ta ts.length tc, .slice sa ss.length sc, .slice ma ms.length mc] 26)).alloc (.cells #[.int .i64 next, .int .i64 0, .bool true, .string q3, .int .i64 q4, .int .i64 q5, .string q6] 39)) ∧
      Hid (w4.heap[w.heap.size]? = some (.cells #[.int .i64 now, .int .i64 next, .slice ta ts.length tc, .slice sa ss.length sc, .slice ma ms.length mc, .int .i64 q0, .int .i64 q1, .int .i64 q2, .string q3, .int .i64 q4, .int .i64 q5, .string q6] 64 (0, 0))) ∧ Hid (w4.heap[w.heap.size + 1]? = some (.cells #[.int .i64 0, .int .i64 0, .slice none 0 0, .slice none 0 0, .slice none 0 0] 26 (0, 0))) ∧ Hid (w4.heap[w.heap.size + 1 + 1]? = some (.cells #[.int .i64 now, .int .i64 next, .slice ta ts.length tc, .slice sa ss.length sc, .slice ma ms.length mc] 26 (0, 0))) ∧ Hid (w4.heap[w.heap.size + 1 + 1 + 1]? = some (.cells #[.int .i64 next, .int .i64 0, .bool true, .string q3, .int .i64 q4, .int .i64 q5, .string q6] 39 (0, 0))) ∧ Hid (LpOwn w4 B ts ss ms (.slice ta ts.length tc) (.slice sa ss.length sc) (.slice ma ms.length mc)) ∧ Hid (Below w.heap.size w w4 ∧ w4.heap.size = w.heap.size + 4) :=
      ⟨_, rfl, Lib.hid (alloc_keep (alloc_keep (alloc_keep (alloc_at rfl _) _) _) _), Lib.hid (alloc_keep (alloc_keep (alloc_at (by simp) _) _) _), Lib.hid (alloc_keep (alloc_at (by simp) _) _), Lib.hid (alloc_at (by simp) _), Lib.hid ((((HO.out.alloc _).alloc _).alloc _).alloc _), Lib.hid ⟨((((Below.refl _ _).alloc (Nat.le_refl _) _).alloc (by simp <;> omega) _).alloc (by simp <;> omega) _).alloc (by simp <;> omega) _, by simp⟩⟩
    rw [← hw4]
    clear hw4
    obtain ⟨f, hf⟩ : ∃ f, full next ss.length = f := ⟨_, rfl⟩
    obtain ⟨c0, c1, c2, c3, c4, c5, c6, c7, c8, c9, c10, c11⟩ := cells12 H0.out
    have HF : Hid (∀ w, Calls Try.prog 47 #[.agg #[.int .i64 now, .int .i64 next, .slice ta ts.length tc, .slice sa ss.length sc, .slice ma ms.length mc, .int .i64 q0, .int .i64 q1, .int .i64 q2, .string q3, .int .i64 q4, .int .i64 q5, .string q6], .int .i64 (ss.length : Int)] w fun e w' => e = .returned (.bool f) ∧ Below w.heap.size w w') := Lib.hid (fun w => by rw [← hf]; exact HFU.out now next _ _ _ ⟨q0, q1, q2, q3, q4, q5, q6⟩ _ w)
    go_cut [41] (fun v wx => v = .bool f ∧ Below w4.heap.size w4 wx)
    case first =>
      go_region_with ((go_at_call 47; refine (HF.out _).mono ?_; rintro e w5 ⟨rfl, hb5⟩))
      all_goals
        go_wp2_with fail
        go_meet
        exact ⟨rfl, ⟨hb5.os, hb5.tape, hb5.output, hb5.size, hb5.block⟩⟩
    case rest =>
      obtain ⟨rfl, hb5⟩ := hcut
      have hsz := HB.out.2
      obtain ⟨w5, hw5⟩ : ∃ w5, w5 = wc := ⟨_, rfl⟩
      rw [← hw5] at hb5 ⊢
      clear hw5
      have K0 := Lib.hid ((hb5.block w.heap.size (by omega)).trans H0.out)
      have K1 := Lib.hid ((hb5.block (w.heap.size + 1) (by omega)).trans H1.out)
      have K2 := Lib.hid ((hb5.block (w.heap.size + 1 + 1) (by omega)).trans H2.out)
      have K3 := Lib.hid ((hb5.block (w.heap.size + 1 + 1 + 1) (by omega)).trans H3.out)
      have KL := Lib.hid (HL.out.below hb5)
      have KB := Lib.hid (⟨HB.out.1.trans (Below.le hb5 (by omega)), Nat.le_trans (by omega) hb5.size⟩ : Below w.heap.size w w5 ∧ w.heap.size + 4 ≤ w5.heap.size)
      clear c0 c1 c2 c3 c4 c5 c6 c7 c8 c9 c10 c11 hb5 H0 H1 H2 H3 HL HB HF HFU
      cases f
      · obtain ⟨c0, c1, c2, c3, c4, c5, c6, c7, c8, c9, c10, c11⟩ := cells12 K0.out
        obtain ⟨d0, d1, d2, d3, d4, d5, d6⟩ := cells7 K3.out
        obtain ⟨i0, hi0, hz0, hz1, hz2⟩ := info_parts job_info
        obtain ⟨JO, hJO⟩ : ∃ JO, Obj.cells #[.int .i64 next, .int .i64 0, .bool true, .string q3, .int .i64 q4, .int .i64 q5, .string q6] 39 (0, 0) = JO := ⟨_, rfl⟩
        have KEEP := Lib.hid (post_keepS HO.out KB.out.1 KB.out.2 KL.out K0.out K1.out K3.out JO (Jb := jobOf next 0 true ⟨q0, q1, q2, q3, q4, q5, q6⟩))
        have HROW : Hid ((w5.drew.alloc JO).ownsRow B 39 7 (.slice sa ss.length sc) ss.length (ss.flatMap Job.c)) := Lib.hid (World.ownsRow.alloc (own_drew KL.out.s) _)
        have HNW : Hid (∀ j u, (Job.c (jobOf next 0 true ⟨q0, q1, q2, q3, q4, q5, q6⟩))[j]? = some u → (w5.drew.alloc JO).cell? ((⟨w5.heap.size, 0, none⟩ : Addr).add j) = some u) := Lib.hid (World.news_of_block (by rw [← hJO]; exact heap_alloc_new w5.drew _))
        have H1C : Hid (∀ u ∈ Job.c (jobOf next 0 true ⟨q0, q1, q2, q3, q4, q5, q6⟩), u.oneCell' = true) := Lib.hid (by have := job_one [jobOf next 0 true ⟨q0, q1, q2, q3, q4, q5, q6⟩]; simpa using this)
        have hBB : B ≤ (w5.drew.alloc JO).heap.size := by have := KB.out.2; simp; omega
        have ca2 : (w5.alloc JO).cell? ⟨w.heap.size, 3, none⟩ = some (.slice sa ss.length sc) := (cells12 (alloc_keep K0.out JO)).2.2.2.1
        subst hJO
        go_wp2_with fail
        clear c0 c1 c2 c4 c5 c6 c7 c8 c9 c10 c11
        go_cut [] (fun wx => ∃ (g cap : Nat), wx.heap[w.heap.size]? = some (.cells #[.int .i64 now, .int .i64 next, .slice ta ts.length tc, .slice (some ⟨g, 0, none⟩) (ss.length + 1) cap, .slice ma ms.length mc, .int .i64 q0, .int .i64 q1, .int .i64 q2, .string q3, .int .i64 q4, .int .i64 q5, .string q6] 64 (0, 0)) ∧ PostX B (own3 (.slice ta ts.length tc) (.slice sa ss.length sc) (.slice ma ms.length mc)) w wx ts (ss ++ [jobOf next 0 true ⟨q0, q1, q2, q3, q4, q5, q6⟩]) ms (.slice ta ts.length tc) (.slice (some ⟨g, 0, none⟩) (ss.length + 1) cap) (.slice ma ms.length mc) (.cells #[.int .i64 0, .int .i64 0, .slice none 0 0, .slice none 0 0, .slice none 0 0] 26 (0, 0)) (.cells #[.int .i64 next, .int .i64 0, .bool true, .string q3, .int .i64 q4, .int .i64 q5, .string q6] 39 (0, 0)))
        case first =>
          go_region_law ((refine step_append_lies _ (by rfl) (.tmp 46) (.tmp 48) 23 (by rfl) B 39 i0 zJob 7 72 Try.underlying23 hi0 hz0 hz1 hz2 (by rfl) (by decide) (.slice sa ss.length sc) ss.length (ss.flatMap Job.c) (by rfl) HROW.out ⟨w5.heap.size, 0, none⟩ 1 1 (Job.c (jobOf next 0 true ⟨q0, q1, q2, q3, q4, q5, q6⟩)) (by rfl) (by rfl) HNW.out H1C.out (by decide) (by unfold maxLen; omega) (by omega) hBB _ rfl ?_; intro g cap w6 hown hgrow hat _; have KP := Lib.hid (KEEP.out g cap w6 hown hgrow hat); have g2 := (cells12 KP.out.1).2.2.2.1; have z2 := Lib.frozen_of_heap KP.out.1 3; clear hown hgrow hat))
          all_goals
            go_wp2_with fail
            go_meet
            exact ⟨g, cap, set_heap KP.out.1 3 _ (by simp), KP.out.2.set 3 _⟩
        case rest =>
          obtain ⟨g, cap, x0, X⟩ := hcut
          have X0 := Lib.hid x0
          have XX := Lib.hid X
          obtain ⟨c0, c1, c2, c3, c4, c5, c6, c7, c8, c9, c10, c11⟩ := cells12 x0
          obtain ⟨d0, d1, d2, d3, d4, d5, d6⟩ := cells7 X.k3
          obtain ⟨e0, e1, e2, e3, e4⟩ := cells5 X.k1
          obtain ⟨z0, z1, z2, z3, z4⟩ := frz5 X.k1
          have y1 := Lib.frozen_of_heap x0 1
          clear x0 X
          go_wp2_with fail
          obtain ⟨W7, hW7, Y0, YX⟩ : ∃ W7, W7 = wc.setCell ⟨w.heap.size, 1, none⟩ (.int .i64 (next + 1)) ∧ Hid (W7.heap[w.heap.size]? = some (.cells #[.int .i64 now, .int .i64 (next + 1), .slice ta ts.length tc, .slice (some ⟨g, 0, none⟩) (ss.length + 1) cap, .slice ma ms.length mc, .int .i64 q0, .int .i64 q1, .int .i64 q2, .string q3, .int .i64 q4, .int .i64 q5, .string q6] 64 (0, 0))) ∧ Hid (PostX B (own3 (.slice ta ts.length tc) (.slice sa ss.length sc) (.slice ma ms.length mc)) w W7 ts (ss ++ [jobOf next 0 true ⟨q0, q1, q2, q3, q4, q5, q6⟩]) ms (.slice ta ts.length tc) (.slice (some ⟨g, 0, none⟩) (ss.length + 1) cap) (.slice ma ms.length mc) (.cells #[.int .i64 0, .int .i64 0, .slice none 0 0, .slice none 0 0, .slice none 0 0] 26 (0, 0)) (.cells #[.int .i64 next, .int .i64 0, .bool true, .string q3, .int .i64 q4, .int .i64 q5, .string q6] 39 (0, 0))) := ⟨_, rfl, Lib.hid (set_heap X0.out 1 _ (by simp)), Lib.hid (PostX.set XX.out 1 _)⟩
          rw [← hW7]
          clear hW7 c0 c1 c2 c3 c4 c5 c6 c7 c8 c9 c10 c11 d0 d1 d2 d3 d4 d5 d6 e0 e1 e2 e3 e4 z0 z1 z2 z3 z4 y1
          obtain ⟨c0, c1, c2, c3, c4, c5, c6, c7, c8, c9, c10, c11⟩ := cells12 Y0.out
          obtain ⟨d0, d1, d2, d3, d4, d5, d6⟩ := cells7 YX.out.k3
          obtain ⟨e0, e1, e2, e3, e4⟩ := cells5 YX.out.k1
          obtain ⟨z0, z1, z2, z3, z4⟩ := frz5 YX.out.k1
          clear c5 c6 c7 c8 c9 c10 c11 d1 d2 d3 d4 d5 d6
          go_region
          all_goals
            go_wp2_with fail
            obtain ⟨hh, hg⟩ := sets5 YX.out.k1 (.int .i64 now) (.int .i64 (next + 1)) (.slice ta ts.length tc) (.slice (some ⟨g, 0, none⟩) (ss.length + 1) cap) (.slice ma ms.length mc)
            obtain ⟨W8, hW8⟩ : ∃ W8, W8 = (((((W7.setCell ⟨w.heap.size + 1, 0, none⟩ (.int .i64 now)).setCell ⟨w.heap.size + 1, 1, none⟩ (.int .i64 (next + 1))).setCell ⟨w.heap.size + 1, 2, none⟩ (.slice ta ts.length tc)).setCell ⟨w.heap.size + 1, 3, none⟩ (.slice (some ⟨g, 0, none⟩) (ss.length + 1) cap)).setCell ⟨w.heap.size + 1, 4, none⟩ (.slice ma ms.length mc)) := ⟨_, rfl⟩
            rw [← hW8] at hh hg ⊢
            clear c0 c1 c2 c3 c4 d0 e0 e1 e2 e3 e4 z0 z1 z2 z3 z4
            obtain ⟨e0, e1, e2, e3, e4⟩ := cells5 hh
            refine bodyPost_ret (v := _) (by simp [results, Try.results39, go_sem, e0, e1, e2, e3, e4]; rfl) rfl ?_
            obtain ⟨r1, r2⟩ := YX.out.done hg
            refine ⟨.slice ta ts.length tc, .slice (some ⟨g, 0, none⟩) (ss.length + 1) cap, .slice ma ms.length mc, ?_, ?_, r2⟩
            · simp [Lp.post, hf]; rfl
            · simp only [Lp.post, hf]; exact r1
      · obtain ⟨c0, c1, c2, c3, c4⟩ := cells5 K2.out
        obtain ⟨d0, d1, d2, d3, d4⟩ := cells5 K1.out
        obtain ⟨f0, f1, f2, f3, f4⟩ := frz5 K1.out
        go_wp2_with fail
        obtain ⟨hh, hg⟩ := sets5 K1.out (.int .i64 now) (.int .i64 next) (.slice ta ts.length tc) (.slice sa ss.length sc) (.slice ma ms.length mc)
        obtain ⟨W6, hW6⟩ : ∃ W6, W6 = (((((w5.setCell ⟨w.heap.size + 1, 0, none⟩ (.int .i64 now)).setCell ⟨w.heap.size + 1, 1, none⟩ (.int .i64 next)).setCell ⟨w.heap.size + 1, 2, none⟩ (.slice ta ts.length tc)).setCell ⟨w.heap.size + 1, 3, none⟩ (.slice sa ss.length sc)).setCell ⟨w.heap.size + 1, 4, none⟩ (.slice ma ms.length mc)) := ⟨_, rfl⟩
        rw [← hW6] at hh hg ⊢
        obtain ⟨e0, e1, e2, e3, e4⟩ := cells5 hh
        refine bodyPost_ret (v := _) (by simp [results, Try.results39, go_sem, e0, e1, e2, e3, e4]; rfl) rfl ?_
        obtain ⟨n1, n2, n3⟩ := HO.out.not (b := w.heap.size + 1) (by omega)
        refine ⟨.slice ta ts.length tc, .slice sa ss.length sc, .slice ma ms.length mc, ?_, ?_, (Bl.of_below KB.out.1).grown hg (fun k e => .inr (by injection e with e; omega)), At.refl⟩
        · simp [Lp.post, hf]; rfl
        · simp only [Lp.post, hf]; exact KL.out.far hg n1 n2 n3
theorem post_any (B : Nat) (now next : Int) (ts ss : List Job) (ms : List Tim) (vt vs vm : Value) (a : Qst) (small : Bool) (w : World) (h : LpOwn w B ts ss ms vt vs vm) (hB : B ≤ w.heap.size) (h1 : ts.length ≤ 100) (h2 : ss.length ≤ 100) (hn1 : 0 ≤ next) (hn2 : next ≤ 1000000000) :
    Calls Try.prog 39 #[askedV now next vt vs vm a, .bool small] w (AskSaid w B (own3 vt vs vm) ((⟨now, next, ts, ss, ms⟩ : Lp).post a small)) := by
  cases small
  · exact post_task B now next ts ss ms vt vs vm a w h hB h1 hn1 hn2
  · exact post_small B now next ts ss ms vt vs vm a w h hB h2 hn1 hn2
end Go.Proofs.Ytpmklganodlciaa
