/- loop.timer. -/
import Derived.Test.YtpmklganodlciaaT15
namespace Go.Proofs.Ytpmklganodlciaa
open Go.RowKit

theorem calls_gen {P : Program} {f : Nat} {args : Array Value} {W : World} {Q : Ending → World → Prop} (Φ : World → Prop) (h0 : Φ W) (h : ∀ w4, Φ w4 → Calls P f args w4 Q) : Calls P f args W Q := h W h0
def put5 (w : World) (b : Nat) (v0 v1 v2 v3 v4 : Value) : World := ((((w.setCell ⟨b, 0, none⟩ v0).setCell ⟨b, 1, none⟩ v1).setCell ⟨b, 2, none⟩ v2).setCell ⟨b, 3, none⟩ v3).setCell ⟨b, 4, none⟩ v4
theorem put5_heap {w : World} {b : Nat} {t : TypeId} {x0 x1 x2 x3 x4 : Value} (h : w.heap[b]? = some (.cells #[x0, x1, x2, x3, x4] t (0, 0))) (v0 v1 v2 v3 v4 : Value) :
    (put5 w b v0 v1 v2 v3 v4).heap[b]? = some (.cells #[v0, v1, v2, v3, v4] t (0, 0)) ∧ w.grownBy (put5 w b v0 v1 v2 v3 v4) (some b) := sets5 h v0 v1 v2 v3 v4
theorem within_b {n l h : Int} {b : Bool} (hb : within n l h = b) (w : World) : Calls Try.prog 24 #[.int .i64 n, .int .i64 l, .int .i64 h] w fun e w' => e = .returned (.bool b) ∧ w = w' := by rw [← hb]; exact within_any n l h w
theorem body_put5d {P : Program} {f : Func} {Q : Ending → World → Prop} {x : Exit} {a : Act} {w : World} {b : Nat} {t : TypeId} {x0 x1 x2 x3 x4 v0 v1 v2 v3 v4 : Value} (h : w.heap[b]? = some (.cells #[x0, x1, x2, x3, x4] t (0, 0)))
    (k : ∀ W6, W6.heap[b]? = some (.cells #[v0, v1, v2, v3, v4] t (0, 0)) → w.grownBy W6 (some b) → bodyPost P f Q x a W6.drew) : bodyPost P f Q x a (((((w.setCell ⟨b, 0, none⟩ v0).setCell ⟨b, 1, none⟩ v1).setCell ⟨b, 2, none⟩ v2).setCell ⟨b, 3, none⟩ v3).setCell ⟨b, 4, none⟩ v4).drew := k _ (sets5 h v0 v1 v2 v3 v4).1 (sets5 h v0 v1 v2 v3 v4).2
theorem body_put5 {P : Program} {f : Func} {Q : Ending → World → Prop} {x : Exit} {a : Act} {w : World} {b : Nat} {t : TypeId} {x0 x1 x2 x3 x4 v0 v1 v2 v3 v4 : Value} (h : w.heap[b]? = some (.cells #[x0, x1, x2, x3, x4] t (0, 0)))
    (k : ∀ W6, W6.heap[b]? = some (.cells #[v0, v1, v2, v3, v4] t (0, 0)) → w.grownBy W6 (some b) → bodyPost P f Q x a W6) : bodyPost P f Q x a (((((w.setCell ⟨b, 0, none⟩ v0).setCell ⟨b, 1, none⟩ v1).setCell ⟨b, 2, none⟩ v2).setCell ⟨b, 3, none⟩ v3).setCell ⟨b, 4, none⟩ v4) := k _ (sets5 h v0 v1 v2 v3 v4).1 (sets5 h v0 v1 v2 v3 v4).2
/-- Three blocks of the call's own: what was asked, the answer, a timer. -/
structure TimX (B : Nat) (u : List (Option Nat)) (w wx : World) (ts ss : List Job) (ms : List Tim) (vt vs vm : Value) (o0 o1 o2 : Obj) : Prop where
  k0 : wx.heap[w.heap.size]? = some o0
  k1 : wx.heap[w.heap.size + 1]? = some o1
  k2 : wx.heap[w.heap.size + 1 + 1]? = some o2
  own : LpOwn wx B ts ss ms vt vs vm
  bl : Bl w wx u
  sz : w.heap.size + 3 ≤ wx.heap.size
  no : ∀ k, k < 3 → vt.ownBlock ≠ some (w.heap.size + k) ∧ vs.ownBlock ≠ some (w.heap.size + k) ∧ vm.ownBlock ≠ some (w.heap.size + k)
  at_ : At w u vt vs vm
section
variable {B : Nat} {u : List (Option Nat)} {w wx w' : World} {ts ss : List Job} {ms : List Tim} {vt vs vm : Value} {o0 o1 o2 : Obj}
theorem TimX.mk3 (h : LpOwn w B ts ss ms vt vs vm) (o0 o1 o2 : Obj) : TimX B (own3 vt vs vm) w (((w.alloc o0).alloc o1).alloc o2) ts ss ms vt vs vm o0 o1 o2 where
  k0 := alloc_keep (alloc_keep (alloc_at rfl _) _) _
  k1 := alloc_keep (alloc_at (by simp) _) _
  k2 := alloc_at (by simp) _
  own := ((h.alloc _).alloc _).alloc _
  bl := Bl.of_below ((((Below.refl _ _).alloc (Nat.le_refl _) _).alloc (by simp <;> omega) _).alloc (by simp <;> omega) _)
  sz := by simp
  no k hk := h.not (by omega)
  at_ := At.refl
theorem TimX.below (h : TimX B u w wx ts ss ms vt vs vm o0 o1 o2) (hb : Below wx.heap.size wx w') : TimX B u w w' ts ss ms vt vs vm o0 o1 o2 where
  k0 := (hb.block _ (by have := h.sz; omega)).trans h.k0
  k1 := (hb.block _ (by have := h.sz; omega)).trans h.k1
  k2 := (hb.block _ (by have := h.sz; omega)).trans h.k2
  own := h.own.below hb
  bl := h.bl.trans_below hb
  sz := Nat.le_trans h.sz hb.size
  no := h.no
  at_ := h.at_
theorem TimX.drew (h : TimX B u w wx ts ss ms vt vs vm o0 o1 o2) : TimX B u w wx.drew ts ss ms vt vs vm o0 o1 o2 :=
  ⟨h.k0, h.k1, h.k2, ⟨h.own.t, h.own.s, h.own.m, h.own.d1, h.own.d2, h.own.d3⟩, h.bl.drew, h.sz, h.no, h.at_⟩
theorem TimX.set0 {c : Array Value} {t : TypeId} (h : TimX B u w wx ts ss ms vt vs vm (.cells c t (0, 0)) o1 o2) (i : Nat) (v : Value) (hi : i < c.size) : TimX B u w (wx.setCell ⟨w.heap.size, i, none⟩ v) ts ss ms vt vs vm (.cells (c.set i v) t (0, 0)) o1 o2 := by
  have hg : wx.grownBy (wx.setCell ⟨w.heap.size, i, none⟩ v) (some w.heap.size) := Lib.grownBy_setB (gr_refl wx _) _ _
  obtain ⟨n1, n2, n3⟩ := h.no 0 (by omega)
  exact ⟨set_heap h.k0 i v hi, set_far h.k1 (by omega) _ _, set_far h.k2 (by omega) _ _, h.own.far hg n1 n2 n3, h.bl.grown hg (fun k e => .inr (by injection e with e; omega)), Nat.le_trans h.sz hg.size, h.no, h.at_⟩
theorem TimX.set2 {c : Array Value} {t : TypeId} (h : TimX B u w wx ts ss ms vt vs vm o0 o1 (.cells c t (0, 0))) (i : Nat) (v : Value) (hi : i < c.size) : TimX B u w (wx.setCell ⟨w.heap.size + 1 + 1, i, none⟩ v) ts ss ms vt vs vm o0 o1 (.cells (c.set i v) t (0, 0)) := by
  have hg : wx.grownBy (wx.setCell ⟨w.heap.size + 1 + 1, i, none⟩ v) (some (w.heap.size + 1 + 1)) := Lib.grownBy_setB (gr_refl wx _) _ _
  obtain ⟨n1, n2, n3⟩ := h.no 2 (by omega)
  exact ⟨set_far h.k0 (by omega) _ _, set_far h.k1 (by omega) _ _, set_heap h.k2 i v hi, h.own.far hg n1 n2 n3, h.bl.grown hg (fun k e => .inr (by injection e with e; omega)), Nat.le_trans h.sz hg.size, h.no, h.at_⟩
theorem TimX.done (h : TimX B u w wx ts ss ms vt vs vm o0 o1 o2) (hg : wx.grownBy w' (some (w.heap.size + 1))) : LpOwn w' B ts ss ms vt vs vm ∧ Bl w w' u ∧ At w u vt vs vm := by
  obtain ⟨n1, n2, n3⟩ := h.no 1 (by omega)
  exact ⟨h.own.far hg n1 n2 n3, h.bl.grown hg (fun k e => .inr (by injection e with e; omega)), h.at_⟩
/-- The timers' slice is another one. -/
theorem TimX.setM {ms' : List Tim} {vm' : Value} (h : TimX B u w wx ts ss ms vt vs vm o0 o1 o2) (hu : ∀ k, vm.ownBlock = some k → some k ∈ u ∨ w.heap.size ≤ k) (ho : w'.ownsRow B 49 5 vm' ms'.length (ms'.flatMap Tim.c)) (hg : wx.grownBy w' vm.ownBlock) (ha : ∀ k, vm'.ownBlock = some k → vm.ownBlock = some k ∨ wx.heap.size ≤ k) : TimX B u w w' ts ss ms' vt vs vm' o0 o1 o2 where
  k0 := (hg.block _ (by have := h.sz; omega) (fun e => (h.no 0 (by omega)).2.2 e.symm)).trans h.k0
  k1 := (hg.block _ (by have := h.sz; omega) (fun e => (h.no 1 (by omega)).2.2 e.symm)).trans h.k1
  k2 := (hg.block _ (by have := h.sz; omega) (fun e => (h.no 2 (by omega)).2.2 e.symm)).trans h.k2
  own := h.own.setM ho hg ha
  bl := h.bl.grown hg hu
  sz := Nat.le_trans h.sz hg.size
  no k hk := by
    obtain ⟨n1, n2, n3⟩ := h.no k hk
    refine ⟨n1, n2, fun e => ?_⟩
    rcases ha _ e with h1 | h1
    · exact n3 h1
    · have := h.sz; omega
  at_ := At.mk3 (fun k e => h.at_ k (by rw [← e]; simp [own3])) (fun k e => h.at_ k (by rw [← e]; simp [own3])) (fun k e => by
    rcases ha k e with h1 | h1
    · exact hu k h1
    · exact .inr (by have := h.sz; omega))
end
def Lp.timerE (q : Lp) (a : Qst) (L E : Int) : Lp × Int × Int :=
  if !within a.n L 1000000 then (q, 0, 1)
  else if 1000000000 < q.now + a.n then (q, 0, 1)
  else if full q.next q.tims.length then (q, 0, 2)
  else ({ q with tims := laid ⟨q.next, q.now + a.n, E, 0, a.call⟩ q.tims, next := q.next + 1 }, q.next, 0)
def Lp.timer (q : Lp) (a : Qst) (every : Bool) : Lp × Int × Int := q.timerE a (if every then 1 else 0) (if every then a.n else 0)

theorem within_in {n l h : Int} (hb : within n l h = true) : l ≤ n ∧ n ≤ h := by
  unfold within at hb
  rw [Bool.and_eq_true, decide_eq_true_eq, decide_eq_true_eq] at hb
  exact hb
set_option maxRecDepth 100000 in
set_option maxHeartbeats 4000000 in
theorem timer_any (B : Nat) (now next : Int) (ts ss : List Job) (ms : List Tim) (vt vs vm : Value) (a : Qst) (every : Bool) (w : World) (h : LpOwn w B ts ss ms vt vs vm) (hB : B ≤ w.heap.size) (h1 : ms.length ≤ 100) (hs : Srt ms) (hn1 : 0 ≤ next) (hn2 : next ≤ 1000000000) (hw1 : 0 ≤ now) (hw2 : now ≤ 1000000000) :
    Calls Try.prog 40 #[askedV now next vt vs vm a, .bool every] w (AskSaid w B (own3 vt vs vm) ((⟨now, next, ts, ss, ms⟩ : Lp).timer a every)) := by
  obtain ⟨ta, sa, ma, tc, sc, mc, rfl, rfl, rfl⟩ := h.shape
  obtain ⟨q0, q1, q2, q3, q4, q5, q6⟩ := a
  have HO := Lib.hid h
  have HS := Lib.hid hs
  clear h hs
  unfold askedV
  simp only
  have HFU := Lib.hid (fun now next vt vs vm a n w => full_any now next vt vs vm a n w)
  unfold askedV at HFU
  unfold Lp.timer
  cases every
  · obtain ⟨E, hE⟩ : ∃ E : Int, 0 = E := ⟨_, rfl⟩
    have HE := Lib.hid hE
    rw [show (if false = true then q2 else (0 : Int)) = E from hE, show (if false = true then (1 : Int) else 0) = 0 from rfl]
    clear hE
    obtain ⟨b, hb⟩ : ∃ b, within q2 0 1000000 = b := ⟨_, rfl⟩
    go_enter Try.func40, Try.ntmps40
    go_wp2_with fail
    refine calls_gen (Φ := fun w4 => Hid (TimX B (own3 (.slice ta ts.length tc) (.slice sa ss.length sc) (.slice ma ms.length mc)) w w4 ts ss ms (.slice ta ts.length tc) (.slice sa ss.length sc) (.slice ma ms.length mc) (.cells #[.int .i64 now, .int .i64 next, .slice ta ts.length tc, .slice sa ss.length sc, .slice ma ms.length mc, .int .i64 q0, .int .i64 q1, .int .i64 q2, .string q3, .int .i64 q4, .int .i64 q5, .string q6] 64) (.cells #[.int .i64 0, .int .i64 0, .slice none 0 0, .slice none 0 0, .slice none 0 0] 26) (.cells #[.int .i64 next, .int .i64 0, .int .i64 E, .int .i64 0, .string q3] 49))) (Lib.hid (by rw [← HE.out]; exact TimX.mk3 HO.out _ _ _)) ?_
    intro w4 X
    clear HO HE
    refine (within_b hb w4).mono ?_
    rintro e w5 ⟨rfl, rfl⟩
    cases b
    · obtain ⟨c0, c1, c2, c3, c4, c5, c6, c7, c8, c9, c10, c11⟩ := cells12 X.out.k0
      obtain ⟨d0, d1, d2, d3, d4⟩ := cells5 X.out.k1
      obtain ⟨f0, f1, f2, f3, f4⟩ := frz5 X.out.k1
      go_wp2_with fail
      refine body_put5 X.out.k1 ?_
      intro W6 hh hg
      clear c0 c1 c2 c3 c4 c5 c6 c7 c8 c9 c10 c11 d0 d1 d2 d3 d4 f0 f1 f2 f3 f4
      obtain ⟨e0, e1, e2, e3, e4⟩ := cells5 hh
      refine bodyPost_ret (v := _) (by simp [results, Try.results40, go_sem, e0, e1, e2, e3, e4]; rfl) rfl ?_
      obtain ⟨r1, r2⟩ := X.out.done hg
      refine ⟨.slice ta ts.length tc, .slice sa ss.length sc, .slice ma ms.length mc, ?_, ?_, r2⟩
      · simp [Lp.timerE, hb]; rfl
      · simp only [Lp.timerE, hb]; exact r1
    · have hq := within_in hb
      obtain ⟨hq1, hq2⟩ := hq
      obtain ⟨c0, c1, c2, c3, c4, c5, c6, c7, c8, c9, c10, c11⟩ := cells12 X.out.k0
      by_cases hsum : 1000000000 < now + q2
      · obtain ⟨c0, c1, c2, c3, c4, c5, c6, c7, c8, c9, c10, c11⟩ := cells12 X.out.k0
        obtain ⟨d0, d1, d2, d3, d4⟩ := cells5 X.out.k1
        obtain ⟨f0, f1, f2, f3, f4⟩ := frz5 X.out.k1
        go_wp2_with fail
        refine body_put5 X.out.k1 ?_
        intro W6 hh hg
        clear c0 c1 c2 c3 c4 c5 c6 c7 c8 c9 c10 c11 d0 d1 d2 d3 d4 f0 f1 f2 f3 f4
        obtain ⟨e0, e1, e2, e3, e4⟩ := cells5 hh
        refine bodyPost_ret (v := _) (by simp [results, Try.results40, go_sem, e0, e1, e2, e3, e4]; rfl) rfl ?_
        obtain ⟨r1, r2⟩ := X.out.done hg
        refine ⟨.slice ta ts.length tc, .slice sa ss.length sc, .slice ma ms.length mc, ?_, ?_, r2⟩
        · simp [Lp.timerE, hb, hsum]; rfl
        · simp only [Lp.timerE, hb, hsum]; exact r1
      · obtain ⟨f, hf⟩ : ∃ f, full next ms.length = f := ⟨_, rfl⟩
        have hsum' : now + q2 ≤ 1000000000 := by omega
        go_wp2_with fail
        refine (HFU.out now next _ _ _ ⟨q0, q1, q2, q3, q4, q5, q6⟩ _ w4).mono ?_
        rintro e w5 ⟨rfl, hb5⟩
        have X5 := Lib.hid (X.out.below hb5)
        clear X hb5 HFU c0 c1 c2 c3 c4 c5 c6 c7 c8 c9 c10 c11
        rw [hf]
        have X := X5
        clear X5
        obtain ⟨c0, c1, c2, c3, c4, c5, c6, c7, c8, c9, c10, c11⟩ := cells12 X.out.k0
        obtain ⟨d0, d1, d2, d3, d4⟩ := cells5 X.out.k1
        obtain ⟨f0, f1, f2, f3, f4⟩ := frz5 X.out.k1
        cases f
        · obtain ⟨t0, t1, t2, t3, t4⟩ := cells5 X.out.k2
          obtain ⟨g0, g1, g2, g3, g4⟩ := frz5 X.out.k2
          obtain ⟨G0, G1, G2, G3, G4⟩ := frz5 X.out.k0
          go_wp2_with fail
          refine calls_gen (Φ := fun w4 => Hid (TimX B (own3 (.slice ta ts.length tc) (.slice sa ss.length sc) (.slice ma ms.length mc)) w w4 ts ss ms (.slice ta ts.length tc) (.slice sa ss.length sc) (.slice ma ms.length mc) (.cells #[.int .i64 now, .int .i64 next, .slice ta ts.length tc, .slice sa ss.length sc, .slice ma ms.length mc, .int .i64 q0, .int .i64 q1, .int .i64 q2, .string q3, .int .i64 q4, .int .i64 q5, .string q6] 64) (.cells #[.int .i64 0, .int .i64 0, .slice none 0 0, .slice none 0 0, .slice none 0 0] 26) (.cells #[.int .i64 next, .int .i64 (now + q2), .int .i64 E, .int .i64 0, .string q3] 49))) (Lib.hid (X.out.set2 1 _ (by simp))) ?_
          intro w6 X6
          clear c0 c1 c2 c3 c4 c5 c6 c7 c8 c9 c10 c11 d0 d1 d2 d3 d4 f0 f1 f2 f3 f4 t0 t1 t2 t3 t4 g0 g1 g2 g3 g4 G0 G1 G2 G3 G4 X
          have hlay := lay_any B ms ⟨next, now + q2, E, 0, q3⟩ (.slice ma ms.length mc) w6 X6.out.own.m (by omega) HS.out (by have := X6.out.sz; omega)
          obtain ⟨ml, hml⟩ : ∃ ml, laid ⟨next, now + q2, E, 0, q3⟩ ms = ml := ⟨_, rfl⟩
          rw [hml] at hlay
          have HML := Lib.hid hml
          clear hml
          refine hlay.mono ?_
          clear hlay
          rintro e w7 ⟨v', rfl, ho, hg, ha⟩
          have X7 := Lib.hid (X6.out.setM (fun k e => .inl (by rw [← e]; simp [own3])) ho hg ha)
          obtain ⟨na, nc, hv⟩ := own_shape ho
          subst hv
          clear ho hg ha X6
          obtain ⟨c0, c1, c2, c3, c4, c5, c6, c7, c8, c9, c10, c11⟩ := cells12 X7.out.k0
          obtain ⟨G0, G1, G2, G3, G4⟩ := frz5 X7.out.k0
          go_wp2_with fail
          obtain ⟨W8, hW8, X⟩ : ∃ W8, W8 = (w7.setCell ⟨w.heap.size, 4, none⟩ (.slice na ml.length nc)).setCell ⟨w.heap.size, 1, none⟩ (.int .i64 (next + 1)) ∧ Hid (TimX B (own3 (.slice ta ts.length tc) (.slice sa ss.length sc) (.slice ma ms.length mc)) w W8 ts ss ml (.slice ta ts.length tc) (.slice sa ss.length sc) (.slice na ml.length nc) (.cells #[.int .i64 now, .int .i64 (next + 1), .slice ta ts.length tc, .slice sa ss.length sc, .slice na ml.length nc, .int .i64 q0, .int .i64 q1, .int .i64 q2, .string q3, .int .i64 q4, .int .i64 q5, .string q6] 64) (.cells #[.int .i64 0, .int .i64 0, .slice none 0 0, .slice none 0 0, .slice none 0 0] 26) (.cells #[.int .i64 next, .int .i64 (now + q2), .int .i64 E, .int .i64 0, .string q3] 49)) := ⟨_, rfl, Lib.hid ((X7.out.set0 4 _ (by simp)).set0 1 _ (by simp))⟩
          rw [← hW8]
          clear hW8 X7 c0 c1 c2 c3 c4 c5 c6 c7 c8 c9 c10 c11 G0 G1 G2 G3 G4
          obtain ⟨c0, c1, c2, c3, c4, c5, c6, c7, c8, c9, c10, c11⟩ := cells12 X.out.k0
          obtain ⟨d0, d1, d2, d3, d4⟩ := cells5 X.out.k1
          obtain ⟨f0, f1, f2, f3, f4⟩ := frz5 X.out.k1
          have t0 := (cells5 X.out.k2).1
          go_region
          all_goals
            go_wp2_with fail
            refine body_put5d X.out.k1 ?_
            intro W6 hh hg
            clear c0 c1 c2 c3 c4 c5 c6 c7 c8 c9 c10 c11 d0 d1 d2 d3 d4 f0 f1 f2 f3 f4 t0
            obtain ⟨e0, e1, e2, e3, e4⟩ := cells5 hh
            refine bodyPost_ret (v := _) (by simp [results, Try.results40, go_sem, e0, e1, e2, e3, e4]; rfl) rfl ?_
            obtain ⟨r1, r2⟩ := X.out.done hg
            refine ⟨.slice ta ts.length tc, .slice sa ss.length sc, .slice na ml.length nc, ?_, ?_, r2.1.drew, r2.2⟩
            · simp [Lp.timerE, hb, Int.not_lt.2 hsum', hf, HML.out]; rfl
            · simp only [Lp.timerE, hb, Int.not_lt.2 hsum', hf, HML.out]; exact ⟨r1.t, r1.s, r1.m, r1.d1, r1.d2, r1.d3⟩
        · go_wp2_with fail
          refine body_put5 X.out.k1 ?_
          intro W6 hh hg
          clear c0 c1 c2 c3 c4 c5 c6 c7 c8 c9 c10 c11 d0 d1 d2 d3 d4 f0 f1 f2 f3 f4
          obtain ⟨e0, e1, e2, e3, e4⟩ := cells5 hh
          refine bodyPost_ret (v := _) (by simp [results, Try.results40, go_sem, e0, e1, e2, e3, e4]; rfl) rfl ?_
          obtain ⟨r1, r2⟩ := X.out.done hg
          refine ⟨.slice ta ts.length tc, .slice sa ss.length sc, .slice ma ms.length mc, ?_, ?_, r2⟩
          · simp [Lp.timerE, hb, Int.not_lt.2 hsum', hf]; rfl
          · simp only [Lp.timerE, hb, Int.not_lt.2 hsum', hf]; exact r1
  · obtain ⟨E, hE⟩ : ∃ E : Int, q2 = E := ⟨_, rfl⟩
    have HE := Lib.hid hE
    rw [show (if true = true then q2 else (0 : Int)) = E from hE, show (if true = true then (1 : Int) else 0) = 1 from rfl]
    clear hE
    obtain ⟨b, hb⟩ : ∃ b, within q2 1 1000000 = b := ⟨_, rfl⟩
    go_enter Try.func40, Try.ntmps40
    go_wp2_with fail
    go_region
    all_goals
      go_wp2_with fail
      refine calls_gen (Φ := fun w4 => Hid (TimX B (own3 (.slice ta ts.length tc) (.slice sa ss.length sc) (.slice ma ms.length mc)) w w4 ts ss ms (.slice ta ts.length tc) (.slice sa ss.length sc) (.slice ma ms.length mc) (.cells #[.int .i64 now, .int .i64 next, .slice ta ts.length tc, .slice sa ss.length sc, .slice ma ms.length mc, .int .i64 q0, .int .i64 q1, .int .i64 q2, .string q3, .int .i64 q4, .int .i64 q5, .string q6] 64) (.cells #[.int .i64 0, .int .i64 0, .slice none 0 0, .slice none 0 0, .slice none 0 0] 26) (.cells #[.int .i64 next, .int .i64 0, .int .i64 E, .int .i64 0, .string q3] 49))) (Lib.hid (by rw [← HE.out]; exact (TimX.mk3 HO.out _ _ _).drew)) ?_
      intro w4 X
      clear HO HE
      refine (within_b hb w4).mono ?_
      rintro e w5 ⟨rfl, rfl⟩
      cases b
      · obtain ⟨c0, c1, c2, c3, c4, c5, c6, c7, c8, c9, c10, c11⟩ := cells12 X.out.k0
        obtain ⟨d0, d1, d2, d3, d4⟩ := cells5 X.out.k1
        obtain ⟨f0, f1, f2, f3, f4⟩ := frz5 X.out.k1
        go_wp2_with fail
        refine body_put5 X.out.k1 ?_
        intro W6 hh hg
        clear c0 c1 c2 c3 c4 c5 c6 c7 c8 c9 c10 c11 d0 d1 d2 d3 d4 f0 f1 f2 f3 f4
        obtain ⟨e0, e1, e2, e3, e4⟩ := cells5 hh
        refine bodyPost_ret (v := _) (by simp [results, Try.results40, go_sem, e0, e1, e2, e3, e4]; rfl) rfl ?_
        obtain ⟨r1, r2⟩ := X.out.done hg
        refine ⟨.slice ta ts.length tc, .slice sa ss.length sc, .slice ma ms.length mc, ?_, ?_, r2⟩
        · simp [Lp.timerE, hb]; rfl
        · simp only [Lp.timerE, hb]; exact r1
      · have hq := within_in hb
        obtain ⟨hq1, hq2⟩ := hq
        obtain ⟨c0, c1, c2, c3, c4, c5, c6, c7, c8, c9, c10, c11⟩ := cells12 X.out.k0
        by_cases hsum : 1000000000 < now + q2
        · obtain ⟨c0, c1, c2, c3, c4, c5, c6, c7, c8, c9, c10, c11⟩ := cells12 X.out.k0
          obtain ⟨d0, d1, d2, d3, d4⟩ := cells5 X.out.k1
          obtain ⟨f0, f1, f2, f3, f4⟩ := frz5 X.out.k1
          go_wp2_with fail
          refine body_put5 X.out.k1 ?_
          intro W6 hh hg
          clear c0 c1 c2 c3 c4 c5 c6 c7 c8 c9 c10 c11 d0 d1 d2 d3 d4 f0 f1 f2 f3 f4
          obtain ⟨e0, e1, e2, e3, e4⟩ := cells5 hh
          refine bodyPost_ret (v := _) (by simp [results, Try.results40, go_sem, e0, e1, e2, e3, e4]; rfl) rfl ?_
          obtain ⟨r1, r2⟩ := X.out.done hg
          refine ⟨.slice ta ts.length tc, .slice sa ss.length sc, .slice ma ms.length mc, ?_, ?_, r2⟩
          · simp [Lp.timerE, hb, hsum]; rfl
          · simp only [Lp.timerE, hb, hsum]; exact r1
        · obtain ⟨f, hf⟩ : ∃ f, full next ms.length = f := ⟨_, rfl⟩
          have hsum' : now + q2 ≤ 1000000000 := by omega
          go_wp2_with fail
          refine (HFU.out now next _ _ _ ⟨q0, q1, q2, q3, q4, q5, q6⟩ _ w4).mono ?_
          rintro e w5 ⟨rfl, hb5⟩
          have X5 := Lib.hid (X.out.below hb5)
          clear X hb5 HFU c0 c1 c2 c3 c4 c5 c6 c7 c8 c9 c10 c11
          rw [hf]
          have X := X5
          clear X5
          obtain ⟨c0, c1, c2, c3, c4, c5, c6, c7, c8, c9, c10, c11⟩ := cells12 X.out.k0
          obtain ⟨d0, d1, d2, d3, d4⟩ := cells5 X.out.k1
          obtain ⟨f0, f1, f2, f3, f4⟩ := frz5 X.out.k1
          cases f
          · obtain ⟨t0, t1, t2, t3, t4⟩ := cells5 X.out.k2
            obtain ⟨g0, g1, g2, g3, g4⟩ := frz5 X.out.k2
            obtain ⟨G0, G1, G2, G3, G4⟩ := frz5 X.out.k0
            go_wp2_with fail
            refine calls_gen (Φ := fun w4 => Hid (TimX B (own3 (.slice ta ts.length tc) (.slice sa ss.length sc) (.slice ma ms.length mc)) w w4 ts ss ms (.slice ta ts.length tc) (.slice sa ss.length sc) (.slice ma ms.length mc) (.cells #[.int .i64 now, .int .i64 next, .slice ta ts.length tc, .slice sa ss.length sc, .slice ma ms.length mc, .int .i64 q0, .int .i64 q1, .int .i64 q2, .string q3, .int .i64 q4, .int .i64 q5, .string q6] 64) (.cells #[.int .i64 0, .int .i64 0, .slice none 0 0, .slice none 0 0, .slice none 0 0] 26) (.cells #[.int .i64 next, .int .i64 (now + q2), .int .i64 E, .int .i64 0, .string q3] 49))) (Lib.hid (X.out.set2 1 _ (by simp))) ?_
            intro w6 X6
            clear c0 c1 c2 c3 c4 c5 c6 c7 c8 c9 c10 c11 d0 d1 d2 d3 d4 f0 f1 f2 f3 f4 t0 t1 t2 t3 t4 g0 g1 g2 g3 g4 G0 G1 G2 G3 G4 X
            have hlay := lay_any B ms ⟨next, now + q2, E, 0, q3⟩ (.slice ma ms.length mc) w6 X6.out.own.m (by omega) HS.out (by have := X6.out.sz; omega)
            obtain ⟨ml, hml⟩ : ∃ ml, laid ⟨next, now + q2, E, 0, q3⟩ ms = ml := ⟨_, rfl⟩
            rw [hml] at hlay
            have HML := Lib.hid hml
            clear hml
            refine hlay.mono ?_
            clear hlay
            rintro e w7 ⟨v', rfl, ho, hg, ha⟩
            have X7 := Lib.hid (X6.out.setM (fun k e => .inl (by rw [← e]; simp [own3])) ho hg ha)
            obtain ⟨na, nc, hv⟩ := own_shape ho
            subst hv
            clear ho hg ha X6
            obtain ⟨c0, c1, c2, c3, c4, c5, c6, c7, c8, c9, c10, c11⟩ := cells12 X7.out.k0
            obtain ⟨G0, G1, G2, G3, G4⟩ := frz5 X7.out.k0
            go_wp2_with fail
            obtain ⟨W8, hW8, X⟩ : ∃ W8, W8 = (w7.setCell ⟨w.heap.size, 4, none⟩ (.slice na ml.length nc)).setCell ⟨w.heap.size, 1, none⟩ (.int .i64 (next + 1)) ∧ Hid (TimX B (own3 (.slice ta ts.length tc) (.slice sa ss.length sc) (.slice ma ms.length mc)) w W8 ts ss ml (.slice ta ts.length tc) (.slice sa ss.length sc) (.slice na ml.length nc) (.cells #[.int .i64 now, .int .i64 (next + 1), .slice ta ts.length tc, .slice sa ss.length sc, .slice na ml.length nc, .int .i64 q0, .int .i64 q1, .int .i64 q2, .string q3, .int .i64 q4, .int .i64 q5, .string q6] 64) (.cells #[.int .i64 0, .int .i64 0, .slice none 0 0, .slice none 0 0, .slice none 0 0] 26) (.cells #[.int .i64 next, .int .i64 (now + q2), .int .i64 E, .int .i64 0, .string q3] 49)) := ⟨_, rfl, Lib.hid ((X7.out.set0 4 _ (by simp)).set0 1 _ (by simp))⟩
            rw [← hW8]
            clear hW8 X7 c0 c1 c2 c3 c4 c5 c6 c7 c8 c9 c10 c11 G0 G1 G2 G3 G4
            obtain ⟨c0, c1, c2, c3, c4, c5, c6, c7, c8, c9, c10, c11⟩ := cells12 X.out.k0
            obtain ⟨d0, d1, d2, d3, d4⟩ := cells5 X.out.k1
            obtain ⟨f0, f1, f2, f3, f4⟩ := frz5 X.out.k1
            have t0 := (cells5 X.out.k2).1
            go_region
            all_goals
              go_wp2_with fail
              refine body_put5d X.out.k1 ?_
              intro W6 hh hg
              clear c0 c1 c2 c3 c4 c5 c6 c7 c8 c9 c10 c11 d0 d1 d2 d3 d4 f0 f1 f2 f3 f4 t0
              obtain ⟨e0, e1, e2, e3, e4⟩ := cells5 hh
              refine bodyPost_ret (v := _) (by simp [results, Try.results40, go_sem, e0, e1, e2, e3, e4]; rfl) rfl ?_
              obtain ⟨r1, r2⟩ := X.out.done hg
              refine ⟨.slice ta ts.length tc, .slice sa ss.length sc, .slice na ml.length nc, ?_, ?_, r2.1.drew, r2.2⟩
              · simp [Lp.timerE, hb, Int.not_lt.2 hsum', hf, HML.out]; rfl
              · simp only [Lp.timerE, hb, Int.not_lt.2 hsum', hf, HML.out]; exact ⟨r1.t, r1.s, r1.m, r1.d1, r1.d2, r1.d3⟩
          · go_wp2_with fail
            refine body_put5 X.out.k1 ?_
            intro W6 hh hg
            clear c0 c1 c2 c3 c4 c5 c6 c7 c8 c9 c10 c11 d0 d1 d2 d3 d4 f0 f1 f2 f3 f4
            obtain ⟨e0, e1, e2, e3, e4⟩ := cells5 hh
            refine bodyPost_ret (v := _) (by simp [results, Try.results40, go_sem, e0, e1, e2, e3, e4]; rfl) rfl ?_
            obtain ⟨r1, r2⟩ := X.out.done hg
            refine ⟨.slice ta ts.length tc, .slice sa ss.length sc, .slice ma ms.length mc, ?_, ?_, r2⟩
            · simp [Lp.timerE, hb, Int.not_lt.2 hsum', hf]; rfl
            · simp only [Lp.timerE, hb, Int.not_lt.2 hsum', hf]; exact r1

end Go.Proofs.Ytpmklganodlciaa
