/- loop.next. -/
import Derived.Test.YtpmklganodlciaaT20
namespace Go.Proofs.Ytpmklganodlciaa
open Go.RowKit

def dueAt (now : Int) (ts : List Job) (ms : List Tim) (until_ : Int) : Bool :=
  match ms with
  | [] => false
  | t :: _ => decide (t.at_ ≤ now) || (ts.isEmpty && decide (t.at_ ≤ until_))
def Job.zero : Job := ⟨0, 0, false, ⟨#[]⟩, 0, 0, ⟨#[]⟩⟩
def Lp.nxt (q : Lp) (until_ : Int) : Lp × Job × Bool :=
  match q.smalls with
  | j :: r => (⟨q.now, q.next, q.tasks, r, q.tims⟩, j, true)
  | [] => match dueAt q.now q.tasks q.tims until_, q.tims with
    | true, t :: r => ((q.fire t r).1, (q.fire t r).2, true)
    | _, _ => match q.tasks with
      | j :: r => (⟨q.now, q.next, r, q.smalls, q.tims⟩, j, true)
      | [] => (⟨until_, q.next, q.tasks, q.smalls, q.tims⟩, Job.zero, false)
/-- What next answers. -/
def NextSaid (w : World) (B : Nat) (u : List (Option Nat)) (r : Lp × Job × Bool) (e : Ending) (w' : World) : Prop :=
  ∃ vt vs vm, e = .returned (.tuple #[r.1.v vt vs vm, r.2.1.v, .bool r.2.2]) ∧ LpOwn w' B r.1.tasks r.1.smalls r.1.tims vt vs vm ∧ Bl w w' u ∧ At w u vt vs vm
theorem Ex.call {wx w' : World} {N : Nat} {o : Obj} {vt vs vm : Value} (h : Ex wx N o vt vs vm) (hb : Below wx.heap.size wx w') : Ex w' N o vt vs vm := ⟨(hb.block N h.lt).trans h.h, h.no⟩
section
variable {B : Nat} {u : List (Option Nat)} {w wx : World} {ts ss : List Job} {ms : List Tim} {j : Job} {r : List Job} {vt vs vm : Value} {g n c : Nat} {os : List Obj}
theorem Fx.jobT (h : Fx B u w wx (j :: r) ss ms (.slice (some ⟨g, 0, none⟩) n c) vs vm os) : JobAt wx g 0 j := by
  have h' := Own.sl Job.len h.own.t
  obtain ⟨b0, o0, he, sl⟩ := h'.job 0 (by simp)
  injection he with he
  injection he with he hz
  subst he
  subst hz
  simpa using sl
theorem Fx.jobS (h : Fx B u w wx ts (j :: r) ms vt (.slice (some ⟨g, 0, none⟩) n c) vm os) : JobAt wx g 0 j := by
  have h' := Own.sl Job.len h.own.s
  obtain ⟨b0, o0, he, sl⟩ := h'.job 0 (by simp)
  injection he with he
  injection he with he hz
  subst he
  subst hz
  simpa using sl
end
set_option maxRecDepth 100000 in
set_option maxHeartbeats 4000000 in
theorem next_any (B : Nat) (now next : Int) (ts ss : List Job) (ms : List Tim) (vt vs vm : Value) (until_ : Int) (w : World) (h : LpOwn w B ts ss ms vt vs vm) (hB : B ≤ w.heap.size) (hr : Right ⟨now, next, ts, ss, ms⟩) :
    Calls Try.prog 25 #[(⟨now, next, ts, ss, ms⟩ : Lp).v vt vs vm, .int .i64 until_] w (NextSaid w B (own3 vt vs vm) ((⟨now, next, ts, ss, ms⟩ : Lp).nxt until_)) := by
  obtain ⟨ta, sa, ma, tc, sc, mc, rfl, rfl, rfl⟩ := h.shape
  have HO := Lib.hid h
  have HR := Lib.hid hr
  clear h hr
  have ht100 := HR.out.h1
  have hs100 := HR.out.h2
  have hm100 := HR.out.h3
  simp only at ht100 hs100 hm100
  obtain ⟨D, hD⟩ : ∃ D, dueAt now ts ms until_ = D := ⟨_, rfl⟩
  have HD := Lib.hid hD
  clear hD
  simp only [Lp.v]
  go_enter Try.func25, Try.ntmps25
  go_upto_region 1 with fail
  refine code_gen (Φ := fun w4 => Hid (Fx B (own3 (.slice ta ts.length tc) (.slice sa ss.length sc) (.slice ma ms.length mc)) w w4 ts ss ms (.slice ta ts.length tc) (.slice sa ss.length sc) (.slice ma ms.length mc) [.cells #[.int .i64 now, .int .i64 next, .slice ta ts.length tc, .slice sa ss.length sc, .slice ma ms.length mc] 26, .cells #[.int .i64 0, .int .i64 0, .slice none 0 0, .slice none 0 0, .slice none 0 0] 26, .cells #[.int .i64 0, .int .i64 0, .bool false, .string ⟨#[]⟩, .int .i64 0, .int .i64 0, .string ⟨#[]⟩] 39]) ∧ Hid (w4.heap.size = w.heap.size + 1 + 1 + 1)) ⟨Lib.hid (Fx.start3 HO.out _ _ _), Lib.hid (by simp)⟩ ?_
  rintro w4 ⟨X, HZ⟩
  clear HO
  obtain ⟨c0, c1, c2, c3, c4⟩ := cells5 X.out.k0
  go_cut [7] (fun v wx => v = .bool D ∧ Fx B (own3 (.slice ta ts.length tc) (.slice sa ss.length sc) (.slice ma ms.length mc)) w wx ts ss ms (.slice ta ts.length tc) (.slice sa ss.length sc) (.slice ma ms.length mc) [.cells #[.int .i64 now, .int .i64 next, .slice ta ts.length tc, .slice sa ss.length sc, .slice ma ms.length mc] 26, .cells #[.int .i64 0, .int .i64 0, .slice none 0 0, .slice none 0 0, .slice none 0 0] 26, .cells #[.int .i64 0, .int .i64 0, .bool false, .string ⟨#[]⟩, .int .i64 0, .int .i64 0, .string ⟨#[]⟩] 39] ∧ wx.heap.size = w.heap.size + 1 + 1 + 1)
  case first =>
    have HF := Lib.hid (fun (n : Nat) => (⟨X.out.call (below_drewN (Below.refl _ _) n), HZ.out⟩ : Fx B (own3 (.slice ta ts.length tc) (.slice sa ss.length sc) (.slice ma ms.length mc)) w (w4.drewN n) ts ss ms (.slice ta ts.length tc) (.slice sa ss.length sc) (.slice ma ms.length mc) [.cells #[.int .i64 now, .int .i64 next, .slice ta ts.length tc, .slice sa ss.length sc, .slice ma ms.length mc] 26, .cells #[.int .i64 0, .int .i64 0, .slice none 0 0, .slice none 0 0, .slice none 0 0] 26, .cells #[.int .i64 0, .int .i64 0, .bool false, .string ⟨#[]⟩, .int .i64 0, .int .i64 0, .string ⟨#[]⟩] 39] ∧ (w4.drewN n).heap.size = w.heap.size + 1 + 1 + 1))
    cases ms with
    | nil =>
      have hD0 : false = D := HD.out
      subst hD0
      go_quiet (fail); all_goals (go_wp2_with fail; go_meet; exact ⟨rfl, HF.out _⟩)
    | cons t r =>
      obtain ⟨g, rfl⟩ := own_some X.out.own.m (by simp)
      obtain ⟨id, ta0, te, tt, call⟩ := t
      have s1 := X.out.tim.c1
      simp only [Nat.zero_add] at s1
      have hpos : (0 : Int) < ((r.length + 1 : Nat) : Int) := by omega
      simp only [List.length_cons] at c4 hm100 ⊢
      by_cases h1 : ta0 ≤ now
      · have hD0 : true = D := by rw [← HD.out]; simp [dueAt, h1]
        subst hD0
        go_quiet (fail); all_goals (go_wp2_with fail; go_meet; exact ⟨rfl, HF.out _⟩)
      · have h1' : decide (ta0 ≤ now) = false := decide_eq_false h1
        cases ts with
        | nil =>
          by_cases h2 : ta0 ≤ until_
          · have hD0 : true = D := by rw [← HD.out]; simp [dueAt, h1, h2]
            subst hD0
            go_quiet (fail); all_goals (go_wp2_with fail; go_meet; exact ⟨rfl, HF.out _⟩)
          · have hD0 : false = D := by rw [← HD.out]; simp [dueAt, h1, h2]
            have h2' : decide (ta0 ≤ until_) = false := decide_eq_false h2
            subst hD0
            go_quiet (fail); all_goals (go_wp2_with fail; go_meet; exact ⟨rfl, HF.out _⟩)
        | cons j l =>
          have hD0 : false = D := by rw [← HD.out]; simp [dueAt, h1]
          have hl : ((l.length : Int) + 1 == 0) = false := by rw [beq_eq_false_iff_ne]; omega
          have hl2 : ¬ ((l.length : Int) + 1 = 0) := by omega
          simp only [List.length_cons] at c2 ht100 ⊢
          subst hD0
          go_quiet (fail); all_goals (go_wp2_with fail; go_meet; exact ⟨rfl, HF.out _⟩)
  case rest =>
    obtain ⟨rfl, X', hz'⟩ := hcut
    have X1 := Lib.hid X'
    have HZ1 := Lib.hid hz'
    clear X' hz' X HZ c0 c1 c2 c3 c4
    cases ss with
    | cons j r =>
      obtain ⟨id, src, small, call, ak, an, as1⟩ := j
      have HN : Hid ((⟨now, next, ts, ⟨id, src, small, call, ak, an, as1⟩ :: r, ms⟩ : Lp).nxt until_ = (⟨now, next, ts, r, ms⟩, ⟨id, src, small, call, ak, an, as1⟩, true)) := Lib.hid rfl
      obtain ⟨g, rfl⟩ := own_some X1.out.own.s (by simp)
      have jc := X1.out.jobS
      obtain ⟨j0, j1, j2, j3, j4, j5, j6⟩ := jc
      simp only [Nat.zero_add] at j0 j1 j2 j3 j4 j5 j6
      obtain ⟨c0, c1, c2, c3, c4⟩ := cells5 X1.out.k0
      simp only [List.length_cons] at c3 ⊢
      go_upto_region 4 with fail
      rw [HZ1.out]
      refine code_gen (Φ := fun wy => Hid (Fx B (own3 (.slice ta ts.length tc) (.slice (some ⟨g, 0, none⟩) (r.length + 1) sc) (.slice ma ms.length mc)) w wy ts (⟨id, src, small, call, ak, an, as1⟩ :: r) ms (.slice ta ts.length tc) (.slice (some ⟨g, 0, none⟩) (r.length + 1) sc) (.slice ma ms.length mc) [.cells #[.int .i64 now, .int .i64 next, .slice ta ts.length tc, .slice (some ⟨g, 0, none⟩) (r.length + 1) sc, .slice ma ms.length mc] 26, .cells #[.int .i64 0, .int .i64 0, .slice none 0 0, .slice none 0 0, .slice none 0 0] 26, .cells #[.int .i64 0, .int .i64 0, .bool false, .string ⟨#[]⟩, .int .i64 0, .int .i64 0, .string ⟨#[]⟩] 39, .cells #[.int .i64 id, .int .i64 src, .bool small, .string call, .int .i64 ak, .int .i64 an, .string as1] 39])) (Lib.hid (X1.out.push HZ1.out _)) ?_
      intro w5 Y
      clear X1 HZ1 c0 c1 c2 c3 c4 j0 j1 j2 j3 j4 j5 j6
      obtain ⟨c0, c1, c2, c3, c4⟩ := cells5 Y.out.k0
      go_wp2_with fail
      refine (delJ_first g sc B ⟨id, src, small, call, ak, an, as1⟩ r w5 Y.out.own.s (by simp only [List.length_cons] at hs100; omega)).mono ?_
      rintro e w6 ⟨rfl, ho, hgr⟩
      have Z6 := Lib.hid (Y.out.setS ho hgr (fun k e => .inl e))
      clear ho hgr Y c0 c1 c2 c3 c4
      obtain ⟨c0, c1, c2, c3, c4⟩ := cells5 Z6.out.k0
      obtain ⟨f0, f1, f2, f3, f4⟩ := frz5 Z6.out.k0
      go_upto_region 5 with fail
      refine code_gen (Φ := fun wy => Hid (Fx B (own3 (.slice ta ts.length tc) (.slice (some ⟨g, 0, none⟩) (r.length + 1) sc) (.slice ma ms.length mc)) w wy ts r ms (.slice ta ts.length tc) (.slice (some ⟨g, 0, none⟩) r.length sc) (.slice ma ms.length mc) [.cells #[.int .i64 now, .int .i64 next, .slice ta ts.length tc, .slice (some ⟨g, 0, none⟩) r.length sc, .slice ma ms.length mc] 26, .cells #[.int .i64 0, .int .i64 0, .slice none 0 0, .slice none 0 0, .slice none 0 0] 26, .cells #[.int .i64 0, .int .i64 0, .bool false, .string ⟨#[]⟩, .int .i64 0, .int .i64 0, .string ⟨#[]⟩] 39, .cells #[.int .i64 id, .int .i64 src, .bool small, .string call, .int .i64 ak, .int .i64 an, .string as1] 39])) (Lib.hid (Z6.out.set 0 rfl 3 (.slice (some ⟨g, 0, none⟩) r.length sc) (by simp))) ?_
      intro w7 X
      clear Z6 c0 c1 c2 c3 c4 f0 f1 f2 f3 f4
      obtain ⟨c0, c1, c2, c3, c4⟩ := cells5 X.out.k0
      obtain ⟨d0, d1, d2, d3, d4⟩ := cells5 X.out.k1
      obtain ⟨f0, f1, f2, f3, f4⟩ := frz5 X.out.k1
      obtain ⟨j0, j1, j2, j3, j4, j5, j6⟩ := cells7 X.out.k3
      obtain ⟨k0, k1, k2, k3, k4, k5, k6⟩ := cells7 X.out.k2
      obtain ⟨z0, z1, z2, z3, z4, z5, z6⟩ := frz7 X.out.k2
      go_region
      all_goals
        go_wp2_with fail
        refine body_gen (Φ := fun W6 => Hid (Fx B (own3 (.slice ta ts.length tc) (.slice (some ⟨g, 0, none⟩) (r.length + 1) sc) (.slice ma ms.length mc)) w W6 ts r ms (.slice ta ts.length tc) (.slice (some ⟨g, 0, none⟩) r.length sc) (.slice ma ms.length mc) [.cells #[.int .i64 now, .int .i64 next, .slice ta ts.length tc, .slice (some ⟨g, 0, none⟩) r.length sc, .slice ma ms.length mc] 26, .cells #[.int .i64 now, .int .i64 next, .slice ta ts.length tc, .slice (some ⟨g, 0, none⟩) r.length sc, .slice ma ms.length mc] 26, .cells #[.int .i64 id, .int .i64 src, .bool small, .string call, .int .i64 ak, .int .i64 an, .string as1] 39, .cells #[.int .i64 id, .int .i64 src, .bool small, .string call, .int .i64 ak, .int .i64 an, .string as1] 39])) (Lib.hid (((X.out.put5 1 rfl (.int .i64 now) (.int .i64 next) (.slice ta ts.length tc) (.slice (some ⟨g, 0, none⟩) r.length sc) (.slice ma ms.length mc)).put7 2 rfl (.int .i64 id) (.int .i64 src) (.bool small) (.string call) (.int .i64 ak) (.int .i64 an) (.string as1)).drew)) ?_
        intro W6 F
        clear c0 c1 c2 c3 c4 d0 d1 d2 d3 d4 f0 f1 f2 f3 f4 j0 j1 j2 j3 j4 j5 j6 k0 k1 k2 k3 k4 k5 k6 z0 z1 z2 z3 z4 z5 z6 X
        obtain ⟨e0, e1, e2, e3, e4⟩ := cells5 F.out.k1
        obtain ⟨g0, g1, g2, g3, g4, g5, g6⟩ := cells7 F.out.k2
        refine bodyPost_ret (v := _) (by simp [results, Try.results25, go_sem, e0, e1, e2, e3, e4, g0, g1, g2, g3, g4, g5, g6]; rfl) rfl ?_
        rw [HN.out]
        exact ⟨_, _, _, rfl, F.out.own, F.out.bl, F.out.at_⟩
    | nil =>
      have e0 : ([] : List Job).length = 0 := rfl
      cases D with
      | true =>
        cases ms with
        | nil => exact absurd HD.out (by simp [dueAt])
        | cons t r =>
          have HRT := Lib.hid (HR.out.tm t (by simp))
          have HRS := Lib.hid (List.pairwise_cons.1 HR.out.srt).2
          obtain ⟨F, hF⟩ : ∃ F, (⟨now, next, ts, [], t :: r⟩ : Lp).fire t r = F := ⟨_, rfl⟩
          have HN : Hid ((⟨now, next, ts, [], t :: r⟩ : Lp).nxt until_ = (F.1, F.2, true)) := Lib.hid (by simp only [Lp.nxt, HD.out, hF])
          obtain ⟨c0, c1, c2, c3, c4⟩ := cells5 X1.out.k0
          go_upto_region 7 with fail
          go_wp2_with fail
          have hfire := fire_any B now next ts [] t r _ _ _ _ X1.out.own (Nat.le_trans hB X1.out.bl.size) (by simpa using hm100) HRS.out HR.out.w1 ⟨HRT.out.1, HRT.out.2.1, HRT.out.2.2⟩
          rw [hF] at hfire
          clear hF
          obtain ⟨⟨n1, x1, ts1, ss1, ms1⟩, ⟨id, src, small, call, ak, an, as1⟩⟩ := F
          refine hfire.mono ?_
          clear hfire
          rintro e w5 ⟨vt, vs, vm, rfl, ho, hbl, hat⟩
          obtain ⟨ta2, sa2, ma2, tc2, sc2, mc2, rfl, rfl, rfl⟩ := ho.shape
          have Y := Lib.hid (X1.out.ask ho hbl hat)
          clear ho hbl hat X1 HZ1 c0 c1 c2 c3 c4
          simp only [Lp.v, Job.v]
          go_upto_region 8 with fail
          obtain ⟨N, hN⟩ : ∃ N, w5.heap.size = N := ⟨_, rfl⟩
          rw [hN]
          have HNN := Lib.hid (show w.heap.size + 3 ≤ N by rw [← hN]; exact Y.out.sz)
          refine code_gen (Φ := fun wy => Hid (Fx B (own3 (.slice ta ts.length tc) (.slice sa 0 sc) (.slice ma (r.length + 1) mc)) w wy ts1 ss1 ms1 (.slice ta2 ts1.length tc2) (.slice sa2 ss1.length sc2) (.slice ma2 ms1.length mc2) [.cells #[.int .i64 now, .int .i64 next, .slice ta ts.length tc, .slice sa 0 sc, .slice ma (r.length + 1) mc] 26, .cells #[.int .i64 0, .int .i64 0, .slice none 0 0, .slice none 0 0, .slice none 0 0] 26, .cells #[.int .i64 0, .int .i64 0, .bool false, .string ⟨#[]⟩, .int .i64 0, .int .i64 0, .string ⟨#[]⟩] 39]) ∧ Hid (Ex wy N (.cells #[.int .i64 n1, .int .i64 x1, .slice ta2 ts1.length tc2, .slice sa2 ss1.length sc2, .slice ma2 ms1.length mc2] 26) (.slice ta2 ts1.length tc2) (.slice sa2 ss1.length sc2) (.slice ma2 ms1.length mc2)) ∧ Hid (Ex wy (N + 1) (.cells #[.int .i64 id, .int .i64 src, .bool small, .string call, .int .i64 ak, .int .i64 an, .string as1] 39) (.slice ta2 ts1.length tc2) (.slice sa2 ss1.length sc2) (.slice ma2 ms1.length mc2))) ⟨Lib.hid ((Y.out.call ((Below.refl _ _).alloc (Nat.le_refl _) _)).call ((Below.refl _ _).alloc (Nat.le_refl _) _)), Lib.hid (by have h := (Ex.new Y.out.own (.cells #[.int .i64 n1, .int .i64 x1, .slice ta2 ts1.length tc2, .slice sa2 ss1.length sc2, .slice ma2 ms1.length mc2] 26)).call ((Below.refl _ _).alloc (Nat.le_refl _) (.cells #[.int .i64 id, .int .i64 src, .bool small, .string call, .int .i64 ak, .int .i64 an, .string as1] 39)); rw [hN] at h; exact h), Lib.hid (by have h := Ex.new (Y.out.own.alloc (.cells #[.int .i64 n1, .int .i64 x1, .slice ta2 ts1.length tc2, .slice sa2 ss1.length sc2, .slice ma2 ms1.length mc2] 26)) (.cells #[.int .i64 id, .int .i64 src, .bool small, .string call, .int .i64 ak, .int .i64 an, .string as1] 39); rw [show (w5.alloc (.cells #[.int .i64 n1, .int .i64 x1, .slice ta2 ts1.length tc2, .slice sa2 ss1.length sc2, .slice ma2 ms1.length mc2] 26)).heap.size = N + 1 by rw [← hN]; simp] at h; exact h)⟩ ?_
          rintro w7 ⟨X, XE, XF⟩
          clear hN Y
          have n1' : ¬ N = w.heap.size + 1 := by have := HNN.out; omega
          have n2' : ¬ N = w.heap.size + 1 + 1 := by have := HNN.out; omega
          have n3' : ¬ w.heap.size + 1 = N := by have := HNN.out; omega
          have n4' : ¬ w.heap.size + 1 + 1 = N := by have := HNN.out; omega
          have m1' : ¬ N + 1 = w.heap.size + 1 := by have := HNN.out; omega
          have m2' : ¬ N + 1 = w.heap.size + 1 + 1 := by have := HNN.out; omega
          have m3' : ¬ w.heap.size + 1 = N + 1 := by have := HNN.out; omega
          have m4' : ¬ w.heap.size + 1 + 1 = N + 1 := by have := HNN.out; omega
          have m5' : ¬ N = w.heap.size := by have := HNN.out; omega
          have m6' : ¬ N = w.heap.size + 1 := by have := HNN.out; omega
          obtain ⟨c0, c1, c2, c3, c4⟩ := cells5 XE.out.h
          obtain ⟨d0, d1, d2, d3, d4⟩ := cells5 X.out.k1
          obtain ⟨f0, f1, f2, f3, f4⟩ := frz5 X.out.k1
          obtain ⟨j0, j1, j2, j3, j4, j5, j6⟩ := cells7 XF.out.h
          obtain ⟨k0, k1, k2, k3, k4, k5, k6⟩ := cells7 X.out.k2
          obtain ⟨z0, z1, z2, z3, z4, z5, z6⟩ := frz7 X.out.k2
          go_region
          all_goals
            clear n1' n2' n3' n4' m1' m2' m3' m4' m5' m6'
            go_wp2_with fail
            refine body_gen (Φ := fun W6 => Hid (Fx B (own3 (.slice ta ts.length tc) (.slice sa 0 sc) (.slice ma (r.length + 1) mc)) w W6 ts1 ss1 ms1 (.slice ta2 ts1.length tc2) (.slice sa2 ss1.length sc2) (.slice ma2 ms1.length mc2) [.cells #[.int .i64 now, .int .i64 next, .slice ta ts.length tc, .slice sa 0 sc, .slice ma (r.length + 1) mc] 26, .cells #[.int .i64 n1, .int .i64 x1, .slice ta2 ts1.length tc2, .slice sa2 ss1.length sc2, .slice ma2 ms1.length mc2] 26, .cells #[.int .i64 id, .int .i64 src, .bool small, .string call, .int .i64 ak, .int .i64 an, .string as1] 39])) (Lib.hid (((X.out.put5 1 rfl (.int .i64 n1) (.int .i64 x1) (.slice ta2 ts1.length tc2) (.slice sa2 ss1.length sc2) (.slice ma2 ms1.length mc2)).put7 2 rfl (.int .i64 id) (.int .i64 src) (.bool small) (.string call) (.int .i64 ak) (.int .i64 an) (.string as1)).drew)) ?_
            intro W6 F
            clear c0 c1 c2 c3 c4 d0 d1 d2 d3 d4 f0 f1 f2 f3 f4 j0 j1 j2 j3 j4 j5 j6 k0 k1 k2 k3 k4 k5 k6 z0 z1 z2 z3 z4 z5 z6 X XE XF
            obtain ⟨e0, e1, e2, e3, e4⟩ := cells5 F.out.k1
            obtain ⟨g0, g1, g2, g3, g4, g5, g6⟩ := cells7 F.out.k2
            refine bodyPost_ret (v := _) (by simp [results, Try.results25, go_sem, e0, e1, e2, e3, e4, g0, g1, g2, g3, g4, g5, g6]; rfl) rfl ?_
            rw [HN.out]
            exact ⟨_, _, _, rfl, F.out.own, F.out.bl, F.out.at_⟩
      | false =>
        cases ts with
        | cons j r =>
          obtain ⟨id, src, small, call, ak, an, as1⟩ := j
          have HN : Hid ((⟨now, next, ⟨id, src, small, call, ak, an, as1⟩ :: r, [], ms⟩ : Lp).nxt until_ = (⟨now, next, r, [], ms⟩, ⟨id, src, small, call, ak, an, as1⟩, true)) := Lib.hid (by simp only [Lp.nxt, HD.out])
          obtain ⟨g, rfl⟩ := own_some X1.out.own.t (by simp)
          have jc := X1.out.jobT
          obtain ⟨j0, j1, j2, j3, j4, j5, j6⟩ := jc
          simp only [Nat.zero_add] at j0 j1 j2 j3 j4 j5 j6
          obtain ⟨c0, c1, c2, c3, c4⟩ := cells5 X1.out.k0
          simp only [List.length_cons] at c2 ⊢
          go_upto_region 11 with fail
          rw [HZ1.out]
          refine code_gen (Φ := fun wy => Hid (Fx B (own3 (.slice (some ⟨g, 0, none⟩) (r.length + 1) tc) (.slice sa 0 sc) (.slice ma ms.length mc)) w wy (⟨id, src, small, call, ak, an, as1⟩ :: r) [] ms (.slice (some ⟨g, 0, none⟩) (r.length + 1) tc) (.slice sa 0 sc) (.slice ma ms.length mc) [.cells #[.int .i64 now, .int .i64 next, .slice (some ⟨g, 0, none⟩) (r.length + 1) tc, .slice sa 0 sc, .slice ma ms.length mc] 26, .cells #[.int .i64 0, .int .i64 0, .slice none 0 0, .slice none 0 0, .slice none 0 0] 26, .cells #[.int .i64 0, .int .i64 0, .bool false, .string ⟨#[]⟩, .int .i64 0, .int .i64 0, .string ⟨#[]⟩] 39, .cells #[.int .i64 id, .int .i64 src, .bool small, .string call, .int .i64 ak, .int .i64 an, .string as1] 39])) (Lib.hid (X1.out.push HZ1.out _)) ?_
          intro w5 Y
          clear X1 HZ1 c0 c1 c2 c3 c4 j0 j1 j2 j3 j4 j5 j6
          obtain ⟨c0, c1, c2, c3, c4⟩ := cells5 Y.out.k0
          go_wp2_with fail
          refine (delJ_first g tc B ⟨id, src, small, call, ak, an, as1⟩ r w5 Y.out.own.t (by simp only [List.length_cons] at ht100; omega)).mono ?_
          rintro e w6 ⟨rfl, ho, hgr⟩
          have Z6 := Lib.hid (Y.out.setT ho hgr (fun k e => .inl e))
          clear ho hgr Y c0 c1 c2 c3 c4
          obtain ⟨c0, c1, c2, c3, c4⟩ := cells5 Z6.out.k0
          obtain ⟨f0, f1, f2, f3, f4⟩ := frz5 Z6.out.k0
          go_upto_region 12 with fail
          refine code_gen (Φ := fun wy => Hid (Fx B (own3 (.slice (some ⟨g, 0, none⟩) (r.length + 1) tc) (.slice sa 0 sc) (.slice ma ms.length mc)) w wy r [] ms (.slice (some ⟨g, 0, none⟩) r.length tc) (.slice sa 0 sc) (.slice ma ms.length mc) [.cells #[.int .i64 now, .int .i64 next, .slice (some ⟨g, 0, none⟩) r.length tc, .slice sa 0 sc, .slice ma ms.length mc] 26, .cells #[.int .i64 0, .int .i64 0, .slice none 0 0, .slice none 0 0, .slice none 0 0] 26, .cells #[.int .i64 0, .int .i64 0, .bool false, .string ⟨#[]⟩, .int .i64 0, .int .i64 0, .string ⟨#[]⟩] 39, .cells #[.int .i64 id, .int .i64 src, .bool small, .string call, .int .i64 ak, .int .i64 an, .string as1] 39])) (Lib.hid (Z6.out.set 0 rfl 2 (.slice (some ⟨g, 0, none⟩) r.length tc) (by simp))) ?_
          intro w7 X
          clear Z6 c0 c1 c2 c3 c4 f0 f1 f2 f3 f4
          obtain ⟨c0, c1, c2, c3, c4⟩ := cells5 X.out.k0
          obtain ⟨d0, d1, d2, d3, d4⟩ := cells5 X.out.k1
          obtain ⟨f0, f1, f2, f3, f4⟩ := frz5 X.out.k1
          obtain ⟨j0, j1, j2, j3, j4, j5, j6⟩ := cells7 X.out.k3
          obtain ⟨k0, k1, k2, k3, k4, k5, k6⟩ := cells7 X.out.k2
          obtain ⟨z0, z1, z2, z3, z4, z5, z6⟩ := frz7 X.out.k2
          go_region
          all_goals
            go_wp2_with fail
            refine body_gen (Φ := fun W6 => Hid (Fx B (own3 (.slice (some ⟨g, 0, none⟩) (r.length + 1) tc) (.slice sa 0 sc) (.slice ma ms.length mc)) w W6 r [] ms (.slice (some ⟨g, 0, none⟩) r.length tc) (.slice sa 0 sc) (.slice ma ms.length mc) [.cells #[.int .i64 now, .int .i64 next, .slice (some ⟨g, 0, none⟩) r.length tc, .slice sa 0 sc, .slice ma ms.length mc] 26, .cells #[.int .i64 now, .int .i64 next, .slice (some ⟨g, 0, none⟩) r.length tc, .slice sa 0 sc, .slice ma ms.length mc] 26, .cells #[.int .i64 id, .int .i64 src, .bool small, .string call, .int .i64 ak, .int .i64 an, .string as1] 39, .cells #[.int .i64 id, .int .i64 src, .bool small, .string call, .int .i64 ak, .int .i64 an, .string as1] 39])) (Lib.hid (((X.out.put5 1 rfl (.int .i64 now) (.int .i64 next) (.slice (some ⟨g, 0, none⟩) r.length tc) (.slice sa 0 sc) (.slice ma ms.length mc)).put7 2 rfl (.int .i64 id) (.int .i64 src) (.bool small) (.string call) (.int .i64 ak) (.int .i64 an) (.string as1)).drew)) ?_
            intro W6 F
            clear c0 c1 c2 c3 c4 d0 d1 d2 d3 d4 f0 f1 f2 f3 f4 j0 j1 j2 j3 j4 j5 j6 k0 k1 k2 k3 k4 k5 k6 z0 z1 z2 z3 z4 z5 z6 X
            obtain ⟨e0, e1, e2, e3, e4⟩ := cells5 F.out.k1
            obtain ⟨g0, g1, g2, g3, g4, g5, g6⟩ := cells7 F.out.k2
            refine bodyPost_ret (v := _) (by simp [results, Try.results25, go_sem, e0, e1, e2, e3, e4, g0, g1, g2, g3, g4, g5, g6]; rfl) rfl ?_
            rw [HN.out]
            exact ⟨_, _, _, rfl, F.out.own, F.out.bl, F.out.at_⟩
        | nil =>
          have HN : Hid ((⟨now, next, [], [], ms⟩ : Lp).nxt until_ = (⟨until_, next, [], [], ms⟩, Job.zero, false)) := Lib.hid (by simp only [Lp.nxt, HD.out])
          obtain ⟨c0, c1, c2, c3, c4⟩ := cells5 X1.out.k0
          obtain ⟨y0, y1, y2, y3, y4⟩ := frz5 X1.out.k0
          obtain ⟨d0, d1, d2, d3, d4⟩ := cells5 X1.out.k1
          obtain ⟨f0, f1, f2, f3, f4⟩ := frz5 X1.out.k1
          obtain ⟨k0, k1, k2, k3, k4, k5, k6⟩ := cells7 X1.out.k2
          obtain ⟨z0, z1, z2, z3, z4, z5, z6⟩ := frz7 X1.out.k2
          go_wp2_with fail
          refine body_gen (Φ := fun W6 => Hid (Fx B (own3 (.slice ta 0 tc) (.slice sa 0 sc) (.slice ma ms.length mc)) w W6 [] [] ms (.slice ta 0 tc) (.slice sa 0 sc) (.slice ma ms.length mc) [.cells #[.int .i64 until_, .int .i64 next, .slice ta 0 tc, .slice sa 0 sc, .slice ma ms.length mc] 26, .cells #[.int .i64 until_, .int .i64 next, .slice ta 0 tc, .slice sa 0 sc, .slice ma ms.length mc] 26, .cells #[.int .i64 0, .int .i64 0, .bool false, .string ⟨#[]⟩, .int .i64 0, .int .i64 0, .string ⟨#[]⟩] 39])) (Lib.hid (((X1.out.set 0 rfl 0 (.int .i64 until_) (by simp)).put5 1 rfl (.int .i64 until_) (.int .i64 next) (.slice ta 0 tc) (.slice sa 0 sc) (.slice ma ms.length mc)).put7 2 rfl (.int .i64 0) (.int .i64 0) (.bool false) (.string ⟨#[]⟩) (.int .i64 0) (.int .i64 0) (.string ⟨#[]⟩))) ?_
          intro W6 F
          clear c0 c1 c2 c3 c4 y0 y1 y2 y3 y4 d0 d1 d2 d3 d4 f0 f1 f2 f3 f4 k0 k1 k2 k3 k4 k5 k6 z0 z1 z2 z3 z4 z5 z6 X1
          obtain ⟨e0, e1, e2, e3, e4⟩ := cells5 F.out.k1
          obtain ⟨g0, g1, g2, g3, g4, g5, g6⟩ := cells7 F.out.k2
          refine bodyPost_ret (v := _) (by simp [results, Try.results25, go_sem, e0, e1, e2, e3, e4, g0, g1, g2, g3, g4, g5, g6]; rfl) rfl ?_
          rw [HN.out]
          exact ⟨_, _, _, rfl, F.out.own, F.out.bl, F.out.at_⟩
end Go.Proofs.Ytpmklganodlciaa
