/- loop.fire. -/
import Derived.Test.YtpmklganodlciaaT19
import Derived.Test.YtpmklganodlciaaTD
import Derived.Test.YtpmklganodlciaaT8
namespace Go.Proofs.Ytpmklganodlciaa
open Go.RowKit

def Tim.again (t : Tim) : Tim := ⟨t.id, t.at_ + t.every, t.every, t.turn + 1, t.call⟩
def Tim.more (t : Tim) : Bool := decide (0 < t.every) && decide (t.at_ + t.every ≤ 1000000000) && decide (t.turn < 1000000000)
def Tim.job (t : Tim) : Job := ⟨t.id, 3, false, t.call, 2, t.turn, ⟨#[]⟩⟩
def Lp.fire (q : Lp) (t : Tim) (r : List Tim) : Lp × Job := (⟨max q.now t.at_, q.next, q.tasks, q.smalls, if t.more then laid t.again r else r⟩, t.job)
theorem frz7 {w : World} {b : Nat} {t : TypeId} {c : Array Value} (h : w.heap[b]? = some (.cells c t (0, 0))) : w.frozen? ⟨b, 0, none⟩ = false ∧ w.frozen? ⟨b, 1, none⟩ = false ∧ w.frozen? ⟨b, 2, none⟩ = false ∧ w.frozen? ⟨b, 3, none⟩ = false ∧ w.frozen? ⟨b, 4, none⟩ = false ∧ w.frozen? ⟨b, 5, none⟩ = false ∧ w.frozen? ⟨b, 6, none⟩ = false :=
  ⟨Lib.frozen_of_heap h _, Lib.frozen_of_heap h _, Lib.frozen_of_heap h _, Lib.frozen_of_heap h _, Lib.frozen_of_heap h _, Lib.frozen_of_heap h _, Lib.frozen_of_heap h _⟩
theorem Fx.tim {B : Nat} {u : List (Option Nat)} {w wx : World} {ts ss : List Job} {t : Tim} {r : List Tim} {vt vs : Value} {g n c : Nat} {os : List Obj} (h : Fx B u w wx ts ss (t :: r) vt vs (.slice (some ⟨g, 0, none⟩) n c) os) : TimAt wx g 0 t := by
  have h' := Own.sl Tim.len h.own.m
  obtain ⟨b0, o0, he, sl⟩ := h'.tim 0 (by simp)
  injection he with he
  injection he with he hz
  subst he
  subst hz
  simpa using sl
theorem delT_first (g cap B : Nat) (t : Tim) (r : List Tim) (w : World) (h : w.ownsRow B 49 5 (.slice (some ⟨g, 0, none⟩) (r.length + 1) cap) (r.length + 1) ((t :: r).flatMap Tim.c)) (hl : r.length ≤ 999) :
    Calls Try.prog 42 #[.slice (some ⟨g, 0, none⟩) (r.length + 1) cap, .int .i64 0, .int .i64 1] w fun e w' => e = .returned (.slice (some ⟨g, 0, none⟩) r.length cap) ∧ w'.ownsRow B 49 5 (.slice (some ⟨g, 0, none⟩) r.length cap) r.length (r.flatMap Tim.c) ∧ w.grownBy w' (some g) :=
  delT_any g cap 0 B (t :: r) w h (by simp) (by simp; omega)
theorem delJ_first (g cap B : Nat) (t : Job) (r : List Job) (w : World) (h : w.ownsRow B 39 7 (.slice (some ⟨g, 0, none⟩) (r.length + 1) cap) (r.length + 1) ((t :: r).flatMap Job.c)) (hl : r.length ≤ 999) :
    Calls Try.prog 35 #[.slice (some ⟨g, 0, none⟩) (r.length + 1) cap, .int .i64 0, .int .i64 1] w fun e w' => e = .returned (.slice (some ⟨g, 0, none⟩) r.length cap) ∧ w'.ownsRow B 39 7 (.slice (some ⟨g, 0, none⟩) r.length cap) r.length (r.flatMap Job.c) ∧ w.grownBy w' (some g) :=
  delJ_any g cap 0 B (t :: r) w h (by simp) (by simp; omega)
/-- One block more, somewhere. -/
structure Ex (wx : World) (N : Nat) (o : Obj) (vt vs vm : Value) : Prop where
  h : wx.heap[N]? = some o
  no : vt.ownBlock ≠ some N ∧ vs.ownBlock ≠ some N ∧ vm.ownBlock ≠ some N
theorem Ex.lt {wx : World} {N : Nat} {o : Obj} {vt vs vm : Value} (h : Ex wx N o vt vs vm) : N < wx.heap.size := by
  rcases Nat.lt_or_ge N wx.heap.size with h' | h'
  · exact h'
  · have := h.h; rw [Array.getElem?_eq_none h'] at this; cases this
theorem Ex.far {wx : World} {N : Nat} {o : Obj} {vt vs vm : Value} (h : Ex wx N o vt vs vm) (b i : Nat) (v : Value) (hb : N ≠ b) : Ex (wx.setCell ⟨b, i, none⟩ v) N o vt vs vm := ⟨set_far h.h hb i v, h.no⟩
theorem Ex.ask {wx w' : World} {N : Nat} {o : Obj} {vt vs vm vt' vs' vm' : Value} (h : Ex wx N o vt vs vm) (hb : Bl wx w' (own3 vt vs vm)) (ha : At wx (own3 vt vs vm) vt' vs' vm') : Ex w' N o vt' vs' vm' := by
  have hn : some N ∉ own3 vt vs vm := fun e => by
    obtain ⟨n1, n2, n3⟩ := h.no
    rcases own3_mem e with e | e | e
    · exact n1 e
    · exact n2 e
    · exact n3 e
  exact ⟨(hb.block N h.lt hn).trans h.h, ha.not h.lt hn⟩
theorem Ex.setM {wx w' : World} {N : Nat} {o : Obj} {vt vs vm vm' : Value} (h : Ex wx N o vt vs vm) (hg : wx.grownBy w' vm.ownBlock) (ha : ∀ k, vm'.ownBlock = some k → vm.ownBlock = some k ∨ wx.heap.size ≤ k) : Ex w' N o vt vs vm' :=
  h.ask (bl_of_grown hg (fun k e => by rw [← e]; simp [own3])) (At.mk3 (fun k e => .inl (by rw [← e]; simp [own3])) (fun k e => .inl (by rw [← e]; simp [own3])) (fun k e => by
    rcases ha k e with h1 | h1
    · exact .inl (by rw [← h1]; simp [own3])
    · exact .inr h1))
theorem Ex.new {wx : World} {B : Nat} {ts ss : List Job} {ms : List Tim} {vt vs vm : Value} (h : LpOwn wx B ts ss ms vt vs vm) (o : Obj) : Ex (wx.alloc o) wx.heap.size o vt vs vm := ⟨heap_alloc_new wx o, h.not (Nat.le_refl _)⟩
/-- What fire answers. -/
def FireSaid (w : World) (B : Nat) (u : List (Option Nat)) (r : Lp × Job) (e : Ending) (w' : World) : Prop :=
  ∃ vt vs vm, e = .returned (.tuple #[r.1.v vt vs vm, r.2.v]) ∧ LpOwn w' B r.1.tasks r.1.smalls r.1.tims vt vs vm ∧ Bl w w' u ∧ At w u vt vs vm
structure TimOk (now : Int) (t : Tim) : Prop where
  a : now ≤ t.at_ ∧ t.at_ ≤ 1000000000
  e : 0 ≤ t.every ∧ t.every ≤ 1000000000
  t : 0 ≤ t.turn ∧ t.turn ≤ 1000000000
set_option maxRecDepth 100000 in
set_option maxHeartbeats 4000000 in
theorem fire_any (B : Nat) (now next : Int) (ts ss : List Job) (t : Tim) (r : List Tim) (vt vs vm : Value) (w : World) (h : LpOwn w B ts ss (t :: r) vt vs vm) (hB : B ≤ w.heap.size) (hr : r.length ≤ 99) (hs : Srt r) (hw : 0 ≤ now) (ht : TimOk now t) :
    Calls Try.prog 36 #[(⟨now, next, ts, ss, t :: r⟩ : Lp).v vt vs vm] w (FireSaid w B (own3 vt vs vm) ((⟨now, next, ts, ss, t :: r⟩ : Lp).fire t r)) := by
  obtain ⟨ta, sa, ma, tc, sc, mc, rfl, rfl, rfl⟩ := h.shape
  obtain ⟨id, ta0, te, tt, call⟩ := t
  obtain ⟨⟨ha1, ha2⟩, ⟨he1, he2⟩, ⟨ht1, ht2⟩⟩ := ht
  simp only at ha1 ha2 he1 he2 ht1 ht2
  obtain ⟨g, hg⟩ := own_some h.m (by simp)
  subst hg
  have HO := Lib.hid h
  have HS := Lib.hid hs
  clear h hs
  simp only [Lp.v, List.length_cons]
  go_enter Try.func36, Try.ntmps36
  go_upto_region 1 with fail
  refine code_gen (Φ := fun w4 => Hid (Fx B (own3 (.slice ta ts.length tc) (.slice sa ss.length sc) (.slice (some ⟨g, 0, none⟩) (r.length + 1) mc)) w w4 ts ss (⟨id, ta0, te, tt, call⟩ :: r) (.slice ta ts.length tc) (.slice sa ss.length sc) (.slice (some ⟨g, 0, none⟩) (r.length + 1) mc) [.cells #[.int .i64 now, .int .i64 next, .slice ta ts.length tc, .slice sa ss.length sc, .slice (some ⟨g, 0, none⟩) (r.length + 1) mc] 26, .cells #[.int .i64 0, .int .i64 0, .slice none 0 0, .slice none 0 0, .slice none 0 0] 26, .cells #[.int .i64 0, .int .i64 0, .bool false, .string ⟨#[]⟩, .int .i64 0, .int .i64 0, .string ⟨#[]⟩] 39]) ∧ Hid (w4.heap.size = w.heap.size + 1 + 1 + 1)) ⟨Lib.hid (Fx.start3 HO.out _ _ _), Lib.hid (by simp)⟩ ?_
  rintro w4 ⟨X, HZ⟩
  clear HO
  obtain ⟨s0, s1, s2, s3, s4⟩ := X.out.tim
  simp only [Nat.zero_add] at s0 s1 s2 s3 s4
  obtain ⟨c0, c1, c2, c3, c4⟩ := cells5 X.out.k0
  go_upto_region 2 with fail
  rw [HZ.out]
  refine code_gen (Φ := fun w4 => Hid (Fx B (own3 (.slice ta ts.length tc) (.slice sa ss.length sc) (.slice (some ⟨g, 0, none⟩) (r.length + 1) mc)) w w4 ts ss (⟨id, ta0, te, tt, call⟩ :: r) (.slice ta ts.length tc) (.slice sa ss.length sc) (.slice (some ⟨g, 0, none⟩) (r.length + 1) mc) [.cells #[.int .i64 now, .int .i64 next, .slice ta ts.length tc, .slice sa ss.length sc, .slice (some ⟨g, 0, none⟩) (r.length + 1) mc] 26, .cells #[.int .i64 0, .int .i64 0, .slice none 0 0, .slice none 0 0, .slice none 0 0] 26, .cells #[.int .i64 0, .int .i64 0, .bool false, .string ⟨#[]⟩, .int .i64 0, .int .i64 0, .string ⟨#[]⟩] 39, .cells #[.int .i64 id, .int .i64 ta0, .int .i64 te, .int .i64 tt, .string call] 49])) (Lib.hid (X.out.push HZ.out _)) ?_
  intro w5 Y
  clear X HZ s0 s1 s2 s3 s4 c0 c1 c2 c3 c4
  obtain ⟨c0, c1, c2, c3, c4⟩ := cells5 Y.out.k0
  go_wp2_with fail
  refine (delT_first g mc B ⟨id, ta0, te, tt, call⟩ r w5 Y.out.own.m (by omega)).mono ?_
  rintro e w6 ⟨rfl, ho, hgr⟩
  have X6 := Lib.hid (Y.out.setM ho hgr (fun k e => .inl e))
  clear ho hgr Y c0 c1 c2 c3 c4
  obtain ⟨c0, c1, c2, c3, c4⟩ := cells5 X6.out.k0
  obtain ⟨f0, f1, f2, f3, f4⟩ := frz5 X6.out.k0
  obtain ⟨s0, s1, s2, s3, s4⟩ := cells5 X6.out.k3
  go_upto_region 5 with fail
  obtain ⟨M, hM⟩ : ∃ M, (if now < ta0 then ta0 else now) = M := ⟨_, rfl⟩
  rw [hM]
  have HM : Hid (max now ta0 = M) := Lib.hid (by rw [← hM]; split <;> omega)
  obtain ⟨N, hN⟩ : ∃ N, w6.heap.size = N := ⟨_, rfl⟩
  rw [hN]
  have HN := Lib.hid (show w.heap.size + 4 ≤ N by rw [← hN]; exact X6.out.sz)
  have X7 := Lib.hid ((X6.out.set 0 rfl 4 (.slice (some ⟨g, 0, none⟩) r.length mc) (by simp)).set 0 rfl 0 (.int .i64 M) (by simp))
  refine code_gen (Φ := fun wy => Hid (Fx B (own3 (.slice ta ts.length tc) (.slice sa ss.length sc) (.slice (some ⟨g, 0, none⟩) (r.length + 1) mc)) w wy ts ss r (.slice ta ts.length tc) (.slice sa ss.length sc) (.slice (some ⟨g, 0, none⟩) r.length mc) [.cells #[.int .i64 M, .int .i64 next, .slice ta ts.length tc, .slice sa ss.length sc, (.slice (some ⟨g, 0, none⟩) r.length mc)] 26, .cells #[.int .i64 0, .int .i64 0, .slice none 0 0, .slice none 0 0, .slice none 0 0] 26, .cells #[.int .i64 0, .int .i64 0, .bool false, .string ⟨#[]⟩, .int .i64 0, .int .i64 0, .string ⟨#[]⟩] 39, .cells #[.int .i64 id, .int .i64 ta0, .int .i64 te, .int .i64 tt, .string call] 49]) ∧ Hid (Ex wy N (.cells #[.int .i64 id, .int .i64 3, .bool false, .string call, .int .i64 2, .int .i64 tt, .string ⟨#[]⟩] 39) (.slice ta ts.length tc) (.slice sa ss.length sc) (.slice (some ⟨g, 0, none⟩) r.length mc))) ⟨Lib.hid (X7.out.call ((Below.refl _ _).alloc (Nat.le_refl _) _)), Lib.hid (by have h := Ex.new X7.out.own (.cells #[.int .i64 id, .int .i64 3, .bool false, .string call, .int .i64 2, .int .i64 tt, .string ⟨#[]⟩] 39); rw [size_set, size_set, hN] at h; exact h)⟩ ?_
  rintro w7 ⟨X, XE⟩
  clear hM hN X6 X7 c0 c1 c2 c3 c4 f0 f1 f2 f3 f4 s0 s1 s2 s3 s4
  by_cases C : 0 < te ∧ ta0 + te ≤ 1000000000 ∧ tt < 1000000000
  · obtain ⟨C1, C2, C3⟩ := C
    obtain ⟨c0, c1, c2, c3, c4⟩ := cells5 X.out.k0
    obtain ⟨s0, s1, s2, s3, s4⟩ := cells5 X.out.k3
    obtain ⟨f0, f1, f2, f3, f4⟩ := frz5 X.out.k3
    go_wp2_with fail
    refine calls_gen (Φ := fun wy => Hid (Fx B (own3 (.slice ta ts.length tc) (.slice sa ss.length sc) (.slice (some ⟨g, 0, none⟩) (r.length + 1) mc)) w wy ts ss r (.slice ta ts.length tc) (.slice sa ss.length sc) (.slice (some ⟨g, 0, none⟩) r.length mc) [.cells #[.int .i64 M, .int .i64 next, .slice ta ts.length tc, .slice sa ss.length sc, (.slice (some ⟨g, 0, none⟩) r.length mc)] 26, .cells #[.int .i64 0, .int .i64 0, .slice none 0 0, .slice none 0 0, .slice none 0 0] 26, .cells #[.int .i64 0, .int .i64 0, .bool false, .string ⟨#[]⟩, .int .i64 0, .int .i64 0, .string ⟨#[]⟩] 39, .cells #[.int .i64 id, .int .i64 (ta0 + te), .int .i64 te, .int .i64 (tt + 1), .string call] 49]) ∧ Hid (Ex wy N (.cells #[.int .i64 id, .int .i64 3, .bool false, .string call, .int .i64 2, .int .i64 tt, .string ⟨#[]⟩] 39) (.slice ta ts.length tc) (.slice sa ss.length sc) (.slice (some ⟨g, 0, none⟩) r.length mc))) ⟨Lib.hid ((X.out.set 3 rfl 1 (.int .i64 (ta0 + te)) (by simp)).set 3 rfl 3 (.int .i64 (tt + 1)) (by simp)), Lib.hid ((XE.out.far _ _ _ (by have := HN.out; omega)).far _ _ _ (by have := HN.out; omega))⟩ ?_
    rintro w8 ⟨Y, YE⟩
    clear X XE c0 c1 c2 c3 c4 s0 s1 s2 s3 s4 f0 f1 f2 f3 f4
    have hlay := lay_any B r ⟨id, ta0 + te, te, tt + 1, call⟩ (.slice (some ⟨g, 0, none⟩) r.length mc) w8 Y.out.own.m (by omega) HS.out (Nat.le_trans hB Y.out.bl.size)
    obtain ⟨ml, hml⟩ : ∃ ml, laid ⟨id, ta0 + te, te, tt + 1, call⟩ r = ml := ⟨_, rfl⟩
    rw [hml] at hlay
    have HF : Hid ((⟨now, next, ts, ss, ⟨id, ta0, te, tt, call⟩ :: r⟩ : Lp).fire ⟨id, ta0, te, tt, call⟩ r = (⟨M, next, ts, ss, ml⟩, ⟨id, 3, false, call, 2, tt, ⟨#[]⟩⟩)) := Lib.hid (by simp only [Lp.fire, Tim.more, Tim.again, Tim.job, HM.out, hml, decide_eq_true C1, decide_eq_true C2, decide_eq_true C3]; rfl)
    clear hml
    refine hlay.mono ?_
    clear hlay
    rintro e w9 ⟨v', rfl, ho, hgr, ha⟩
    have Z := Lib.hid (Y.out.setM ho hgr ha)
    have ZE := Lib.hid (YE.out.setM hgr ha)
    obtain ⟨na, nc, hv⟩ := own_shape ho
    subst hv
    clear ho hgr ha Y YE
    obtain ⟨c0, c1, c2, c3, c4⟩ := cells5 Z.out.k0
    obtain ⟨f0, f1, f2, f3, f4⟩ := frz5 Z.out.k0
    go_upto_region 8 with fail
    refine code_gen (Φ := fun wy => Hid (Fx B (own3 (.slice ta ts.length tc) (.slice sa ss.length sc) (.slice (some ⟨g, 0, none⟩) (r.length + 1) mc)) w wy ts ss ml (.slice ta ts.length tc) (.slice sa ss.length sc) (.slice na ml.length nc) [.cells #[.int .i64 M, .int .i64 next, .slice ta ts.length tc, .slice sa ss.length sc, (.slice na ml.length nc)] 26, .cells #[.int .i64 0, .int .i64 0, .slice none 0 0, .slice none 0 0, .slice none 0 0] 26, .cells #[.int .i64 0, .int .i64 0, .bool false, .string ⟨#[]⟩, .int .i64 0, .int .i64 0, .string ⟨#[]⟩] 39, .cells #[.int .i64 id, .int .i64 (ta0 + te), .int .i64 te, .int .i64 (tt + 1), .string call] 49]) ∧ Hid (Ex wy N (.cells #[.int .i64 id, .int .i64 3, .bool false, .string call, .int .i64 2, .int .i64 tt, .string ⟨#[]⟩] 39) (.slice ta ts.length tc) (.slice sa ss.length sc) (.slice na ml.length nc))) ⟨Lib.hid (Z.out.set 0 rfl 4 (.slice na ml.length nc) (by simp)), Lib.hid (ZE.out.far _ _ _ (by have := HN.out; omega))⟩ ?_
    rintro w7 ⟨X, XE⟩
    clear Z ZE c0 c1 c2 c3 c4 f0 f1 f2 f3 f4
    obtain ⟨c0, c1, c2, c3, c4⟩ := cells5 X.out.k0
    obtain ⟨d0, d1, d2, d3, d4⟩ := cells5 X.out.k1
    obtain ⟨f0, f1, f2, f3, f4⟩ := frz5 X.out.k1
    obtain ⟨j0, j1, j2, j3, j4, j5, j6⟩ := cells7 XE.out.h
    obtain ⟨k0, k1, k2, k3, k4, k5, k6⟩ := cells7 X.out.k2
    obtain ⟨z0, z1, z2, z3, z4, z5, z6⟩ := frz7 X.out.k2
    have n1 : ¬ N = w.heap.size + 1 := by have := HN.out; omega
    have n2 : ¬ N = w.heap.size + 1 + 1 := by have := HN.out; omega
    have n3 : ¬ w.heap.size + 1 = N := by have := HN.out; omega
    have n4 : ¬ w.heap.size + 1 + 1 = N := by have := HN.out; omega
    go_region
    all_goals
      clear n1 n2 n3 n4
      go_wp2_with fail
      refine body_gen (Φ := fun W6 => Hid (Fx B (own3 (.slice ta ts.length tc) (.slice sa ss.length sc) (.slice (some ⟨g, 0, none⟩) (r.length + 1) mc)) w W6 ts ss ml (.slice ta ts.length tc) (.slice sa ss.length sc) (.slice na ml.length nc) [.cells #[.int .i64 M, .int .i64 next, .slice ta ts.length tc, .slice sa ss.length sc, (.slice na ml.length nc)] 26, .cells #[.int .i64 M, .int .i64 next, .slice ta ts.length tc, .slice sa ss.length sc, (.slice na ml.length nc)] 26, .cells #[.int .i64 id, .int .i64 3, .bool false, .string call, .int .i64 2, .int .i64 tt, .string ⟨#[]⟩] 39, .cells #[.int .i64 id, .int .i64 (ta0 + te), .int .i64 te, .int .i64 (tt + 1), .string call] 49])) (Lib.hid (((X.out.put5 1 rfl (.int .i64 M) (.int .i64 next) (.slice ta ts.length tc) (.slice sa ss.length sc) (.slice na ml.length nc)).put7 2 rfl (.int .i64 id) (.int .i64 3) (.bool false) (.string call) (.int .i64 2) (.int .i64 tt) (.string ⟨#[]⟩)).drew)) ?_
      intro W6 F
      clear c0 c1 c2 c3 c4 d0 d1 d2 d3 d4 f0 f1 f2 f3 f4 j0 j1 j2 j3 j4 j5 j6 k0 k1 k2 k3 k4 k5 k6 z0 z1 z2 z3 z4 z5 z6 X XE
      obtain ⟨e0, e1, e2, e3, e4⟩ := cells5 F.out.k1
      obtain ⟨g0, g1, g2, g3, g4, g5, g6⟩ := cells7 F.out.k2
      refine bodyPost_ret (v := _) (by simp [results, Try.results36, go_sem, e0, e1, e2, e3, e4, g0, g1, g2, g3, g4, g5, g6]; rfl) rfl ?_
      rw [HF.out]
      exact ⟨_, _, _, rfl, F.out.own, F.out.bl, F.out.at_⟩
  · have HF : Hid ((⟨now, next, ts, ss, ⟨id, ta0, te, tt, call⟩ :: r⟩ : Lp).fire ⟨id, ta0, te, tt, call⟩ r = (⟨M, next, ts, ss, r⟩, ⟨id, 3, false, call, 2, tt, ⟨#[]⟩⟩)) := Lib.hid (by
      have hm : Tim.more ⟨id, ta0, te, tt, call⟩ = false := by
        simp only [Tim.more, Bool.and_eq_false_iff, decide_eq_false_iff_not]
        omega
      simp only [Lp.fire, hm, Tim.job, HM.out]; rfl)
    have C' : te ≤ 0 ∨ (0 < te ∧ 1000000000 < ta0 + te) ∨ (0 < te ∧ ta0 + te ≤ 1000000000 ∧ 1000000000 ≤ tt) := by omega
    clear C
    obtain ⟨s0, s1, s2, s3, s4⟩ := cells5 X.out.k3
    rcases C' with C1 | ⟨C1, C2⟩ | ⟨C1, C2, C3⟩
    all_goals
      go_upto_region 8 with fail
      clear s0 s1 s2 s3 s4
      obtain ⟨c0, c1, c2, c3, c4⟩ := cells5 X.out.k0
      obtain ⟨d0, d1, d2, d3, d4⟩ := cells5 X.out.k1
      obtain ⟨f0, f1, f2, f3, f4⟩ := frz5 X.out.k1
      obtain ⟨j0, j1, j2, j3, j4, j5, j6⟩ := cells7 XE.out.h
      obtain ⟨k0, k1, k2, k3, k4, k5, k6⟩ := cells7 X.out.k2
      obtain ⟨z0, z1, z2, z3, z4, z5, z6⟩ := frz7 X.out.k2
      have n1 : ¬ N = w.heap.size + 1 := by have := HN.out; omega
      have n2 : ¬ N = w.heap.size + 1 + 1 := by have := HN.out; omega
      have n3 : ¬ w.heap.size + 1 = N := by have := HN.out; omega
      have n4 : ¬ w.heap.size + 1 + 1 = N := by have := HN.out; omega
      go_region
      all_goals
        clear n1 n2 n3 n4
        go_wp2_with fail
        refine body_gen (Φ := fun W6 => Hid (Fx B (own3 (.slice ta ts.length tc) (.slice sa ss.length sc) (.slice (some ⟨g, 0, none⟩) (r.length + 1) mc)) w W6 ts ss r (.slice ta ts.length tc) (.slice sa ss.length sc) (.slice (some ⟨g, 0, none⟩) r.length mc) [.cells #[.int .i64 M, .int .i64 next, .slice ta ts.length tc, .slice sa ss.length sc, (.slice (some ⟨g, 0, none⟩) r.length mc)] 26, .cells #[.int .i64 M, .int .i64 next, .slice ta ts.length tc, .slice sa ss.length sc, (.slice (some ⟨g, 0, none⟩) r.length mc)] 26, .cells #[.int .i64 id, .int .i64 3, .bool false, .string call, .int .i64 2, .int .i64 tt, .string ⟨#[]⟩] 39, .cells #[.int .i64 id, .int .i64 ta0, .int .i64 te, .int .i64 tt, .string call] 49])) (Lib.hid (((X.out.put5 1 rfl (.int .i64 M) (.int .i64 next) (.slice ta ts.length tc) (.slice sa ss.length sc) (.slice (some ⟨g, 0, none⟩) r.length mc)).put7 2 rfl (.int .i64 id) (.int .i64 3) (.bool false) (.string call) (.int .i64 2) (.int .i64 tt) (.string ⟨#[]⟩)).drew)) ?_
        intro W6 F
        clear c0 c1 c2 c3 c4 d0 d1 d2 d3 d4 f0 f1 f2 f3 f4 j0 j1 j2 j3 j4 j5 j6 k0 k1 k2 k3 k4 k5 k6 z0 z1 z2 z3 z4 z5 z6 X XE
        obtain ⟨e0, e1, e2, e3, e4⟩ := cells5 F.out.k1
        obtain ⟨g0, g1, g2, g3, g4, g5, g6⟩ := cells7 F.out.k2
        refine bodyPost_ret (v := _) (by simp [results, Try.results36, go_sem, e0, e1, e2, e3, e4, g0, g1, g2, g3, g4, g5, g6]; rfl) rfl ?_
        rw [HF.out]
        exact ⟨_, _, _, rfl, F.out.own, F.out.bl, F.out.at_⟩
end Go.Proofs.Ytpmklganodlciaa
