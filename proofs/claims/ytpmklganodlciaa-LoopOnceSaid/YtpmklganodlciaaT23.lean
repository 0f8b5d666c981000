/- loop.Play. -/
import Derived.Test.YtpmklganodlciaaTE
namespace Go.Proofs.Ytpmklganodlciaa
open Go.RowKit

/-- What Play answers. -/
def PlaySaid (w : World) (r : List Job × Lp × Int) (e : Ending) (w' : World) : Prop :=
  ∃ vo vt vs vm, e = .returned (.tuple #[vo, r.2.1.v vt vs vm, .int .i64 r.2.2]) ∧ w'.ownsRow w.heap.size 39 7 vo r.1.length (r.1.flatMap Job.c) ∧ LpOwn w' w.heap.size r.2.1.tasks r.2.1.smalls r.2.1.tims vt vs vm ∧ Below w.heap.size w w'
structure AskAt (w : World) (b x : Nat) (J : Qst) : Prop where
  c0 : w.cell? ⟨b, x, none⟩ = some (.int .i64 J.do_)
  c1 : w.cell? ⟨b, x + 1, none⟩ = some (.int .i64 J.src)
  c2 : w.cell? ⟨b, x + 2, none⟩ = some (.int .i64 J.n)
  c3 : w.cell? ⟨b, x + 3, none⟩ = some (.string J.call)
  c4 : w.cell? ⟨b, x + 4, none⟩ = some (.int .i64 J.ak)
  c5 : w.cell? ⟨b, x + 5, none⟩ = some (.int .i64 J.an)
  c6 : w.cell? ⟨b, x + 6, none⟩ = some (.string J.as_)
theorem Sl.ask {w : World} {a : Option Addr} {n c : Nat} {l : List Qst} (h : Sl w Qst.c 7 (.slice a n c) l) (k : Nat) (hk : k < l.length) : ∃ b o, a = some ⟨b, o, none⟩ ∧ AskAt w b (o + k * 7) l[k] := by
  obtain ⟨a', c', h1, _, _, h4⟩ := h
  injection h1 with h1 _ _
  subst h1
  obtain ⟨b, o, h5, _, h7⟩ := h4 (by omega)
  exact ⟨b, o, h5, ⟨h7 k hk 0 (by omega), h7 k hk 1 (by omega), h7 k hk 2 (by omega), h7 k hk 3 (by omega), h7 k hk 4 (by omega), h7 k hk 5 (by omega), h7 k hk 6 (by omega)⟩⟩
theorem AskAt.below {w w' : World} {b x : Nat} {J : Qst} (h : AskAt w b x J) (hb : Below w.heap.size w w') : AskAt w' b x J := by
  have hlt : b < w.heap.size := by
    rcases Nat.lt_or_ge b w.heap.size with h' | h'
    · exact h'
    · have := h.c0; simp [World.cell?, Array.getElem?_eq_none h'] at this
  have hc := fun o => World.cell?_of_block (a := ⟨b, o, none⟩) (hb.block b hlt)
  exact ⟨(hc _).trans h.c0, (hc _).trans h.c1, (hc _).trans h.c2, (hc _).trans h.c3, (hc _).trans h.c4, (hc _).trans h.c5, (hc _).trans h.c6⟩
theorem PX.start {w wr : World} {N : Nat} (h : Loc w wr [.cells #[.int .i64 0, .int .i64 0, .slice none 0 0, .slice none 0 0, .slice none 0 0] 26]) (hN : wr.heap.size = N) : PX w (wr.alloc (.cells #[.int .i64 0, .int .i64 0, .slice none 0 0, .slice none 0 0, .slice none 0 0] 26)) N 0 0 [] [] [] (.slice none 0 0) (.slice none 0 0) (.slice none 0 0) [] (.slice none 0 0) where
  k0 := alloc_keep h.k0 _
  k7 := alloc_at hN _
  hN := by have := h.sz; simp only [List.length_cons, List.length_nil] at this; omega
  own := own_nil _ _
  row := World.ownsRow_nil _ _ 39 7
  dj g hg := by simp [Value.ownBlock] at hg
  bl := h.bl.alloc h.bl.size _
theorem PX.fin {w wr w' : World} {N : Nat} {now next : Int} {ts ss : List Job} {ms : List Tim} {vt vs vm : Value} {out : List Job} {vo : Value} (h : PX w wr N now next ts ss ms vt vs vm out vo) (hg : wr.grownBy w' (some w.heap.size)) :
    w'.ownsRow w.heap.size 39 7 vo out.length (out.flatMap Job.c) ∧ LpOwn w' w.heap.size ts ss ms vt vs vm ∧ Below w.heap.size w w' := by
  have hN := h.hN
  refine ⟨own_lower (h.row.kept hg (.inr fun e => by have := (h.row.lt _ e).1; omega)) (by omega), (h.own.far hg ?_ ?_ ?_).low (by omega), below_grown h.bl hg (Nat.le_refl _) (Nat.le_refl _)⟩
  · intro e; have := (h.own.t.lt _ e).1; omega
  · intro e; have := (h.own.s.lt _ e).1; omega
  · intro e; have := (h.own.m.lt _ e).1; omega
/-- What holds at the head of Play's second loop. -/
def PR2 (w : World) (N : Nat) (asks : List Qst) (n : Nat) (vo vk : Value) (wy : World) : Prop :=
  ∃ (k : Nat) (now next : Int) (ts ss : List Job) (ms : List Tim) (vt vs vm : Value) (out : List Job), n = asks.length - k ∧ k ≤ asks.length ∧ vk = .int .i64 (k : Int) ∧ PX w wy N now next ts ss ms vt vs vm out vo ∧ played (asks.take k) = (⟨now, next, ts, ss, ms⟩, out)
/-- Behind Ask. -/
structure PA (w w5 wy : World) (N M : Nat) (now next : Int) (ts ss : List Job) (ms : List Tim) (vt vs vm : Value) (out : List Job) (vo : Value) (q : Lp) (vt1 vs1 vm1 : Value) : Prop where
  p : PX w w5 N now next ts ss ms vt vs vm out vo
  o : LpOwn wy w5.heap.size q.tasks q.smalls q.tims vt1 vs1 vm1
  b : Below w5.heap.size w5 wy
  m : wy.heap[M]? = some (.cells #[.int .i64 q.now, .int .i64 q.next, vt1, vs1, vm1] 26 (0, 0))
/-- What holds at the head of Play's inner loop. -/
def PR3 (w : World) (N : Nat) (T : Lp × List Job) (U : Int) (n : Nat) (vo vb : Value) (wy : World) : Prop :=
  ∃ (now next : Int) (ts ss : List Job) (ms : List Tim) (vt vs vm : Value) (out : List Job) (more : Bool), vb = .bool more ∧ PX w wy N now next ts ss ms vt vs vm out vo ∧ T = (if more then runL (300 - out.length) U ⟨now, next, ts, ss, ms⟩ out else (⟨now, next, ts, ss, ms⟩, out)) ∧ Right ⟨now, next, ts, ss, ms⟩ ∧ now ≤ U ∧ out.length ≤ 300 ∧ n = if more then 301 - out.length else 0
/-- Behind next and its stores. -/
structure PN (w wy : World) (N M : Nat) (now next : Int) (ts ss : List Job) (ms : List Tim) (vt vs vm : Value) (out : List Job) (vo : Value) (o : Obj) : Prop where
  p : PX w wy N now next ts ss ms vt vs vm out vo
  e : Ex wy M o vt vs vm
  n : vo.ownBlock ≠ some M
  l : N < M
theorem PN.alloc {w wy : World} {N M : Nat} {now next : Int} {ts ss : List Job} {ms : List Tim} {vt vs vm : Value} {out : List Job} {vo : Value} (h : PX w wy N now next ts ss ms vt vs vm out vo) (o : Obj) (hM : wy.heap.size = M) : PN w (wy.alloc o) N M now next ts ss ms vt vs vm out vo o where
  p := h.alloc o
  e := by have := Ex.new h.own o; rw [hM] at this; exact this
  n e := by have := (h.row.lt _ e).2; omega
  l := by have := h.ltN; omega
theorem PN.ask {w wy w2 : World} {N M : Nat} {now next : Int} {ts ss : List Job} {ms : List Tim} {vt vs vm : Value} {out : List Job} {vo : Value} {o : Obj} {vt1 vs1 vm1 : Value} (h : PN w wy N M now next ts ss ms vt vs vm out vo o) (hb : Bl wy w2 (own3 vt vs vm)) (ha : At wy (own3 vt vs vm) vt1 vs1 vm1) :
    w2.heap[N]? = some (.cells #[.int .i64 now, .int .i64 next, vt, vs, vm] 26 (0, 0)) ∧ Ex w2 M o vt1 vs1 vm1 := by
  refine ⟨(hb.block N h.p.ltN (fun e => ?_)).trans h.p.k7, h.e.ask hb ha⟩
  have := h.p.own.ge _ e
  omega
theorem PN.done {w wy w2 w3 w4 : World} {N M : Nat} {now next n1 x1 : Int} {ts ss ts1 ss1 : List Job} {ms ms1 : List Tim} {vt vs vm : Value} {out : List Job} {vo : Value} {o o' : Obj} {vt1 vs1 vm1 : Value} (h : PN w wy N M now next ts ss ms vt vs vm out vo o) (hb : Bl wy w2 (own3 vt vs vm)) (ho : LpOwn w2 (N + 1) ts1 ss1 ms1 vt1 vs1 vm1) (ha : At wy (own3 vt vs vm) vt1 vs1 vm1)
    (h3 : w3.heap[N]? = some (.cells #[.int .i64 n1, .int .i64 x1, vt1, vs1, vm1] 26 (0, 0))) (g3 : w2.grownBy w3 (some N)) (h4 : w4.heap[M]? = some o') (g4 : w3.grownBy w4 (some M)) : PN w w4 N M n1 x1 ts1 ss1 ms1 vt1 vs1 vm1 out vo o' := by
  have hp := h.p.taken hb ho ha h3 g3
  have he := h.e.ask hb ha
  have hn : some M ∉ own3 vt1 vs1 vm1 := fun e => by
    obtain ⟨n1, n2, n3⟩ := he.no
    rcases own3_mem e with e | e | e
    · exact n1 e
    · exact n2 e
    · exact n3 e
  exact ⟨hp.far g4 h.l hn h.n, ⟨h4, he.no⟩, h.n, h.l⟩
theorem sets7 {w : World} {b : Nat} {t : TypeId} {x0 x1 x2 x3 x4 x5 x6 : Value} (h : w.heap[b]? = some (.cells #[x0, x1, x2, x3, x4, x5, x6] t (0, 0))) (v0 v1 v2 v3 v4 v5 v6 : Value) {w8 : World} (h8 : w8 = ((((((w.setCell ⟨b, 0, none⟩ v0).setCell ⟨b, 1, none⟩ v1).setCell ⟨b, 2, none⟩ v2).setCell ⟨b, 3, none⟩ v3).setCell ⟨b, 4, none⟩ v4).setCell ⟨b, 5, none⟩ v5).setCell ⟨b, 6, none⟩ v6) :
    w8.heap[b]? = some (.cells #[v0, v1, v2, v3, v4, v5, v6] t (0, 0)) ∧ w.grownBy w8 (some b) := by
  subst h8
  exact ⟨set_heap (set_heap (set_heap (set_heap (set_heap (set_heap (set_heap h 0 v0 (by simp)) 1 v1 (by simp)) 2 v2 (by simp)) 3 v3 (by simp)) 4 v4 (by simp)) 5 v5 (by simp)) 6 v6 (by simp),
    Lib.grownBy_setB (Lib.grownBy_setB (Lib.grownBy_setB (Lib.grownBy_setB (Lib.grownBy_setB (Lib.grownBy_setB (Lib.grownBy_setB (gr_refl w _) _ _) _ _) _ _) _ _) _ _) _ _) _ _⟩
theorem all_take {α : Type} (p : α → Bool) (l : List α) (k : Nat) (hk : k < l.length) (h : (l.take k).all p = true) (h2 : p l[k] = true) : (l.take (k + 1)).all p = true := by
  rw [List.take_add_one, List.getElem?_eq_getElem hk, List.all_append, h]
  simpa using h2
theorem not_all {α : Type} (p : α → Bool) (l : List α) (k : Nat) (hk : k < l.length) (h2 : p l[k] = false) : l.all p = false := by
  rw [List.all_eq_false]
  exact ⟨l[k], List.getElem_mem hk, by rw [h2]; simp⟩
theorem played_take (l : List Qst) (k : Nat) (hk : k < l.length) : played (l.take (k + 1)) = playStep (played (l.take k)) l[k] := by
  rw [List.take_add_one, List.getElem?_eq_getElem hk]
  exact played_snoc _ _
set_option maxRecDepth 100000 in
set_option maxHeartbeats 8000000 in
theorem play_any (asks : List Qst) (qa : Option Addr) (qc : Nat) (w : World) (h : Sl w Qst.c 7 (.slice qa asks.length qc) asks) :
    Calls Try.prog 9 #[.slice qa asks.length qc] w (PlaySaid w (play asks)) := by
  have HT := Lib.hid h
  have hct : asks.length ≤ 9223372036854775807 := by obtain ⟨_, _, e, h1, h2, _⟩ := h; injection e with _ _ e; simp only [maxLen] at h2; omega
  clear h
  obtain ⟨i0, hi0, hz0, hz1, hz2⟩ := info_parts job_info
  go_enter Try.func9, Try.ntmps9
  go_upto_region 1 with fail
  refine code_gen (Φ := fun w4 => Hid (Loc w w4 [.cells #[.int .i64 0, .int .i64 0, .slice none 0 0, .slice none 0 0, .slice none 0 0] 26])) (Lib.hid (Loc.start1 _)) ?_
  intro w4 X
  by_cases hlen : 200 < asks.length
  · have hlen' : (200 : Int) < (asks.length : Int) := by omega
    have HP : Hid (play asks = ([], Lp.zero, 2)) := Lib.hid (by unfold play; rw [if_pos hlen])
    obtain ⟨d0, d1, d2, d3, d4⟩ := cells5 X.out.k0
    obtain ⟨f0, f1, f2, f3, f4⟩ := frz5 X.out.k0
    go_wp2_with fail
    refine body_gen (Φ := fun W6 => Hid (Loc w W6 [.cells #[.int .i64 0, .int .i64 0, .slice none 0 0, .slice none 0 0, .slice none 0 0] 26])) (Lib.hid (X.out.put5 0 rfl (.int .i64 0) (.int .i64 0) (.slice none 0 0) (.slice none 0 0) (.slice none 0 0))) ?_
    intro W6 F
    clear d0 d1 d2 d3 d4 f0 f1 f2 f3 f4
    obtain ⟨e0, e1, e2, e3, e4⟩ := cells5 F.out.k0
    refine bodyPost_ret (v := _) (by simp [results, Try.results9, go_sem, e0, e1, e2, e3, e4]; rfl) rfl ?_
    rw [HP.out]
    exact ⟨.slice none 0 0, .slice none 0 0, .slice none 0 0, .slice none 0 0, rfl, World.ownsRow_nil W6 _ 39 7, own_nil _ _, F.out.bl⟩
  · have hlen' : (asks.length : Int) ≤ 200 := by omega
    go_wp2_with fail
    go_loopg [23] asks.length (fun n vk wr => ∃ k : Nat, n = asks.length - k ∧ k ≤ asks.length ∧ vk = .int .i64 (k : Int) ∧ Loc w wr [.cells #[.int .i64 0, .int .i64 0, .slice none 0 0, .slice none 0 0, .slice none 0 0] 26] ∧ (asks.take k).all (fun a => within a.do_ 1 6) = true)
    case atStart => exact ⟨0, rfl, Nat.zero_le _, rfl, X.out, by simp⟩
    case round =>
      obtain ⟨k, hg, hk, rfl, hx, ha⟩ := hrel
      have G := Lib.hid hg
      have X1 := Lib.hid hx
      have HA := Lib.hid ha
      clear hg hx ha X
      by_cases hlt : k < asks.length
      · have h1' : (k : Int) < (asks.length : Int) := by omega
        obtain ⟨b, o, rfl, hq⟩ := HT.out.ask k hlt
        have HAT := Lib.hid (fun h2 => all_take (fun a => within a.do_ 1 6) asks k hlt HA.out h2)
        have HNA := Lib.hid (fun h2 => not_all (fun a => within a.do_ 1 6) asks k hlt h2)
        generalize asks[k] = J at *
        obtain ⟨q0, q1, q2, q3, q4, q5, q6⟩ := J
        obtain ⟨s0, s1, s2, s3, s4, s5, s6⟩ := hq.below X1.out.bl
        simp only at s0 s1 s2 s3 s4 s5 s6
        clear hq
        go_wp2_with fail
        refine calls_gen (Φ := fun w4 => Hid (Loc w w4 [.cells #[.int .i64 0, .int .i64 0, .slice none 0 0, .slice none 0 0, .slice none 0 0] 26])) (Lib.hid (X1.out.call ((Below.refl _ _).alloc (Nat.le_refl _) _))) ?_
        intro w5 X
        clear X1 s0 s1 s2 s3 s4 s5 s6
        obtain ⟨B, hb⟩ : ∃ B, within q0 1 6 = B := ⟨_, rfl⟩
        refine (within_b hb w5).mono ?_
        rintro e w6 ⟨rfl, rfl⟩
        have HB := Lib.hid hb
        clear hb
        cases B
        · have HP : Hid (play asks = ([], Lp.zero, 3)) := Lib.hid (by unfold play; rw [if_neg hlen, HNA.out HB.out]; rfl)
          obtain ⟨d0, d1, d2, d3, d4⟩ := cells5 X.out.k0
          obtain ⟨f0, f1, f2, f3, f4⟩ := frz5 X.out.k0
          go_wp2_with fail
          refine body_gen (Φ := fun W6 => Hid (Loc w W6 [.cells #[.int .i64 0, .int .i64 0, .slice none 0 0, .slice none 0 0, .slice none 0 0] 26])) (Lib.hid (X.out.put5 0 rfl (.int .i64 0) (.int .i64 0) (.slice none 0 0) (.slice none 0 0) (.slice none 0 0))) ?_
          intro W6 F
          clear d0 d1 d2 d3 d4 f0 f1 f2 f3 f4
          obtain ⟨e0, e1, e2, e3, e4⟩ := cells5 F.out.k0
          refine bodyPost_ret (v := _) (by simp [results, Try.results9, go_sem, e0, e1, e2, e3, e4]; rfl) rfl ?_
          rw [HP.out]
          exact ⟨.slice none 0 0, .slice none 0 0, .slice none 0 0, .slice none 0 0, rfl, World.ownsRow_nil W6 _ 39 7, own_nil _ _, F.out.bl⟩
        · go_wp2_with fail
          go_roundg (asks.length - (k + 1))
          case measure => rw [G.out]; omega
          case rel => exact ⟨k + 1, rfl, by omega, by simp, X.out, HAT.out HB.out⟩
      · have hke : k = asks.length := by omega
        subst hke
        have HP : Hid (play asks = ((played asks).2, (played asks).1, 0)) := Lib.hid (by have := HA.out; rw [List.take_length] at this; unfold play; rw [if_neg hlen, if_pos this])
        clear G HA
        go_upto_region 10 with fail
        obtain ⟨N, hN⟩ : ∃ N, wr.heap.size = N := ⟨_, rfl⟩
        rw [hN]
        refine code_gen (Φ := fun wy => Hid (PX w wy N 0 0 [] [] [] (.slice none 0 0) (.slice none 0 0) (.slice none 0 0) [] (.slice none 0 0))) (Lib.hid (PX.start X1.out hN)) ?_
        intro w5 P0
        clear hN X1
        go_wp2_with fail
        go_loopg [8, 35] asks.length (fun n vo vk wy => PR2 w N asks n vo vk wy)
        case atStart => exact ⟨0, 0, 0, [], [], [], _, _, _, [], rfl, Nat.zero_le _, rfl, P0.out, rfl⟩
        case round =>
          obtain ⟨vo, hvo⟩ : ∃ v, v = u8 := ⟨_, rfl⟩
          subst hvo
          clear P0
          obtain ⟨k, now, next, ts, ss, ms, vt, vs, vm, out, hg, hk2, rfl, hp, hpl⟩ := hrel
          obtain ⟨ta, sa, ma, tc, sc, mc, rfl, rfl, rfl⟩ := hp.own.shape
          obtain ⟨oa, oc, rfl⟩ := own_shape hp.row
          have G := Lib.hid hg
          have X := Lib.hid hp
          have HPL := Lib.hid hpl
          have HR := Lib.hid (show Right ⟨now, next, ts, ss, ms⟩ ∧ out.length ≤ 300 by have := played_right (asks.take k); rw [hpl] at this; exact this)
          clear hg hp hpl
          obtain ⟨c0, c1, c2, c3, c4⟩ := cells5 X.out.k7
          by_cases hlt2 : k < asks.length
          · have h1' : (k : Int) < (asks.length : Int) := by omega
            obtain ⟨b, o, rfl, hq⟩ := HT.out.ask k hlt2
            have HST := Lib.hid (played_take asks k hlt2)
            generalize asks[k] = J at *
            obtain ⟨q0, q1, q2, q3, q4, q5, q6⟩ := J
            obtain ⟨s0, s1, s2, s3, s4, s5, s6⟩ := hq.below X.out.bl
            simp only at s0 s1 s2 s3 s4 s5 s6
            clear hq
            have hlN := X.out.ltN
            by_cases h6 : q0 = 6
            · subst h6
              obtain ⟨A, hA⟩ : ∃ A, wr.heap.size = A := ⟨_, rfl⟩
              go_upto_region 14 with fail
              refine code_gen (Φ := fun wy => Hid (PX w wy N now next ts ss ms (.slice ta ts.length tc) (.slice sa ss.length sc) (.slice ma ms.length mc) out (.slice oa out.length oc)) ∧ Hid (wy.heap[A]? = some (.cells #[.int .i64 6, .int .i64 q1, .int .i64 q2, .string q3, .int .i64 q4, .int .i64 q5, .string q6] 35 (0, 0)))) ⟨Lib.hid (X.out.alloc _), Lib.hid (alloc_at hA _)⟩ ?_
              rintro w6 ⟨Y, YA⟩
              clear X hA c0 c1 c2 c3 c4 s0 s1 s2 s3 s4 s5 s6 hlN
              obtain ⟨c0, c1, c2, c3, c4⟩ := cells5 Y.out.k7
              obtain ⟨s0, s1, s2, s3, s4, s5, s6⟩ := cells7 YA.out
              have hn1 := HR.out.1.w1
              have hn2 := HR.out.1.w2
              simp only at hn1 hn2
              have HS2 : Hid (played (asks.take (k + 1)) = if runs ⟨6, q1, q2, q3, q4, q5, q6⟩ ⟨now, next, ts, ss, ms⟩ then runL (300 - out.length) (now + q2) ⟨now, next, ts, ss, ms⟩ out else (⟨now, next, ts, ss, ms⟩, out)) := Lib.hid (by rw [HST.out, HPL.out]; unfold playStep; rw [if_pos rfl])
              obtain ⟨B, hb⟩ : ∃ B, within q2 0 1000000 = B := ⟨_, rfl⟩
              cases B
              · have hD : runs ⟨6, q1, q2, q3, q4, q5, q6⟩ ⟨now, next, ts, ss, ms⟩ = false := by simp only [runs, hb, Bool.false_and]
                have HB := Lib.hid (within_b hb)
                have HD := Lib.hid hD
                clear hb hD
                go_wp2_with (go_at_call 24; refine (HB.out _).mono ?_; rintro e w7 ⟨rfl, rfl⟩)
                clear c0 c1 c2 c3 c4 s0 s1 s2 s3 s4 s5 s6
                go_loopg [8, 15] 1 (fun _ vo vb wy => vb = .bool false ∧ vo = .slice oa out.length oc ∧ PX w wy N now next ts ss ms (.slice ta ts.length tc) (.slice sa ss.length sc) (.slice ma ms.length mc) out (.slice oa out.length oc))
                case atStart => exact ⟨rfl, rfl, Y.out⟩
                case round =>
                  obtain ⟨rfl, rfl, hp⟩ := hrel
                  have Z := Lib.hid hp
                  clear hp Y
                  go_wp2_with fail
                  go_roundg (asks.length - (k + 1))
                  case measure => rw [G.out]; omega
                  case rel => exact ⟨k + 1, now, next, ts, ss, ms, _, _, _, out, rfl, by omega, by simp, Z.out, by rw [HS2.out, HD.out]; rfl⟩
              · have hq := within_in hb
                obtain ⟨hq1, hq2⟩ := hq
                have HB := Lib.hid (within_b hb)
                by_cases hsum : now + q2 ≤ 1000000000
                · have hD : runs ⟨6, q1, q2, q3, q4, q5, q6⟩ ⟨now, next, ts, ss, ms⟩ = true := by simp only [runs, hb, decide_eq_true hsum, Bool.and_self]
                  have HD := Lib.hid hD
                  have HS3 : Hid (played (asks.take (k + 1)) = runL (300 - out.length) (now + q2) ⟨now, next, ts, ss, ms⟩ out) := Lib.hid (by rw [HS2.out, hD]; rfl)
                  clear hb hD
                  go_wp2_with (go_at_call 24; refine (HB.out _).mono ?_; rintro e w7 ⟨rfl, rfl⟩)
                  clear c0 c1 c2 c3 c4 s0 s1 s2 s3 s4 s5 s6
                  obtain ⟨T, hT⟩ : ∃ T, played (asks.take (k + 1)) = T := ⟨_, rfl⟩
                  obtain ⟨U, hU⟩ : ∃ U, now + q2 = U := ⟨_, rfl⟩
                  rw [hU] at hsum ⊢
                  have hnU : now ≤ U := by omega
                  have HS4 : Hid (T = runL (300 - out.length) U ⟨now, next, ts, ss, ms⟩ out) := Lib.hid (by rw [← hT, ← hU]; exact HS3.out)
                  have HT4 := Lib.hid hT
                  clear hT hU HS3 HS2
                  go_loopg [8, 15] (301 - out.length) (fun n vo vb wy => PR3 w N T U n vo vb wy)
                  case atStart => exact ⟨now, next, ts, ss, ms, _, _, _, out, true, rfl, Y.out, by rw [if_pos rfl]; exact HS4.out, HR.out.1, hnU, HR.out.2, rfl⟩
                  case round =>
                    clear Y YA HS4 HR hn1 hn2 hnU hq1 hq2 HPL HST HD HB
                    obtain ⟨vo, hvo⟩ : ∃ v, v = u8 := ⟨_, rfl⟩
                    subst hvo
                    obtain ⟨now, next, ts, ss, ms, vt, vs, vm, out, more, rfl, hp, ht, hri, hnU, ho3, hg3⟩ := hrel
                    obtain ⟨ta, sa, ma, tc, sc, mc, rfl, rfl, rfl⟩ := hp.own.shape
                    obtain ⟨oa, oc, rfl⟩ := own_shape hp.row
                    have G3 := Lib.hid hg3
                    have X := Lib.hid hp
                    have HTT := Lib.hid ht
                    have HRI := Lib.hid hri
                    clear hg3 hp ht hri
                    cases more with
                    | false =>
                      go_wp2_with fail
                      go_roundg (asks.length - (k + 1))
                      case measure => rw [G.out]; omega
                      case rel => exact ⟨k + 1, now, next, ts, ss, ms, _, _, _, out, rfl, by omega, by simp, X.out, by rw [HT4.out, HTT.out]; rfl⟩
                    | true =>
                      by_cases h300 : out.length < 300
                      · have h3i : (out.length : Int) < 300 := by omega
                        obtain ⟨M, hM⟩ : ∃ M, wr.heap.size = M := ⟨_, rfl⟩
                        have HM := Lib.hid hM
                        go_upto_region 22 with fail
                        clear hM
                        refine code_gen (Φ := fun wy => Hid (PN w wy N M now next ts ss ms (.slice ta ts.length tc) (.slice sa ss.length sc) (.slice ma ms.length mc) out (.slice oa out.length oc) (.cells #[.int .i64 0, .int .i64 0, .bool false, .string ⟨#[]⟩, .int .i64 0, .int .i64 0, .string ⟨#[]⟩] 39))) (Lib.hid (PN.alloc X.out _ HM.out)) ?_
                        intro w7 Y
                        clear X HM
                        obtain ⟨c0, c1, c2, c3, c4⟩ := cells5 Y.out.p.k7
                        go_wp2_with fail
                        obtain ⟨r, hr⟩ : ∃ r, (⟨now, next, ts, ss, ms⟩ : Lp).nxt U = r := ⟨_, rfl⟩
                        have hnx := next_any (N + 1) now next ts ss ms (.slice ta ts.length tc) (.slice sa ss.length sc) (.slice ma ms.length mc) U w7 Y.out.p.own Y.out.p.ltN HRI.out
                        rw [hr] at hnx
                        have HRR := Lib.hid (nxt_right ⟨now, next, ts, ss, ms⟩ U HRI.out hnU hsum)
                        rw [hr] at HRR
                        have HT5 : Hid (T = if r.2.2 then runL (300 - (out.length + 1)) U r.1 (out ++ [r.2.1]) else (r.1, out)) := Lib.hid (by
                          rw [HTT.out, if_pos (by first | exact rfl | exact trivial), show 300 - out.length = (300 - (out.length + 1)) + 1 by omega]
                          simp only [runL, hr])
                        clear hr
                        obtain ⟨⟨n1, x1, ts1, ss1, ms1⟩, ⟨id, src, small, call, ak, an, as1⟩, is⟩ := r
                        refine hnx.mono ?_
                        clear hnx
                        rintro e w8 ⟨vt1, vs1, vm1, rfl, ho, hbl, hat⟩
                        obtain ⟨ta1, sa1, ma1, tc1, sc1, mc1, rfl, rfl, rfl⟩ := ho.shape
                        obtain ⟨h7, hE⟩ := Y.out.ask hbl hat
                        have HO := Lib.hid ho
                        have HBL := Lib.hid hbl
                        have HAT := Lib.hid hat
                        have H7 := Lib.hid h7
                        have HE := Lib.hid hE
                        have hNM := Y.out.l
                        clear ho hbl hat c0 c1 c2 c3 c4
                        simp only [Lp.v, Job.v]
                        obtain ⟨c0, c1, c2, c3, c4⟩ := cells5 h7
                        obtain ⟨f0, f1, f2, f3, f4⟩ := frz5 h7
                        obtain ⟨k0, k1, k2, k3, k4, k5, k6⟩ := cells7 hE.h
                        obtain ⟨z0, z1, z2, z3, z4, z5, z6⟩ := frz7 hE.h
                        have n1' : ¬ N = M := by omega
                        have n2' : ¬ M = N := by omega
                        clear h7 hE
                        go_upto_region 23 with fail
                        refine code_gen (Φ := fun wy => Hid (PN w wy N M n1 x1 ts1 ss1 ms1 (.slice ta1 ts1.length tc1) (.slice sa1 ss1.length sc1) (.slice ma1 ms1.length mc1) out (.slice oa out.length oc) (.cells #[.int .i64 id, .int .i64 src, .bool small, .string call, .int .i64 ak, .int .i64 an, .string as1] 39))) (Lib.hid (by
                          obtain ⟨g1, g2⟩ := put5N H7.out (.int .i64 n1) (.int .i64 x1) (.slice ta1 ts1.length tc1) (.slice sa1 ss1.length sc1) (.slice ma1 ms1.length mc1) rfl
                          have h3 := (g2.block M HE.out.lt (fun e => by injection e with e; exact n2' e)).trans HE.out.h
                          obtain ⟨g3, g4⟩ := sets7 h3 (.int .i64 id) (.int .i64 src) (.bool small) (.string call) (.int .i64 ak) (.int .i64 an) (.string as1) rfl
                          exact Y.out.done HBL.out HO.out HAT.out g1 g2 g3 g4)) ?_
                        intro w9 Zn
                        clear Y HE H7 HBL HO HAT c0 c1 c2 c3 c4 f0 f1 f2 f3 f4 k0 k1 k2 k3 k4 k5 k6 z0 z1 z2 z3 z4 z5 z6 n1' n2' hNM
                        simp only at HRR HT5
                        cases is with
                        | true =>
                          obtain ⟨j0, j1, j2, j3, j4, j5, j6⟩ := cells7 Zn.out.e.h
                          have HROW := Lib.hid (Zn.out.p.row.alloc (.cells #[.int .i64 id, .int .i64 src, .bool small, .string call, .int .i64 ak, .int .i64 an, .string as1] 39))
                          have HNW : Hid (∀ j u, (Job.c ⟨id, src, small, call, ak, an, as1⟩)[j]? = some u → (w9.alloc (.cells #[.int .i64 id, .int .i64 src, .bool small, .string call, .int .i64 ak, .int .i64 an, .string as1] 39)).cell? ((⟨w9.heap.size, 0, none⟩ : Addr).add j) = some u) := Lib.hid (World.news_of_block (heap_alloc_new w9 _))
                          have H1C : Hid (∀ u ∈ Job.c ⟨id, src, small, call, ak, an, as1⟩, u.oneCell' = true) := Lib.hid (by have := job_one [⟨id, src, small, call, ak, an, as1⟩]; simpa using this)
                          have hBB : N + 1 ≤ (w9.alloc (.cells #[.int .i64 id, .int .i64 src, .bool small, .string call, .int .i64 ak, .int .i64 an, .string as1] 39)).heap.size := by have := Zn.out.p.ltN; simp; omega
                          go_wp2_with (at_builtin; refine wpList_append_at _ rfl (.tmp 78) (.tmp 80) 23 rfl (N + 1) 39 i0 zJob 7 72 Try.underlying23 hi0 hz0 hz1 hz2 rfl (by decide) _ _ _ rfl HROW.out ⟨w9.heap.size, 0, none⟩ 1 1 (Job.c ⟨id, src, small, call, ak, an, as1⟩) rfl rfl HNW.out H1C.out (by unfold maxLen; omega) (by omega) hBB (by decide) ?_)
                          intro v' w10 hown hgrow hat2
                          have P := Lib.hid ((Zn.out.p.alloc (.cells #[.int .i64 id, .int .i64 src, .bool small, .string call, .int .i64 ak, .int .i64 an, .string as1] 39)).push (j := ⟨id, src, small, call, ak, an, as1⟩) hown hgrow (by simpa using hat2))
                          obtain ⟨oa2, oc2, rfl⟩ := own_shape hown
                          clear hown hgrow hat2 HROW HNW H1C hBB Zn j0 j1 j2 j3 j4 j5 j6
                          go_wp2_with fail
                          go_roundg (301 - (out.length + 1))
                          case measure => rw [G3.out]; simp; omega
                          case rel => exact ⟨n1, x1, ts1, ss1, ms1, _, _, _, out ++ [⟨id, src, small, call, ak, an, as1⟩], true, rfl, P.out, by rw [HT5.out]; simp, HRR.out.1, HRR.out.2.2, by simp; omega, by simp⟩
                        | false =>
                          go_wp2_with fail
                          go_roundg 0
                          case measure => rw [G3.out]; simp; omega
                          case rel => exact ⟨n1, x1, ts1, ss1, ms1, _, _, _, out, false, rfl, Zn.out.p, by rw [HT5.out]; simp, HRR.out.1, HRR.out.2.2, by omega, by simp⟩
                      · have h3i : (300 : Int) ≤ (out.length : Int) := by omega
                        go_wp2_with fail
                        go_roundg (asks.length - (k + 1))
                        case measure => rw [G.out]; omega
                        case rel => exact ⟨k + 1, now, next, ts, ss, ms, _, _, _, out, rfl, by omega, by simp, X.out, by rw [HT4.out, HTT.out, if_pos (by first | exact rfl | exact trivial), show 300 - out.length = 0 by omega]; rfl⟩
                · have hD : runs ⟨6, q1, q2, q3, q4, q5, q6⟩ ⟨now, next, ts, ss, ms⟩ = false := by simp only [runs, hb, decide_eq_false hsum, Bool.and_false]
                  have hsd : decide (now + q2 ≤ 1000000000) = false := decide_eq_false hsum
                  have HD := Lib.hid hD
                  clear hb hD
                  go_wp2_with (go_at_call 24; refine (HB.out _).mono ?_; rintro e w7 ⟨rfl, rfl⟩)
                  clear c0 c1 c2 c3 c4 s0 s1 s2 s3 s4 s5 s6
                  go_loopg [8, 15] 1 (fun _ vo vb wy => vb = .bool false ∧ vo = .slice oa out.length oc ∧ PX w wy N now next ts ss ms (.slice ta ts.length tc) (.slice sa ss.length sc) (.slice ma ms.length mc) out (.slice oa out.length oc))
                  case atStart => exact ⟨rfl, rfl, Y.out⟩
                  case round =>
                    obtain ⟨rfl, rfl, hp⟩ := hrel
                    have Z := Lib.hid hp
                    clear hp Y
                    go_wp2_with fail
                    go_roundg (asks.length - (k + 1))
                    case measure => rw [G.out]; omega
                    case rel => exact ⟨k + 1, now, next, ts, ss, ms, _, _, _, out, rfl, by omega, by simp, Z.out, by rw [HS2.out, HD.out]; rfl⟩
            · have h61 : (q0 == 6) = false := by simpa using h6
              have h62 : (q0 != 6) = true := by simpa using h6
              go_wp2_with fail
              refine calls_gen (Φ := fun wy => Hid (PX w wy N now next ts ss ms (.slice ta ts.length tc) (.slice sa ss.length sc) (.slice ma ms.length mc) out (.slice oa out.length oc))) (Lib.hid (X.out.alloc _)) ?_
              intro w6 Y
              clear X c0 c1 c2 c3 c4 s0 s1 s2 s3 s4 s5 s6 hlN
              obtain ⟨r, hr⟩ : ∃ r, (⟨now, next, ts, ss, ms⟩ : Lp).ask ⟨q0, q1, q2, q3, q4, q5, q6⟩ = r := ⟨_, rfl⟩
              have hask := ask_any now next ts ss ms ta sa ma tc sc mc ⟨q0, q1, q2, q3, q4, q5, q6⟩ w6 Y.out.at_
              rw [hr] at hask
              have HS2 : Hid (played (asks.take (k + 1)) = if r.2.2 = 0 then (r.1, out) else (⟨now, next, ts, ss, ms⟩, out)) := Lib.hid (by rw [HST.out, HPL.out]; simp only [playStep, if_neg h6, hr])
              clear hr
              obtain ⟨⟨n1, x1, ts1, ss1, ms1⟩, id, er⟩ := r
              refine hask.mono ?_
              clear hask
              rintro e w7 ⟨vt1, vs1, vm1, rfl, ho, hb⟩
              obtain ⟨ta1, sa1, ma1, tc1, sc1, mc1, rfl, rfl, rfl⟩ := ho.shape
              have HO := Lib.hid ho
              have HB := Lib.hid hb
              clear ho hb
              simp only [Lp.v]
              go_upto_region 16 with fail
              obtain ⟨M, hM⟩ : ∃ M, w7.heap.size = M := ⟨_, rfl⟩
              rw [hM]
              refine code_gen (Φ := fun wy => Hid (PA w w6 wy N M now next ts ss ms (.slice ta ts.length tc) (.slice sa ss.length sc) (.slice ma ms.length mc) out (.slice oa out.length oc) ⟨n1, x1, ts1, ss1, ms1⟩ (.slice ta1 ts1.length tc1) (.slice sa1 ss1.length sc1) (.slice ma1 ms1.length mc1))) (Lib.hid ⟨Y.out, HO.out.alloc _, HB.out.alloc HB.out.size _, alloc_at hM _⟩) ?_
              intro w8 A
              clear hM HO HB Y
              by_cases he : er = 0
              · subst he
                obtain ⟨c0, c1, c2, c3, c4⟩ := cells5 A.out.m
                have k7 := (A.out.b.block N A.out.p.ltN).trans A.out.p.k7
                obtain ⟨d0, d1, d2, d3, d4⟩ := cells5 k7
                obtain ⟨f0, f1, f2, f3, f4⟩ := frz5 k7
                have K7 := Lib.hid k7
                clear k7
                go_wp2_with fail
                go_roundg (asks.length - (k + 1))
                case measure => rw [G.out]; omega
                case rel =>
                  obtain ⟨e1, e2⟩ := put5N K7.out (.int .i64 n1) (.int .i64 x1) (.slice ta1 ts1.length tc1) (.slice sa1 ss1.length sc1) (.slice ma1 ms1.length mc1) rfl
                  exact ⟨k + 1, n1, x1, ts1, ss1, ms1, _, _, _, out, rfl, by omega, by simp, A.out.p.asked A.out.b A.out.o e1 e2, by rw [HS2.out]; rfl⟩
              · have he1 : (er == 0) = false := by simpa using he
                have he2 : (er != 0) = true := by simpa using he
                go_wp2_with fail
                go_roundg (asks.length - (k + 1))
                case measure => rw [G.out]; omega
                case rel => exact ⟨k + 1, now, next, ts, ss, ms, _, _, _, out, rfl, by omega, by simp, A.out.p.call A.out.b, by rw [HS2.out]; exact if_neg he⟩
          · have hke : k = asks.length := by omega
            subst hke
            have HPL2 : Hid (play asks = (out, ⟨now, next, ts, ss, ms⟩, 0)) := Lib.hid (by have := HPL.out; rw [List.take_length] at this; rw [HP.out, this])
            obtain ⟨d0, d1, d2, d3, d4⟩ := cells5 X.out.k0
            obtain ⟨f0, f1, f2, f3, f4⟩ := frz5 X.out.k0
            go_upto_region 26 with fail
            go_region
            all_goals
              go_wp2_with fail
              refine body_put5d X.out.k0 ?_
              intro W6 hh hg
              clear c0 c1 c2 c3 c4 d0 d1 d2 d3 d4 f0 f1 f2 f3 f4
              obtain ⟨e0, e1, e2, e3, e4⟩ := cells5 hh
              refine bodyPost_ret (v := _) (by simp [results, Try.results9, go_sem, e0, e1, e2, e3, e4]; rfl) rfl ?_
              rw [HPL2.out]
              obtain ⟨r1, r2, r3⟩ := X.out.fin hg
              exact ⟨_, _, _, _, rfl, r1, r2.below ⟨rfl, rfl, rfl, Nat.le_refl _, fun _ _ => rfl⟩, ⟨r3.os, r3.tape, r3.output, r3.size, r3.block⟩⟩
end Go.Proofs.Ytpmklganodlciaa
