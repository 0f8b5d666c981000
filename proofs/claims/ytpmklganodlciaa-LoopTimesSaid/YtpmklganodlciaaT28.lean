/- LoopTimes, walked. -/
import Derived.Test.YtpmklganodlciaaT27
import Derived.Test.YtpmklganodlciaaP5
namespace Go.Proofs.Ytpmklganodlciaa
open Go.RowKit

def cells26 (q : Lp) (vt vs vm : Value) : Obj := .cells #[.int .i64 q.now, .int .i64 q.next, vt, vs, vm] 26 (0, 0)
/-- A loop in block P; what it leads to is not there. -/
structure TX (w wr : World) (os : List Obj) (P : Nat) (q : Lp) (vt vs vm : Value) : Prop where
  loc : Loc w wr os
  p : wr.heap[P]? = some (.cells #[.int .i64 q.now, .int .i64 q.next, vt, vs, vm] 26 (0, 0))
  z : w.heap.size + os.length ≤ P
  l : ∀ w', wr.grownBy w' (some P) → LpAt w' q vt vs vm
section
variable {w wr w' : World} {os : List Obj} {P : Nat} {q : Lp} {vt vs vm : Value}
theorem TX.at_ (h : TX w wr os P q vt vs vm) : LpAt wr q vt vs vm := h.l wr (gr_refl _ _)
theorem TX.call (h : TX w wr os P q vt vs vm) (hb : Below wr.heap.size wr w') : TX w w' os P q vt vs vm :=
  ⟨h.loc.call hb, (hb.block _ (lt_of_heap h.p)).trans h.p, h.z, fun w2 hg => h.l w2 (Lib.grownBy_trans (Lib.grownBy_below (gr_refl wr _) hb) hg)⟩
theorem TX.start (h : Loc w wr os) (hl : LpAt w q vt vs vm) (hP : wr.heap.size = P) : TX w (wr.alloc (.cells #[.int .i64 q.now, .int .i64 q.next, vt, vs, vm] 26)) os P q vt vs vm :=
  ⟨h.call ((Below.refl _ _).alloc (Nat.le_refl _) _), alloc_at hP _, by rw [← hP]; exact h.sz, fun w2 hg => hl.below (below_grown (h.bl.alloc h.bl.size _) hg (by rw [← hP]; exact h.bl.size) (Nat.le_refl _))⟩
/-- .. and what Next gave, beside it. -/
structure UX (w wy : World) (os : List Obj) (P P7 P8 : Nat) (q : Lp) (vt vs vm : Value) (q2 : Lp) (vt2 vs2 vm2 : Value) (o : Obj) : Prop where
  t : TX w wy os P q vt vs vm
  h7 : wy.heap[P7]? = some (.cells #[.int .i64 q2.now, .int .i64 q2.next, vt2, vs2, vm2] 26 (0, 0))
  h8 : wy.heap[P8]? = some o
  n7 : P < P7
  l2 : ∀ w', wy.grownBy w' (some P) → LpAt w' q2 vt2 vs2 vm2
variable {wy : World} {P7 P8 : Nat} {q2 : Lp} {vt2 vs2 vm2 : Value} {o : Obj}
theorem UX.at2 (h : UX w wy os P P7 P8 q vt vs vm q2 vt2 vs2 vm2 o) : LpAt wy q2 vt2 vs2 vm2 := h.l2 wy (gr_refl _ _)
theorem UX.call (h : UX w wy os P P7 P8 q vt vs vm q2 vt2 vs2 vm2 o) (hb : Below wy.heap.size wy w') : UX w w' os P P7 P8 q vt vs vm q2 vt2 vs2 vm2 o :=
  ⟨h.t.call hb, (hb.block _ (lt_of_heap h.h7)).trans h.h7, (hb.block _ (lt_of_heap h.h8)).trans h.h8, h.n7, fun w2 hg => h.l2 w2 (Lib.grownBy_trans (Lib.grownBy_below (gr_refl wy _) hb) hg)⟩
theorem UX.mk2 {w1 w2 : World} {B : Nat} (h : TX w w1 os P q vt vs vm) (hb : Below w1.heap.size w1 w2) (ho : LpOwn w2 w1.heap.size q2.tasks q2.smalls q2.tims vt2 vs2 vm2) (hB : w2.heap.size = B) (o : Obj) :
    UX w ((w2.alloc (.cells #[.int .i64 q2.now, .int .i64 q2.next, vt2, vs2, vm2] 26)).alloc o) os P B (B + 1) q vt vs vm q2 vt2 vs2 vm2 o := by
  have h2 := h.call hb
  have hlt := lt_of_heap h.p
  have hz := hb.size
  have hbb := ((Below.refl w2.heap.size w2).alloc (Nat.le_refl _) (.cells #[.int .i64 q2.now, .int .i64 q2.next, vt2, vs2, vm2] 26)).alloc (by simp) o
  refine ⟨h2.call hbb, alloc_keep (alloc_at hB _) _, alloc_at (by rw [← hB]; simp) _, by omega, fun w3 hg => ?_⟩
  have ho2 : LpOwn w3 w1.heap.size q2.tasks q2.smalls q2.tims vt2 vs2 vm2 := ((ho.alloc _).alloc _).far hg (fun e => by have := (ho.t.lt _ e).1; omega) (fun e => by have := (ho.s.lt _ e).1; omega) (fun e => by have := (ho.m.lt _ e).1; omega)
  exact own_at ho2
/-- Behind 'p = o'. -/
theorem UX.next {w8 : World} (h : UX w wy os P P7 P8 q vt vs vm q2 vt2 vs2 vm2 o) (h8 : w8 = ((((wy.setCell ⟨P, 0, none⟩ (.int .i64 q2.now)).setCell ⟨P, 1, none⟩ (.int .i64 q2.next)).setCell ⟨P, 2, none⟩ vt2).setCell ⟨P, 3, none⟩ vs2).setCell ⟨P, 4, none⟩ vm2) : TX w w8 os P q2 vt2 vs2 vm2 := by
  obtain ⟨e1, e2⟩ := put5N h.t.p (.int .i64 q2.now) (.int .i64 q2.next) vt2 vs2 vm2 h8
  exact ⟨h.t.loc.far e2 h.t.z, e1, h.t.z, fun w2 hg => h.l2 w2 (Lib.grownBy_trans e2 hg)⟩
end
theorem lpat_shape {w : World} {q : Lp} {vt vs vm : Value} (h : LpAt w q vt vs vm) : ∃ ta sa ma tc sc mc, vt = .slice ta q.tasks.length tc ∧ vs = .slice sa q.smalls.length sc ∧ vm = .slice ma q.tims.length mc := by
  obtain ⟨a, c, e, _⟩ := h.t
  obtain ⟨a2, c2, e2, _⟩ := h.s
  obtain ⟨a3, c3, e3, _⟩ := h.m
  exact ⟨a, a2, a3, c, c2, c3, e, e2, e3⟩
theorem call17 (args : Array Value) (w : World) : Sem.run Try.prog (callFunc 17 args) w = .ok (.enter 17 args) w := by go_simp
theorem call19 (args : Array Value) (w : World) : Sem.run Try.prog (callFunc 19 args) w = .ok (.enter 19 args) w := by go_simp
set_option maxRecDepth 100000 in
set_option maxHeartbeats 2000000 in
/-- The timer of this job. -/
theorem isJob17 (b : Nat) (n : Int) (t : Tim) (w : World) (h : w.cell? ⟨b, 0, none⟩ = some (.int .i64 n)) : Calls Try.prog 17 #[t.v, .pointer (some ⟨b, 0, none⟩)] w fun e w' => e = .returned (.bool (t.id == n)) ∧ Below w.heap.size w w' := by
  obtain ⟨id, ta, te, tt, call⟩ := t
  have hlt : b < w.heap.size := by
    rcases Nat.lt_or_ge b w.heap.size with h' | h'
    · exact h'
    · simp [World.cell?, Array.getElem?_eq_none h'] at h
  show Calls Try.prog 17 #[.agg #[.int .i64 id, .int .i64 ta, .int .i64 te, .int .i64 tt, .string call], .pointer (some ⟨b, 0, none⟩)] w _
  go_enter Try.func17, Try.ntmps17
  go_wp2_with fail
  go_ret
  exact ⟨rfl, (Below.refl _ _).alloc (Nat.le_refl _) _⟩
set_option maxRecDepth 100000 in
set_option maxHeartbeats 2000000 in
/-- The timer of this job. -/
theorem isJob19 (b : Nat) (n : Int) (t : Tim) (w : World) (h : w.cell? ⟨b, 0, none⟩ = some (.int .i64 n)) : Calls Try.prog 19 #[t.v, .pointer (some ⟨b, 0, none⟩)] w fun e w' => e = .returned (.bool (t.id == n)) ∧ Below w.heap.size w w' := by
  obtain ⟨id, ta, te, tt, call⟩ := t
  have hlt : b < w.heap.size := by
    rcases Nat.lt_or_ge b w.heap.size with h' | h'
    · exact h'
    · simp [World.cell?, Array.getElem?_eq_none h'] at h
  show Calls Try.prog 19 #[.agg #[.int .i64 id, .int .i64 ta, .int .i64 te, .int .i64 tt, .string call], .pointer (some ⟨b, 0, none⟩)] w _
  go_enter Try.func19, Try.ntmps19
  go_wp2_with fail
  go_ret
  exact ⟨rfl, (Below.refl _ _).alloc (Nat.le_refl _) _⟩
/-- What holds at the head of LoopTimes' loop. -/
def TR (w : World) (os : List Obj) (P : Nat) (u : Int) (n : Nat) (vk : Value) (wr : World) : Prop :=
  ∃ (k : Nat) (q : Lp) (vt vs vm : Value), n = 60 - k ∧ k ≤ 60 ∧ vk = .int .i64 (k : Int) ∧ TX w wr os P q vt vs vm ∧ Right q ∧ q.now ≤ u
set_option maxRecDepth 100000 in
set_option maxHeartbeats 8000000 in
theorem times_any (now next : Int) (ts ss : List Job) (ms : List Tim) (ta sa ma : Option Addr) (tc sc mc : Nat) (until_ : Int) (w : World) (h : LpAt w ⟨now, next, ts, ss, ms⟩ (.slice ta ts.length tc) (.slice sa ss.length sc) (.slice ma ms.length mc)) :
    Calls Try.prog 6 #[.agg #[.int .i64 now, .int .i64 next, .slice ta ts.length tc, .slice sa ss.length sc, .slice ma ms.length mc], .int .i64 until_] w fun e w' => e = .returned (.bool true) ∧ Below w.heap.size w w' := by
  have HO := Lib.hid h
  clear h
  go_enter Try.func6, Try.ntmps6
  go_wp2_with fail
  refine calls_gen (Φ := fun w4 => Hid (Loc w w4 [.cells #[.int .i64 now, .int .i64 next, .slice ta ts.length tc, .slice sa ss.length sc, .slice ma ms.length mc] 26])) (Lib.hid (Loc.start1 _)) ?_
  intro w4 X4
  refine (lives_any w4).mono ?_
  rintro e w5 ⟨rfl, hb⟩
  have X5 := Lib.hid (X4.out.call hb)
  clear hb X4
  obtain ⟨c0, c1, c2, c3, c4⟩ := cells5 X5.out.k0
  go_wp2_with fail
  refine (check_any now next ts ss ms ta sa ma tc sc mc w5 (HO.out.below X5.out.bl)).mono ?_
  rintro e w6 ⟨rfl, hb⟩
  have X := Lib.hid (X5.out.call hb)
  clear hb X5 c0 c1 c2 c3 c4
  obtain ⟨c, hc⟩ : ∃ c, Lp.check ⟨now, next, ts, ss, ms⟩ = c := ⟨_, rfl⟩
  rw [hc]
  have HC := Lib.hid hc
  clear hc
  obtain ⟨c0, c1, c2, c3, c4⟩ := cells5 X.out.k0
  by_cases hc0 : c = 0
  · subst hc0
    have R := Lib.hid ((right_iff _).1 HC.out)
    clear HC
    by_cases hu1 : until_ < now
    · go_wp2_with fail
      refine (lives_any _).mono ?_
      rintro e w7 ⟨rfl, hb7⟩
      have T := Lib.hid (X.out.call hb7)
      clear hb7 X
      go_wp2_with fail
      go_ret
      exact ⟨rfl, T.out.bl⟩
    · by_cases hu2 : 1000000000 < until_
      · go_wp2_with fail
        refine (lives_any _).mono ?_
        rintro e w7 ⟨rfl, hb7⟩
        have T := Lib.hid (X.out.call hb7)
        clear hb7 X
        go_wp2_with fail
        go_ret
        exact ⟨rfl, T.out.bl⟩
      · have hu1' : now ≤ until_ := by omega
        have hu2' : until_ ≤ 1000000000 := by omega
        clear hu1 hu2
        obtain ⟨P, hP⟩ : ∃ P, w6.heap.size = P := ⟨_, rfl⟩
        have HP := Lib.hid hP
        go_upto_region 4 with fail
        clear hP
        refine code_gen (Φ := fun wy => Hid (TX w wy [.cells #[.int .i64 now, .int .i64 next, .slice ta ts.length tc, .slice sa ss.length sc, .slice ma ms.length mc] 26] P ⟨now, next, ts, ss, ms⟩ (.slice ta ts.length tc) (.slice sa ss.length sc) (.slice ma ms.length mc))) (Lib.hid (TX.start X.out HO.out HP.out)) ?_
        intro w7 Y
        clear X HP c0 c1 c2 c3 c4
        go_wp2_with fail
        go_loopg [31] 60 (fun n vk wr => TR w [.cells #[.int .i64 now, .int .i64 next, .slice ta ts.length tc, .slice sa ss.length sc, .slice ma ms.length mc] 26] P until_ n vk wr)
        case atStart => exact ⟨0, _, _, _, _, rfl, by omega, rfl, Y.out, R.out, hu1'⟩
        case round =>
          clear Y R HO hu1'
          obtain ⟨k, ⟨n1, x1, ts1, ss1, ms1⟩, vt, vs, vm, hg, hk, rfl, hx, hr, hnu⟩ := hrel
          obtain ⟨ta1, sa1, ma1, tc1, sc1, mc1, rfl, rfl, rfl⟩ := lpat_shape hx.at_
          simp only at hnu
          have G := Lib.hid hg
          have X := Lib.hid hx
          have R := Lib.hid hr
          clear hg hx hr
          by_cases hlt : k < 60
          · have h1' : (k : Int) < 60 := by omega
            obtain ⟨P6, hP6⟩ : ∃ P6, wr.heap.size = P6 := ⟨_, rfl⟩
            have HP6 := Lib.hid hP6
            obtain ⟨c0, c1, c2, c3, c4⟩ := cells5 X.out.p
            go_upto_region 7 with fail
            clear hP6
            refine code_gen (Φ := fun wy => Hid (TX w wy [.cells #[.int .i64 now, .int .i64 next, .slice ta ts.length tc, .slice sa ss.length sc, .slice ma ms.length mc] 26] P ⟨n1, x1, ts1, ss1, ms1⟩ (.slice ta1 ts1.length tc1) (.slice sa1 ss1.length sc1) (.slice ma1 ms1.length mc1)) ∧ Hid (wy.heap[P6]? = some (.cells #[.int .i64 n1, .int .i64 x1, .slice ta1 ts1.length tc1, .slice sa1 ss1.length sc1, .slice ma1 ms1.length mc1] 26 (0, 0)))) ⟨Lib.hid (X.out.call ((Below.refl _ _).alloc (Nat.le_refl _) _)), Lib.hid (alloc_at HP6.out _)⟩ ?_
            rintro w7 ⟨Y, Y6⟩
            clear X HP6 c0 c1 c2 c3 c4
            obtain ⟨c0, c1, c2, c3, c4⟩ := cells5 Y.out.p
            go_wp2_with fail
            obtain ⟨r, hr⟩ : ∃ r, (⟨n1, x1, ts1, ss1, ms1⟩ : Lp).nxt until_ = r := ⟨_, rfl⟩
            have hnx := nextP_any n1 x1 ts1 ss1 ms1 ta1 sa1 ma1 tc1 sc1 mc1 until_ w7 Y.out.at_
            rw [Next_eq ⟨n1, x1, ts1, ss1, ms1⟩ until_ R.out hnu hu2', hr] at hnx
            have HST := Lib.hid (times_step ⟨n1, x1, ts1, ss1, ms1⟩ until_ R.out)
            have HNR := Lib.hid (nxt_right ⟨n1, x1, ts1, ss1, ms1⟩ until_ R.out hnu hu2')
            rw [hr] at HST HNR
            clear hr
            obtain ⟨⟨n2, x2, ts2, ss2, ms2⟩, ⟨id, src, small, call, ak, an, as1⟩, is⟩ := r
            refine hnx.mono ?_
            clear hnx
            rintro e w8 ⟨vt2, vs2, vm2, rfl, ho, hb⟩
            obtain ⟨ta2, sa2, ma2, tc2, sc2, mc2, rfl, rfl, rfl⟩ := ho.shape
            have HO := Lib.hid ho
            have HB := Lib.hid hb
            clear ho hb
            simp only [Lp.v, Job.v]
            go_upto_region 8 with fail
            obtain ⟨P7, hP7⟩ : ∃ P7, w8.heap.size = P7 := ⟨_, rfl⟩
            rw [hP7]
            refine code_gen (Φ := fun wy => Hid (UX w wy [.cells #[.int .i64 now, .int .i64 next, .slice ta ts.length tc, .slice sa ss.length sc, .slice ma ms.length mc] 26] P P7 (P7 + 1) ⟨n1, x1, ts1, ss1, ms1⟩ (.slice ta1 ts1.length tc1) (.slice sa1 ss1.length sc1) (.slice ma1 ms1.length mc1) ⟨n2, x2, ts2, ss2, ms2⟩ (.slice ta2 ts2.length tc2) (.slice sa2 ss2.length sc2) (.slice ma2 ms2.length mc2) (.cells #[.int .i64 id, .int .i64 src, .bool small, .string call, .int .i64 ak, .int .i64 an, .string as1] 39)) ∧ Hid (wy.heap[P6]? = some (.cells #[.int .i64 n1, .int .i64 x1, .slice ta1 ts1.length tc1, .slice sa1 ss1.length sc1, .slice ma1 ms1.length mc1] 26 (0, 0)))) ⟨Lib.hid (UX.mk2 Y.out HB.out HO.out hP7 _), Lib.hid (alloc_keep (alloc_keep ((HB.out.block P6 (lt_of_heap Y6.out)).trans Y6.out) _) _)⟩ ?_
            rintro w9 ⟨Z, Z6⟩
            clear hP7 HO HB Y Y6 c0 c1 c2 c3 c4
            cases is with
            | false =>
              obtain ⟨e1, e2, e3, e4⟩ := HST.out.1 rfl
              simp only at e1 e2 e3 e4
              subst e1 e2 e3
              have HE4 := Lib.hid e4
              clear e4 HST
              obtain ⟨d0, d1, d2, d3, d4⟩ := cells5 Z.out.h7
              cases ms2 with
              | nil =>
                go_wp2_with fail
                go_ret
                exact ⟨rfl, Z.out.t.loc.bl⟩
              | cons t l =>
                have hu3 := HE4.out t l rfl
                obtain ⟨b, o, rfl, hq⟩ := Z.out.at2.m.tim 0 (by simp)
                obtain ⟨tid, tat, te, tt, tcall⟩ := t
                obtain ⟨s0, s1, s2, s3, s4⟩ := hq
                simp only [List.getElem_cons_zero, Nat.zero_mul, Nat.add_zero] at s0 s1 s2 s3 s4 hu3
                have hl1 : ((l.length : Int) + 1 == 0) = false := by rw [beq_eq_false_iff_ne]; omega
                simp only [List.length_cons] at d4
                go_wp2_with fail
                go_ret
                exact ⟨rfl, Z.out.t.loc.bl⟩
            | true =>
              have HS2 := Lib.hid (fun h0 => HST.out.2 rfl h0)
              simp only at HS2
              clear HST
              obtain ⟨j0, j1, j2, j3, j4, j5, j6⟩ := cells7 Z.out.h8
              obtain ⟨d0, d1, d2, d3, d4⟩ := cells5 Z.out.h7
              obtain ⟨f0, f1, f2, f3, f4⟩ := cells5 Z6.out
              obtain ⟨p0, p1, p2, p3, p4⟩ := cells5 Z.out.t.p
              obtain ⟨z0, z1, z2, z3, z4⟩ := frz5 Z.out.t.p
              by_cases h3 : src = 3
              · subst h3
                cases small with
                | true =>
                  go_wp2_with fail
                  go_roundg (60 - (k + 1))
                  case measure => rw [G.out]; omega
                  case rel => exact ⟨k + 1, _, _, _, _, rfl, by omega, by simp, Z.out.next rfl, HNR.out.1, HNR.out.2.2⟩
                | false =>
                  cases ss1 with
                  | cons sj sl =>
                    have hl1 : ((sl.length : Int) + 1 == 0) = false := by rw [beq_eq_false_iff_ne]; omega
                    simp only [List.length_cons] at f3
                    go_wp2_with fail
                    go_roundg (60 - (k + 1))
                    case measure => rw [G.out]; omega
                    case rel => exact ⟨k + 1, _, _, _, _, rfl, by omega, by simp, Z.out.next rfl, HNR.out.1, HNR.out.2.2⟩
                  | nil =>
                    have HIX := Lib.hid (HS2.out rfl)
                    clear HS2
                    have hm100 := R.out.h3
                    simp only at hm100
                    go_wp2_with fail
                    refine (idxT_any 19 (fun t => t.id == id) (P7 + 1) 0 (.int .i64 id) (fun j w h => isJob19 _ _ j w h) call19 ma1 mc1 ms1 w9 Z.out.t.at_.m (by omega) j0).mono ?_
                    rintro e w10 ⟨rfl, hb⟩
                    have ZN := Lib.hid (Z.out.call hb)
                    have ZN6 := Lib.hid ((hb.block P6 (lt_of_heap Z6.out)).trans Z6.out)
                    clear hb Z Z6 j0 j1 j2 j3 j4 j5 j6 d0 d1 d2 d3 d4 f0 f1 f2 f3 f4 p0 p1 p2 p3 p4 z0 z1 z2 z3 z4
                    have Z := ZN
                    clear ZN
                    obtain ⟨d0, d1, d2, d3, d4⟩ := cells5 Z.out.h7
                    obtain ⟨f0, f1, f2, f3, f4⟩ := cells5 ZN6.out
                    obtain ⟨p0, p1, p2, p3, p4⟩ := cells5 Z.out.t.p
                    obtain ⟨z0, z1, z2, z3, z4⟩ := frz5 Z.out.t.p
                    rcases HIX.out with hix | ⟨hix, t, l, rfl, hat⟩
                    · rw [hix]
                      clear hix
                      go_upto_region 14 with fail
                      go_quiet (fail)
                      all_goals
                        go_wp2_with fail
                        go_roundg (60 - (k + 1))
                        case measure => rw [G.out]; omega
                        case rel => exact ⟨k + 1, _, _, _, _, rfl, by omega, by simp, (Z.out.call (below_drewN (Below.refl _ _) _)).next rfl, HNR.out.1, HNR.out.2.2⟩
                    · rw [hix]
                      clear hix
                      obtain ⟨b, o, rfl, hq⟩ := Z.out.t.at_.m.tim 0 (by simp)
                      obtain ⟨tid, tat, te, tt, tcall⟩ := t
                      obtain ⟨s0, s1, s2, s3, s4⟩ := hq
                      simp only [List.getElem_cons_zero, Nat.zero_mul, Nat.add_zero] at s0 s1 s2 s3 s4 hat
                      have hat2 : decide (n2 < tat) = false := decide_eq_false (by omega)
                      simp only [List.length_cons] at f4
                      go_upto_region 14 with fail
                      go_quiet (fail)
                      all_goals
                        go_wp2_with fail
                        go_roundg (60 - (k + 1))
                        case measure => rw [G.out]; omega
                        case rel => exact ⟨k + 1, _, _, _, _, rfl, by omega, by simp, (Z.out.call (below_drewN (Below.refl _ _) _)).next rfl, HNR.out.1, HNR.out.2.2⟩
              · have h31 : (src == 3) = false := by simpa using h3
                go_wp2_with fail
                go_roundg (60 - (k + 1))
                case measure => rw [G.out]; omega
                case rel => exact ⟨k + 1, _, _, _, _, rfl, by omega, by simp, Z.out.next rfl, HNR.out.1, HNR.out.2.2⟩
          · have hk60 : k = 60 := by omega
            subst hk60
            go_wp2_with fail
            go_ret
            exact ⟨rfl, X.out.loc.bl⟩
  · have hc1 : (c == 0) = false := by simpa using hc0
    have hc2 : (c != 0) = true := by simpa using hc0
    go_wp2_with fail
    refine (lives_any _).mono ?_
    rintro e w7 ⟨rfl, hb7⟩
    have T := Lib.hid (X.out.call hb7)
    clear hb7 X
    go_wp2_with fail
    go_ret
    exact ⟨rfl, T.out.bl⟩
end Go.Proofs.Ytpmklganodlciaa
