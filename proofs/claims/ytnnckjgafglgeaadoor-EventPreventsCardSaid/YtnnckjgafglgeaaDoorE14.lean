/- The contract of event's hear. -/
import Derived.Test.YtnnckjgafglgeaaDoorE13
namespace Go.Proofs.YtnnckjgafglgeaaDoor
open Go.RowKit Go.Maps

def Lis.v (l : Lis) : Value := .agg #[.int .i64 l.id, .int .i64 l.node, .string l.typ, .bool l.cap, .bool l.once, .bool l.stops, .bool l.all, .bool l.prev]
def Lis.o (l : Lis) : Obj := .cells #[.int .i64 l.id, .int .i64 l.node, .string l.typ, .bool l.cap, .bool l.once, .bool l.stops, .bool l.all, .bool l.prev] 43 (0, 0)
def St.v (s : St) : Value := .agg #[.int .i64 s.node, .int .i64 s.phase, .bool s.down]
def St.o (s : St) : Obj := .cells #[.int .i64 s.node, .int .i64 s.phase, .bool s.down] 66 (0, 0)
theorem pick_t (b : Bool) (h : b = true) : (if b = true then (Value.bool true) else .bool b) = .bool true := by subst h; rfl
set_option maxRecDepth 100000 in
set_option maxHeartbeats 16000000 in
theorem hear_any (w0 : World) (S M P : Nat) (lv : Value) (ev : Ev) (K : List (Nat × Obj)) (s : Sd) (x : Lis) (a : St) (w : World) (h : SDX w0 w S M P lv ev K s) (hx : (Lit.int .i64 x.id).wf = true) (hg : s.gone.length ≤ 100000) (hh : s.heard.length ≤ 100000) :
    Calls Tryd.prog 36 #[.pointer (some ⟨S, 0, none⟩), Lis.v x, St.v a] w fun e w' => e = .returned (.tuple #[]) ∧ SDX w0 w' S M P lv ev K (hearS ev.can s x a) := by
  obtain ⟨hv, D, h1⟩ := h
  obtain ⟨hs, gone, b1, b2, b3⟩ := s
  obtain ⟨id, nd, ty, cp, on, st, al, pv⟩ := x
  obtain ⟨an, ap, ad⟩ := a
  simp only at h1 hx hg hh
  have H := Lib.hid h1
  have HX := Lib.hid hx
  have HG := Lib.hid hg
  have HH := Lib.hid hh
  clear hx hg hh
  obtain ⟨va, vc, rfl⟩ := own_shape h1.own
  clear h1
  obtain ⟨R, hR⟩ : ∃ R, R = hearS ev.can ⟨hs, gone, b1, b2, b3⟩ ⟨id, nd, ty, cp, on, st, al, pv⟩ ⟨an, ap, ad⟩ := ⟨_, rfl⟩
  rw [← hR]
  have HR := Lib.hid hR
  clear hR
  obtain ⟨bi, hi0, hz0, hz1, hz2⟩ := info_parts hd_info
  show Calls Tryd.prog 36 #[.pointer (some ⟨S, 0, none⟩), .agg #[.int .i64 id, .int .i64 nd, .string ty, .bool cp, .bool on, .bool st, .bool al, .bool pv], .agg #[.int .i64 an, .int .i64 ap, .bool ad]] w _
  go_enter Tryd.func36, Tryd.ntmps36
  obtain ⟨A, hA⟩ : ∃ A, w.heap.size = A := ⟨_, rfl⟩
  go_upto_region 1 with fail
  refine code_gen (Φ := fun wy => Hid (SD w0 wy S M P lv ev ((A + 1, .cells #[.int .i64 an, .int .i64 ap, .bool ad] 66 (0, 0)) :: (A, .cells #[.int .i64 id, .int .i64 nd, .string ty, .bool cp, .bool on, .bool st, .bool al, .bool pv] 43 (0, 0)) :: K) (.slice va hs.length vc) (.slice va hs.length vc) hs gone D b1 b2 b3)) (Lib.hid (by have := (H.out.also (.cells #[.int .i64 id, .int .i64 nd, .string ty, .bool cp, .bool on, .bool st, .bool al, .bool pv] 43 (0, 0))).also (.cells #[.int .i64 an, .int .i64 ap, .bool ad] 66 (0, 0)); simpa [hA] using this)) ?_
  intro w3 X
  clear hA H
  have c8 := (cells13 X.out.blk).2.2.2.2.2.2.2.2.1
  have l0 := (cells8 (X.out.less (K2 := (A, _) :: K) (fun p hp => List.mem_cons_of_mem _ hp)).k0).1
  obtain ⟨s0, s1, s2⟩ := cells3 X.out.k0
  have f8 := Lib.frozen_of_heap X.out.blk 8
  have c8' := (cells13 (X.out.alloc (.cells #[.int .i64 id, .int .i64 an, .int .i64 ap] 46)).blk).2.2.2.2.2.2.2.2.1
  go_cut [] (fun wx => ∃ hv, SD w0 wx S M P lv ev ((A, .cells #[.int .i64 id, .int .i64 nd, .string ty, .bool cp, .bool on, .bool st, .bool al, .bool pv] 43 (0, 0)) :: K) hv hv (hs ++ [⟨id, an, ap⟩]) gone D b1 b2 b3)
  case first =>
    go_region_law ((refine step_append_lies _ (by rfl) (.tmp 10) (.tmp 18) 38 (by rfl) P 46 bi zHd 3 24 Tryd.underlying38 hi0 hz0 hz1 hz2 (by rfl) (by decide) (.slice va hs.length vc) hs.length (hs.flatMap Hd.c) (by rfl) (by first | exact (X.out.alloc _).own | exact (X.out.drew.alloc _).own | exact (X.out.alloc _).drew.own) ⟨w3.heap.size, 0, none⟩ 1 1 (Hd.c ⟨id, an, ap⟩) (by rfl) (by rfl) (cell_hd ⟨id, an, ap⟩ _ _) (one_hd _) (by decide) (by unfold maxLen; have := HH.out; omega) (by have := HH.out; omega) (by first | exact (X.out.alloc _).sz | exact (X.out.drew.alloc _).sz | exact (X.out.alloc _).drew.sz) _ (by rfl) ?_; intro g cap w7 hown hgrow hat _; have X3 : Hid (SD w0 w7 S M P lv ev ((A + 1, .cells #[.int .i64 an, .int .i64 ap, .bool ad] 66 (0, 0)) :: (A, .cells #[.int .i64 id, .int .i64 nd, .string ty, .bool cp, .bool on, .bool st, .bool al, .bool pv] 43 (0, 0)) :: K) (.slice va hs.length vc) _ (hs ++ [⟨id, an, ap⟩]) gone D b1 b2 b3) := Lib.hid ((by first | exact X.out.alloc _ | exact X.out.drew.alloc _ | exact (X.out.alloc _).drew : SD w0 _ S M P lv ev _ _ _ _ _ _ _ _ _).push ⟨id, an, ap⟩ rfl hown hgrow hat); have e8 := (cells13 X3.out.blk).2.2.2.2.2.2.2.2.1; have g8 := Lib.frozen_of_heap X3.out.blk 8; clear hown hgrow hat))
    all_goals
      go_wp2_with fail
      go_meet
      first
      | exact ⟨_, (X3.out.set8 _).less (fun p hp => List.mem_cons_of_mem _ hp)⟩
      | (trace_state; fail)
  case rest =>
    obtain ⟨hv, hx⟩ := hcut
    have Y := Lib.hid hx
    clear hx X c8 c8' l0 s0 s1 s2 f8
    go_upto_region 2 with fail
    go_cut [] (fun wx => SD w0 wx S M P lv ev ((A, .cells #[.int .i64 id, .int .i64 nd, .string ty, .bool cp, .bool on, .bool st, .bool al, .bool pv] 43 (0, 0)) :: K) hv hv (hs ++ [⟨id, an, ap⟩]) gone D (b1 || st) b2 b3)
    case first =>
      have e0 := (cells13 Y.out.blk).2.2.2.2.2.2.2.2.2.2.1
      have f0 := Lib.frozen_of_heap Y.out.blk 10
      have l0 := (cells8 Y.out.k0).2.2.2.2.2.1
      cases b1 with
      | true =>
        go_wp2_with fail
        go_meet
        exact Y.out.set10 true
      | false =>
        go_wp2_with fail
        go_meet
        exact Y.out.set10 st
    case rest =>
      have Z := Lib.hid hcut
      clear hcut Y
      have Y := Z
      clear Z
      go_upto_region 3 with fail
      go_cut [] (fun wx => SD w0 wx S M P lv ev ((A, .cells #[.int .i64 id, .int .i64 nd, .string ty, .bool cp, .bool on, .bool st, .bool al, .bool pv] 43 (0, 0)) :: K) hv hv (hs ++ [⟨id, an, ap⟩]) gone D (b1 || st) (b2 || al) b3)
      case first =>
        have e0 := (cells13 Y.out.blk).2.2.2.2.2.2.2.2.2.2.2.1
        have f0 := Lib.frozen_of_heap Y.out.blk 11
        have l0 := (cells8 Y.out.k0).2.2.2.2.2.2.1
        cases b2 with
        | true =>
          go_wp2_with fail
          go_meet
          exact Y.out.set11 true
        | false =>
          go_wp2_with fail
          go_meet
          exact Y.out.set11 al
      case rest =>
        have Z := Lib.hid hcut
        clear hcut Y
        have Y := Z
        clear Z
        go_upto_region 4 with fail
        go_cut [] (fun wx => SD w0 wx S M P lv ev ((A, .cells #[.int .i64 id, .int .i64 nd, .string ty, .bool cp, .bool on, .bool st, .bool al, .bool pv] 43 (0, 0)) :: K) hv hv (hs ++ [⟨id, an, ap⟩]) gone D (b1 || st) (b2 || al) (b3 || (pv && ev.can)))
        case first =>
          have e0 := (cells13 Y.out.blk).2.2.2.2.2.2.2.2.2.2.2.2
          have f0 := Lib.frozen_of_heap Y.out.blk 12
          have l0 := (cells8 Y.out.k0).2.2.2.2.2.2.2
          have l7 := (cells13 Y.out.blk).2.2.2.2.2.2.2.1
          cases b3 with
          | true =>
            go_wp2_with fail
            go_meet
            exact Y.out.set12 true
          | false =>
            cases pv with
            | true =>
              go_wp2_with fail
              go_meet
              exact Y.out.set12 ev.can
            | false =>
              go_wp2_with fail
              go_meet
              exact Y.out.set12 false
        case rest =>
          have Z := Lib.hid hcut
          clear hcut Y
          have Y := Z
          clear Z
          cases on with
          | false =>
            have l0 := (cells8 Y.out.k0).2.2.2.2.1
            go_wp2_with fail
            refine bodyPost_end (v := .tuple #[]) (by simp [results, Tryd.results36, go_sem]) rfl ?_
            exact ⟨rfl, by rw [HR.out]; exact ⟨hv, D, Y.out.less (fun p hp => List.mem_cons_of_mem _ hp)⟩⟩
          | true =>
            have l0 := (cells8 Y.out.k0).2.2.2.2.1
            have l1 := (cells8 Y.out.k0).1
            have l9 := (cells13 Y.out.blk).2.2.2.2.2.2.2.2.2.1
            go_upto_region 6 with fail
            obtain ⟨w7, hrun, hm4, hg4⟩ := Y.out.drew.map.update law3 Tryd.underlying53 (by unfold maxLen; have := HG.out; omega) (keyOf_int_mk Tryd.underlying3 HX.out) (plainElem_int (a := 1) Tryd.underlying3 (by decide))
            have Z := Lib.hid (Y.out.drew.put id hm4 hg4)
            clear hm4 hg4
            go_region_with fail
            all_goals
              go_wp2_with fail
              refine bodyPost_end (v := .tuple #[]) (by simp [results, Tryd.results36, go_sem]) rfl ?_
              exact ⟨rfl, by rw [HR.out]; exact ⟨hv, _, Z.out.less (fun p hp => List.mem_cons_of_mem _ hp)⟩⟩
end Go.Proofs.YtnnckjgafglgeaaDoor
