/- The contract of event's do. -/
import Derived.Test.YtnnckjgafglgeaaDoorE14
namespace Go.Proofs.YtnnckjgafglgeaaDoor
open Go.RowKit Go.Maps

theorem ba_inj {a b : ByteArray} (h : a.toList = b.toList) : a = b := by
  rw [ByteArray.toList_eq, ByteArray.toList_eq] at h
  exact ByteArray.ext (Array.toList_inj.1 h)
theorem call36 (args : Array Value) (w : World) : Sem.run Tryd.prog (callFunc 36 args) w = .ok (.enter 36 args) w := by go_simp
theorem doStep_grow (ev : Ev) (a : St) (s : Sd) (x : Lis) : (doStep ev a s x).gone.length ≤ s.gone.length + 1 ∧ (doStep ev a s x).heard.length ≤ s.heard.length + 1 := by
  unfold doStep
  split
  · constructor
    · simp only [hearS]
      split <;> simp
    · simp [hearS]
  · omega
theorem doS_take (ev : Ev) (a : St) (ls : List Lis) (s : Sd) (k : Nat) (h : k < ls.length) : (ls.take (k + 1)).foldl (doStep ev a) s = doStep ev a ((ls.take k).foldl (doStep ev a) s) ls[k] := by
  rw [List.take_add_one, List.getElem?_eq_getElem h, List.foldl_append]
  rfl
set_option maxRecDepth 100000 in
set_option maxHeartbeats 16000000 in
theorem do_any (w0 : World) (S M P : Nat) (la : Option Addr) (lc : Nat) (ls : List Lis) (ev : Ev) (K : List (Nat × Obj)) (s : Sd) (a : St) (w : World) (hl : SlR w0 LisAt 8 (.slice la ls.length lc) ls) (hid : ∀ x ∈ ls, (Lit.int .i64 x.id).wf = true) (h : SDX w0 w S M P (.slice la ls.length lc) ev K s) (h60 : ls.length ≤ 60) (hg : s.gone.length ≤ 50000) (hh : s.heard.length ≤ 50000) :
    Calls Tryd.prog 28 #[.pointer (some ⟨S, 0, none⟩), St.v a] w fun e w' => e = .returned (.tuple #[]) ∧ SDX w0 w' S M P (.slice la ls.length lc) ev K (doS ev ls s a) := by
  have HLS := Lib.hid hl
  have HID := Lib.hid hid
  have HX := Lib.hid h
  have HG := Lib.hid hg
  have HH := Lib.hid hh
  obtain ⟨lc1, lc2, lc3⟩ := SlR.cap hl
  have h60i : (ls.length : Int) ≤ 60 := by omega
  clear hl hid h hg hh
  obtain ⟨an, ap, ad⟩ := a
  obtain ⟨R, hR⟩ : ∃ R, R = doS ev ls s ⟨an, ap, ad⟩ := ⟨_, rfl⟩
  rw [← hR]
  have HR := Lib.hid hR
  clear hR
  show Calls Tryd.prog 28 #[.pointer (some ⟨S, 0, none⟩), .agg #[.int .i64 an, .int .i64 ap, .bool ad]] w _
  obtain ⟨hv0, D0, h0⟩ := HX.out
  have H0 := Lib.hid h0
  clear h0
  go_enter Tryd.func28, Tryd.ntmps28
  obtain ⟨A, hA⟩ : ∃ A, w.heap.size = A := ⟨_, rfl⟩
  go_upto_region 1 with fail
  refine code_gen (Φ := fun wy => Hid (SD w0 wy S M P (.slice la ls.length lc) ev ((A, .cells #[.int .i64 an, .int .i64 ap, .bool ad] 66 (0, 0)) :: K) hv0 hv0 s.heard s.gone D0 s.stops s.all s.no)) (Lib.hid (by have := H0.out.also (.cells #[.int .i64 an, .int .i64 ap, .bool ad] 66 (0, 0)); simpa [hA] using this)) ?_
  intro w3 X
  clear hA H0
  obtain ⟨c0, c1, c2, c3, c4, c5, c6, c7, c8, c9, c10, c11, c12⟩ := cells13 X.out.blk
  go_upto_region 2 with fail
  clear c0 c1 c2 c3 c4 c5 c6 c7 c8 c9 c10 c11 c12
  go_loopg [11] ls.length (fun g v11 wr => ∃ k : Nat, g = ls.length - k ∧ k ≤ ls.length ∧ v11 = .int .i64 (k : Int) ∧ SDX w0 wr S M P (.slice la ls.length lc) ev ((A, .cells #[.int .i64 an, .int .i64 ap, .bool ad] 66 (0, 0)) :: K) ((ls.take k).foldl (doStep ev ⟨an, ap, ad⟩) s) ∧ ((ls.take k).foldl (doStep ev ⟨an, ap, ad⟩) s).gone.length ≤ s.gone.length + k ∧ ((ls.take k).foldl (doStep ev ⟨an, ap, ad⟩) s).heard.length ≤ s.heard.length + k)
  case atStart => exact ⟨0, rfl, Nat.zero_le _, rfl, ⟨hv0, D0, X.out⟩, Nat.le_refl _, Nat.le_refl _⟩
  case round =>
    clear X HX
    obtain ⟨k, hg, hk, rfl, hx, hgl, hhl⟩ := hrel
    have G := Lib.hid hg
    have GL := Lib.hid hgl
    have HL := Lib.hid hhl
    clear hg hgl hhl
    by_cases hlt : k < ls.length
    · have hki : (k : Int) < (ls.length : Int) := by omega
      have HDT := Lib.hid (doS_take ev ⟨an, ap, ad⟩ ls s k hlt)
      have HWF := Lib.hid (HID.out ls[k] (List.getElem_mem hlt))
      obtain ⟨b, o, rfl, hli⟩ := HLS.out.item k hlt
      generalize ls[k] = L at *
      have HGR := Lib.hid (doStep_grow ev ⟨an, ap, ad⟩ ((ls.take k).foldl (doStep ev ⟨an, ap, ad⟩) s) L)
      rw [← HDT.out] at HGR
      obtain ⟨s2, hs2⟩ : ∃ s2, (ls.take (k + 1)).foldl (doStep ev ⟨an, ap, ad⟩) s = s2 := ⟨_, rfl⟩
      rw [hs2] at HDT HGR
      have HS2 := Lib.hid hs2
      clear hs2
      generalize (ls.take k).foldl (doStep ev ⟨an, ap, ad⟩) s = s1 at *
      obtain ⟨hs, gone, b1, b2, b3⟩ := s1
      obtain ⟨hv, D, h1⟩ := hx
      simp only at h1 GL HL HGR
      have X := Lib.hid h1
      clear h1
      have hll := hli.below X.out.bl
      clear hli
      obtain ⟨id, nd, ty, cp, on, st, al, pv⟩ := L
      obtain ⟨l0, l1, l2, l3, l4, l5, l6, l7⟩ := hll
      simp only at l0 l1 l2 l3 l4 l5 l6 l7 HWF
      obtain ⟨c0, c1, c2, c3, c4, c5, c6, c7, c8, c9, c10, c11, c12⟩ := cells13 X.out.blk
      obtain ⟨B, hB⟩ : ∃ B, wr.heap.size = B := ⟨_, rfl⟩
      go_upto_region 4 with fail
      refine code_gen (Φ := fun wy => Hid (SD w0 wy S M P (.slice (some ⟨b, o, none⟩) ls.length lc) ev ((B, .cells #[.int .i64 id, .int .i64 nd, .string ty, .bool cp, .bool on, .bool st, .bool al, .bool pv] 43 (0, 0)) :: (A, .cells #[.int .i64 an, .int .i64 ap, .bool ad] 66 (0, 0)) :: K) hv hv hs gone D b1 b2 b3)) (Lib.hid (by have := X.out.also (.cells #[.int .i64 id, .int .i64 nd, .string ty, .bool cp, .bool on, .bool st, .bool al, .bool pv] 43 (0, 0)); simpa [hB] using this)) ?_
      intro w5 Y
      clear hB X l0 l1 l2 l3 l4 l5 l6 l7 c0 c1 c2 c3 c4 c5 c6 c7 c8 c9 c10 c11 c12
      obtain ⟨c0, c1, c2, c3, c4, c5, c6, c7, c8, c9, c10, c11, c12⟩ := cells13 Y.out.blk
      obtain ⟨l0, l1, l2, l3, l4, l5, l6, l7⟩ := cells8 Y.out.k0
      obtain ⟨r0, r1, r2⟩ := cells3 (Y.out.less (K2 := (A, _) :: K) (fun p hp => List.mem_cons_of_mem _ hp)).k0
      have HDT2 := Lib.hid HDT.out
      rw [show doStep ev ⟨an, ap, ad⟩ ⟨hs, gone, b1, b2, b3⟩ ⟨id, nd, ty, cp, on, st, al, pv⟩ = if !b2 && hearsAt ev ⟨an, ap, ad⟩ ⟨id, nd, ty, cp, on, st, al, pv⟩ then hearS ev.can ⟨hs, gone, b1, b2, b3⟩ ⟨id, nd, ty, cp, on, st, al, pv⟩ ⟨an, ap, ad⟩ else ⟨hs, gone, b1, b2, b3⟩ from rfl] at HDT2
      have hc36 := call36
      by_cases hb2 : b2 = true
      · subst hb2
        obtain rfl : s2 = ⟨hs, gone, b1, true, b3⟩ := by rw [HDT2.out, if_neg]; simp
        clear HDT HDT2
        go_quiet (fail)
        all_goals
          go_wp2_with fail
          go_roundg (ls.length - (k + 1))
          case measure => have := G.out; omega
          case rel =>
            refine ⟨k + 1, rfl, by omega, by simp, ?_, ?_, ?_⟩
            · rw [HS2.out]
              exact ⟨hv, D, by first | exact Y.out.less (fun p hp => List.mem_cons_of_mem _ hp) | exact (Y.out.drewN _).less (fun p hp => List.mem_cons_of_mem _ hp) | exact Y.out.drew.less (fun p hp => List.mem_cons_of_mem _ hp)⟩
            · rw [HS2.out]
              have := GL.out
              simp only
              omega
            · rw [HS2.out]
              have := HL.out
              simp only
              omega
      obtain rfl : b2 = false := by simpa using hb2
      by_cases hnd : nd = an
      · subst hnd
        by_cases hty : ty = ev.typ
        · subst hty
          by_cases hcp : cp = ad
          · subst hcp
            have HH2 := Lib.hid (fun (wz : World) (hz : SD w0 wz S M P (.slice (some ⟨b, o, none⟩) ls.length lc) ev ((A, .cells #[.int .i64 nd, .int .i64 ap, .bool cp] 66 (0, 0)) :: K) hv hv hs gone D b1 false b3) => hear_any w0 S M P (.slice (some ⟨b, o, none⟩) ls.length lc) ev ((A, .cells #[.int .i64 nd, .int .i64 ap, .bool cp] 66 (0, 0)) :: K) ⟨hs, gone, b1, false, b3⟩ ⟨id, nd, ev.typ, cp, on, st, al, pv⟩ ⟨nd, ap, cp⟩ wz ⟨hv, D, hz⟩ HWF.out (by have := GL.out; have := HG.out; simp only; omega) (by have := HL.out; have := HH.out; simp only; omega))
            have hz : s2 = hearS ev.can ⟨hs, gone, b1, false, b3⟩ ⟨id, nd, ev.typ, cp, on, st, al, pv⟩ ⟨nd, ap, cp⟩ := by rw [HDT2.out, if_pos]; simp [hearsAt]
            rw [← hz] at HH2
            clear HDT HDT2
            have HH3 : Hid (∀ (wz : World), SD w0 wz S M P (.slice (some ⟨b, o, none⟩) ls.length lc) ev ((A, .cells #[.int .i64 nd, .int .i64 ap, .bool cp] 66 (0, 0)) :: K) hv hv hs gone D b1 false b3 → Calls Tryd.prog 36 #[.pointer (some ⟨S, 0, none⟩), .agg #[.int .i64 id, .int .i64 nd, .string ev.typ, .bool cp, .bool on, .bool st, .bool al, .bool pv], .agg #[.int .i64 nd, .int .i64 ap, .bool cp]] wz fun e w' => e = .returned (.tuple #[]) ∧ SDX w0 w' S M P (.slice (some ⟨b, o, none⟩) ls.length lc) ev ((A, .cells #[.int .i64 nd, .int .i64 ap, .bool cp] 66 (0, 0)) :: K) s2) := Lib.hid HH2.out
            have HZ := Lib.hid hz
            clear HH2 hz
            go_cut [43] (fun v43 wx => v43 = .bool true ∧ SD w0 wx S M P (.slice (some ⟨b, o, none⟩) ls.length lc) ev ((B, .cells #[.int .i64 id, .int .i64 nd, .string ev.typ, .bool cp, .bool on, .bool st, .bool al, .bool pv] 43 (0, 0)) :: (A, .cells #[.int .i64 nd, .int .i64 ap, .bool cp] 66 (0, 0)) :: K) hv hv hs gone D b1 false b3)
            case first =>
              go_quiet (fail)
              all_goals
                go_wp2_with fail
                go_meet
                exact ⟨rfl, by first | exact Y.out | exact Y.out.drewN _ | exact Y.out.drew⟩
            case rest =>
              obtain ⟨rfl, hy⟩ := hcut
              clear Y c0 c1 c2 c3 c4 c5 c6 c7 c8 c9 c10 c11 c12 l0 l1 l2 l3 l4 l5 l6 l7 r0 r1 r2
              have Y := Lib.hid hy
              clear hy
              obtain ⟨l0, l1, l2, l3, l4, l5, l6, l7⟩ := cells8 Y.out.k0
              obtain ⟨r0, r1, r2⟩ := cells3 (Y.out.less (K2 := (A, _) :: K) (fun p hp => List.mem_cons_of_mem _ hp)).k0
              go_wp2_with fail
              refine (HH3.out _ (Y.out.less (fun p hp => List.mem_cons_of_mem _ hp))).mono ?_
              rintro e w6 ⟨rfl, hx6⟩
              have X6 := Lib.hid hx6
              clear hx6 l0 l1 l2 l3 l4 l5 l6 l7 r0 r1 r2 Y HH3
              go_wp2_with fail
              go_roundg (ls.length - (k + 1))
              case measure => have := G.out; omega
              case rel =>
                refine ⟨k + 1, rfl, by omega, by simp, ?_, ?_, ?_⟩
                · rw [HS2.out]
                  exact X6.out
                · rw [HS2.out]
                  have := GL.out
                  have := HGR.out.1
                  omega
                · rw [HS2.out]
                  have := HL.out
                  have := HGR.out.2
                  omega
          · have hcp2 : (cp == ad) = false := by simpa using hcp
            obtain rfl : s2 = ⟨hs, gone, b1, false, b3⟩ := by rw [HDT2.out, if_neg]; simp [hearsAt, hcp2]
            clear HDT HDT2
            go_quiet (fail)
            all_goals
              go_wp2_with fail
              go_roundg (ls.length - (k + 1))
              case measure => have := G.out; omega
              case rel =>
                refine ⟨k + 1, rfl, by omega, by simp, ?_, ?_, ?_⟩
                · rw [HS2.out]
                  exact ⟨hv, D, by first | exact Y.out.less (fun p hp => List.mem_cons_of_mem _ hp) | exact (Y.out.drewN _).less (fun p hp => List.mem_cons_of_mem _ hp) | exact Y.out.drew.less (fun p hp => List.mem_cons_of_mem _ hp)⟩
                · rw [HS2.out]
                  have := GL.out
                  simp only
                  omega
                · rw [HS2.out]
                  have := HL.out
                  simp only
                  omega
        · have hty3 : (ty.toList == ev.typ.toList) = false := beq_eq_false_iff_ne.2 (fun h => hty (ba_inj h))
          obtain rfl : s2 = ⟨hs, gone, b1, false, b3⟩ := by rw [HDT2.out, if_neg]; simp [hearsAt, hty]
          clear HDT HDT2
          go_quiet (fail)
          all_goals
            go_wp2_with fail
            go_roundg (ls.length - (k + 1))
            case measure => have := G.out; omega
            case rel =>
              refine ⟨k + 1, rfl, by omega, by simp, ?_, ?_, ?_⟩
              · rw [HS2.out]
                exact ⟨hv, D, by first | exact Y.out.less (fun p hp => List.mem_cons_of_mem _ hp) | exact (Y.out.drewN _).less (fun p hp => List.mem_cons_of_mem _ hp) | exact Y.out.drew.less (fun p hp => List.mem_cons_of_mem _ hp)⟩
              · rw [HS2.out]
                have := GL.out
                simp only
                omega
              · rw [HS2.out]
                have := HL.out
                simp only
                omega
      · have hnd2 : (nd == an) = false := by simpa using hnd
        obtain rfl : s2 = ⟨hs, gone, b1, false, b3⟩ := by rw [HDT2.out, if_neg]; simp [hearsAt, hnd]
        clear HDT HDT2
        go_quiet (fail)
        all_goals
          go_wp2_with fail
          go_roundg (ls.length - (k + 1))
          case measure => have := G.out; omega
          case rel =>
            refine ⟨k + 1, rfl, by omega, by simp, ?_, ?_, ?_⟩
            · rw [HS2.out]
              exact ⟨hv, D, by first | exact Y.out.less (fun p hp => List.mem_cons_of_mem _ hp) | exact (Y.out.drewN _).less (fun p hp => List.mem_cons_of_mem _ hp) | exact Y.out.drew.less (fun p hp => List.mem_cons_of_mem _ hp)⟩
            · rw [HS2.out]
              have := GL.out
              simp only
              omega
            · rw [HS2.out]
              have := HL.out
              simp only
              omega
    · have hke := Lib.hid (show k = ls.length by omega)
      go_wp2_with fail
      refine bodyPost_end (v := .tuple #[]) (by simp [results, Tryd.results28, go_sem]) rfl ?_
      rw [hke.out, List.take_length] at hx
      exact ⟨rfl, by rw [HR.out]; exact hx.less (fun p hp => List.mem_cons_of_mem _ hp)⟩
end Go.Proofs.YtnnckjgafglgeaaDoor
