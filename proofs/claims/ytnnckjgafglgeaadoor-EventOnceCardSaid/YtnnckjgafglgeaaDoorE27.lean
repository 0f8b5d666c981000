/- The law EventOnce. -/
import Derived.Test.YtnnckjgafglgeaaDoorE26
namespace Go.Proofs.YtnnckjgafglgeaaDoor
open Go.RowKit

theorem cell_lis (s : Lis) (t : TypeId) (w : World) : ∀ j u, (Lis.c s)[j]? = some u → (w.alloc (.cells #[.int .i64 s.id, .int .i64 s.node, .string s.typ, .bool s.cap, .bool s.once, .bool s.stops, .bool s.all, .bool s.prev] t)).cell? ((⟨w.heap.size, 0, none⟩ : Addr).add j) = some u := World.news_of_block (heap_alloc_new w _)
/-- A row that the call makes, beside all that lay before. -/
structure WR (w0 wr : World) (e size : Nat) (v : Value) (n : Nat) (xs : List Value) : Prop where
  own : wr.ownsRow w0.heap.size e size v n xs
  bl : Below w0.heap.size w0 wr
theorem WR.call {w0 wr w' : World} {e size n : Nat} {v : Value} {xs : List Value} (h : WR w0 wr e size v n xs) (hb : Below wr.heap.size wr w') : WR w0 w' e size v n xs :=
  ⟨own_below h.own hb (Nat.le_refl _), h.bl.trans (Below.le hb h.bl.size)⟩
theorem WR.push {w0 wr w' : World} {e size n m : Nat} {v v' : Value} {xs ys : List Value} (h : WR w0 wr e size v n xs) (o : Obj) (hown : w'.ownsRow w0.heap.size e size v' m ys) (hg : (wr.alloc o).grownBy w' v.ownBlock) : WR w0 w' e size v' m ys :=
  ⟨hown, (h.bl.alloc h.bl.size o).grown hg (al_le h.bl.size o) (fun k hk => (h.own.lt k hk).1)⟩
theorem filter_step {α : Type} (p : α → Bool) (l : List α) (k : Nat) (h : k < l.length) : (l.take (k + 1)).filter p = if p l[k] then (l.take k).filter p ++ [l[k]] else (l.take k).filter p := by
  rw [List.take_add_one, List.getElem?_eq_getElem h, List.filter_append]
  simp only [Option.toList_some, List.filter_cons, List.filter_nil]
  split <;> simp
theorem left_mem (nodes : List Nd) (ls : List Lis) (ev : Ev) : ∀ x ∈ (sendV nodes ls ev).left, x ∈ ls := by
  intro x hx
  unfold sendV at hx
  split at hx
  · exact (List.mem_filter.1 hx).1
  · cases hx
theorem call16 (args : Array Value) (w : World) : Sem.run Tryd.prog (callFunc 16 args) w = .ok (.enter 16 args) w := by go_simp
theorem call17 (args : Array Value) (w : World) : Sem.run Tryd.prog (callFunc 17 args) w = .ok (.enter 17 args) w := by go_simp
theorem fl_len {α : Type} (p : α → Bool) (l : List α) (k : Nat) : ((l.take k).filter p).length ≤ l.length := Nat.le_trans (List.length_filter_le _ _) (by rw [List.length_take]; omega)
set_option maxRecDepth 100000 in
set_option maxHeartbeats 16000000 in
theorem law_once (nodes : List Nd) (aa0 : Option Addr) (c : Nat) (q : Bool) (ls : List Lis) (la : Option Addr) (lc : Nat) (ev : Ev) (w : World) (h : DocAt w (.slice aa0 nodes.length c) nodes) (hl : SlR w LisAt 8 (.slice la ls.length lc) ls) (hid : ∀ x ∈ ls, (Lit.int .i64 x.id).wf = true) :
    Calls Tryd.prog 5 #[.agg #[.slice aa0 nodes.length c, .bool q], .slice la ls.length lc, Ev.v ev] w fun e w' => e = .returned (.bool true) ∧ Below w.heap.size w w' := by
  have HLS := Lib.hid hl
  have HSS := Lib.hid (fun (l2 : List Lis) (la2 : Option Addr) (lc2 : Nat) (w6 : World) (hb : Below w.heap.size w w6) (hl2 : SlR w6 LisAt 8 (.slice la2 l2.length lc2) l2) (hi2 : ∀ x ∈ l2, (Lit.int .i64 x.id).wf = true) => send_any nodes aa0 c q l2 la2 lc2 ev w6 (DocAt.below h hb) hl2 hi2)
  have HID := Lib.hid hid
  have HID2 := Lib.hid (show ∀ x ∈ (sendV nodes ls ev).left, (Lit.int .i64 x.id).wf = true from fun x hx => hid x (left_mem nodes ls ev x hx))
  have HLI := Lib.hid lives_any
  have HON := Lib.hid (show (sendV nodes ls ev).err = 0 → (sendV nodes ls ev).left = ls.filter (wants (sendV nodes ls ev).heard) ∧ (sendV nodes (sendV nodes ls ev).left ev).err = 0 ∧ (stopsAny ls = false → (sendV nodes (sendV nodes ls ev).left ev).heard = (sendV nodes ls ev).heard.filter (fun w => (sendV nodes ls ev).left.any fun y => y.id == w.lis) ∧ (sendV nodes (sendV nodes ls ev).left ev).left = (sendV nodes ls ev).left) ∧ ls.length ≤ 60 ∧ (sendV nodes ls ev).heard.length ≤ 5040 from fun h => by
    obtain ⟨a, b, c, d⟩ := once_says nodes ls ev h
    obtain ⟨p, hp⟩ := sent_ok nodes ls ev h
    exact ⟨a, b, fun hs => ⟨c hs, d hs⟩, hp.len, hp.hl⟩)
  have HSN := Lib.hid (sent_no nodes ls ev)
  obtain ⟨lc1, lc2, lc3⟩ := SlR.cap hl
  have HQ1 := Lib.hid (HSS.out ls)
  have HQ2 := Lib.hid (HSS.out (sendV nodes ls ev).left)
  clear h hl hid HSS
  generalize sendV nodes (sendV nodes ls ev).left ev = R2 at *
  generalize sendV nodes ls ev = R at *
  obtain ⟨E, hs, no, left⟩ := R
  obtain ⟨E2, hs2, no2, left2⟩ := R2
  simp only at HON HSN HQ1 HQ2 HID2
  have HSE : Hid (∀ (w6 : World), Below w.heap.size w w6 → Calls Tryd.prog 11 #[.agg #[.slice aa0 nodes.length c, .bool q], .slice la ls.length lc, .agg #[.string ev.typ, .int .i64 ev.target, .int .i64 ev.x, .int .i64 ev.y, .string ev.key, .bool ev.bub, .bool ev.can]] w6 fun e w' => ∃ ha hc va vc, e = .returned (.tuple #[.slice ha hs.length hc, .bool no, .slice va left.length vc, .int .i64 E]) ∧ SlR w' HdAt 3 (.slice ha hs.length hc) hs ∧ SlR w' LisAt 8 (.slice va left.length vc) left ∧ Below w6.heap.size w6 w') := Lib.hid (fun w6 hb => (HQ1.out la lc w6 hb (HLS.out.mono (fun _ _ _ h => h.below hb)) HID.out).mono (by
    rintro e w' ⟨hv, lv, h1, h2, h3, h4⟩
    obtain ⟨ha, hc, rfl⟩ := own_shape h2
    obtain ⟨va, vc, rfl⟩ := own_shape h3
    exact ⟨ha, hc, va, vc, h1, own_hd h2, own_lis h3, h4⟩))
  have HSF : Hid (∀ (w6 : World) (fa : Option Addr) (fc : Nat), Below w.heap.size w w6 → SlR w6 LisAt 8 (.slice fa left.length fc) left → Calls Tryd.prog 11 #[.agg #[.slice aa0 nodes.length c, .bool q], .slice fa left.length fc, .agg #[.string ev.typ, .int .i64 ev.target, .int .i64 ev.x, .int .i64 ev.y, .string ev.key, .bool ev.bub, .bool ev.can]] w6 fun e w' => ∃ ha hc va vc, e = .returned (.tuple #[.slice ha hs2.length hc, .bool no2, .slice va left2.length vc, .int .i64 E2]) ∧ SlR w' HdAt 3 (.slice ha hs2.length hc) hs2 ∧ SlR w' LisAt 8 (.slice va left2.length vc) left2 ∧ Below w6.heap.size w6 w') := Lib.hid (fun w6 fa fc hb hf => (HQ2.out fa fc w6 hb hf HID2.out).mono (by
    rintro e w' ⟨hv, lv, h1, h2, h3, h4⟩
    obtain ⟨ha, hc, rfl⟩ := own_shape h2
    obtain ⟨va, vc, rfl⟩ := own_shape h3
    exact ⟨ha, hc, va, vc, h1, own_hd h2, own_lis h3, h4⟩))
  clear HQ1 HQ2 HID HID2
  obtain ⟨bl, gl0, gl1, gl2, gl3⟩ := info_parts lis_info
  obtain ⟨bh, gh0, gh1, gh2, gh3⟩ := info_parts hd_info
  show Calls Tryd.prog 5 #[.agg #[.slice aa0 nodes.length c, .bool q], .slice la ls.length lc, .agg #[.string ev.typ, .int .i64 ev.target, .int .i64 ev.x, .int .i64 ev.y, .string ev.key, .bool ev.bub, .bool ev.can]] w _
  go_enter Tryd.func5, Tryd.ntmps5
  obtain ⟨A, hA⟩ : ∃ A, w.heap.size = A := ⟨_, rfl⟩
  go_upto_region 1 with fail
  refine code_gen (Φ := fun wy => Hid (Loc w wy [(.cells #[.slice aa0 nodes.length c, .bool q] 24 (0, 0)), (.cells #[.string ev.typ, .int .i64 ev.target, .int .i64 ev.x, .int .i64 ev.y, .string ev.key, .bool ev.bub, .bool ev.can] 37 (0, 0))])) (Lib.hid (Loc.start2 _ _)) ?_
  intro w3 X
  have X2 := Lib.hid (show BX w w3 A (.cells #[.slice aa0 nodes.length c, .bool q] 24 (0, 0)) (.cells #[.string ev.typ, .int .i64 ev.target, .int .i64 ev.x, .int .i64 ev.y, .string ev.key, .bool ev.bub, .bool ev.can] 37 (0, 0)) from ⟨X.out.bl, hA ▸ X.out.k0, hA ▸ X.out.k1⟩)
  clear X hA
  obtain ⟨c0, c1⟩ := cells2 X2.out.d
  obtain ⟨e0, e1, e2, e3, e4, e5, e6⟩ := cells7 X2.out.e
  go_wp2_with fail
  refine (HSE.out _ X2.out.bl).mono ?_
  rintro e w4 ⟨ha, hc, va, vc, rfl, hh, hv, hb4⟩
  have Y := Lib.hid (X2.out.call hb4)
  clear X2 c0 c1 e0 e1 e2 e3 e4 e5 e6 HSE
  have HH := Lib.hid hh
  have HV := Lib.hid hv
  clear hb4 hh hv
  go_wp2_with fail
  refine (HLI.out _).mono ?_
  rintro e w5 ⟨rfl, hb5⟩
  have Z := Lib.hid (Y.out.call hb5)
  have HZ := Lib.hid (HH.out.mono (fun _ _ _ h => h.below hb5))
  have VZ := Lib.hid (HV.out.mono (fun _ _ _ h => h.below hb5))
  clear hb5 Y HH HV
  by_cases hE0 : E = 0
  · subst hE0
    obtain ⟨o1, o2, o3, h60, h50⟩ := HON.out rfl
    subst o2
    have O1 := Lib.hid o1
    have O3 := Lib.hid o3
    clear HON HSN o1 o3
    have W0 := Lib.hid (show WR w5 w5 43 8 (.slice none 0 0) 0 [] from ⟨World.ownsRow_nil _ _ _ _, Below.refl _ _⟩)
    go_upto_region 7 with fail
    go_loopg [46, 11, 12, 14, 15] ls.length (fun g v46 v11 v12 _ _ wr => ∃ (k : Nat), g = ls.length - k ∧ k ≤ ls.length ∧ v46 = .int .i64 (k : Int) ∧ v12 = .bool (stopsAny (ls.take k)) ∧ WR w5 wr 43 8 v11 ((ls.take k).filter (wants hs)).length (((ls.take k).filter (wants hs)).flatMap Lis.c))
    case atStart => exact ⟨0, rfl, Nat.zero_le _, rfl, rfl, W0.out⟩
    case round =>
      clear W0
      obtain ⟨k, hg, hk, rfl, rfl, hx⟩ := hrel
      obtain ⟨vw, hvw⟩ : ∃ v, v = u11 := ⟨_, rfl⟩
      subst hvw
      have G := Lib.hid hg
      have X := Lib.hid hx
      clear hg hx
      by_cases hlt : k < ls.length
      · have hki : (k : Int) < (ls.length : Int) := by omega
        have HTK := Lib.hid (stops_take ls k hlt)
        have HFT := Lib.hid (filter_step (wants hs) ls k hlt)
        have hfl := fl_len (wants hs) ls k
        obtain ⟨b, o, rfl, hli⟩ := HLS.out.item k hlt
        have hll := (hli.below Z.out.bl).below X.out.bl
        clear hli
        generalize ls[k] = L at *
        obtain ⟨id, nd, ty, cp, on, st, al, pv⟩ := L
        obtain ⟨l0, l1, l2, l3, l4, l5, l6, l7⟩ := hll
        simp only at l0 l1 l2 l3 l4 l5 l6 l7 HTK
        have hwt : wants hs ⟨id, nd, ty, cp, on, st, al, pv⟩ = !(on && hasHd hs id) := rfl
        rw [hwt] at HFT
        clear hwt
        obtain ⟨Bv, hBv⟩ : ∃ Bv, wr.heap.size = Bv := ⟨_, rfl⟩
        have hbv : vw.ownBlock ≠ some Bv := fun e2 => by have := (X.out.own.lt Bv e2).2; omega
        go_upto_region 9 with fail
        refine code_gen (Φ := fun wy => Hid (WR w5 wy 43 8 vw ((ls.take k).filter (wants hs)).length (((ls.take k).filter (wants hs)).flatMap Lis.c)) ∧ Hid (wy.heap[Bv]? = some (.cells #[.int .i64 id, .int .i64 nd, .string ty, .bool cp, .bool on, .bool st, .bool al, .bool pv] 43 (0, 0)))) ⟨Lib.hid (X.out.call ((Below.refl _ _).alloc (Nat.le_refl _) _)), Lib.hid (alloc_at hBv _)⟩ ?_
        rintro w6 ⟨Y, YB⟩
        clear hBv X l0 l1 l2 l3 l4 l5 l6 l7
        obtain ⟨l0, l1, l2, l3, l4, l5, l6, l7⟩ := cells8 YB.out
        have HAN := Lib.hid (anyH_any 15 (fun w => w.lis == id) (fun _ => True) (.pointer (some ⟨Bv, 0, none⟩)) (fun w => w.cell? ⟨Bv, 0, none⟩ = some (.int .i64 id)) (fun _ _ h hb => kc hb h) (fun j w _ h => clo15_any Bv id j w h) call15 ha hc hs w6 (HZ.out.mono (fun _ _ _ h => h.below Y.out.bl)) (by omega) (fun _ _ => trivial) l0)
        have hc14 := call14
        go_wp2_with fail
        refine HAN.out.mono ?_
        rintro e w7 ⟨rfl, hb7⟩
        have Y7 := Lib.hid (Y.out.call hb7)
        have YB7 := Lib.hid ((hb7.block Bv (lt_of_heap YB.out)).trans YB.out)
        have HFT2 := Lib.hid (show (ls.take (k + 1)).filter (wants hs) = if (!(on && hs.any (fun w => w.lis == id))) = true then (ls.take k).filter (wants hs) ++ [⟨id, nd, ty, cp, on, st, al, pv⟩] else (ls.take k).filter (wants hs) from HFT.out)
        clear hb7 HAN Y YB l0 l1 l2 l3 l4 l5 l6 l7 HFT
        have Y := Y7
        have YB := YB7
        clear Y7 YB7
        generalize hs.any (fun w => w.lis == id) = bb at *
        generalize stopsAny (ls.take k) = tw at *
        have l4 := (cells8 YB.out).2.2.2.2.1
        cases on with
        | false =>
          have HFT := Lib.hid (show (ls.take (k + 1)).filter (wants hs) = (ls.take k).filter (wants hs) ++ [⟨id, nd, ty, cp, false, st, al, pv⟩] by rw [HFT2.out]; simp)
          clear HFT2
          go_upto_region 11 with fail
          have kk0 := cells8 YB.out
          obtain ⟨m0, m1, m2, m3, m4, m5, m6, m7⟩ := kk0
          go_wp2_with (at_builtin; refine wpList_append_own _ rfl (.tmp 60) (.tmp 62) 35 rfl w5.heap.size 43 bl zLis 8 40 Tryd.underlying35 gl0 gl1 gl2 gl3 rfl (by decide) vw _ _ rfl (Y.out.own.alloc _) ⟨_, 0, none⟩ 1 1 (Lis.c ⟨id, nd, ty, cp, false, st, al, pv⟩) rfl rfl (cell_lis ⟨id, nd, ty, cp, false, st, al, pv⟩ _ _) (one_lis _) (by unfold maxLen; have := hfl; omega) (by have := hfl; omega) (al_le Y.out.bl.size _) ?_)
          intro v' w9 hown hgrow _
          have V := Lib.hid (Y.out.push _ (v' := v') (m := ((ls.take k).filter (wants hs) ++ [Lis.mk id nd ty cp false st al pv]).length) (ys := ((ls.take k).filter (wants hs) ++ [Lis.mk id nd ty cp false st al pv]).flatMap Lis.c) (by rw [List.flatMap_append, List.length_append]; simpa using hown) hgrow)
          have VB := Lib.hid ((hgrow.block Bv (Nat.lt_of_lt_of_le (lt_of_heap YB.out) (World.grownBy_alloc _ _ none).size) (fun e2 => hbv e2.symm)).trans (alloc_keep YB.out _))
          clear hown hgrow m0 m1 m2 m3 m4 m5 m6 m7 Y YB
          have kk4 := (cells8 VB.out).2.2.2.2.2.1
          have kk5 := (cells8 VB.out).2.2.2.2.2.2.1
          cases tw with
          | true =>
            go_wp2_with fail
            go_roundg (ls.length - (k + 1))
            case measure => have := G.out; omega
            case rel => exact ⟨k + 1, rfl, by omega, by simp, by rw [HTK.out]; rfl, by rw [HFT.out]; exact V.out⟩
          | false =>
            cases st with
            | true =>
              go_wp2_with fail
              go_roundg (ls.length - (k + 1))
              case measure => have := G.out; omega
              case rel => exact ⟨k + 1, rfl, by omega, by simp, by rw [HTK.out]; rfl, by rw [HFT.out]; exact V.out⟩
            | false =>
              go_wp2_with fail
              go_roundg (ls.length - (k + 1))
              case measure => have := G.out; omega
              case rel => exact ⟨k + 1, rfl, by omega, by simp, by rw [HTK.out]; rfl, by rw [HFT.out]; exact V.out⟩
        | true =>
          cases bb with
          | false =>
            have HFT := Lib.hid (show (ls.take (k + 1)).filter (wants hs) = (ls.take k).filter (wants hs) ++ [⟨id, nd, ty, cp, true, st, al, pv⟩] by rw [HFT2.out]; simp)
            clear HFT2
            go_upto_region 11 with fail
            have kk0 := cells8 YB.out
            obtain ⟨m0, m1, m2, m3, m4, m5, m6, m7⟩ := kk0
            go_wp2_with (at_builtin; refine wpList_append_own _ rfl (.tmp 60) (.tmp 62) 35 rfl w5.heap.size 43 bl zLis 8 40 Tryd.underlying35 gl0 gl1 gl2 gl3 rfl (by decide) vw _ _ rfl (Y.out.own.alloc _) ⟨_, 0, none⟩ 1 1 (Lis.c ⟨id, nd, ty, cp, true, st, al, pv⟩) rfl rfl (cell_lis ⟨id, nd, ty, cp, true, st, al, pv⟩ _ _) (one_lis _) (by unfold maxLen; have := hfl; omega) (by have := hfl; omega) (al_le Y.out.bl.size _) ?_)
            intro v' w9 hown hgrow _
            have V := Lib.hid (Y.out.push _ (v' := v') (m := ((ls.take k).filter (wants hs) ++ [Lis.mk id nd ty cp true st al pv]).length) (ys := ((ls.take k).filter (wants hs) ++ [Lis.mk id nd ty cp true st al pv]).flatMap Lis.c) (by rw [List.flatMap_append, List.length_append]; simpa using hown) hgrow)
            have VB := Lib.hid ((hgrow.block Bv (Nat.lt_of_lt_of_le (lt_of_heap YB.out) (World.grownBy_alloc _ _ none).size) (fun e2 => hbv e2.symm)).trans (alloc_keep YB.out _))
            clear hown hgrow m0 m1 m2 m3 m4 m5 m6 m7 Y YB
            have kk4 := (cells8 VB.out).2.2.2.2.2.1
            have kk5 := (cells8 VB.out).2.2.2.2.2.2.1
            cases tw with
            | true =>
              go_wp2_with fail
              go_roundg (ls.length - (k + 1))
              case measure => have := G.out; omega
              case rel => exact ⟨k + 1, rfl, by omega, by simp, by rw [HTK.out]; rfl, by rw [HFT.out]; exact V.out⟩
            | false =>
              cases st with
              | true =>
                go_wp2_with fail
                go_roundg (ls.length - (k + 1))
                case measure => have := G.out; omega
                case rel => exact ⟨k + 1, rfl, by omega, by simp, by rw [HTK.out]; rfl, by rw [HFT.out]; exact V.out⟩
              | false =>
                go_wp2_with fail
                go_roundg (ls.length - (k + 1))
                case measure => have := G.out; omega
                case rel => exact ⟨k + 1, rfl, by omega, by simp, by rw [HTK.out]; rfl, by rw [HFT.out]; exact V.out⟩
          | true =>
            have HFT := Lib.hid (show (ls.take (k + 1)).filter (wants hs) = (ls.take k).filter (wants hs) by rw [HFT2.out]; simp)
            clear HFT2
            have V := Y
            have VB := YB
            clear Y YB
            have kk4 := (cells8 VB.out).2.2.2.2.2.1
            have kk5 := (cells8 VB.out).2.2.2.2.2.2.1
            cases tw with
            | true =>
              go_wp2_with fail
              go_roundg (ls.length - (k + 1))
              case measure => have := G.out; omega
              case rel => exact ⟨k + 1, rfl, by omega, by simp, by rw [HTK.out]; rfl, by rw [HFT.out]; exact V.out⟩
            | false =>
              cases st with
              | true =>
                go_wp2_with fail
                go_roundg (ls.length - (k + 1))
                case measure => have := G.out; omega
                case rel => exact ⟨k + 1, rfl, by omega, by simp, by rw [HTK.out]; rfl, by rw [HFT.out]; exact V.out⟩
              | false =>
                go_wp2_with fail
                go_roundg (ls.length - (k + 1))
                case measure => have := G.out; omega
                case rel => exact ⟨k + 1, rfl, by omega, by simp, by rw [HTK.out]; rfl, by rw [HFT.out]; exact V.out⟩
      · have hke : k = ls.length := by omega
        have hnl : ¬ ((k : Int) < (ls.length : Int)) := by omega
        have hfk : (ls.take k).filter (wants hs) = left := by rw [hke, List.take_length, O1.out]
        have hsa : stopsAny (ls.take k) = stopsAny ls := by rw [hke, List.take_length]
        rw [hfk] at X
        rw [hsa]
        have hlf : left.length ≤ 60 := by rw [O1.out]; exact Nat.le_trans (List.length_filter_le _ _) h60
        have HKE := Lib.hid hke
        clear hke hk hlt hsa hfk G
        obtain ⟨wa, wc, rfl⟩ := own_shape X.out.own
        have Z2 := Lib.hid (Z.out.call X.out.bl)
        have HZ2 := Lib.hid (HZ.out.mono (fun _ _ _ h => h.below X.out.bl))
        have VZ2 := Lib.hid (VZ.out.mono (fun _ _ _ h => h.below X.out.bl))
        have WZ2 := Lib.hid (own_lis X.out.own)
        clear Z HZ VZ X O1
        generalize stopsAny ls = ST at *
        obtain ⟨c0, c1⟩ := cells2 Z2.out.d
        obtain ⟨e0, e1, e2, e3, e4, e5, e6⟩ := cells7 Z2.out.e
        have hc16 := call16
        go_wp2_with fail
        refine (HSF.out _ va vc Z2.out.bl VZ2.out).mono ?_
        rintro e w6 ⟨ga, gc, xa, xc, rfl, hgg, hxx, hb6⟩
        have V := Lib.hid (Z2.out.bl.trans (Below.le hb6 Z2.out.bl.size))
        have HH6 := Lib.hid (HZ2.out.mono (fun _ _ _ h => h.below hb6))
        have VV6 := Lib.hid (VZ2.out.mono (fun _ _ _ h => h.below hb6))
        have WW6 := Lib.hid (WZ2.out.mono (fun _ _ _ h => h.below hb6))
        have HG6 := Lib.hid hgg
        have XX6 := Lib.hid hxx
        clear hb6 hgg hxx Z2 HZ2 VZ2 WZ2 c0 c1 e0 e1 e2 e3 e4 e5 e6 HSF
        go_wp2_with fail
        refine (eqL_any va wa vc wc left w6 VV6.out WW6.out).mono ?_
        rintro e w7 ⟨rfl, hb7⟩
        have V7 := Lib.hid (V.out.trans (Below.le hb7 V.out.size))
        have HH7 := Lib.hid (HH6.out.mono (fun _ _ _ h => h.below hb7))
        have VV7 := Lib.hid (VV6.out.mono (fun _ _ _ h => h.below hb7))
        have HG7 := Lib.hid (HG6.out.mono (fun _ _ _ h => h.below hb7))
        have XX7 := Lib.hid (XX6.out.mono (fun _ _ _ h => h.below hb7))
        clear hb7 V HH6 VV6 WW6 HG6 XX6
        cases ST with
        | true =>
          clear O3
          go_wp2_with fail
          go_ret
          exact ⟨rfl, V7.out⟩
        | false =>
          obtain ⟨p1, p2⟩ := O3.out rfl
          have P1 := Lib.hid p1
          obtain rfl := p2
          clear O3 p1
          have W0 := Lib.hid (show WR w7 w7 46 3 (.slice none 0 0) 0 [] from ⟨World.ownsRow_nil _ _ _ _, Below.refl _ _⟩)
          obtain ⟨QQ, hQQ⟩ : ∃ QQ : Hd → Bool, QQ = fun w => left2.any fun y => y.id == w.lis := ⟨_, rfl⟩
          rw [← hQQ] at P1
          have HQQ := Lib.hid hQQ
          clear hQQ
          have hhc := HH7.out.cap
          go_upto_region 21 with fail
          go_loopg [94, 20, 22] hs.length (fun g v94 v20 _ wr => ∃ (k : Nat), g = hs.length - k ∧ k ≤ hs.length ∧ v94 = .int .i64 (k : Int) ∧ WR w7 wr 46 3 v20 ((hs.take k).filter QQ).length (((hs.take k).filter QQ).flatMap Hd.c))
          case atStart => exact ⟨0, rfl, Nat.zero_le _, rfl, W0.out⟩
          case round =>
            clear W0
            obtain ⟨k, hg, hk, rfl, hx⟩ := hrel
            obtain ⟨vr, hvr⟩ : ∃ v, v = u20 := ⟨_, rfl⟩
            subst hvr
            have G := Lib.hid hg
            have X := Lib.hid hx
            clear hg hx
            by_cases hlt : k < hs.length
            · have hki : (k : Int) < (hs.length : Int) := by omega
              have HFT := Lib.hid (filter_step QQ hs k hlt)
              have hfl := fl_len QQ hs k
              obtain ⟨b, o, rfl, hli⟩ := HH7.out.item k hlt
              have hll := hli.below X.out.bl
              clear hli
              generalize hs[k] = L at *
              obtain ⟨li, hn, ph⟩ := L
              obtain ⟨l0, l1, l2⟩ := hll
              simp only at l0 l1 l2
              have hwt : QQ ⟨li, hn, ph⟩ = left2.any (fun y => y.id == li) := by rw [HQQ.out]
              rw [hwt] at HFT
              clear hwt
              obtain ⟨Bv, hBv⟩ : ∃ Bv, wr.heap.size = Bv := ⟨_, rfl⟩
              go_upto_region 23 with fail
              refine code_gen (Φ := fun wy => Hid (WR w7 wy 46 3 vr ((hs.take k).filter QQ).length (((hs.take k).filter QQ).flatMap Hd.c)) ∧ Hid (wy.heap[Bv]? = some (.cells #[.int .i64 li, .int .i64 hn, .int .i64 ph] 46 (0, 0)))) ⟨Lib.hid (X.out.call ((Below.refl _ _).alloc (Nat.le_refl _) _)), Lib.hid (alloc_at hBv _)⟩ ?_
              rintro w6 ⟨Y, YB⟩
              clear hBv X l0 l1 l2
              obtain ⟨l0, l1, l2⟩ := cells3 YB.out
              have HAN := Lib.hid (anyL_any 18 (fun y => y.id == li) (fun _ => True) (.pointer (some ⟨Bv, 0, none⟩)) (fun w => w.cell? ⟨Bv, 0, none⟩ = some (.int .i64 li)) (fun _ _ h hb => kc hb h) (fun j w _ h => clo18_any Bv li j w h) call18 va vc left2 w6 (VV7.out.mono (fun _ _ _ h => h.below Y.out.bl)) (by omega) (fun _ _ => trivial) l0)
              have hc17 := call17
              go_wp2_with fail
              refine HAN.out.mono ?_
              rintro e w8 ⟨rfl, hb8⟩
              have Y8 := Lib.hid (Y.out.call hb8)
              have YB8 := Lib.hid ((hb8.block Bv (lt_of_heap YB.out)).trans YB.out)
              clear hb8 HAN Y YB l0 l1 l2
              have Y := Y8
              have YB := YB8
              clear Y8 YB8
              generalize left2.any (fun y => y.id == li) = bb at *
              cases bb with
              | false =>
                have HFT2 := Lib.hid (show (hs.take (k + 1)).filter QQ = (hs.take k).filter QQ by rw [HFT.out]; simp)
                clear HFT
                go_wp2_with fail
                go_roundg (hs.length - (k + 1))
                case measure => have := G.out; omega
                case rel => exact ⟨k + 1, rfl, by omega, by simp, by rw [HFT2.out]; exact Y.out⟩
              | true =>
                have HFT2 := Lib.hid (show (hs.take (k + 1)).filter QQ = (hs.take k).filter QQ ++ [⟨li, hn, ph⟩] by rw [HFT.out]; simp)
                clear HFT
                obtain ⟨m0, m1, m2⟩ := cells3 YB.out
                go_upto_region 24 with fail
                go_wp2_with (at_builtin; refine wpList_append_own _ rfl (.tmp 101) (.tmp 103) 38 rfl w7.heap.size 46 bh zHd 3 24 Tryd.underlying38 gh0 gh1 gh2 gh3 rfl (by decide) vr _ _ rfl (Y.out.own.alloc _) ⟨_, 0, none⟩ 1 1 (Hd.c ⟨li, hn, ph⟩) rfl rfl (cell_hd ⟨li, hn, ph⟩ _ _) (one_hd _) (by unfold maxLen; have := hfl; omega) (by have := hfl; omega) (al_le Y.out.bl.size _) ?_)
                intro v' w9 hown hgrow _
                have V9 := Lib.hid (Y.out.push _ (v' := v') (m := ((hs.take k).filter QQ ++ [Hd.mk li hn ph]).length) (ys := ((hs.take k).filter QQ ++ [Hd.mk li hn ph]).flatMap Hd.c) (by rw [List.flatMap_append, List.length_append]; simpa using hown) hgrow)
                clear hown hgrow m0 m1 m2 Y YB
                go_wp2_with fail
                go_roundg (hs.length - (k + 1))
                case measure => have := G.out; omega
                case rel => exact ⟨k + 1, rfl, by omega, by simp, by rw [HFT2.out]; exact V9.out⟩
            · have hke : k = hs.length := by omega
              have hnl2 : ¬ ((k : Int) < (hs.length : Int)) := by omega
              have hfk : (hs.take k).filter QQ = hs2 := by rw [hke, List.take_length, P1.out]
              rw [hfk] at X
              have HKE2 := Lib.hid hke
              clear hke hk hlt hfk G P1
              obtain ⟨ra, rc, rfl⟩ := own_shape X.out.own
              have hc13 := call13
              have EH := Lib.hid (eqH_any ga ra gc rc hs2 wr (HG7.out.mono (fun _ _ _ h => h.below X.out.bl)) (own_hd X.out.own))
              have V8 := Lib.hid (V7.out.trans (Below.le X.out.bl V7.out.size))
              have EL := Lib.hid (fun (w8 : World) (hb : Below wr.heap.size wr w8) => eqL_any xa va xc vc left2 w8 ((XX7.out.mono (fun _ _ _ h => h.below X.out.bl)).mono (fun _ _ _ h => h.below hb)) ((VV7.out.mono (fun _ _ _ h => h.below X.out.bl)).mono (fun _ _ _ h => h.below hb)))
              clear X V7 HH7 VV7 HG7 XX7
              go_wp2_with fail
              refine EH.out.mono ?_
              rintro e w8 ⟨rfl, hb8⟩
              have EL8 := Lib.hid (EL.out _ hb8)
              have V9 := Lib.hid (V8.out.trans (Below.le hb8 V8.out.size))
              clear hb8 EH EL V8
              go_wp2_with fail
              refine EL8.out.mono ?_
              rintro e w9 ⟨rfl, hb9⟩
              have V10 := Lib.hid (V9.out.trans (Below.le hb9 V9.out.size))
              clear hb9 EL8 V9
              go_wp2_with fail
              go_ret
              exact ⟨rfl, V10.out⟩
  · obtain ⟨h1, h2, h3⟩ := HSN.out hE0
    subst h3
    go_wp2_with fail
    refine (HLI.out _).mono ?_
    rintro e w6 ⟨rfl, hb6⟩
    have V := Lib.hid (Z.out.bl.trans (Below.le hb6 Z.out.bl.size))
    clear hb6
    go_wp2_with fail
    go_ret
    exact ⟨rfl, V.out⟩
end Go.Proofs.YtnnckjgafglgeaaDoor
