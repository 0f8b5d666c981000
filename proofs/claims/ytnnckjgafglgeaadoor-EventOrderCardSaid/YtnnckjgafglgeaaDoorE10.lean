/- The contract of event's Path. -/
import Derived.Test.YtnnckjgafglgeaaDoorE8
import Derived.Test.YtnnckjgafglgeaaDoorE9
import Derived.Deep.AppendLies
import Derived.Laws.AppendOwn
import Derived.Lib.OwnBridge
namespace Go.Proofs.YtnnckjgafglgeaaDoor
open Go.RowKit

theorem int_info : (Tryd.prog.info? 3).map (fun i => (i.zero, i.size, i.bytes)) = some (some (.int .i64 0), 1, 8) := by kernel_rfl
theorem cell_new (x : Int) (t : TypeId) (w : World) : ∀ j u, [Value.int .i64 x][j]? = some u → (w.alloc (.cells #[.int .i64 x] t)).cell? ((⟨w.heap.size, 0, none⟩ : Addr).add j) = some u := World.news_of_block (heap_alloc_new w _)
theorem one_int (x : Int) : ∀ u ∈ [Value.int .i64 x], u.oneCell' = true := by intro u hu; simp at hu; subst hu; rfl
theorem al_le {B : Nat} {w : World} (h : B ≤ w.heap.size) (o : Obj) : B ≤ (w.alloc o).heap.size := Nat.le_trans h (World.grownBy_alloc _ _ none).size
/-- The world while a way is made. -/
structure PW (w wr : World) (A : Nat) (doc : Obj) (v : Value) (l : List Int) : Prop where
  own : wr.ownsRow (A + 1) 3 1 v l.length (l.map nV)
  bl : Below w.heap.size w wr
  d : wr.heap[A]? = some doc
  sz : w.heap.size ≤ A
theorem PW.push {w wr w' : World} {A : Nat} {doc : Obj} {v v' : Value} {l : List Int} (h : PW w wr A doc v l) (o1 : Obj) (x : Int) (hown : w'.ownsRow (A + 1) 3 1 v' (l.length + 1) (l.map nV ++ [.int .i64 x])) (hg : (wr.alloc o1).grownBy w' v.ownBlock) : PW w w' A doc v' (l ++ [x]) where
  own := by simpa [nV] using hown
  bl := (h.bl.alloc h.bl.size o1).grown hg (al_le h.bl.size o1) (fun k hk => Nat.le_trans (Nat.le_trans h.sz (Nat.le_succ A)) (h.own.lt k hk).1)
  d := (hg.block A (Nat.lt_of_lt_of_le (lt_of_heap h.d) (World.grownBy_alloc _ _ none).size) (fun e => by have := (h.own.lt A e.symm).1; omega)).trans (alloc_keep h.d o1)
  sz := h.sz
theorem PW.le {w wr : World} {A : Nat} {doc : Obj} {v : Value} {l : List Int} (h : PW w wr A doc v l) : A + 1 ≤ wr.heap.size := lt_of_heap h.d
set_option maxRecDepth 100000 in
set_option maxHeartbeats 16000000 in
theorem path_any (nodes : List Nd) (aa0 : Option Addr) (c : Nat) (q : Bool) (n : Int) (w : World) (h : DocAt w (.slice aa0 nodes.length c) nodes) : Calls Tryd.prog 8 #[.agg #[.slice aa0 nodes.length c, .bool q], .int .i64 n] w fun e w' => ∃ v, e = .returned (.tuple #[v, .int .i64 (pathV nodes n).1]) ∧ w'.ownsRow w.heap.size 3 1 v (pathV nodes n).2.length ((pathV nodes n).2.map nV) ∧ Below w.heap.size w w' := by
  have HS := Lib.hid h
  have HCH := Lib.hid (fun (w6 : World) (hb : Below w.heap.size w w6) => check_any nodes aa0 c q w6 (DocAt.below h hb))
  obtain ⟨hc1, hc2, hc3⟩ := SlR.cap h
  clear h
  obtain ⟨E, hE⟩ : ∃ E, docErr nodes = E := ⟨_, rfl⟩
  obtain ⟨R, hR⟩ : ∃ R, pathV nodes n = R := ⟨_, rfl⟩
  rw [hR]
  rw [hE] at HCH
  have HR := Lib.hid hR
  have HE := Lib.hid hE
  clear hE hR
  obtain ⟨bi, hi0, hz0, hz1, hz2⟩ := info_parts int_info
  go_enter Tryd.func8, Tryd.ntmps8
  obtain ⟨A, hA⟩ : ∃ A, w.heap.size = A := ⟨_, rfl⟩
  go_upto_region 1 with fail
  refine code_gen (Φ := fun wy => Hid (Below w.heap.size w wy) ∧ Hid (wy.heap[A]? = some (.cells #[.slice aa0 nodes.length c, .bool q] 24 (0, 0)))) ⟨Lib.hid ((Below.refl _ _).alloc (Nat.le_refl _) _), Lib.hid (alloc_at hA _)⟩ ?_
  rintro w3 ⟨X, XA⟩
  have HA := Lib.hid hA
  clear hA
  obtain ⟨c0, c1⟩ := cells2 XA.out
  go_wp2_with fail
  refine (HCH.out _ X.out).mono ?_
  rintro e w4 ⟨rfl, hb4⟩
  have Y := Lib.hid (X.out.trans (Below.le hb4 X.out.size))
  have YA := Lib.hid ((hb4.block A (lt_of_heap XA.out)).trans XA.out)
  clear hb4 X XA c0 c1 HCH
  obtain ⟨c0, c1⟩ := cells2 YA.out
  by_cases hE0 : E = 0
  · subst hE0
    by_cases hn0 : n < 0
    · have hr : R = (1, []) := by rw [← HR.out]; unfold pathV; rw [if_pos HE.out, if_pos (.inl hn0)]
      subst hr
      go_wp2_with fail
      go_ret2
      exact ⟨_, rfl, World.ownsRow_nil _ _ _ _, Y.out⟩
    by_cases hn1 : (nodes.length : Int) ≤ n
    · have hr : R = (1, []) := by rw [← HR.out]; unfold pathV; rw [if_pos HE.out, if_pos (.inr hn1)]
      subst hr
      go_wp2_with fail
      go_ret2
      exact ⟨_, rfl, World.ownsRow_nil _ _ _ _, Y.out⟩
    have hdoc := doc_ok nodes HE.out
    have h200 := hdoc.n2
    have h00 := hdoc.n1
    have HD := Lib.hid hdoc
    clear hdoc
    obtain ⟨k, rfl⟩ := Int.eq_ofNat_of_zero_le (Int.not_lt.1 hn0)
    have hk : k < nodes.length := by omega
    have hki : (k : Int) < (nodes.length : Int) := by omega
    have HR2 := Lib.hid (show (if (chain nodes (k : Int)).reverse.head? = some 0 then (0, (chain nodes (k : Int)).reverse) else (5, [])) = R by rw [← HR.out]; unfold pathV; rw [if_pos HE.out, if_neg (show ¬((k : Int) < 0 ∨ (nodes.length : Int) ≤ (k : Int)) by omega)])
    clear HR hn0 hn1
    obtain ⟨b, o, rfl, _⟩ := SlR.item HS.out 0 h00
    have PW0 := Lib.hid (show PW w w4 A (.cells #[.slice (some ⟨b, o, none⟩) nodes.length c, .bool q] 24 (0, 0)) (.slice none 0 0) [] from ⟨World.ownsRow_nil _ _ _ _, Y.out, YA.out, Nat.le_of_eq HA.out⟩)
    have hdk : decide (nodes.length ≤ k) = false := decide_eq_false (by omega)
    go_upto_region 7 with fail
    clear c0 c1 Y YA hdk
    go_loopg [1, 7] 42 (fun g v1 v7 wr => ∃ (x : Int) (l : List Int), chainEnds nodes g x ∧ x < (nodes.length : Int) ∧ v1 = .int .i64 x ∧ l ++ chainF nodes g x = chain nodes (k : Int) ∧ l.length + g = 42 ∧ PW w wr A (.cells #[.slice (some ⟨b, o, none⟩) nodes.length c, .bool q] 24 (0, 0)) v7 l)
    case atStart => exact ⟨(k : Int), [], chain_ends HD.out k hk, hki, rfl, rfl, rfl, PW0.out⟩
    case round =>
      clear PW0
      obtain ⟨x, l, hce, hxl, rfl, hch, hlen, hw⟩ := hrel
      obtain ⟨v, hv⟩ : ∃ v, v = u7 := ⟨_, rfl⟩
      subst hv
      have HCE := Lib.hid hce
      have HCH := Lib.hid hch
      have HLN := Lib.hid hlen
      have X := Lib.hid hw
      clear hce hch hlen hw
      by_cases hx : 0 ≤ x
      · obtain ⟨f, rfl⟩ : ∃ f, gk = f + 1 := by
          cases gk with
          | zero => exact absurd HCE.out (Int.not_lt.2 hx)
          | succ f => exact ⟨f, rfl⟩
        obtain ⟨m, rfl⟩ := Int.eq_ofNat_of_zero_le hx
        have hm : m < nodes.length := by omega
        have HCE2 : Hid (chainEnds nodes f (par nodes (m : Int))) := Lib.hid (HCE.out.resolve_left (by omega))
        have HCH2 := Lib.hid HCH.out
        rw [chainF_go nodes f (m : Int) hx] at HCH2
        have hpl := par_lt HD.out m hm
        clear HCE HCH
        go_wp2_with (at_builtin; refine wpList_append_own _ rfl (.tmp 30) (.tmp 32) 25 rfl (A + 1) 3 bi (.int .i64 0) 1 8 Tryd.underlying25 hi0 hz0 hz1 hz2 rfl (by decide) v _ _ rfl (X.out.own.alloc _) ⟨_, 0, none⟩ 1 1 [.int .i64 (m : Int)] rfl rfl (cell_new (m : Int) _ _) (one_int (m : Int)) (by unfold maxLen; have := HLN.out; omega) (by have := HLN.out; omega) (al_le X.out.le _) ?_)
        intro v' w2 hown hgrow _
        have X3 := Lib.hid (PW.push X.out _ (m : Int) hown hgrow)
        clear hown hgrow X
        obtain ⟨c0, _⟩ := cells2 X3.out.d
        obtain ⟨_, _, _, _, _, _, _, _, m4, _⟩ := ((HS.out.at m hm).below X3.out.bl).ex
        rw [← par_at nodes m hm] at m4
        obtain ⟨PM, hPM⟩ : ∃ PM, par nodes (m : Int) = PM := ⟨_, rfl⟩
        rw [hPM] at m4 hpl HCE2 HCH2
        clear hPM
        go_wp2_with fail
        go_roundg f
        case measure => omega
        case rel => exact ⟨PM, l ++ [(m : Int)], HCE2.out, hpl, rfl, by rw [List.append_assoc]; exact HCH2.out, by have := HLN.out; simp; omega, X3.out⟩
      · have hl : l = chain nodes (k : Int) := by
          have := HCH.out
          rwa [chainF_neg nodes _ x (Int.not_le.1 hx), List.append_nil] at this
        have hne : l ≠ [] := by rw [hl]; exact chain_ne nodes _ (by omega)
        have HL := Lib.hid hl
        clear hl HCH HCE
        have hown : wr.ownsRow (A + 1) 3 1 v l.length (l.map (Value.int .i64)) := X.out.own
        obtain ⟨g, cap, rfl, hAg, _, hcap, hcm, _, hH⟩ := Lib.holds_of_ownsRow hown (by
          intro e
          subst e
          rcases hown.2 with ⟨_, h0⟩ | ⟨_, _, _, e1, _⟩
          · exact hne (List.eq_nil_of_length_eq_zero h0)
          · cases e1)
        have HOWN := Lib.hid hown
        have HH := Lib.hid hH
        have h42 : l.length ≤ 42 := by have := HLN.out; omega
        clear hown hH
        have HREV := Lib.hid (Tryd.slices_Reverse_int g 0 cap l wr HH.out (by omega))
        go_wp2_with fail
        refine HREV.out.mono ?_
        rintro e w5 ⟨rfl, nq, rfl⟩
        have hown2 := Lib.ownsRow_putRow (q := nq) (ys := l.reverse) (k := l.length) HOWN.out (by simp) (Nat.le_refl _)
        have hbl2 : Below w.heap.size w (Sort.putRow (Value.int .i64) (Sort.ahead wr nq) g 0 l.reverse.toArray) := Lib.below_putRow X.out.bl (by have := X.out.sz; omega)
        rw [List.take_of_length_le (by simp)] at hown2
        generalize Sort.putRow (Value.int .i64) (Sort.ahead wr nq) g 0 l.reverse.toArray = w6 at *
        have HO2 := Lib.hid hown2
        have HB2 := Lib.hid hbl2
        clear hbl2 HREV HH HOWN X
        have hpos : 0 < l.length := List.length_pos_iff.2 hne
        obtain ⟨z, t, hz⟩ : ∃ z t, l.reverse = z :: t := by
          cases hr : l.reverse with
          | nil => exact absurd (List.reverse_eq_nil_iff.1 hr) hne
          | cons z t => exact ⟨z, t, rfl⟩
        have c0 := hown2.cellAt 0 (by omega)
        rw [hz] at c0
        have c0' : w6.cell? ⟨g, 0, none⟩ = some (.int .i64 z) := c0
        clear c0 hown2
        have hpi : (0 : Int) < (l.length : Int) := by omega
        have HR3 := Lib.hid HR2.out
        rw [← HL.out, hz] at HR3
        have HZ := Lib.hid hz
        clear HR2 HL hz
        by_cases h0 : z = 0
        · subst h0
          have hr : R = (0, 0 :: t) := HR3.out.symm
          subst hr
          go_wp2_with fail
          go_ret2
          refine ⟨_, rfl, ?_, HB2.out⟩
          have hl2 : l.length = (0 :: t).length := by rw [← HZ.out]; simp
          have hown3 : w6.ownsRow (A + 1) 3 1 (.slice (some ⟨g, 0, none⟩) l.length cap) l.length ((0 :: t).map nV) := by
            have := HO2.out
            rwa [HZ.out] at this
          have hle : w.heap.size ≤ A + 1 := by have := HA.out; omega
          show w6.ownsRow w.heap.size 3 1 (.slice (some ⟨g, 0, none⟩) l.length cap) (0 :: t).length ((0 :: t).map nV)
          rw [← hl2]
          exact own_lower hown3 hle
        · have hr : R = (5, []) := by
            have := HR3.out
            rw [if_neg (by simpa using h0)] at this
            exact this.symm
          subst hr
          go_wp2_with fail
          go_ret2
          exact ⟨_, rfl, World.ownsRow_nil _ _ _ _, HB2.out⟩
  · have hr : R = (E, []) := by rw [← HR.out]; unfold pathV; rw [if_neg (by rw [HE.out]; exact hE0), HE.out]
    subst hr
    go_wp2_with fail
    go_ret2
    exact ⟨_, rfl, World.ownsRow_nil _ _ _ _, Y.out⟩
end Go.Proofs.YtnnckjgafglgeaaDoor
