/- The rows' parts: an argument's reading gives a document, listeners, an event. -/
import Derived.Test.YtnnckjgafglgeaaDoorE21
import Derived.ProofKit
import Derived.Deep.Slices
import Derived.LaidMore
import Derived.OpenShut
import Derived.Stop.Joined
import Derived.Lib.LaidTab
import Derived.Lay
import Derived.MakeChecks
namespace Go.Proofs.YtnnckjgafglgeaaDoor
open Go.ChangeShapes Go.WideShapes Go.ChangeAt Go.RowKit

theorem own : ownKnob Tryd.prog.godebug = none := by kernel_rfl
theorem laidOut : laidOutB Tryd.prog = true := by kernel_rfl
/-- The tables, as the rows list them. -/
def laid2 : List (String × DataW Unit) := [("unicode/utf8.acceptRanges", Rows.laid_unicode_utf8_acceptRanges), ("unicode/utf8.first", Rows.laid_unicode_utf8_first)]
theorem laid_met (os : Os) (args : Array Value) : laidMetH Tryd.prog laid2 ((World.laidAll Tryd.prog os laid2).forCall (fun _ _ => 0) ⟨#[], args, []⟩).memory := by
  rw [MakeChecks.laidMetH_plain _ _ _ (by kernel_rfl)]
  exact laidMet_laidAll _ (by kernel_rfl) (by kernel_rfl)
theorem bytesOf43 : Tryd.prog.bytesOf 43 = 40 := by kernel_rfl
theorem cellsOf3 : Tryd.prog.cellsOf 3 = 1 := by kernel_rfl
theorem cellsOf4 : Tryd.prog.cellsOf 4 = 1 := by kernel_rfl
theorem cellsOf9 : Tryd.prog.cellsOf 9 = 1 := by kernel_rfl
theorem cellsOf22 : Tryd.prog.cellsOf 22 = 1 := by kernel_rfl
theorem cellsOf24 : Tryd.prog.cellsOf 24 = 2 := by kernel_rfl
theorem cellsOf25 : Tryd.prog.cellsOf 25 = 1 := by kernel_rfl
theorem cellsOf30 : Tryd.prog.cellsOf 30 = 1 := by kernel_rfl
theorem cellsOf32 : Tryd.prog.cellsOf 32 = 6 := by kernel_rfl
theorem cellsOf37 : Tryd.prog.cellsOf 37 = 7 := by kernel_rfl
theorem cellsOf43 : Tryd.prog.cellsOf 43 = 8 := by kernel_rfl
theorem cellsOf81 : Tryd.prog.cellsOf 81 = 2 := by kernel_rfl
instance : Inhabited Nd := ⟨⟨0, ⟨#[]⟩, [], ⟨#[]⟩, 0, []⟩⟩
instance : Inhabited Attr := ⟨⟨⟨#[]⟩, ⟨#[]⟩⟩⟩
instance : Inhabited Lis := ⟨⟨0, 0, ⟨#[]⟩, false, false, false, false, false⟩⟩
section
variable {H : Type} {enc : TypeId × Value → H} {w : World} {base : Nat} {spare : Nat → Bool} {held : Bool}
set_option maxRecDepth 100000 in
theorem trod_field {fs : Array Field} {xs : List (DataW H × List MemPlace)} {n : Nat} {cs : List Value} (hlen : xs.length = fs.size) (hf : ∀ (i : Nat) (f : Field), fs[i]? = some f → DataW.trod enc Tryd.prog w base spare held n f.type ((cs.drop f.offset).take (Tryd.prog.cellsOf f.type)) = xs[i]?) (i ty off c : Nat) (h : (fs[i]?).map (fun f => (f.type, f.offset)) = some (ty, off)) (hc : Tryd.prog.cellsOf ty = c) :
    ∃ y, DataW.trod enc Tryd.prog w base spare held n ty ((cs.drop off).take c) = some y := by
  cases hfi : fs[i]? with
  | none => rw [hfi] at h; cases h
  | some f =>
    rw [hfi] at h
    simp only [Option.map_some, Option.some.injEq, Prod.mk.injEq] at h
    obtain ⟨rfl, rfl⟩ := h
    have hi : i < xs.length := by rw [hlen]; exact (Array.getElem?_eq_some_iff.1 hfi).1
    exact ⟨xs[i], by rw [← hc]; exact (hf i f hfi).trans (List.getElem?_eq_getElem hi)⟩
set_option maxRecDepth 100000 in
theorem trod_slR {α : Type} [Inhabited α] (R : World → Nat → Nat → α → Prop) (s : Nat) (hs : 0 < s) {t e : TypeId} (hC : Tryd.prog.cellsOf e = s) (hel : ∀ (fuel : Nat) (cs : List Value) (x : DataW H × List MemPlace), cs.length = s → DataW.trod enc Tryd.prog w base spare held fuel e cs = some x → ∃ a : α, ∀ b o, (∀ j, j < s → w.cell? ⟨b, o + j, none⟩ = cs[j]?) → R w b o a) (ht : Tryd.prog.underlying t = some (.slice e)) {fuel : Nat} {cs : List Value} {x : DataW H × List MemPlace} (h : DataW.trod enc Tryd.prog w base spare held fuel t cs = some x) :
    ∃ (l : List α) (a : Option Addr) (c : Nat), cs = [.slice a l.length c] ∧ SlR w R s (.slice a l.length c) l := by
  rcases Deep.open_slice ht h with ⟨h0, _⟩ | ⟨a, len, cap, m, n, D, Pl, hcs, hb, hl, hm, hmm, _, hi⟩
  · exact ⟨[], none, 0, h0, ⟨none, 0, rfl, Nat.le_refl _, by decide, fun h => by simp at h⟩⟩
  · have hlm : len ≤ m := by rw [hmm]; split <;> omega
    by_cases h00 : len = 0
    · subst h00
      exact ⟨[], some a, cap, by simpa using hcs, some a, cap, rfl, Nat.zero_le _, hm, fun h => by simp at h⟩
    have hsp : ∃ b o, a = ⟨b, o, none⟩ := by
      obtain ⟨cs', hc, _⟩ := hi 0 (by omega)
      rw [hC] at hc
      obtain ⟨_, hlen, hat⟩ := World.cells?_some hc
      have hx := hat 0 hs
      have e1 : (a.add (0 * s)).add 0 = a := by simp [Addr.add]
      rw [e1] at hx
      have hx2 : w.cell? a = some (cs'[0]'(by omega)) := hx.trans (List.getElem?_eq_getElem (by omega))
      obtain ⟨b, o, sp⟩ := a
      unfold World.cell? at hx2
      split at hx2
      · cases sp with
        | none => exact ⟨b, o, rfl⟩
        | some k => simp at hx2
      · cases hx2
    obtain ⟨b, o, rfl⟩ := hsp
    have hall : ∀ i, i < len → ∃ v : α, R w b (o + i * s) v := fun i hlt => by
      obtain ⟨cs', hc, ht'⟩ := hi i (by omega)
      rw [hC] at hc
      obtain ⟨_, hl', hat⟩ := World.cells?_some hc
      obtain ⟨v, hv⟩ := hel _ _ _ hl' ht'
      refine ⟨v, hv _ _ fun j hj => ?_⟩
      have := hat j hj
      rw [Deep.add_add] at this
      have e2 : (⟨b, o, none⟩ : Addr).add (i * s + j) = ⟨b, o + i * s + j, none⟩ := by
        unfold Addr.add
        split
        · rename_i hz; rw [Nat.add_assoc, hz]; rfl
        · simp [Nat.add_assoc]
      rwa [e2] at this
    obtain ⟨g, hg⟩ := Deep.choose_lt hall
    refine ⟨(List.range len).map g, some ⟨b, o, none⟩, cap, by simpa using hcs, some ⟨b, o, none⟩, cap, rfl, by simpa using hl, hm, fun h0 => ⟨b, o, rfl, fun k hk => ?_⟩⟩
    have hk' : k < len := by simpa using hk
    simpa using hg k hk'
set_option maxRecDepth 100000 in
theorem trod_attr (fuel : Nat) (cs : List Value) (x : DataW H × List MemPlace) (hl2 : cs.length = 2) (h : DataW.trod enc Tryd.prog w base spare held fuel 81 cs = some x) : ∃ a : Attr, ∀ b o, (∀ j, j < 2 → w.cell? ⟨b, o + j, none⟩ = cs[j]?) → AttrAt w b o a := by
  obtain ⟨xs, n, _, _, hl, hlen, hf⟩ := DataW.trod_struct Tryd.underlying81 h
  match cs, hl2 with
  | [c0, c1], _ =>
    obtain ⟨y0, h0⟩ := trod_field hlen hf 0 9 0 1 rfl cellsOf9
    obtain ⟨y1, h1⟩ := trod_field hlen hf 1 9 1 1 rfl cellsOf9
    simp only [List.drop, List.take] at h0 h1
    obtain ⟨a0, e0, _⟩ := DataW.trod_string Tryd.underlying9 h0
    obtain ⟨a1, e1, _⟩ := DataW.trod_string Tryd.underlying9 h1
    simp only [List.cons.injEq, and_true] at e0 e1
    subst e0 e1
    exact ⟨⟨a0, a1⟩, fun b o hc => ⟨hc 0 (by decide), hc 1 (by decide)⟩⟩
set_option maxRecDepth 100000 in
theorem trod_intAt (fuel : Nat) (cs : List Value) (x : DataW H × List MemPlace) (_ : cs.length = 1) (h : DataW.trod enc Tryd.prog w base spare held fuel 3 cs = some x) : ∃ a : Int, ∀ b o, (∀ j, j < 1 → w.cell? ⟨b, o + j, none⟩ = cs[j]?) → IntAt w b o a := by
  obtain ⟨a0, e0, _⟩ := DataW.trod_int Tryd.underlying3 h
  subst e0
  exact ⟨a0, fun b o hc => hc 0 (by decide)⟩
set_option maxRecDepth 100000 in
theorem trod_node (fuel : Nat) (cs : List Value) (x : DataW H × List MemPlace) (hl6 : cs.length = 6) (h : DataW.trod enc Tryd.prog w base spare held fuel 32 cs = some x) : ∃ a : Nd, ∀ b o, (∀ j, j < 6 → w.cell? ⟨b, o + j, none⟩ = cs[j]?) → NodeAt w b o a := by
  obtain ⟨xs, n, _, _, hl, hlen, hf⟩ := DataW.trod_struct Tryd.underlying32 h
  match cs, hl6 with
  | [c0, c1, c2, c3, c4, c5], _ =>
    obtain ⟨y0, h0⟩ := trod_field hlen hf 0 3 0 1 rfl cellsOf3
    obtain ⟨y1, h1⟩ := trod_field hlen hf 1 9 1 1 rfl cellsOf9
    obtain ⟨y2, h2⟩ := trod_field hlen hf 2 30 2 1 rfl cellsOf30
    obtain ⟨y3, h3⟩ := trod_field hlen hf 3 9 3 1 rfl cellsOf9
    obtain ⟨y4, h4⟩ := trod_field hlen hf 4 3 4 1 rfl cellsOf3
    obtain ⟨y5, h5⟩ := trod_field hlen hf 5 25 5 1 rfl cellsOf25
    simp only [List.drop, List.take] at h0 h1 h2 h3 h4 h5
    obtain ⟨a0, e0, _⟩ := DataW.trod_int Tryd.underlying3 h0
    obtain ⟨a1, e1, _⟩ := DataW.trod_string Tryd.underlying9 h1
    obtain ⟨ats, aa, ac, e2, l2⟩ := trod_slR AttrAt 2 (by decide) cellsOf81 trod_attr Tryd.underlying30 h2
    obtain ⟨a3, e3, _⟩ := DataW.trod_string Tryd.underlying9 h3
    obtain ⟨a4, e4, _⟩ := DataW.trod_int Tryd.underlying3 h4
    obtain ⟨ks, ka, kc, e5, l5⟩ := trod_slR IntAt 1 (by decide) cellsOf3 trod_intAt Tryd.underlying25 h5
    simp only [List.cons.injEq, and_true] at e0 e1 e2 e3 e4 e5
    subst e0 e1 e2 e3 e4 e5
    exact ⟨⟨a0, a1, ats, a3, a4, ks⟩, fun b o hc => ⟨aa, ac, ka, kc, hc 0 (by decide), hc 1 (by decide), hc 2 (by decide), hc 3 (by decide), hc 4 (by decide), hc 5 (by decide), l2, l5⟩⟩
def LisW (w : World) (b x : Nat) (l : Lis) : Prop := LisAt w b x l ∧ (Lit.int .i64 l.id).wf = true
theorem SlR.lisAt {w : World} {v : Value} {ls : List Lis} (h : SlR w LisW 8 v ls) : SlR w LisAt 8 v ls := by
  obtain ⟨a, c, h1, h2, h3, h4⟩ := h
  refine ⟨a, c, h1, h2, h3, fun h0 => ?_⟩
  obtain ⟨b, o, h5, h6⟩ := h4 h0
  exact ⟨b, o, h5, fun k hk => (h6 k hk).1⟩
set_option maxRecDepth 100000 in
theorem trod_lis (fuel : Nat) (cs : List Value) (x : DataW H × List MemPlace) (hl8 : cs.length = 8) (h : DataW.trod enc Tryd.prog w base spare held fuel 43 cs = some x) : ∃ a : Lis, ∀ b o, (∀ j, j < 8 → w.cell? ⟨b, o + j, none⟩ = cs[j]?) → LisW w b o a := by
  obtain ⟨xs, n, _, _, hl, hlen, hf⟩ := DataW.trod_struct Tryd.underlying43 h
  match cs, hl8 with
  | [c0, c1, c2, c3, c4, c5, c6, c7], _ =>
    obtain ⟨y0, h0⟩ := trod_field hlen hf 0 3 0 1 rfl cellsOf3
    obtain ⟨y1, h1⟩ := trod_field hlen hf 1 3 1 1 rfl cellsOf3
    obtain ⟨y2, h2⟩ := trod_field hlen hf 2 9 2 1 rfl cellsOf9
    obtain ⟨y3, h3⟩ := trod_field hlen hf 3 4 3 1 rfl cellsOf4
    obtain ⟨y4, h4⟩ := trod_field hlen hf 4 4 4 1 rfl cellsOf4
    obtain ⟨y5, h5⟩ := trod_field hlen hf 5 4 5 1 rfl cellsOf4
    obtain ⟨y6, h6⟩ := trod_field hlen hf 6 4 6 1 rfl cellsOf4
    obtain ⟨y7, h7⟩ := trod_field hlen hf 7 4 7 1 rfl cellsOf4
    simp only [List.drop, List.take] at h0 h1 h2 h3 h4 h5 h6 h7
    obtain ⟨a0, e0, _, w0⟩ := DataW.trod_int Tryd.underlying3 h0
    obtain ⟨a1, e1, _⟩ := DataW.trod_int Tryd.underlying3 h1
    obtain ⟨a2, e2, _⟩ := DataW.trod_string Tryd.underlying9 h2
    obtain ⟨a3, e3, _⟩ := DataW.trod_bool Tryd.underlying4 h3
    obtain ⟨a4, e4, _⟩ := DataW.trod_bool Tryd.underlying4 h4
    obtain ⟨a5, e5, _⟩ := DataW.trod_bool Tryd.underlying4 h5
    obtain ⟨a6, e6, _⟩ := DataW.trod_bool Tryd.underlying4 h6
    obtain ⟨a7, e7, _⟩ := DataW.trod_bool Tryd.underlying4 h7
    simp only [List.cons.injEq, and_true] at e0 e1 e2 e3 e4 e5 e6 e7
    subst e0 e1 e2 e3 e4 e5 e6 e7
    exact ⟨⟨a0, a1, a2, a3, a4, a5, a6, a7⟩, fun b o hc => ⟨⟨hc 0 (by decide), hc 1 (by decide), hc 2 (by decide), hc 3 (by decide), hc 4 (by decide), hc 5 (by decide), hc 6 (by decide), hc 7 (by decide)⟩, w0⟩⟩
set_option maxRecDepth 100000 in
theorem open_doc {v : Value} {d : DataW H} {p : List MemPlace} {r : Reach} {b0 : Nat} (hv : Value.okWide Tryd.prog w r b0 24 v) (h : DataW.Trod enc Tryd.prog w base spare held 24 v d p) :
    ∃ (nodes : List Nd) (a : Option Addr) (c : Nat) (q : Bool), v = .agg #[.slice a nodes.length c, .bool q] ∧ DocAt w (.slice a nodes.length c) nodes := by
  obtain ⟨cs, rfl, hsz⟩ := okWide_struct Tryd.underlying24 hv
  obtain ⟨l⟩ := cs
  have hsz2 : l.length = 2 := hsz.trans cellsOf24
  match l, hsz2 with
  | [c0, c1], _ =>
    obtain ⟨fuel, hf0⟩ := h
    obtain ⟨xs, n, _, _, hl, hlen, hf⟩ := DataW.trod_struct Tryd.underlying24 hf0
    obtain ⟨y0, h0⟩ := trod_field hlen hf 0 22 0 1 rfl cellsOf22
    obtain ⟨y1, h1⟩ := trod_field hlen hf 1 4 1 1 rfl cellsOf4
    simp only [Value.cells, List.drop, List.take] at h0 h1
    obtain ⟨nodes, a, c, e0, l0⟩ := trod_slR NodeAt 6 (by decide) cellsOf32 trod_node Tryd.underlying22 h0
    obtain ⟨q, e1, _⟩ := DataW.trod_bool Tryd.underlying4 h1
    simp only [List.cons.injEq, and_true] at e0 e1
    subst e0 e1
    exact ⟨nodes, a, c, q, rfl, l0⟩
set_option maxRecDepth 100000 in
theorem open_lis {v : Value} {d : DataW H} {p : List MemPlace} {r : Reach} {b0 : Nat} (hv : Value.okWide Tryd.prog w r b0 35 v) (h : DataW.Trod enc Tryd.prog w base spare held 35 v d p) :
    ∃ (ls : List Lis) (a : Option Addr) (c : Nat), v = .slice a ls.length c ∧ SlR w LisAt 8 (.slice a ls.length c) ls ∧ ∀ x ∈ ls, (Lit.int .i64 x.id).wf = true := by
  obtain ⟨a, len, cap, rfl⟩ := okWide_slice Tryd.underlying35 hv
  obtain ⟨fuel, hf0⟩ := h
  obtain ⟨ls, a', c, e, hs⟩ := trod_slR LisW 8 (by decide) cellsOf43 trod_lis Tryd.underlying35 hf0
  simp only [Value.cells, List.cons.injEq, and_true] at e
  refine ⟨ls, a', c, e, hs.lisAt, ?_⟩
  intro x hx
  obtain ⟨k, hk, rfl⟩ := List.getElem_of_mem hx
  obtain ⟨_, _, _, h1⟩ := hs.item k hk
  exact h1.2
set_option maxRecDepth 100000 in
theorem lis_datum {a : Option Addr} {n c : Nat} {d : DataW H} {p : List MemPlace} (h : DataW.Trod enc Tryd.prog w base spare held 35 (.slice a n c) d p) : n = 0 ∨ ∃ elems rest, d = .slice elems rest ∧ elems.length = n := by
  obtain ⟨fuel, hf0⟩ := h
  rcases Deep.open_slice Tryd.underlying35 hf0 with ⟨h0, _⟩ | ⟨a, len, cap, m, n', D, Pl, hcs, hb, hl, hm, hmm, hx, hi⟩
  · left
    simp only [Value.cells, List.cons.injEq, and_true] at h0
    injection h0
  · right
    simp only [Value.cells, List.cons.injEq, and_true] at hcs
    injection hcs with _ hcs _
    subst hcs
    injection hx with hx _
    exact ⟨_, _, hx, by simp⟩
set_option maxRecDepth 100000 in
theorem open_ev {v : Value} {d : DataW H} {p : List MemPlace} {r : Reach} {b0 : Nat} (hv : Value.okWide Tryd.prog w r b0 37 v) (h : DataW.Trod enc Tryd.prog w base spare held 37 v d p) :
    ∃ e : Ev, v = Ev.v e := by
  obtain ⟨cs, rfl, hsz⟩ := okWide_struct Tryd.underlying37 hv
  obtain ⟨l⟩ := cs
  have hsz2 : l.length = 7 := hsz.trans cellsOf37
  match l, hsz2 with
  | [c0, c1, c2, c3, c4, c5, c6], _ =>
    obtain ⟨fuel, hf0⟩ := h
    obtain ⟨xs, n, _, _, hl, hlen, hf⟩ := DataW.trod_struct Tryd.underlying37 hf0
    obtain ⟨y0, h0⟩ := trod_field hlen hf 0 9 0 1 rfl cellsOf9
    obtain ⟨y1, h1⟩ := trod_field hlen hf 1 3 1 1 rfl cellsOf3
    obtain ⟨y2, h2⟩ := trod_field hlen hf 2 3 2 1 rfl cellsOf3
    obtain ⟨y3, h3⟩ := trod_field hlen hf 3 3 3 1 rfl cellsOf3
    obtain ⟨y4, h4⟩ := trod_field hlen hf 4 9 4 1 rfl cellsOf9
    obtain ⟨y5, h5⟩ := trod_field hlen hf 5 4 5 1 rfl cellsOf4
    obtain ⟨y6, h6⟩ := trod_field hlen hf 6 4 6 1 rfl cellsOf4
    simp only [Value.cells, List.drop, List.take] at h0 h1 h2 h3 h4 h5 h6
    obtain ⟨a0, e0, _⟩ := DataW.trod_string Tryd.underlying9 h0
    obtain ⟨a1, e1, _⟩ := DataW.trod_int Tryd.underlying3 h1
    obtain ⟨a2, e2, _⟩ := DataW.trod_int Tryd.underlying3 h2
    obtain ⟨a3, e3, _⟩ := DataW.trod_int Tryd.underlying3 h3
    obtain ⟨a4, e4, _⟩ := DataW.trod_string Tryd.underlying9 h4
    obtain ⟨a5, e5, _⟩ := DataW.trod_bool Tryd.underlying4 h5
    obtain ⟨a6, e6, _⟩ := DataW.trod_bool Tryd.underlying4 h6
    simp only [List.cons.injEq, and_true] at e0 e1 e2 e3 e4 e5 e6
    subst e0 e1 e2 e3 e4 e5 e6
    exact ⟨⟨a0, a1, a2, a3, a4, a5, a6⟩, rfl⟩
end
end Go.Proofs.YtnnckjgafglgeaaDoor
