/- The rows' parts: an argument's reading gives a heap, roots, a value. -/
import Derived.Test.YtcnplnnpiobikaaH1
import Derived.ProofKit
import Derived.Deep.Slices
import Derived.SizedLaws
import Derived.HandedShaped
namespace Go.Proofs.Ytcnplnnpiobikaa
open Go.ChangeShapes Go.WideShapes Go.ChangeAt Go.RowKit

theorem Try.own : ownKnob Try.prog.godebug = none := by kernel_rfl
theorem Try.laidOut : laidOutB Try.prog = true := by kernel_rfl
theorem bytesOf31 : Try.prog.bytesOf 31 = 32 := by kernel_rfl
theorem cellsOf3 : Try.prog.cellsOf 3 = 1 := by kernel_rfl
theorem cellsOf9 : Try.prog.cellsOf 9 = 1 := by kernel_rfl
theorem cellsOf23 : Try.prog.cellsOf 23 = 1 := by kernel_rfl
theorem cellsOf44 : Try.prog.cellsOf 44 = 1 := by kernel_rfl
theorem cellsOf31 : Try.prog.cellsOf 31 = 3 := by kernel_rfl
theorem cellsOf46 : Try.prog.cellsOf 46 = 3 := by kernel_rfl
instance : Inhabited JV := ⟨⟨0, 0, ⟨#[]⟩⟩⟩
instance : Inhabited Cl := ⟨⟨0, [], []⟩⟩
section
variable {H : Type} {enc : TypeId × Value → H} {w : World} {base : Nat} {spare : Nat → Bool} {held : Bool}
set_option maxRecDepth 100000 in
theorem trod_field {fs : Array Field} {xs : List (DataW H × List MemPlace)} {n : Nat} {cs : List Value} (hlen : xs.length = fs.size) (hf : ∀ (i : Nat) (f : Field), fs[i]? = some f → DataW.trod enc Try.prog w base spare held n f.type ((cs.drop f.offset).take (Try.prog.cellsOf f.type)) = xs[i]?) (i ty off c : Nat) (h : (fs[i]?).map (fun f => (f.type, f.offset)) = some (ty, off)) (hc : Try.prog.cellsOf ty = c) :
    ∃ y, DataW.trod enc Try.prog w base spare held n ty ((cs.drop off).take c) = some y := by
  cases hfi : fs[i]? with
  | none => rw [hfi] at h; cases h
  | some f =>
    rw [hfi] at h
    simp only [Option.map_some, Option.some.injEq, Prod.mk.injEq] at h
    obtain ⟨rfl, rfl⟩ := h
    have hi : i < xs.length := by rw [hlen]; exact (Array.getElem?_eq_some_iff.1 hfi).1
    exact ⟨xs[i], by rw [← hc]; exact (hf i f hfi).trans (List.getElem?_eq_getElem hi)⟩
set_option maxRecDepth 100000 in
theorem trod_slR {α : Type} [Inhabited α] (R : World → Nat → Nat → α → Prop) (s : Nat) (hs : 0 < s) {t e : TypeId} (hC : Try.prog.cellsOf e = s) (hel : ∀ (fuel : Nat) (cs : List Value) (x : DataW H × List MemPlace), cs.length = s → DataW.trod enc Try.prog w base spare held fuel e cs = some x → ∃ a : α, ∀ b o, (∀ j, j < s → w.cell? ⟨b, o + j, none⟩ = cs[j]?) → R w b o a) (ht : Try.prog.underlying t = some (.slice e)) {fuel : Nat} {cs : List Value} {x : DataW H × List MemPlace} (h : DataW.trod enc Try.prog w base spare held fuel t cs = some x) :
    ∃ (l : List α) (a : Option Addr) (c : Nat), cs = [.slice a l.length c] ∧ SlR w R s (.slice a l.length c) l := by
  rcases Deep.open_slice ht h with ⟨h0, _⟩ | ⟨a, len, cap, m, n, D, Pl, hcs, hb, hl, hm, hmm, _, hi⟩
  · exact ⟨[], none, 0, h0, ⟨none, 0, rfl, Nat.le_refl _, by decide, fun h => by simp at h⟩⟩
  · have hlm : len ≤ m := by rw [hmm]; split <;> omega
    by_cases h00 : len = 0
    · subst h00
      exact ⟨[], some a, cap, by simpa using hcs, some a, cap, rfl, Nat.zero_le _, hm, fun h => by simp at h⟩
    have hsp : ∃ b o, a = ⟨b, o, none⟩ := by
      obtain ⟨cs', hc, _⟩ := hi 0 (by omega)
      rw [hC] at hc
      obtain ⟨_, hlen, hat⟩ := World.cells?_some hc
      have hx := hat 0 hs
      have e1 : (a.add (0 * s)).add 0 = a := by simp [Addr.add]
      rw [e1] at hx
      have hx2 : w.cell? a = some (cs'[0]'(by omega)) := hx.trans (List.getElem?_eq_getElem (by omega))
      obtain ⟨b, o, sp⟩ := a
      unfold World.cell? at hx2
      split at hx2
      · cases sp with
        | none => exact ⟨b, o, rfl⟩
        | some k => simp at hx2
      · cases hx2
    obtain ⟨b, o, rfl⟩ := hsp
    have hall : ∀ i, i < len → ∃ v : α, R w b (o + i * s) v := fun i hlt => by
      obtain ⟨cs', hc, ht'⟩ := hi i (by omega)
      rw [hC] at hc
      obtain ⟨_, hl', hat⟩ := World.cells?_some hc
      obtain ⟨v, hv⟩ := hel _ _ _ hl' ht'
      refine ⟨v, hv _ _ fun j hj => ?_⟩
      have := hat j hj
      rw [Deep.add_add] at this
      have e2 : (⟨b, o, none⟩ : Addr).add (i * s + j) = ⟨b, o + i * s + j, none⟩ := by
        unfold Addr.add
        split
        · rename_i hz; rw [Nat.add_assoc, hz]; rfl
        · simp [Nat.add_assoc]
      rwa [e2] at this
    obtain ⟨g, hg⟩ := Deep.choose_lt hall
    refine ⟨(List.range len).map g, some ⟨b, o, none⟩, cap, by simpa using hcs, some ⟨b, o, none⟩, cap, rfl, by simpa using hl, hm, fun h0 => ⟨b, o, rfl, fun k hk => ?_⟩⟩
    have hk' : k < len := by simpa using hk
    simpa using hg k hk'
set_option maxRecDepth 100000 in
theorem trod_jv3 {fuel : Nat} {cs : List Value} {x : DataW H × List MemPlace} (h : DataW.trod enc Try.prog w base spare held fuel 31 cs = some x) : ∃ v : JV, cs = JV.c v := by
  obtain ⟨xs, n, _, _, hl, hlen, hf⟩ := DataW.trod_struct Try.underlying31 h
  have hl3 : cs.length = 3 := hl.trans cellsOf31
  match cs, hl3 with
  | [c0, c1, c2], _ =>
    obtain ⟨y0, h0⟩ := trod_field hlen hf 0 3 0 1 rfl cellsOf3
    obtain ⟨y1, h1⟩ := trod_field hlen hf 1 3 1 1 rfl cellsOf3
    obtain ⟨y2, h2⟩ := trod_field hlen hf 2 9 2 1 rfl cellsOf9
    simp only [List.drop, List.take] at h0 h1 h2
    obtain ⟨a0, e0, _⟩ := DataW.trod_int Try.underlying3 h0
    obtain ⟨a1, e1, _⟩ := DataW.trod_int Try.underlying3 h1
    obtain ⟨a2, e2, _⟩ := DataW.trod_string Try.underlying9 h2
    simp only [List.cons.injEq, and_true] at e0 e1 e2
    subst e0 e1 e2
    exact ⟨⟨a0, a1, a2⟩, rfl⟩
set_option maxRecDepth 100000 in
theorem trod_jv (fuel : Nat) (cs : List Value) (x : DataW H × List MemPlace) (_ : cs.length = 3) (h : DataW.trod enc Try.prog w base spare held fuel 31 cs = some x) : ∃ a : JV, ∀ b o, (∀ j, j < 3 → w.cell? ⟨b, o + j, none⟩ = cs[j]?) → JvAt w b o a := by
  obtain ⟨v, rfl⟩ := trod_jv3 h
  exact ⟨v, fun b o hc => ⟨hc 0 (by decide), hc 1 (by decide), hc 2 (by decide)⟩⟩
set_option maxRecDepth 100000 in
theorem trod_str (fuel : Nat) (cs : List Value) (x : DataW H × List MemPlace) (_ : cs.length = 1) (h : DataW.trod enc Try.prog w base spare held fuel 9 cs = some x) : ∃ a : ByteArray, ∀ b o, (∀ j, j < 1 → w.cell? ⟨b, o + j, none⟩ = cs[j]?) → StrAt w b o a := by
  obtain ⟨a0, e0, _⟩ := DataW.trod_string Try.underlying9 h
  subst e0
  exact ⟨a0, fun b o hc => hc 0 (by decide)⟩
set_option maxRecDepth 100000 in
theorem trod_cl (fuel : Nat) (cs : List Value) (x : DataW H × List MemPlace) (hl3 : cs.length = 3) (h : DataW.trod enc Try.prog w base spare held fuel 46 cs = some x) : ∃ a : Cl, ∀ b o, (∀ j, j < 3 → w.cell? ⟨b, o + j, none⟩ = cs[j]?) → ClAt w b o a := by
  obtain ⟨xs, n, _, _, hl, hlen, hf⟩ := DataW.trod_struct Try.underlying46 h
  match cs, hl3 with
  | [c0, c1, c2], _ =>
    obtain ⟨y0, h0⟩ := trod_field hlen hf 0 3 0 1 rfl cellsOf3
    obtain ⟨y1, h1⟩ := trod_field hlen hf 1 44 1 1 rfl cellsOf44
    obtain ⟨y2, h2⟩ := trod_field hlen hf 2 23 2 1 rfl cellsOf23
    simp only [List.drop, List.take] at h0 h1 h2
    obtain ⟨a0, e0, _⟩ := DataW.trod_int Try.underlying3 h0
    obtain ⟨ns, na, nc, e1, l1⟩ := trod_slR StrAt 1 (by decide) cellsOf9 trod_str Try.underlying44 h1
    obtain ⟨vs, va, vc, e2, l2⟩ := trod_slR JvAt 3 (by decide) cellsOf31 trod_jv Try.underlying23 h2
    simp only [List.cons.injEq, and_true] at e0 e1 e2
    subst e0 e1 e2
    exact ⟨⟨a0, ns, vs⟩, fun b o hc => ⟨na, nc, va, vc, hc 0 (by decide), hc 1 (by decide), hc 2 (by decide), l1, l2⟩⟩
set_option maxRecDepth 100000 in
theorem open_heap {v : Value} {d : DataW H} {p : List MemPlace} {r : Reach} {b0 : Nat} (hv : Value.okWide Try.prog w r b0 22 v) (h : DataW.Trod enc Try.prog w base spare held 22 v d p) :
    ∃ (a : Option Addr) (c : Nat) (l : List Cl), v = .slice a l.length c ∧ HeapAt w (.slice a l.length c) l := by
  obtain ⟨a, len, cap, rfl⟩ := okWide_slice Try.underlying22 hv
  obtain ⟨fuel, hf0⟩ := h
  obtain ⟨ls, a', c, e, hs⟩ := trod_slR ClAt 3 (by decide) cellsOf46 trod_cl Try.underlying22 hf0
  simp only [Value.cells, List.cons.injEq, and_true] at e
  exact ⟨a', c, ls, e, hs⟩
set_option maxRecDepth 100000 in
theorem open_roots {v : Value} {d : DataW H} {p : List MemPlace} {r : Reach} {b0 : Nat} (hv : Value.okWide Try.prog w r b0 23 v) (h : DataW.Trod enc Try.prog w base spare held 23 v d p) :
    ∃ (a : Option Addr) (c : Nat) (l : List JV), v = .slice a l.length c ∧ SlR w JvAt 3 (.slice a l.length c) l := by
  obtain ⟨a, len, cap, rfl⟩ := okWide_slice Try.underlying23 hv
  obtain ⟨fuel, hf0⟩ := h
  obtain ⟨ls, a', c, e, hs⟩ := trod_slR JvAt 3 (by decide) cellsOf31 trod_jv Try.underlying23 hf0
  simp only [Value.cells, List.cons.injEq, and_true] at e
  exact ⟨a', c, ls, e, hs⟩
set_option maxRecDepth 100000 in
theorem open_jv {v : Value} {d : DataW H} {p : List MemPlace} {r : Reach} {b0 : Nat} (hv : Value.okWide Try.prog w r b0 31 v) (h : DataW.Trod enc Try.prog w base spare held 31 v d p) :
    ∃ x : JV, v = JV.v x := by
  obtain ⟨cs, rfl, hsz⟩ := okWide_struct Try.underlying31 hv
  obtain ⟨l⟩ := cs
  obtain ⟨fuel, hf0⟩ := h
  obtain ⟨x, hx⟩ := trod_jv3 hf0
  simp only [Value.cells] at hx
  subst hx
  exact ⟨x, rfl⟩
set_option maxRecDepth 100000 in
theorem roots_datum {a : Option Addr} {n c : Nat} {d : DataW H} {p : List MemPlace} (h : DataW.Trod enc Try.prog w base spare held 23 (.slice a n c) d p) : n = 0 ∨ ∃ elems rest, d = .slice elems rest ∧ elems.length = n := by
  obtain ⟨fuel, hf0⟩ := h
  rcases Deep.open_slice Try.underlying23 hf0 with ⟨h0, _⟩ | ⟨a, len, cap, m, n', D, Pl, hcs, hb, hl, hm, hmm, hx, hi⟩
  · left
    simp only [Value.cells, List.cons.injEq, and_true] at h0
    injection h0
  · right
    simp only [Value.cells, List.cons.injEq, and_true] at hcs
    injection hcs with _ hcs _
    subst hcs
    injection hx with hx _
    exact ⟨_, _, hx, by simp⟩
end
end Go.Proofs.Ytcnplnnpiobikaa
