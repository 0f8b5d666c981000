/- The rows' parts: an argument's reading gives a trail. -/
import Derived.Test.YtjcejijdeohkgaaGreatDoorT3
import Derived.Test.YtjcejijdeohkgaaGreatDoorF
import Derived.Deep.Slices
namespace Go.Proofs.YtjcejijdeohkgaaGreatDoor
open Go.ChangeShapes Go.WideShapes Go.ChangeAt Go.RowKit

theorem cellsOf3 : Tryz.prog.cellsOf 3 = 1 := by kernel_rfl
theorem cellsOf9 : Tryz.prog.cellsOf 9 = 1 := by kernel_rfl
theorem cellsOf58 : Tryz.prog.cellsOf 58 = 1 := by kernel_rfl
theorem cellsOf60 : Tryz.prog.cellsOf 60 = 2 := by kernel_rfl
theorem cellsOf67 : Tryz.prog.cellsOf 67 = 3 := by kernel_rfl
section
variable {H : Type} {enc : TypeId × Value → H} {w : World} {base : Nat} {spare : Nat → Bool} {held : Bool}
set_option maxRecDepth 100000 in
theorem trod_field {fs : Array Field} {xs : List (DataW H × List MemPlace)} {n : Nat} {cs : List Value} (hlen : xs.length = fs.size) (hf : ∀ (i : Nat) (f : Field), fs[i]? = some f → DataW.trod enc Tryz.prog w base spare held n f.type ((cs.drop f.offset).take (Tryz.prog.cellsOf f.type)) = xs[i]?) (i ty off c : Nat) (h : (fs[i]?).map (fun f => (f.type, f.offset)) = some (ty, off)) (hc : Tryz.prog.cellsOf ty = c) :
    ∃ y, DataW.trod enc Tryz.prog w base spare held n ty ((cs.drop off).take c) = some y := by
  cases hfi : fs[i]? with
  | none => rw [hfi] at h; cases h
  | some f =>
    rw [hfi] at h
    simp only [Option.map_some, Option.some.injEq, Prod.mk.injEq] at h
    obtain ⟨rfl, rfl⟩ := h
    have hi : i < xs.length := by rw [hlen]; exact (Array.getElem?_eq_some_iff.1 hfi).1
    exact ⟨xs[i], by rw [← hc]; exact (hf i f hfi).trans (List.getElem?_eq_getElem hi)⟩
set_option maxRecDepth 100000 in
theorem trod_slR {α : Type} [Inhabited α] (R : World → Nat → Nat → α → Prop) (s : Nat) (hs : 0 < s) {t e : TypeId} (hC : Tryz.prog.cellsOf e = s) (hel : ∀ (fuel : Nat) (cs : List Value) (x : DataW H × List MemPlace), cs.length = s → DataW.trod enc Tryz.prog w base spare held fuel e cs = some x → ∃ a : α, ∀ b o, (∀ j, j < s → w.cell? ⟨b, o + j, none⟩ = cs[j]?) → R w b o a) (ht : Tryz.prog.underlying t = some (.slice e)) {fuel : Nat} {cs : List Value} {x : DataW H × List MemPlace} (h : DataW.trod enc Tryz.prog w base spare held fuel t cs = some x) :
    ∃ (l : List α) (a : Option Addr) (c : Nat), cs = [.slice a l.length c] ∧ SlR w R s (.slice a l.length c) l := by
  rcases Deep.open_slice ht h with ⟨h0, _⟩ | ⟨a, len, cap, m, n, D, Pl, hcs, hb, hl, hm, hmm, _, hi⟩
  · exact ⟨[], none, 0, h0, ⟨none, 0, rfl, Nat.le_refl _, by decide, fun h => by simp at h⟩⟩
  · have hlm : len ≤ m := by rw [hmm]; split <;> omega
    by_cases h00 : len = 0
    · subst h00
      exact ⟨[], some a, cap, by simpa using hcs, some a, cap, rfl, Nat.zero_le _, hm, fun h => by simp at h⟩
    have hsp : ∃ b o, a = ⟨b, o, none⟩ := by
      obtain ⟨cs', hc, _⟩ := hi 0 (by omega)
      rw [hC] at hc
      obtain ⟨_, hlen, hat⟩ := World.cells?_some hc
      have hx := hat 0 hs
      have e1 : (a.add (0 * s)).add 0 = a := by simp [Addr.add]
      rw [e1] at hx
      have hx2 : w.cell? a = some (cs'[0]'(by omega)) := hx.trans (List.getElem?_eq_getElem (by omega))
      obtain ⟨b, o, sp⟩ := a
      unfold World.cell? at hx2
      split at hx2
      · cases sp with
        | none => exact ⟨b, o, rfl⟩
        | some k => simp at hx2
      · cases hx2
    obtain ⟨b, o, rfl⟩ := hsp
    have hall : ∀ i, i < len → ∃ v : α, R w b (o + i * s) v := fun i hlt => by
      obtain ⟨cs', hc, ht'⟩ := hi i (by omega)
      rw [hC] at hc
      obtain ⟨_, hl', hat⟩ := World.cells?_some hc
      obtain ⟨v, hv⟩ := hel _ _ _ hl' ht'
      refine ⟨v, hv _ _ fun j hj => ?_⟩
      have := hat j hj
      rw [Deep.add_add] at this
      have e2 : (⟨b, o, none⟩ : Addr).add (i * s + j) = ⟨b, o + i * s + j, none⟩ := by
        unfold Addr.add
        split
        · rename_i hz; rw [Nat.add_assoc, hz]; rfl
        · simp [Nat.add_assoc]
      rwa [e2] at this
    obtain ⟨g, hg⟩ := Deep.choose_lt hall
    refine ⟨(List.range len).map g, some ⟨b, o, none⟩, cap, by simpa using hcs, some ⟨b, o, none⟩, cap, rfl, by simpa using hl, hm, fun h0 => ⟨b, o, rfl, fun k hk => ?_⟩⟩
    have hk' : k < len := by simpa using hk
    simpa using hg k hk'
set_option maxRecDepth 100000 in
theorem trod_en (fuel : Nat) (cs : List Value) (x : DataW H × List MemPlace) (hl3 : cs.length = 3) (h : DataW.trod enc Tryz.prog w base spare held fuel 67 cs = some x) : ∃ a : En, ∀ b o, (∀ j, j < 3 → w.cell? ⟨b, o + j, none⟩ = cs[j]?) → EnB w b o a := by
  obtain ⟨xs, n, _, _, hl, hlen, hf⟩ := DataW.trod_struct Tryz.underlying67 h
  match cs, hl3 with
  | [c0, c1, c2], _ =>
    obtain ⟨y0, h0⟩ := trod_field hlen hf 0 9 0 1 rfl cellsOf9
    obtain ⟨y1, h1⟩ := trod_field hlen hf 1 9 1 1 rfl cellsOf9
    obtain ⟨y2, h2⟩ := trod_field hlen hf 2 3 2 1 rfl cellsOf3
    simp only [List.drop, List.take] at h0 h1 h2
    obtain ⟨a0, e0, _⟩ := DataW.trod_string Tryz.underlying9 h0
    obtain ⟨a1, e1, _⟩ := DataW.trod_string Tryz.underlying9 h1
    obtain ⟨a2, e2, _⟩ := DataW.trod_int Tryz.underlying3 h2
    simp only [List.cons.injEq, and_true] at e0 e1 e2
    subst e0 e1 e2
    refine ⟨⟨a0.data.toList, a1.data.toList, a2⟩, fun b o hc => ⟨?_, ?_, hc 2 (by decide)⟩⟩
    · show w.cell? ⟨b, o, none⟩ = some (.string (bs a0.data.toList))
      rw [bs_of]
      exact hc 0 (by decide)
    · show w.cell? ⟨b, o + 1, none⟩ = some (.string (bs a1.data.toList))
      rw [bs_of]
      exact hc 1 (by decide)
set_option maxRecDepth 100000 in
theorem open_trail {v : Value} {d : DataW H} {p : List MemPlace} {r : Reach} {b0 : Nat} (hv : Value.okWide Tryz.prog w r b0 60 v) (h : DataW.Trod enc Tryz.prog w base spare held 60 v d p) :
    ∃ (t : Tr) (a : Option Addr) (c : Nat), v = .agg #[.slice a t.l.length c, .int .i64 t.pos] ∧ SlR w EnB 3 (.slice a t.l.length c) t.l := by
  obtain ⟨cs, rfl, hsz⟩ := okWide_struct Tryz.underlying60 hv
  obtain ⟨l⟩ := cs
  have hsz2 : l.length = 2 := hsz.trans cellsOf60
  match l, hsz2 with
  | [c0, c1], _ =>
    obtain ⟨fuel, hf0⟩ := h
    obtain ⟨xs, n, _, _, hl, hlen, hf⟩ := DataW.trod_struct Tryz.underlying60 hf0
    obtain ⟨y0, h0⟩ := trod_field hlen hf 0 58 0 1 rfl cellsOf58
    obtain ⟨y1, h1⟩ := trod_field hlen hf 1 3 1 1 rfl cellsOf3
    simp only [Value.cells, List.drop, List.take] at h0 h1
    obtain ⟨es, a, c, e0, l0⟩ := trod_slR EnB 3 (by decide) cellsOf67 trod_en Tryz.underlying58 h0
    obtain ⟨q, e1, _⟩ := DataW.trod_int Tryz.underlying3 h1
    simp only [List.cons.injEq, and_true] at e0 e1
    subst e0 e1
    exact ⟨⟨es, q⟩, a, c, rfl, l0⟩
end
end Go.Proofs.YtjcejijdeohkgaaGreatDoor
