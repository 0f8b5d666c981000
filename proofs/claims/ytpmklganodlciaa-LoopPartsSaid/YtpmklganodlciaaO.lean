/- The rows' parts: an argument's reading gives a loop, an ask, a slice of asks. -/
import Derived.Test.YtpmklganodlciaaTE
import Derived.ProofKit
import Derived.Deep.Slices
namespace Go.Proofs.Ytpmklganodlciaa
open Go.ChangeShapes Go.WideShapes Go.ChangeAt Go.RowKit

theorem Try.own : ownKnob Try.prog.godebug = none := by kernel_rfl
theorem Try.laidOut : laidOutB Try.prog = true := by kernel_rfl
theorem cellsOf3 : Try.prog.cellsOf 3 = 1 := by kernel_rfl
theorem cellsOf4 : Try.prog.cellsOf 4 = 1 := by kernel_rfl
theorem cellsOf9 : Try.prog.cellsOf 9 = 1 := by kernel_rfl
theorem cellsOf33 : Try.prog.cellsOf 33 = 3 := by kernel_rfl
theorem cellsOf39 : Try.prog.cellsOf 39 = 7 := by kernel_rfl
theorem cellsOf49 : Try.prog.cellsOf 49 = 5 := by kernel_rfl
theorem cellsOf35 : Try.prog.cellsOf 35 = 7 := by kernel_rfl
theorem cellsOf26 : Try.prog.cellsOf 26 = 5 := by kernel_rfl
theorem cellsOf23 : Try.prog.cellsOf 23 = 1 := by kernel_rfl
theorem cellsOf24 : Try.prog.cellsOf 24 = 1 := by kernel_rfl
instance : Inhabited Job := ⟨⟨0, 0, false, ⟨#[]⟩, 0, 0, ⟨#[]⟩⟩⟩
instance : Inhabited Tim := ⟨⟨0, 0, 0, 0, ⟨#[]⟩⟩⟩
instance : Inhabited Qst := ⟨⟨0, 0, 0, ⟨#[]⟩, 0, 0, ⟨#[]⟩⟩⟩
section
variable {H : Type} {enc : TypeId × Value → H} {w : World} {base : Nat} {spare : Nat → Bool} {held : Bool}
theorem trod_field {fs : Array Field} {xs : List (DataW H × List MemPlace)} {n : Nat} {cs : List Value} (hlen : xs.length = fs.size) (hf : ∀ (i : Nat) (f : Field), fs[i]? = some f → DataW.trod enc Try.prog w base spare held n f.type ((cs.drop f.offset).take (Try.prog.cellsOf f.type)) = xs[i]?) (i ty off c : Nat) (h : (fs[i]?).map (fun f => (f.type, f.offset)) = some (ty, off)) (hc : Try.prog.cellsOf ty = c) :
    ∃ y, DataW.trod enc Try.prog w base spare held n ty ((cs.drop off).take c) = some y := by
  cases hfi : fs[i]? with
  | none => rw [hfi] at h; cases h
  | some f =>
    rw [hfi] at h
    simp only [Option.map_some, Option.some.injEq, Prod.mk.injEq] at h
    obtain ⟨rfl, rfl⟩ := h
    have hi : i < xs.length := by rw [hlen]; exact (Array.getElem?_eq_some_iff.1 hfi).1
    exact ⟨xs[i], by rw [← hc]; exact (hf i f hfi).trans (List.getElem?_eq_getElem hi)⟩
theorem trod_jval {fuel : Nat} {cs : List Value} {x : DataW H × List MemPlace} (h : DataW.trod enc Try.prog w base spare held fuel 33 cs = some x) : ∃ (k n : Int) (s : ByteArray), cs = [.int .i64 k, .int .i64 n, .string s] := by
  obtain ⟨xs, n, _, _, hl, hlen, hf⟩ := DataW.trod_struct Try.underlying33 h
  have hl3 : cs.length = 3 := hl.trans cellsOf33
  match cs, hl3 with
  | [c0, c1, c2], _ =>
    obtain ⟨y0, h0⟩ := trod_field hlen hf 0 3 0 1 rfl cellsOf3
    obtain ⟨y1, h1⟩ := trod_field hlen hf 1 3 1 1 rfl cellsOf3
    obtain ⟨y2, h2⟩ := trod_field hlen hf 2 9 2 1 rfl cellsOf9
    simp only [List.drop, List.take] at h0 h1 h2
    obtain ⟨a0, e0, _⟩ := DataW.trod_int Try.underlying3 h0
    obtain ⟨a1, e1, _⟩ := DataW.trod_int Try.underlying3 h1
    obtain ⟨a2, e2, _⟩ := DataW.trod_string Try.underlying9 h2
    simp only [List.cons.injEq, and_true] at e0 e1 e2
    subst e0 e1 e2
    exact ⟨_, _, _, rfl⟩
theorem trod_job (fuel : Nat) (cs : List Value) (x : DataW H × List MemPlace) (h : DataW.trod enc Try.prog w base spare held fuel 39 cs = some x) : ∃ j : Job, cs = Job.c j := by
  obtain ⟨xs, n, _, _, hl, hlen, hf⟩ := DataW.trod_struct Try.underlying39 h
  have hl3 : cs.length = 7 := hl.trans cellsOf39
  match cs, hl3 with
  | [c0, c1, c2, c3, c4, c5, c6], _ =>
    obtain ⟨y0, h0⟩ := trod_field hlen hf 0 3 0 1 rfl cellsOf3
    obtain ⟨y1, h1⟩ := trod_field hlen hf 1 3 1 1 rfl cellsOf3
    obtain ⟨y2, h2⟩ := trod_field hlen hf 2 4 2 1 rfl cellsOf4
    obtain ⟨y3, h3⟩ := trod_field hlen hf 3 9 3 1 rfl cellsOf9
    obtain ⟨y4, h4⟩ := trod_field hlen hf 4 33 4 3 rfl cellsOf33
    simp only [List.drop, List.take] at h0 h1 h2 h3 h4
    obtain ⟨a0, e0, _⟩ := DataW.trod_int Try.underlying3 h0
    obtain ⟨a1, e1, _⟩ := DataW.trod_int Try.underlying3 h1
    obtain ⟨a2, e2, _⟩ := DataW.trod_bool Try.underlying4 h2
    obtain ⟨a3, e3, _⟩ := DataW.trod_string Try.underlying9 h3
    obtain ⟨k, m, s, e4⟩ := trod_jval h4
    simp only [List.cons.injEq, and_true] at e0 e1 e2 e3 e4
    obtain ⟨e4, e5, e6⟩ := e4
    subst e0 e1 e2 e3 e4 e5 e6
    exact ⟨⟨_, _, _, _, _, _, _⟩, rfl⟩
theorem trod_tim (fuel : Nat) (cs : List Value) (x : DataW H × List MemPlace) (h : DataW.trod enc Try.prog w base spare held fuel 49 cs = some x) : ∃ j : Tim, cs = Tim.c j := by
  obtain ⟨xs, n, _, _, hl, hlen, hf⟩ := DataW.trod_struct Try.underlying49 h
  have hl3 : cs.length = 5 := hl.trans cellsOf49
  match cs, hl3 with
  | [c0, c1, c2, c3, c4], _ =>
    obtain ⟨y0, h0⟩ := trod_field hlen hf 0 3 0 1 rfl cellsOf3
    obtain ⟨y1, h1⟩ := trod_field hlen hf 1 3 1 1 rfl cellsOf3
    obtain ⟨y2, h2⟩ := trod_field hlen hf 2 3 2 1 rfl cellsOf3
    obtain ⟨y3, h3⟩ := trod_field hlen hf 3 3 3 1 rfl cellsOf3
    obtain ⟨y4, h4⟩ := trod_field hlen hf 4 9 4 1 rfl cellsOf9
    simp only [List.drop, List.take] at h0 h1 h2 h3 h4
    obtain ⟨a0, e0, _⟩ := DataW.trod_int Try.underlying3 h0
    obtain ⟨a1, e1, _⟩ := DataW.trod_int Try.underlying3 h1
    obtain ⟨a2, e2, _⟩ := DataW.trod_int Try.underlying3 h2
    obtain ⟨a3, e3, _⟩ := DataW.trod_int Try.underlying3 h3
    obtain ⟨a4, e4, _⟩ := DataW.trod_string Try.underlying9 h4
    simp only [List.cons.injEq, and_true] at e0 e1 e2 e3 e4
    subst e0 e1 e2 e3 e4
    exact ⟨⟨_, _, _, _, _⟩, rfl⟩
theorem trod_qst (fuel : Nat) (cs : List Value) (x : DataW H × List MemPlace) (h : DataW.trod enc Try.prog w base spare held fuel 35 cs = some x) : ∃ j : Qst, cs = Qst.c j := by
  obtain ⟨xs, n, _, _, hl, hlen, hf⟩ := DataW.trod_struct Try.underlying35 h
  have hl3 : cs.length = 7 := hl.trans cellsOf35
  match cs, hl3 with
  | [c0, c1, c2, c3, c4, c5, c6], _ =>
    obtain ⟨y0, h0⟩ := trod_field hlen hf 0 3 0 1 rfl cellsOf3
    obtain ⟨y1, h1⟩ := trod_field hlen hf 1 3 1 1 rfl cellsOf3
    obtain ⟨y2, h2⟩ := trod_field hlen hf 2 3 2 1 rfl cellsOf3
    obtain ⟨y3, h3⟩ := trod_field hlen hf 3 9 3 1 rfl cellsOf9
    obtain ⟨y4, h4⟩ := trod_field hlen hf 4 33 4 3 rfl cellsOf33
    simp only [List.drop, List.take] at h0 h1 h2 h3 h4
    obtain ⟨a0, e0, _⟩ := DataW.trod_int Try.underlying3 h0
    obtain ⟨a1, e1, _⟩ := DataW.trod_int Try.underlying3 h1
    obtain ⟨a2, e2, _⟩ := DataW.trod_int Try.underlying3 h2
    obtain ⟨a3, e3, _⟩ := DataW.trod_string Try.underlying9 h3
    obtain ⟨k, m, s, e4⟩ := trod_jval h4
    simp only [List.cons.injEq, and_true] at e0 e1 e2 e3 e4
    obtain ⟨e4, e5, e6⟩ := e4
    subst e0 e1 e2 e3 e4 e5 e6
    exact ⟨⟨_, _, _, _, _, _, _⟩, rfl⟩
theorem trod_sl {α : Type} [Inhabited α] (f : α → List Value) (s : Nat) (hs : 0 < s) {t e : TypeId} (hC : Try.prog.cellsOf e = s) (hel : ∀ (fuel : Nat) (cs : List Value) (x : DataW H × List MemPlace), DataW.trod enc Try.prog w base spare held fuel e cs = some x → ∃ a : α, cs = f a) (ht : Try.prog.underlying t = some (.slice e)) {fuel : Nat} {cs : List Value} {x : DataW H × List MemPlace} (h : DataW.trod enc Try.prog w base spare held fuel t cs = some x) :
    ∃ (l : List α) (a : Option Addr) (c : Nat), cs = [.slice a l.length c] ∧ Sl w f s (.slice a l.length c) l := by
  rcases Deep.open_slice ht h with ⟨h0, _⟩ | ⟨a, len, cap, m, n, D, Pl, hcs, hb, hl, hm, hmm, _, hi⟩
  · exact ⟨[], none, 0, h0, ⟨none, 0, rfl, Nat.le_refl _, by decide, fun h => by simp at h⟩⟩
  · have hlm : len ≤ m := by rw [hmm]; split <;> omega
    have hall : ∀ i, i < len → ∃ v : α, ∀ j, j < s → w.cell? ((a.add (i * s)).add j) = (f v)[j]? := fun i hlt => by
      obtain ⟨cs', hc, ht'⟩ := hi i (by omega)
      rw [hC] at hc
      obtain ⟨v, hv⟩ := hel _ _ _ ht'
      obtain ⟨_, _, hat⟩ := World.cells?_some hc
      exact ⟨v, fun j hj => by rw [← hv]; exact hat j hj⟩
    obtain ⟨g, hg⟩ := Deep.choose_lt hall
    refine ⟨(List.range len).map g, some a, cap, by simpa using hcs, some a, cap, rfl, by simpa using hl, hm, fun h0 => ?_⟩
    have h0' : 0 < len := by simpa using h0
    have hc0 := hi 0 (by omega)
    obtain ⟨cs', hc, _⟩ := hc0
    rw [hC] at hc
    obtain ⟨_, hlen, hat⟩ := World.cells?_some hc
    have hx := hat 0 hs
    have e1 : (a.add (0 * s)).add 0 = a := by simp [Addr.add]
    rw [e1] at hx
    have hx2 : w.cell? a = some (cs'[0]'(by omega)) := hx.trans (List.getElem?_eq_getElem (by omega))
    obtain ⟨b, o, sp⟩ := a
    have hsp : sp = none ∧ b < w.heap.size := by
      unfold World.cell? at hx2
      split at hx2
      · rename_i hh
        refine ⟨?_, lt_of_heap hh⟩
        cases sp with
        | none => rfl
        | some k => simp at hx2
      · cases hx2
    obtain ⟨rfl, hlt⟩ := hsp
    refine ⟨b, o, rfl, hlt, fun k hk i hi2 => ?_⟩
    have hk' : k < len := by simpa using hk
    have := hg k hk' i hi2
    rw [Deep.add_add] at this
    have e2 : (⟨b, o, none⟩ : Addr).add (k * s + i) = ⟨b, o + k * s + i, none⟩ := by
      unfold Addr.add
      split
      · rename_i hz; rw [Nat.add_assoc, hz]; rfl
      · simp [Nat.add_assoc]
    rw [e2] at this
    rw [this]
    simp
theorem open_loop {v : Value} {d : DataW H} {p : List MemPlace} {r : Reach} {b0 : Nat} (hv : Value.okWide Try.prog w r b0 26 v) (h : DataW.Trod enc Try.prog w base spare held 26 v d p) :
    ∃ (now next : Int) (ts ss : List Job) (ms : List Tim) (ta sa ma : Option Addr) (tc sc mc : Nat), v = .agg #[.int .i64 now, .int .i64 next, .slice ta ts.length tc, .slice sa ss.length sc, .slice ma ms.length mc] ∧ LpAt w ⟨now, next, ts, ss, ms⟩ (.slice ta ts.length tc) (.slice sa ss.length sc) (.slice ma ms.length mc) := by
  obtain ⟨cs, rfl, hsz⟩ := okWide_struct Try.underlying26 hv
  obtain ⟨l⟩ := cs
  have hsz5 : l.length = 5 := hsz.trans cellsOf26
  match l, hsz5 with
  | [c0, c1, c2, c3, c4], _ =>
    obtain ⟨fuel, hf0⟩ := h
    obtain ⟨xs, n, _, _, hl, hlen, hf⟩ := DataW.trod_struct Try.underlying26 hf0
    obtain ⟨y0, h0⟩ := trod_field hlen hf 0 3 0 1 rfl cellsOf3
    obtain ⟨y1, h1⟩ := trod_field hlen hf 1 3 1 1 rfl cellsOf3
    obtain ⟨y2, h2⟩ := trod_field hlen hf 2 23 2 1 rfl cellsOf23
    obtain ⟨y3, h3⟩ := trod_field hlen hf 3 23 3 1 rfl cellsOf23
    obtain ⟨y4, h4⟩ := trod_field hlen hf 4 24 4 1 rfl cellsOf24
    simp only [Value.cells, List.drop, List.take] at h0 h1 h2 h3 h4
    obtain ⟨a0, e0, _⟩ := DataW.trod_int Try.underlying3 h0
    obtain ⟨a1, e1, _⟩ := DataW.trod_int Try.underlying3 h1
    obtain ⟨ts, ta, tc, e2, l2⟩ := trod_sl Job.c 7 (by decide) cellsOf39 trod_job Try.underlying23 h2
    obtain ⟨ss, sa, sc, e3, l3⟩ := trod_sl Job.c 7 (by decide) cellsOf39 trod_job Try.underlying23 h3
    obtain ⟨ms, ma, mc, e4, l4⟩ := trod_sl Tim.c 5 (by decide) cellsOf49 trod_tim Try.underlying24 h4
    simp only [List.cons.injEq, and_true] at e0 e1 e2 e3 e4
    subst e0 e1 e2 e3 e4
    exact ⟨_, _, _, _, _, _, _, _, _, _, _, rfl, ⟨l2, l3, l4⟩⟩
theorem open_qst {v : Value} {d : DataW H} {p : List MemPlace} {r : Reach} {b0 : Nat} (hv : Value.okWide Try.prog w r b0 35 v) (h : DataW.Trod enc Try.prog w base spare held 35 v d p) :
    ∃ a : Qst, v = .agg #[.int .i64 a.do_, .int .i64 a.src, .int .i64 a.n, .string a.call, .int .i64 a.ak, .int .i64 a.an, .string a.as_] := by
  obtain ⟨cs, rfl, hsz⟩ := okWide_struct Try.underlying35 hv
  obtain ⟨fuel, hf0⟩ := h
  obtain ⟨j, hj⟩ := trod_qst _ _ _ hf0
  refine ⟨j, ?_⟩
  obtain ⟨l⟩ := cs
  simp only [Value.cells] at hj
  subst hj
  rfl
theorem open_asks {v : Value} {d : DataW H} {p : List MemPlace} {r : Reach} {b0 : Nat} (hv : Value.okWide Try.prog w r b0 22 v) (h : DataW.Trod enc Try.prog w base spare held 22 v d p) :
    ∃ (l : List Qst) (a : Option Addr) (c : Nat), v = .slice a l.length c ∧ Sl w Qst.c 7 (.slice a l.length c) l := by
  obtain ⟨a, len, cap, rfl⟩ := okWide_slice Try.underlying22 hv
  obtain ⟨fuel, hf0⟩ := h
  obtain ⟨l, a', c, e, hs⟩ := trod_sl Qst.c 7 (by decide) cellsOf35 trod_qst Try.underlying22 hf0
  simp only [Value.cells, List.cons.injEq, and_true] at e
  exact ⟨l, a', c, e, hs⟩
end
end Go.Proofs.Ytpmklganodlciaa
