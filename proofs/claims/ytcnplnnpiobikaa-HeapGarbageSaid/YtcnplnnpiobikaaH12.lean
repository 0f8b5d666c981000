/- The contract of heap.Move. -/
import Derived.Test.YtcnplnnpiobikaaH11
namespace Go.Proofs.Ytcnplnnpiobikaa
open Go.RowKit

def cellAt (h : List Cl) (n : Int) : Cl := (h[n.toNat]?).getD ⟨0, [], []⟩
def movedC (h : List Cl) (tl : List Int) (n : Int) : Cl := ⟨(cellAt h n).kind, (cellAt h n).names, (cellAt h n).vals.map (movedV tl)⟩
structure MoveR where
  err : Int
  cells : List Cl
  roots : List JV
def moveV (h : List Cl) (roots : List JV) : MoveR :=
  if askErr h roots = 0 then ⟨0, (walkF h roots).map (movedC h (toOf h.length (walkF h roots))), roots.map (movedV (toOf h.length (walkF h roots)))⟩ else ⟨askErr h roots, [], []⟩
/-- A cell of the new heap, as its three values. -/
structure Tr where
  kind : Int
  nv : Value
  vv : Value
def Tr.c (t : Tr) : List Value := [.int .i64 t.kind, t.nv, t.vv]
theorem Tr.len (t : Tr) : (Tr.c t).length = 3 := rfl
def zCl : Value := .agg #[.int .i64 0, .slice none 0 0, .slice none 0 0]
theorem cl_info : (Try.prog.info? 46).map (fun i => (i.zero, i.size, i.bytes)) = some (some zCl, 3, 56) := by kernel_rfl
/-- What a new cell's rows are. -/
structure TrAt (w0 wr : World) (ov : Value) (t : Tr) (x : Cl) : Prop where
  kind : t.kind = x.kind
  n : wr.ownsRow w0.heap.size 9 1 t.nv x.names.length (x.names.flatMap sC)
  v : wr.ownsRow w0.heap.size 31 3 t.vv x.vals.length (x.vals.flatMap JV.c)
  dn : ∀ g, ov.ownBlock = some g → t.nv.ownBlock ≠ some g
  dv : ∀ g, ov.ownBlock = some g → t.vv.ownBlock ≠ some g
/-- The new heap while it is made. -/
structure MO (w0 wr : World) (ov : Value) (items : List Cl) : Prop where
  bl : Below w0.heap.size w0 wr
  ex : ∃ ts : List Tr, ts.length = items.length ∧ wr.ownsRow w0.heap.size 46 3 ov ts.length (ts.flatMap Tr.c) ∧ ∀ p ∈ ts.zip items, TrAt w0 wr ov p.1 p.2
theorem MO.start (w0 : World) : MO w0 w0 (.slice none 0 0) [] := ⟨Below.refl _ _, [], rfl, World.ownsRow_nil _ _ _ _, fun p hp => by cases hp⟩
theorem MO.call {w0 wr w' : World} {ov : Value} {items : List Cl} (h : MO w0 wr ov items) (hb : Below wr.heap.size wr w') : MO w0 w' ov items := by
  obtain ⟨ts, h1, h2, h3⟩ := h.ex
  exact ⟨h.bl.trans (Below.le hb h.bl.size), ts, h1, own_below h2 hb (Nat.le_refl _), fun p hp => ⟨(h3 p hp).kind, own_below (h3 p hp).n hb (Nat.le_refl _), own_below (h3 p hp).v hb (Nat.le_refl _), (h3 p hp).dn, (h3 p hp).dv⟩⟩
/-- A store into a block of the call's own that is none of these. -/
theorem MO.far {w0 wr w' : World} {ov : Value} {items : List Cl} {b : Nat} (h : MO w0 wr ov items) (hg : wr.grownBy w' (some b)) (hb : w0.heap.size ≤ b) (ho : ov.ownBlock ≠ some b) (hr : ∀ x, wr.heap[b]? = some x → ∀ (e s n : Nat) (v : Value) (xs : List Value), wr.ownsRow w0.heap.size e s v n xs → (e = 9 ∨ e = 31) → v.ownBlock ≠ some b) (hx : b < wr.heap.size) : MO w0 w' ov items := by
  obtain ⟨ts, h1, h2, h3⟩ := h.ex
  have hx2 : wr.heap[b]? = some wr.heap[b] := Array.getElem?_eq_getElem hx
  exact ⟨below_grown h.bl hg hb (Nat.le_refl _), ts, h1, h2.kept hg (.inr ho), fun p hp => ⟨(h3 p hp).kind, (h3 p hp).n.kept hg (.inr (hr _ hx2 _ _ _ _ _ (h3 p hp).n (.inl rfl))), (h3 p hp).v.kept hg (.inr (hr _ hx2 _ _ _ _ _ (h3 p hp).v (.inr rfl))), (h3 p hp).dn, (h3 p hp).dv⟩⟩
theorem row_block {w : World} {B e s n : Nat} {v : Value} {xs : List Value} {b : Nat} {c : Array Value} {t : TypeId} (h : w.ownsRow B e s v n xs) (hb : w.heap[b]? = some (.cells c t (0, 0))) (he : e ≠ t) : v.ownBlock ≠ some b := by
  intro e2
  rcases h.2 with ⟨rfl, _⟩ | ⟨g, cap, cur, rfl, _, hg, _⟩
  · cases e2
  · have : g = b := by simpa [Value.ownBlock] using e2
    subst this
    rw [hb] at hg
    injection hg with hg
    injection hg with _ hg _
    exact he hg.symm
/-- One cell more. -/
theorem MO.push {w0 wr w' : World} {ov : Value} {items : List Cl} {ts : List Tr} (hbl : Below w0.heap.size w0 wr) (h1 : ts.length = items.length) (h2 : wr.ownsRow w0.heap.size 46 3 ov ts.length (ts.flatMap Tr.c)) (h3 : ∀ p ∈ ts.zip items, TrAt w0 wr ov p.1 p.2) (t : Tr) (x : Cl) (hk : t.kind = x.kind) (hn : wr.ownsRow w0.heap.size 9 1 t.nv x.names.length (x.names.flatMap sC)) (hv : wr.ownsRow w0.heap.size 31 3 t.vv x.vals.length (x.vals.flatMap JV.c)) {g cap H : Nat} (hH : wr.heap.size = H)
    (hown : w'.ownsRow w0.heap.size 46 3 (.slice (some ⟨g, 0, none⟩) (items.length + 1) cap) (items.length + 1) (ts.flatMap Tr.c ++ Tr.c t)) (hg : wr.grownBy w' ov.ownBlock) (hgg : ov.ownBlock = some g ∨ g = H) : MO w0 w' (.slice (some ⟨g, 0, none⟩) (items.length + 1) cap) (items ++ [x]) := by
  have far : ∀ {e s n : Nat} {v : Value} {xs : List Value}, wr.ownsRow w0.heap.size e s v n xs → (∀ k, ov.ownBlock = some k → v.ownBlock ≠ some k) → w'.ownsRow w0.heap.size e s v n xs ∧ v.ownBlock ≠ some g := by
    intro e s n v xs ho hd
    refine ⟨ho.kept hg ?_, fun e2 => ?_⟩
    · by_cases en : v.ownBlock = none
      · exact .inl en
      · obtain ⟨k, hk⟩ := Option.ne_none_iff_exists'.1 en
        exact .inr (fun e2 => hd k (by rw [← e2]; exact hk) hk)
    · rcases hgg with hgg | hgg
      · exact hd g hgg e2
      · have := (ho.lt g e2).2
        omega
  have own46 : ∀ {e s n : Nat} {v : Value} {xs : List Value}, wr.ownsRow w0.heap.size e s v n xs → e ≠ 46 → ∀ k, ov.ownBlock = some k → v.ownBlock ≠ some k := by
    intro e s n v xs ho he k hk
    rcases h2.2 with ⟨e2, _⟩ | ⟨gg, cap2, cur, e2, _, hb2, _⟩
    · rw [e2] at hk; cases hk
    · rw [e2] at hk
      have : gg = k := by simpa [Value.ownBlock] using hk
      subst this
      exact row_block ho hb2 he
  refine ⟨hbl.grown hg hbl.size (fun k hk => (h2.lt k hk).1), ts ++ [t], by rw [List.length_append, List.length_append, h1]; rfl, ?_, fun p hp => ?_⟩
  · rw [List.length_append, h1, List.flatMap_append]
    simpa using hown
  · rw [List.zip_append h1] at hp
    rcases List.mem_append.1 hp with hp | hp
    · have hq := h3 p hp
      have a1 := far hq.n hq.dn
      have a2 := far hq.v hq.dv
      exact ⟨hq.kind, a1.1, a2.1, fun k hk => by
        have e3 : g = k := by simpa [Value.ownBlock] using hk
        rw [← e3]; exact a1.2, fun k hk => by
        have e3 : g = k := by simpa [Value.ownBlock] using hk
        rw [← e3]; exact a2.2⟩
    · have e4 : p = (t, x) := by simpa using hp
      subst e4
      have a1 := far hn (own46 hn (by decide))
      have a2 := far hv (own46 hv (by decide))
      exact ⟨hk, a1.1, a2.1, fun k hk => by
        have e3 : g = k := by simpa [Value.ownBlock] using hk
        rw [← e3]; exact a1.2, fun k hk => by
        have e3 : g = k := by simpa [Value.ownBlock] using hk
        rw [← e3]; exact a2.2⟩
theorem MO.heap {w0 wr : World} {ov : Value} {items : List Cl} (h : MO w0 wr ov items) : HeapAt wr ov items := by
  obtain ⟨ts, h1, h2, h3⟩ := h.ex
  obtain ⟨a, c, e1, e2, e3, e4⟩ := Own.sl Tr.len h2
  refine ⟨a, c, by rw [← h1]; exact e1, by rw [← h1]; exact e2, e3, fun h0 => ?_⟩
  obtain ⟨b, o, e5, _, e6⟩ := e4 (by rw [h1]; exact h0)
  refine ⟨b, o, e5, fun k hk => ?_⟩
  have hk' : k < ts.length := by rw [h1]; exact hk
  have hz : (ts[k], items[k]) ∈ ts.zip items := by
    rw [List.mem_iff_getElem]
    exact ⟨k, by rw [List.length_zip]; omega, by rw [List.getElem_zip]⟩
  have hq := h3 _ hz
  obtain ⟨na, nc, hna⟩ := own_shape hq.n
  obtain ⟨va, vc, hva⟩ := own_shape hq.v
  have hn := own_str hq.n
  have hv := own_jv hq.v
  simp only at hna hva hn hv
  rw [hna] at hn
  rw [hva] at hv
  refine ⟨na, nc, va, vc, ?_, ?_, ?_, hn, hv⟩
  · have := e6 k hk' 0 (by decide)
    rw [← hq.kind]
    exact this
  · have := e6 k hk' 1 (by decide)
    rw [← hna]
    exact this
  · have := e6 k hk' 2 (by decide)
    rw [← hva]
    exact this
end Go.Proofs.Ytcnplnnpiobikaa
