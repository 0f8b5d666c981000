/- What jlex's text gathers: plain steps and the relation of its loop. -/
import Derived.Test.YtfikflmlcicedaaDoorJ5
import Derived.WalkKit
import Derived.Maps.Range
import Derived.Laws.BytesArg
namespace Go.Proofs.YtfikflmlcicedaaDoor
open Go.RowKit

/-- Bytes as cells. -/
def bV (c : UInt8) : Value := .int .u8 (c.toNat : Int)
theorem convRow {w : World} {B : Nat} {v : Value} {l : List UInt8} (h : w.ownsRow B 5 1 v l.length (l.map bV)) :
    (convert 33 9 v).run Tryd.prog w = .ok (.string ⟨l.toArray⟩) w := by
  rcases h.2 with ⟨rfl, hn⟩ | ⟨g, cap, cur, rfl, _⟩
  · have e : l = [] := List.eq_nil_of_length_eq_zero hn
    subst e
    rw [run_convert_bytes_nil w 33 5 Tryd.underlying33 Tryd.underlying5 0 0 9 Tryd.underlying9]
    rfl
  · have hc := h.cells (g := g) rfl
    rw [run_convert_bytes_arg w 33 5 Tryd.underlying33 Tryd.underlying5 g 0 l.length cap (l.map fun c => (c.toNat : Int)) (by simp) (fun i hi => by
      have := hc i (bV l[i]) (by simp [hi])
      have e : ((⟨g, 0, none⟩ : Addr).add i) = ⟨g, 0 + i, none⟩ := by unfold Addr.add; split <;> simp_all
      rw [e] at this
      rw [this]
      simp [bV, List.getD_eq_getElem?_getD, hi]) 9 Tryd.underlying9]
    congr 2
    simp [strOfNums, Function.comp_def]

/-- What holds at the head of text's loop. -/
structure TX (w wr : World) (R : Nat) (s : ByteArray) (out : Value) (j : Nat) (acc : List UInt8) (v : Value) : Prop where
  rd : Rd wr R s j out
  own : wr.ownsRow (w.heap.size + 1) 5 1 v acc.length (acc.map bV)
  bx : TBx wr w.heap.size 0 0 0 ⟨#[]⟩ 0
  gr : w.grownBy wr (some R)
  lt : R < w.heap.size

theorem own_drewN {w : World} {B e size n : Nat} {v : Value} {xs : List Value} (h : w.ownsRow B e size v n xs) (q : Nat) : (w.drewN q).ownsRow B e size v n xs :=
  h.kept (row := none) ⟨rfl, rfl, rfl, Nat.le_refl _, fun _ _ _ => rfl⟩ (by cases v.ownBlock <;> simp)
theorem TX.drewN {w wr : World} {R : Nat} {s : ByteArray} {out : Value} {j : Nat} {acc : List UInt8} {v : Value} (h : TX w wr R s out j acc v) (q : Nat) : TX w (wr.drewN q) R s out j acc v :=
  ⟨h.rd.drewN q, own_drewN h.own q, h.bx.drewN q, grow_drewN h.gr q, h.lt⟩
theorem TX.at {w wr : World} {R : Nat} {s : ByteArray} {out : Value} {j : Nat} {acc : List UInt8} {v : Value} (h : TX w wr R s out j acc v) (k : Nat) : TX w (wr.setCell ⟨R, 1, none⟩ (.int .i64 (k : Int))) R s out k acc v := by
  have hl := h.lt
  refine ⟨h.rd.at k, ownsRow_setCell_below h.own (by show R < w.heap.size + 1; omega) _, ?_, grow_set h.gr _ _, hl⟩
  exact h.bx.grown (R := R) (grow_set (World.grownBy.refl _ _) _ _) (by omega)
theorem TX.app {w wr w1 : World} {R : Nat} {s : ByteArray} {out : Value} {j : Nat} {acc : List UInt8} {v v1 : Value} (c : UInt8) (h : TX w wr R s out j acc v)
    (hown : w1.ownsRow (w.heap.size + 1) 5 1 v1 (acc.length + 1) (acc.map bV ++ [bV c])) (hgr : (wr.alloc (.cells #[bV c] 5)).grownBy w1 v.ownBlock) : TX w w1 R s out j (acc ++ [c]) v1 := by
  have hl := h.lt
  have hb : ∀ k, v.ownBlock = some k → w.heap.size + 1 ≤ k := fun k hk => (h.own.lt k hk).1
  have ha : wr.grownBy w1 v.ownBlock := (World.grownBy_alloc wr _ _).trans hgr
  have hk : ∀ b, b ≤ w.heap.size → some b ≠ v.ownBlock := fun b hb1 e => by have := hb b e.symm; omega
  refine ⟨h.rd.kept (ha.block R h.rd.l (hk R (by omega))) ha.size, by simpa using hown, ?_, h.gr.andThen ha (fun k hk2 => .inl (by have := hb k hk2; omega)), hl⟩
  have hbb := ha.block w.heap.size h.bx.l (hk _ (Nat.le_refl _))
  have hc := fun o => World.cell?_of_block (a := ⟨w.heap.size, o, none⟩) hbb
  have hf := fun o => World.frozen?_of_block (a := ⟨w.heap.size, o, none⟩) hbb
  have hx := h.bx
  exact ⟨(hc 0).trans hx.c0, (hc 1).trans hx.c1, (hc 2).trans hx.c2, (hc 3).trans hx.c3, (hc 4).trans hx.c4, (hf 0).trans hx.f0, (hf 1).trans hx.f1, (hf 2).trans hx.f2, (hf 3).trans hx.f3, (hf 4).trans hx.f4, Nat.lt_of_lt_of_le hx.l ha.size⟩
theorem TX.start {w : World} {R : Nat} {s : ByteArray} {out : Value} {i : Nat} (h : Rd w R s i out) (k : Nat) :
    TX w ((w.setCell ⟨R, 1, none⟩ (.int .i64 (k : Int))).alloc (.cells #[.int .i64 0, .int .i64 0, .int .i64 0, .string ⟨#[]⟩, .int .i64 0] 28)) R s out k [] (.slice none 0 0) := by
  have hz : (w.setCell ⟨R, 1, none⟩ (.int .i64 (k : Int))).heap.size = w.heap.size := by simp [World.setCell]
  refine ⟨(h.at k).alloc _, World.ownsRow_nil _ _ _ _, ?_, grow_alloc (grow_set (World.grownBy.refl _ _) _ _) _, h.l⟩
  have := TBx.new (w.setCell ⟨R, 1, none⟩ (.int .i64 (k : Int))) 0 0 0 ⟨#[]⟩ 0
  rw [hz] at this
  exact this

-- plain steps
theorem textF_nil (f : Nat) (acc : List UInt8) (n : Nat) : textF (f + 1) acc [] n = none := rfl
theorem textF_quote (f : Nat) (acc t : List UInt8) (n : Nat) : textF (f + 1) acc (34 :: t) n = some (acc, n + 1) := rfl
theorem textF_low (f : Nat) (acc t : List UInt8) (n : Nat) (c : UInt8) (h1 : c ≠ 34) (h2 : c < 32) : textF (f + 1) acc (c :: t) n = none := by
  simp [textF, h1, h2]
theorem textF_back_no (f : Nat) (acc t : List UInt8) (n : Nat) (h : esc t = none) : textF (f + 1) acc (92 :: t) n = none := by
  simp only [textF]; rw [h]; rfl
theorem textF_back (f : Nat) (acc t : List UInt8) (n : Nat) (b : UInt8) (k : Nat) (h : esc t = some (b, k)) : textF (f + 1) acc (92 :: t) n = textF f (acc ++ [b]) (t.drop k) (n + 1 + k) := by
  conv => lhs; simp only [textF]
  rw [h]; rfl
theorem textF_on (f : Nat) (acc t : List UInt8) (n : Nat) (c : UInt8) (h1 : c ≠ 34) (h2 : ¬ c < 32) (h3 : c ≠ 92) : textF (f + 1) acc (c :: t) n = textF f (acc ++ [c]) t (n + 1) := by
  simp [textF, h1, h2, h3]
theorem pk_lt (l : List UInt8) (n : Nat) (h : pk l n ≠ 0) : n < l.length := by
  rcases Nat.lt_or_ge n l.length with h' | h'
  · exact h'
  · exact absurd (by unfold pk; rw [List.getD_eq_getElem?_getD, List.getElem?_eq_none h']; rfl) h
theorem esc_le (l : List UInt8) (b : UInt8) (k : Nat) (h : esc l = some (b, k)) : 1 ≤ k ∧ k ≤ l.length := by
  have h0 : ∀ c, c ≠ 0 → pk l 0 = c → 1 ≤ l.length := fun c hc e => pk_lt l 0 (by rw [e]; exact hc)
  unfold esc at h
  split at h
  · rename_i hc
    injection h with h
    injection h with _ h
    subst h
    simp only [Bool.or_eq_true, beq_iff_eq] at hc
    rcases hc with hc | hc
    · exact ⟨Nat.le_refl _, h0 _ (by decide) hc⟩
    · exact ⟨Nat.le_refl _, h0 _ (by decide) hc⟩
  · split at h
    · rename_i hc
      injection h with h
      injection h with _ h
      subst h
      exact ⟨Nat.le_refl _, h0 110 (by decide) (by simpa using hc)⟩
    · split at h
      · rename_i hc
        injection h with h
        injection h with _ h
        subst h
        exact ⟨Nat.le_refl _, h0 116 (by decide) (by simpa using hc)⟩
      · split at h
        · split at h
          · rename_i hc
            injection h with h
            injection h with _ h
            subst h
            refine ⟨by omega, pk_lt l 2 (fun e => ?_)⟩
            have h2 := hc.2
            rw [e] at h2
            exact absurd h2 (by decide)
          · cases h
        · cases h
end Go.Proofs.YtfikflmlcicedaaDoor
