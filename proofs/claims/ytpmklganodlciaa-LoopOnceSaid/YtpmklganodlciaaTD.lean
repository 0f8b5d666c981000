/- Frames: whole structs stored. -/
import Derived.Test.YtpmklganodlciaaTC
namespace Go.Proofs.Ytpmklganodlciaa
open Go.RowKit

theorem code_gen {P : Program} {c : Code} {Q : Exit → Act → World → Prop} {a : Act} {W : World} (Φ : World → Prop) (h0 : Φ W) (h : ∀ w4, Φ w4 → c.wp P Q a w4) : c.wp P Q a W := h W h0
theorem body_gen {P : Program} {f : Func} {Q : Ending → World → Prop} {x : Exit} {a : Act} {W : World} (Φ : World → Prop) (h0 : Φ W) (h : ∀ w4, Φ w4 → bodyPost P f Q x a w4) : bodyPost P f Q x a W := h W h0
theorem size_set (w : World) (b i : Nat) (v : Value) : (w.setCell ⟨b, i, none⟩ v).heap.size = w.heap.size := by simp
theorem Fx.put5 {B : Nat} {u : List (Option Nat)} {w wx : World} {ts ss : List Job} {ms : List Tim} {vt vs vm : Value} {os : List Obj} (h : Fx B u w wx ts ss ms vt vs vm os) (i : Nat) {t : TypeId} {x0 x1 x2 x3 x4 : Value} (hi : os[i]? = some (.cells #[x0, x1, x2, x3, x4] t (0, 0))) (v0 v1 v2 v3 v4 : Value) : Fx B u w (((((wx.setCell ⟨w.heap.size + i, 0, none⟩ v0).setCell ⟨w.heap.size + i, 1, none⟩ v1).setCell ⟨w.heap.size + i, 2, none⟩ v2).setCell ⟨w.heap.size + i, 3, none⟩ v3).setCell ⟨w.heap.size + i, 4, none⟩ v4) ts ss ms vt vs vm (os.set i (.cells #[v0, v1, v2, v3, v4] t (0, 0))) := by
  have hlt : i < os.length := (List.getElem?_eq_some_iff.1 hi).1
  have h0 := h.set i hi 0 v0 (by simp)
  have h1 := h0.set i (List.getElem?_set_self (by simpa using hlt)) 1 v1 (by simp)
  have h2 := h1.set i (List.getElem?_set_self (by simpa using hlt)) 2 v2 (by simp)
  have h3 := h2.set i (List.getElem?_set_self (by simpa using hlt)) 3 v3 (by simp)
  have h4 := h3.set i (List.getElem?_set_self (by simpa using hlt)) 4 v4 (by simp)
  simpa [List.set_set] using h4
theorem Loc.put5 {w wx : World} {os : List Obj} (h : Loc w wx os) (i : Nat) {t : TypeId} {x0 x1 x2 x3 x4 : Value} (hi : os[i]? = some (.cells #[x0, x1, x2, x3, x4] t (0, 0))) (v0 v1 v2 v3 v4 : Value) : Loc w (((((wx.setCell ⟨w.heap.size + i, 0, none⟩ v0).setCell ⟨w.heap.size + i, 1, none⟩ v1).setCell ⟨w.heap.size + i, 2, none⟩ v2).setCell ⟨w.heap.size + i, 3, none⟩ v3).setCell ⟨w.heap.size + i, 4, none⟩ v4) (os.set i (.cells #[v0, v1, v2, v3, v4] t (0, 0))) := by
  have hlt : i < os.length := (List.getElem?_eq_some_iff.1 hi).1
  have h0 := h.set i hi 0 v0 (by simp)
  have h1 := h0.set i (List.getElem?_set_self (by simpa using hlt)) 1 v1 (by simp)
  have h2 := h1.set i (List.getElem?_set_self (by simpa using hlt)) 2 v2 (by simp)
  have h3 := h2.set i (List.getElem?_set_self (by simpa using hlt)) 3 v3 (by simp)
  have h4 := h3.set i (List.getElem?_set_self (by simpa using hlt)) 4 v4 (by simp)
  simpa [List.set_set] using h4
theorem Fx.put7 {B : Nat} {u : List (Option Nat)} {w wx : World} {ts ss : List Job} {ms : List Tim} {vt vs vm : Value} {os : List Obj} (h : Fx B u w wx ts ss ms vt vs vm os) (i : Nat) {t : TypeId} {x0 x1 x2 x3 x4 x5 x6 : Value} (hi : os[i]? = some (.cells #[x0, x1, x2, x3, x4, x5, x6] t (0, 0))) (v0 v1 v2 v3 v4 v5 v6 : Value) : Fx B u w (((((((wx.setCell ⟨w.heap.size + i, 0, none⟩ v0).setCell ⟨w.heap.size + i, 1, none⟩ v1).setCell ⟨w.heap.size + i, 2, none⟩ v2).setCell ⟨w.heap.size + i, 3, none⟩ v3).setCell ⟨w.heap.size + i, 4, none⟩ v4).setCell ⟨w.heap.size + i, 5, none⟩ v5).setCell ⟨w.heap.size + i, 6, none⟩ v6) ts ss ms vt vs vm (os.set i (.cells #[v0, v1, v2, v3, v4, v5, v6] t (0, 0))) := by
  have hlt : i < os.length := (List.getElem?_eq_some_iff.1 hi).1
  have h0 := h.set i hi 0 v0 (by simp)
  have h1 := h0.set i (List.getElem?_set_self (by simpa using hlt)) 1 v1 (by simp)
  have h2 := h1.set i (List.getElem?_set_self (by simpa using hlt)) 2 v2 (by simp)
  have h3 := h2.set i (List.getElem?_set_self (by simpa using hlt)) 3 v3 (by simp)
  have h4 := h3.set i (List.getElem?_set_self (by simpa using hlt)) 4 v4 (by simp)
  have h5 := h4.set i (List.getElem?_set_self (by simpa using hlt)) 5 v5 (by simp)
  have h6 := h5.set i (List.getElem?_set_self (by simpa using hlt)) 6 v6 (by simp)
  simpa [List.set_set] using h6
theorem Loc.put7 {w wx : World} {os : List Obj} (h : Loc w wx os) (i : Nat) {t : TypeId} {x0 x1 x2 x3 x4 x5 x6 : Value} (hi : os[i]? = some (.cells #[x0, x1, x2, x3, x4, x5, x6] t (0, 0))) (v0 v1 v2 v3 v4 v5 v6 : Value) : Loc w (((((((wx.setCell ⟨w.heap.size + i, 0, none⟩ v0).setCell ⟨w.heap.size + i, 1, none⟩ v1).setCell ⟨w.heap.size + i, 2, none⟩ v2).setCell ⟨w.heap.size + i, 3, none⟩ v3).setCell ⟨w.heap.size + i, 4, none⟩ v4).setCell ⟨w.heap.size + i, 5, none⟩ v5).setCell ⟨w.heap.size + i, 6, none⟩ v6) (os.set i (.cells #[v0, v1, v2, v3, v4, v5, v6] t (0, 0))) := by
  have hlt : i < os.length := (List.getElem?_eq_some_iff.1 hi).1
  have h0 := h.set i hi 0 v0 (by simp)
  have h1 := h0.set i (List.getElem?_set_self (by simpa using hlt)) 1 v1 (by simp)
  have h2 := h1.set i (List.getElem?_set_self (by simpa using hlt)) 2 v2 (by simp)
  have h3 := h2.set i (List.getElem?_set_self (by simpa using hlt)) 3 v3 (by simp)
  have h4 := h3.set i (List.getElem?_set_self (by simpa using hlt)) 4 v4 (by simp)
  have h5 := h4.set i (List.getElem?_set_self (by simpa using hlt)) 5 v5 (by simp)
  have h6 := h5.set i (List.getElem?_set_self (by simpa using hlt)) 6 v6 (by simp)
  simpa [List.set_set] using h6
end Go.Proofs.Ytpmklganodlciaa
