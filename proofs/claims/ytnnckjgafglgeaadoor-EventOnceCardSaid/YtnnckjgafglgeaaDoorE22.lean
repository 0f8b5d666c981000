/- The contracts of twoDoc and eventLives. -/
import Derived.Test.YtnnckjgafglgeaaDoorE21
import Derived.Test.YtnnckjgafglgeaaDoorL2
namespace Go.Proofs.YtnnckjgafglgeaaDoor
open Go.RowKit

/-- A block that was laid whole is a row. -/
theorem own_block {w : World} {g e : Nat} {size n : Nat} {cur : Array Value} {xs : List Value} (h : w.heap[g]? = some (.cells cur e (0, 0))) (hn : n ≤ maxLen) (hs : cur.size = n * size) (hx : cur.toList = xs) : w.ownsRow 0 e size (.slice (some ⟨g, 0, none⟩) n n) n xs := by
  subst hx
  exact ⟨by simpa using hs, .inr ⟨g, n, cur, rfl, Nat.zero_le _, h, Nat.le_refl _, hn, hs, by rw [← hs]; exact List.take_of_length_le (by simp)⟩⟩
theorem int_block {w : World} {b : Nat} {n : Int} (h : w.heap[b]? = some (.cells #[.int .i64 n] 3 (0, 0))) : SlR w IntAt 1 (.slice (some ⟨b, 0, none⟩) [n].length 1) [n] :=
  own_int (own_block (n := 1) h (by decide) rfl rfl)
theorem cells1 {w : World} {b : Nat} {t : TypeId} {c : Array Value} (h : w.heap[b]? = some (.cells c t (0, 0))) (i : Nat) (v : Value) (hv : c[i]? = some v) : w.cell? ⟨b, i, none⟩ = some v := (Lib.cell_of_heap h i).trans hv
theorem nil_sl {α : Type} (w : World) (R : World → Nat → Nat → α → Prop) (size : Nat) : SlR w R size (.slice none ([] : List α).length 0) [] := ⟨none, 0, rfl, Nat.le_refl _, by decide, fun h => by simp at h⟩
set_option maxRecDepth 100000 in
set_option maxHeartbeats 4000000 in
theorem two_any (w : World) : Calls Tryd.prog 25 #[] w fun e w' => ∃ a c, e = .returned (.agg #[.slice a 3 c, .bool false]) ∧ DocAt w' (.slice a docT.length c) docT ∧ Below w.heap.size w w' := by
  go_enter Tryd.func25, Tryd.ntmps25
  go_wp2_with fail
  obtain ⟨A, hA⟩ : ∃ A, w.heap.size = A := ⟨_, rfl⟩
  have X := Lib.hid (Loc.start4 (w := w) (.cells #[.slice (some ⟨w.heap.size + 1 + 1 + 1, 0, none⟩) 3 3, .bool false] 24) (.cells #[.int .i64 1] 3) (.cells #[.int .i64 2] 3) (.cells #[.int .i64 1, .string ⟨#[]⟩, .slice none 0 0, .string ⟨#[]⟩, .int .i64 (-1), .slice (some ⟨w.heap.size + 1, 0, none⟩) 1 1, .int .i64 2, .string ⟨#[97]⟩, .slice none 0 0, .string ⟨#[]⟩, .int .i64 0, .slice (some ⟨w.heap.size + 1 + 1, 0, none⟩) 1 1, .int .i64 2, .string ⟨#[98]⟩, .slice none 0 0, .string ⟨#[]⟩, .int .i64 1, .slice none 0 0] 32))
  refine body_gen (Φ := fun wy => Hid (Loc w wy _)) X ?_
  clear X
  intro w3 X
  obtain ⟨c0, c1⟩ := cells2 X.out.k0
  have k3 := X.out.k3
  refine bodyPost_ret (v := .agg #[.slice (some ⟨w.heap.size + 1 + 1 + 1, 0, none⟩) 3 3, .bool false]) (by simp [results, Tryd.results25, go_sem, c0, c1]) rfl ?_
  refine ⟨_, _, rfl, ⟨_, _, rfl, by decide, by decide, fun _ => ⟨_, _, rfl, fun k hk => ?_⟩⟩, X.out.bl⟩
  match k, hk with
  | 0, _ => exact ⟨none, 0, some ⟨w.heap.size + 1, 0, none⟩, 1, cells1 k3 0 _ rfl, cells1 k3 1 _ rfl, cells1 k3 2 _ rfl, cells1 k3 3 _ rfl, cells1 k3 4 _ rfl, cells1 k3 5 _ rfl, nil_sl _ _ _, int_block X.out.k1⟩
  | 1, _ => exact ⟨none, 0, some ⟨w.heap.size + 1 + 1, 0, none⟩, 1, cells1 k3 6 _ rfl, cells1 k3 7 _ rfl, cells1 k3 8 _ rfl, cells1 k3 9 _ rfl, cells1 k3 10 _ rfl, cells1 k3 11 _ rfl, nil_sl _ _ _, int_block X.out.k2⟩
  | 2, _ => exact ⟨none, 0, none, 0, cells1 k3 12 _ rfl, cells1 k3 13 _ rfl, cells1 k3 14 _ rfl, cells1 k3 15 _ rfl, cells1 k3 16 _ rfl, cells1 k3 17 _ rfl, nil_sl _ _ _, nil_sl _ _ _⟩
end Go.Proofs.YtnnckjgafglgeaaDoor
