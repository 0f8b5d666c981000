/- The contracts of url.small and url.Encode. -/
import Derived.Test.YtjcejijdeohkgaaGreatDoorW2
import Derived.Test.YtjcejijdeohkgaaGreatDoorW3
import Derived.Test.YtjcejijdeohkgaaGreatDoorShelf2
namespace Go.Proofs.YtjcejijdeohkgaaGreatDoor
open Go.RowKit

/-- The listed tables, as they are laid. -/
structure TB (w : World) : Prop where
  u : Lib.Utf8Tabs 1 2 w
  p : Lib.TabIs Tryz.prog w "internal/strconv.uint64pow10" .u64 Lib.pow10Tab
  m : ∃ m : Int, w.cell? ⟨0, 0, none⟩ = some (.int .i64 m)
theorem tab_below {n : String} {g : Nat} {k : IntKind} {zs : List Int} {w w' : World} (hg : Tryz.prog.globalNamed n = some g) (h : Lib.TabIs Tryz.prog w n k zs) (hb : Below w.heap.size w w') : Lib.TabIs Tryz.prog w' n k zs := by
  unfold Lib.TabIs World.var? at h ⊢
  rw [hg] at h ⊢
  simp only [Option.bind_some] at h ⊢
  have hlt : g < w.heap.size := by
    rcases Nat.lt_or_ge g w.heap.size with h' | h'
    · exact h'
    · rw [Array.getElem?_eq_none h'] at h; cases h
  rw [hb.block g hlt]
  exact h
theorem TB.below {w w' : World} (h : TB w) (hb : Below w.heap.size w w') : TB w' := by
  refine ⟨Utf8Tabs_below h.u hb, tab_below (g := 5) (by kernel_rfl) h.p hb, ?_⟩
  obtain ⟨m, hm⟩ := h.m
  exact ⟨m, kc hb hm⟩
theorem call117 (args : Array Value) (w : World) : Sem.run Tryz.prog (callFunc 117 args) w = .ok (.enter 117 args) w := by go_simp
set_option maxHeartbeats 1000000 in
theorem small_any (l : Bs) (w : World) (hT : TB w) (hl : l.length < 35184372088832) : Calls Tryz.prog 94 #[.string (bs l)] w fun e w' => e = .returned (.string (bs (smallP l))) ∧ Below w.heap.size w w' := by
  have HM := Lib.hid (Any.strings_Map_runes Tryz.big230 Tryz.bigX 118 #[] call118 smR (bs l) w (by rw [bs_size]; exact hl) (fun W x hx _ => (small1_any (x : Int) W (by omega) (by omega)).mono fun e w' ⟨h1, h2⟩ => ⟨h1, 0, by rw [← h2]; rfl⟩) (fun x hx => by unfold smR; split <;> omega) hT.u)
  have p117 := call117
  go_enter Tryz.func94, Tryz.ntmps94
  go_wp2_with fail
  refine HM.out.mono ?_
  rintro e w' ⟨rfl, hb⟩
  rw [bs_list]
  go_wp2_with fail
  go_ret
  exact ⟨rfl, hb⟩
end Go.Proofs.YtjcejijdeohkgaaGreatDoor
