/- clerestorykeep4.loopLives. -/
import Derived.Test.YtpmklganodlciaaT23
namespace Go.Proofs.Ytpmklganodlciaa
open Go.RowKit

def four : List Qst := [⟨1, 4, 0, ⟨#[116]⟩, 0, 0, ⟨#[]⟩⟩, ⟨2, 0, 0, ⟨#[115]⟩, 0, 0, ⟨#[]⟩⟩, ⟨4, 0, 5, ⟨#[101]⟩, 0, 0, ⟨#[]⟩⟩, ⟨6, 0, 10, ⟨#[]⟩, 0, 0, ⟨#[]⟩⟩]
def fourJobs : List Job := [⟨1, 0, true, ⟨#[115]⟩, 0, 0, ⟨#[]⟩⟩, ⟨0, 4, false, ⟨#[116]⟩, 0, 0, ⟨#[]⟩⟩, ⟨2, 3, false, ⟨#[101]⟩, 2, 0, ⟨#[]⟩⟩, ⟨2, 3, false, ⟨#[101]⟩, 2, 1, ⟨#[]⟩⟩]
theorem four_play : play four = (fourJobs, ⟨10, 3, [], [], [⟨2, 15, 5, 2, ⟨#[101]⟩⟩]⟩, 0) := by kernel_rfl
def fourC : Array Value := #[.int .i64 1, .int .i64 4, .int .i64 0, .string ⟨#[116]⟩, .int .i64 0, .int .i64 0, .string ⟨#[]⟩, .int .i64 2, .int .i64 0, .int .i64 0, .string ⟨#[115]⟩, .int .i64 0, .int .i64 0, .string ⟨#[]⟩, .int .i64 4, .int .i64 0, .int .i64 5, .string ⟨#[101]⟩, .int .i64 0, .int .i64 0, .string ⟨#[]⟩, .int .i64 6, .int .i64 0, .int .i64 10, .string ⟨#[]⟩, .int .i64 0, .int .i64 0, .string ⟨#[]⟩]
theorem four_sl (w : World) : Sl (w.alloc (.cells fourC 35)) Qst.c 7 (.slice (some ⟨w.heap.size, 0, none⟩) 4 4) four := by
  refine ⟨some ⟨w.heap.size, 0, none⟩, 4, rfl, by simp [four], by decide, fun _ => ⟨w.heap.size, 0, rfl, by simp, fun k hk i hi => ?_⟩⟩
  rw [Lib.cell_of_heap (heap_alloc_new w _)]
  have hk4 : k < 4 := hk
  have hk' : k = 0 ∨ k = 1 ∨ k = 2 ∨ k = 3 := by omega
  have hi' : i = 0 ∨ i = 1 ∨ i = 2 ∨ i = 3 ∨ i = 4 ∨ i = 5 ∨ i = 6 := by omega
  rcases hk' with rfl | rfl | rfl | rfl <;> rcases hi' with rfl | rfl | rfl | rfl | rfl | rfl | rfl <;> rfl
set_option maxRecDepth 100000 in
set_option maxHeartbeats 4000000 in
theorem lives_any (w : World) : Calls Try.prog 10 #[] w fun e w' => e = .returned (.bool true) ∧ Below w.heap.size w w' := by
  go_enter Try.func10, Try.ntmps10
  go_wp2_with fail
  refine (play_any four (some ⟨w.heap.size, 0, none⟩) 4 _ (four_sl w)).mono ?_
  have hw : Below w.heap.size w (w.alloc (.cells fourC 35)) := (Below.refl _ _).alloc (Nat.le_refl _) _
  have HW := Lib.hid hw
  clear hw
  rintro e w2 ⟨vo, vt, vs, vm, rfl, hrow, ho, hb⟩
  rw [four_play] at hrow ho
  rw [four_play]
  obtain ⟨oa, oc, rfl⟩ := own_shape hrow
  obtain ⟨g, rfl⟩ := own_some hrow (by decide)
  obtain ⟨ta, sa, ma, tc, sc, mc, rfl, rfl, rfl⟩ := ho.shape
  have hsl := Own.sl Job.len hrow
  have HB := Lib.hid (HW.out.trans (Below.le hb HW.out.size))
  obtain ⟨b0, o0, he0, a0⟩ := hsl.job 0 (by decide)
  injection he0 with he0
  injection he0 with he0 hz0
  subst he0
  subst hz0
  obtain ⟨b0, o0, he0, a1⟩ := hsl.job 1 (by decide)
  injection he0 with he0
  injection he0 with he0 hz0
  subst he0
  subst hz0
  obtain ⟨b0, o0, he0, a3⟩ := hsl.job 3 (by decide)
  injection he0 with he0
  injection he0 with he0 hz0
  subst he0
  subst hz0
  have x0 : w2.cell? ⟨g, 3, none⟩ = some (.string ⟨#[115]⟩) := a0.c3
  have x1 : w2.cell? ⟨g, 10, none⟩ = some (.string ⟨#[116]⟩) := a1.c3
  have x3 : w2.cell? ⟨g, 24, none⟩ = some (.string ⟨#[101]⟩) := a3.c3
  have x5 : w2.cell? ⟨g, 26, none⟩ = some (.int .i64 1) := a3.c5
  have hlt : g < w2.heap.size := (hrow.lt g rfl).2
  clear a0 a1 a3 hsl hrow ho hb HW
  simp only [Lp.v, fourJobs, List.length_cons, List.length_nil]
  go_wp2_with fail
  go_ret
  exact ⟨rfl, HB.out.alloc HB.out.size _⟩
end Go.Proofs.Ytpmklganodlciaa
