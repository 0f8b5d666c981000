/- The contract of eventLives. -/
import Derived.Test.YtnnckjgafglgeaaDoorE22
namespace Go.Proofs.YtnnckjgafglgeaaDoor
open Go.RowKit

theorem call25 (args : Array Value) (w : World) : Sem.run Tryd.prog (callFunc 25 args) w = .ok (.enter 25 args) w := by go_simp
theorem call11 (args : Array Value) (w : World) : Sem.run Tryd.prog (callFunc 11 args) w = .ok (.enter 11 args) w := by go_simp
theorem call13 (args : Array Value) (w : World) : Sem.run Tryd.prog (callFunc 13 args) w = .ok (.enter 13 args) w := by go_simp
def hdT : List Hd := [⟨2, 1, 1⟩, ⟨3, 2, 2⟩, ⟨1, 1, 3⟩]
set_option maxRecDepth 100000 in
set_option maxHeartbeats 4000000 in
theorem lives_any (w : World) : Calls Tryd.prog 9 #[] w fun e w' => e = .returned (.bool true) ∧ Below w.heap.size w w' := by
  go_enter Tryd.func9, Tryd.ntmps9
  go_upto_region 2 with fail
  refine code_gen (Φ := fun wy => Hid (Below w.heap.size w wy) ∧ Hid (SlR wy LisAt 8 (.slice (some ⟨w.heap.size, 0, none⟩) lisT.length 3) lisT)) ⟨Lib.hid ((Below.refl _ _).alloc (Nat.le_refl _) _), Lib.hid (own_lis (own_block (n := 3) (alloc_at rfl _) (by decide) rfl rfl))⟩ ?_
  rintro w3 ⟨X, XL⟩
  go_wp2_with fail
  refine (two_any w3).mono ?_
  rintro e w4 ⟨da, dc, rfl, hd, hb4⟩
  have HB := Lib.hid hb4
  have HSE : Hid (Calls Tryd.prog 11 #[.agg #[.slice da 3 dc, .bool false], .slice (some ⟨w.heap.size, 0, none⟩) 3 3, .agg #[.string ⟨#[120]⟩, .int .i64 2, .int .i64 0, .int .i64 0, .string ⟨#[]⟩, .bool true, .bool false]] w4 fun e w' => ∃ ha hc la lc, e = .returned (.tuple #[.slice ha 3 hc, .bool false, .slice la 2 lc, .int .i64 0]) ∧ SlR w' HdAt 3 (.slice ha hdT.length hc) hdT ∧ Below w4.heap.size w4 w') := Lib.hid (by
    have h := send_any docT da dc false lisT (some ⟨w.heap.size, 0, none⟩) 3 evT w4 hd (XL.out.mono (fun _ _ _ h => LisAt.below h hb4)) (by intro x hx; simp only [lisT, List.mem_cons, List.not_mem_nil, or_false] at hx; rcases hx with rfl | rfl | rfl <;> decide)
    rw [sendT] at h
    refine h.mono ?_
    rintro e w' ⟨hv, lv, h1, h2, h3, h4⟩
    obtain ⟨ha, hc, rfl⟩ := own_shape h2
    obtain ⟨la, lc, rfl⟩ := own_shape h3
    exact ⟨ha, hc, la, lc, h1, own_hd h2, h4⟩)
  clear hd hb4
  go_wp2_with fail
  refine HSE.out.mono ?_
  rintro e w5 ⟨ha, hc, la, lc, rfl, hh, hb5⟩
  have HEQ := Lib.hid (fun (w6 : World) (hb : Below w5.heap.size w5 w6) (b2 : Nat) (h2 : SlR w6 HdAt 3 (.slice (some ⟨b2, 0, none⟩) hdT.length 3) hdT) => eqH_any ha (some ⟨b2, 0, none⟩) hc 3 hdT w6 (hh.mono (fun _ _ _ h => h.below hb)) h2)
  have HEQ2 : Hid (∀ (w6 : World), Below w5.heap.size w5 w6 → ∀ b2, SlR w6 HdAt 3 (.slice (some ⟨b2, 0, none⟩) hdT.length 3) hdT → Calls Tryd.prog 13 #[.slice ha 3 hc, .slice (some ⟨b2, 0, none⟩) 3 3] w6 fun e w' => e = .returned (.bool true) ∧ Below w6.heap.size w6 w') := Lib.hid HEQ.out
  have B5 := Lib.hid ((X.out.trans (Below.le HB.out X.out.size)).trans (Below.le hb5 (Nat.le_trans X.out.size HB.out.size)))
  clear hh hb5 HSE HB XL X HEQ
  go_wp2_with fail
  refine (HEQ2.out _ ((Below.refl _ _).alloc (Nat.le_refl _) _) _ (own_hd (own_block (n := 3) (alloc_at rfl _) (by decide) rfl rfl))).mono ?_
  rintro e w6 ⟨rfl, hb6⟩
  have B6 := Lib.hid ((B5.out.alloc B5.out.size _).trans (Below.le hb6 (Nat.le_trans B5.out.size (al_le (Nat.le_refl _) _))))
  clear hb6 HEQ2 B5
  go_wp2_with fail
  go_ret
  exact ⟨rfl, B6.out⟩
end Go.Proofs.YtnnckjgafglgeaaDoor
