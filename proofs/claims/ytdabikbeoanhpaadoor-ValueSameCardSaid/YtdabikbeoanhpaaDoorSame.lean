/- ValueSame: the law answers true for every input, and leaves its input as it was. Conditions: the listed tables of the library start as the program's text lays them (the card ties them). -/
import Derived.Test.YtdabikbeoanhpaaDoorF
import Derived.Test.YtdabikbeoanhpaaDoorPost
import Derived.Test.YtdabikbeoanhpaaDoorV16
import Derived.Test.YtdabikbeoanhpaaDoorTie
import Derived.Test.YtdabikbeoanhpaaDoorCards
import Derived.SevenTiedAt
import Derived.Lib.SmallJoins
namespace Go.Proofs.YtdabikbeoanhpaaDoor
open Go.ChangeShapes Go.WideShapes Go.ChangeAt Go.RowKit

set_option maxRecDepth 100000 in
theorem valueSame_lifted (os : Os) (started : os.Started) (H : Type) (enc : TypeId × Value → H) :
    ReturnsInHanded {} Tryd.checked os 6 .any (fun w args => (Rows.valueSameSpec.pre enc Tryd.prog Tryd.f6 [] false w args ∧ laidMetH Tryd.prog laid3 w) ∧ sizedMet enc Tryd.prog Tryd.f6 (OpenSpec.ofChange Rows.valueSameSpec) false w args)
      (Rows.valueSameSpec.post enc Tryd.prog Tryd.f6 false true false false) := by
  refine returnsInHanded_of_change_and (C := Tryd.checked) (X := fun w _ => laidMetH Tryd.prog laid3 w) (fun _ _ _ hh h => h.of_heap hh) own started (by kernel_rfl) Tryd.func6
    (ChangeSpec.witness_shaped (enc := enc) (C := Tryd.checked) (os := os) (X := fun w _ => laidMetH Tryd.prog laid3 w) false (World.doorLaid Tryd.prog 400 os) #[.agg #[.int .i64 0, .int .i64 0, .string ⟨#[]⟩], .agg #[.int .i64 0, .int .i64 0, .string ⟨#[]⟩]] 8 rfl (World.shaped_of_RefB (by kernel_rfl) (by kernel_rfl)) (by kernel_rfl) (by kernel_rfl) (by kernel_rfl) (door_met os _)) ?_
  intro W base args ds gs before hval0 hW _ hwt hL _
  have hval : ∀ (j : Nat) t v, Tryd.f6.params[j]? = some t → args[j]? = some v → Value.okWide Tryd.prog W .any base t v := hval0
  have hW' := hW
  obtain ⟨p, q, hA0, hV, rfl, hfz, hnd⟩ := hW
  have hA : DataW.TrodAll enc Tryd.prog W 0 (fun _ => true) true Tryd.f6.params.toList args.toList ds p := hA0
  rw [Tryd.params6] at hA hval
  obtain ⟨v0, vs0, d0, ds0, p0, q0, hargs, rfl, rfl, h0, r0⟩ := trodAll_cons hA
  obtain ⟨v1, vs1, d1, ds1, p1, q1, rfl, rfl, rfl, h1, r1⟩ := trodAll_cons r0
  obtain ⟨rfl, rfl, rfl⟩ := trodAll_nil r1
  obtain rfl : args = #[v0, v1] := by cases args; simp_all
  obtain ⟨rfl, rfl⟩ := trodVars_none hV
  obtain ⟨c0, c0', c0'', y0, y0', y0'', m0, rfl, rfl, rfl, hy0, hy0', hy0''⟩ := Joins.open_agg3 Tryd.underlying23 (by kernel_rfl) cells23 (hval 0 23 v0 rfl rfl) h0
  obtain ⟨k0, e0, rfl, _⟩ := DataW.trod_int Tryd.underlying3 hy0
  obtain ⟨n0, e0', rfl, _⟩ := DataW.trod_int Tryd.underlying3 hy0'
  obtain ⟨s0, e0'', rfl, hz0⟩ := DataW.trod_string Tryd.underlying9 hy0''
  simp only [List.cons.injEq, and_true] at e0 e0' e0''
  subst e0 e0' e0''
  obtain ⟨c1, c1', c1'', y1, y1', y1'', m1, rfl, rfl, rfl, hy1, hy1', hy1''⟩ := Joins.open_agg3 Tryd.underlying23 (by kernel_rfl) cells23 (hval 1 23 v1 rfl rfl) h1
  obtain ⟨k1, e1, rfl, _⟩ := DataW.trod_int Tryd.underlying3 hy1
  obtain ⟨n1, e1', rfl, _⟩ := DataW.trod_int Tryd.underlying3 hy1'
  obtain ⟨s1, e1'', rfl, hz1⟩ := DataW.trod_string Tryd.underlying9 hy1''
  simp only [List.cons.injEq, and_true] at e1 e1' e1''
  subst e1 e1' e1''
  have ht := tab_of_laid hL
  have hwz := reach2 (k0 := k0) (n0 := n0) (s0 := s0) (k1 := k1) (n1 := n1) (s1 := s1) (by rw [Tryd.params6] at hwt; exact hwt)
  clear hA0 hval0
  refine (valueSame_any k0 n0 s0 k1 n1 s1 W ht hwz.1 hwz.2).mono fun e W' ⟨he, hg⟩ => ?_
  subst he
  exact ⟨_, rfl, law_post laidOut (by kernel_rfl) rfl (by rfl) Tryd.underlying4 rfl rfl rfl hW' hg⟩

theorem valueSame_said : Rows.ValueSameSaid :=
  OpenClaim.holds_of_wide 6 Tryd.f6 rfl rfl rfl rfl rfl rfl rfl ⟨rfl, rfl, rfl, rfl, rfl⟩ rfl rfl rfl rfl rfl (by kernel_rfl) Tryd.func6 (by kernel_rfl)
    (of_decide_eq_true (by kernel_rfl)) (by unfold Func.isWrapper; first | (rw [if_pos (by decide +kernel)]; kernel_rfl) | (rw [if_neg (by decide +kernel)]; exact ⟨rfl, rfl⟩))
    (fun os started H enc _ => valueSame_lifted os started H enc)

theorem valueSame_holds : Rows.ValueSameCardSaid :=
  Claim7.holds_tied_plain_at .later [] [.data, .data, .data] true (true, "9244f9332c93fefde048bb6bb669468bdaf96a657a26bb5474684a54fd258dde") false
    valueSame_said (fun _ h => by cases h) (by kernel_rfl) (fun _ h => by cases h) valueSame_row_tie rfl ⟨rfl, rfl⟩ (by kernel_rfl) rfl
    (fun f fn hf hfn => by
      obtain rfl : f = 6 := Option.some.inj ((show Tryd.prog.funcNamed "clerestory/clerestorykeep4.ValueSame" = some 6 by kernel_rfl).symm.trans hf) |>.symm
      obtain rfl : fn = Tryd.f6 := (Option.some.inj (Tryd.func6.symm.trans hfn)).symm
      exact ⟨by kernel_rfl, fun j t ht => by
        rw [Tryd.params6] at ht
        have hm : t ∈ [23, 23] := by simpa using Array.mem_of_getElem? ht
        have hall : ([23, 23].all fun u => !Tryd.prog.wantsStandIn u) = true := by kernel_rfl
        exact (show Tryd.prog.wantsStandIn t = false by simpa using List.all_eq_true.1 hall t hm)⟩)
    (by kernel_rfl)
#print axioms valueSame_holds
end Go.Proofs.YtdabikbeoanhpaaDoor
