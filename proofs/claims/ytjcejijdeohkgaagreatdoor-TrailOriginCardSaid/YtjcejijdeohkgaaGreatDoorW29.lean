/- The contract of urlLives. -/
import Derived.Test.YtjcejijdeohkgaaGreatDoorMF
import Derived.Test.YtjcejijdeohkgaaGreatDoorW28
import Derived.Test.YtjcejijdeohkgaaGreatDoorMA
namespace Go.Proofs.YtjcejijdeohkgaaGreatDoor
open Go.RowKit

theorem ints_block {w : World} {g : Nat} {l : List Int} {cs : Array Value} {t : TypeId} (h : w.heap[g]? = some (.cells cs t (0, 0))) (hc : cs = (l.map nV).toArray) (hn : l.length ≤ maxLen) : SlR w IntAt 1 (.slice (some ⟨g, 0, none⟩) l.length l.length) l := by
  refine ⟨_, _, rfl, Nat.le_refl _, hn, fun _ => ⟨g, 0, rfl, fun k hk => ?_⟩⟩
  show w.cell? ⟨g, 0 + k * 1, none⟩ = _
  rw [Nat.zero_add, Nat.mul_one]
  refine (Lib.cell_of_heap h _).trans ?_
  subst hc
  simp [hk, nV]
theorem call17 (args : Array Value) (w : World) : Sem.run Tryz.prog (callFunc 17 args) w = .ok (.enter 17 args) w := by go_simp
set_option maxRecDepth 100000 in
set_option maxHeartbeats 8000000 in
theorem lives_any (w : World) (hT : TB w) : Calls Tryz.prog 17 #[] w fun e w' => e = .returned (.bool true) ∧ Below w.heap.size w w' := by
  have p19 := call19
  have p28 := call28
  have p25 := call25
  have p15 := call15
  have HTB := Lib.hid hT
  have H1 : Hid (Calls Tryz.prog 19 #[.string ⟨#[104, 116, 116, 112, 58, 47, 47, 65, 46, 98, 58, 56, 48, 47, 120, 47, 121, 63, 113, 35, 102]⟩, .string ⟨#[46, 46, 47, 122]⟩] w fun e w' => e = .returned (.tuple #[.string ⟨#[104, 116, 116, 112, 58, 47, 47, 97, 46, 98, 47, 122]⟩, .int .i64 0]) ∧ Below w.heap.size w w') := Lib.hid (by
    have h := res_any liveA liveB w hT
    rw [resR_of live_resolve] at h
    exact h)
  have H2 : Hid (∀ w9, TB w9 → Calls Tryz.prog 28 #[.string ⟨#[104, 116, 116, 112, 115, 58, 47, 47, 104, 47, 97, 37, 50, 102, 98]⟩] w9 fun e w' => ∃ qa qc, e = .returned (.tuple #[.agg #[.string ⟨#[104, 116, 116, 112, 115]⟩, .string ⟨#[104]⟩, .int .i64 0, .slice qa 1 qc, .string ⟨#[]⟩, .bool false, .string ⟨#[]⟩, .bool false], .int .i64 0]) ∧ w'.ownsRow 0 9 1 (.slice qa 1 qc) 1 [sB [97, 47, 98]] ∧ Below w9.heap.size w9 w') := Lib.hid (fun w9 hT9 => by
    refine (parse_any liveD w9 hT9).mono ?_
    intro e w' h
    rw [live_parse] at h
    obtain ⟨pv, rfl, hown, hb⟩ := h
    obtain ⟨qa, qc, rfl⟩ := own_shape hown
    exact ⟨qa, qc, rfl, own_lower hown (Nat.zero_le _), hb⟩)
  have H3 : Hid (∀ w9, Calls Tryz.prog 15 #[.string ⟨#[97, 32, 98]⟩] w9 fun e w' => e = .returned (.string ⟨#[97, 37, 50, 48, 98]⟩) ∧ Below w9.heap.size w9 w') := Lib.hid (fun w9 => by
    have h := encode_any [97, 32, 98] w9 (by decide)
    rw [live_enc] at h
    exact h)
  clear hT
  go_enter Tryz.func17, Tryz.ntmps17
  go_wp2_with fail
  refine H1.out.mono ?_
  rintro e w1 ⟨rfl, hb1⟩
  have X1 := Lib.hid hb1
  clear hb1 H1
  go_wp2_with fail
  refine (H2.out _ (HTB.out.below X1.out)).mono ?_
  rintro e w2 ⟨qa, qc, rfl, hown, hb2⟩
  have X2 := Lib.hid (X1.out.trans (Below.le hb2 X1.out.size))
  have SQ := Lib.hid hown
  clear hown hb2 X1 H2
  obtain ⟨g, rfl⟩ := own_some SQ.out (by decide)
  obtain ⟨C, hC⟩ : ∃ C, w2.heap.size = C := ⟨_, rfl⟩
  go_upto_region 3 with fail
  refine code_gen (Φ := fun wy => Hid (Below w.heap.size w wy) ∧ Hid (wy.heap[C]? = some (.cells #[.string ⟨#[104, 116, 116, 112, 115]⟩, .string ⟨#[104]⟩, .int .i64 0, .slice (some ⟨g, 0, none⟩) 1 qc, .string ⟨#[]⟩, .bool false, .string ⟨#[]⟩, .bool false] 47 (0, 0))) ∧ Hid (wy.cell? ⟨g, 0, none⟩ = some (.string ⟨#[97, 47, 98]⟩))) ?_ ?_
  · have ha : ∀ o, Below w2.heap.size w2 (w2.alloc o) := fun o => (Below.refl _ _).alloc (Nat.le_refl _) _
    refine ⟨Lib.hid (X2.out.alloc X2.out.size _), Lib.hid (alloc_at hC _), Lib.hid (kc (ha _) ?_)⟩
    obtain ⟨b', o', e, hi⟩ := (own_str (l := [[97, 47, 98]]) SQ.out).item 0 (by decide)
    injection e with e
    injection e with e1 e2
    subst e1 e2
    exact hi
  clear SQ X2 hC
  rintro w3 ⟨X3, B3, hg⟩
  have HG := Lib.hid hg
  clear hg
  go_wp2_with fail
  refine (ok_any (some ⟨w3.heap.size, 0, none⟩) 2 [0, 0] _ (ints_block (l := [0, 0]) (alloc_at rfl _) rfl (by decide))).mono ?_
  rintro e w4 ⟨rfl, hb4⟩
  have ha : ∀ o, Below w3.heap.size w3 (w3.alloc o) := fun o => (Below.refl _ _).alloc (Nat.le_refl _) _
  have Y4 := Lib.hid ((ha _).trans (Below.le hb4 (ha _).size))
  have X4 := Lib.hid (X3.out.trans (Below.le Y4.out X3.out.size))
  have B4 := Lib.hid ((Y4.out.block C (lt_of_heap B3.out)).trans B3.out)
  have x0 := kc Y4.out HG.out
  clear hb4 ha Y4 X3 B3 HG
  obtain ⟨c0, c1, c2, c3, c4, c5, c6, c7⟩ := cells8 B4.out
  go_wp2_with fail
  refine (H3.out _).mono ?_
  rintro e w5 ⟨rfl, hb5⟩
  have X5 := Lib.hid (X4.out.trans (Below.le hb5 X4.out.size))
  clear hb5 X4 B4 c0 c1 c2 c3 c4 c5 c6 c7 x0
  go_wp2_with fail
  go_ret
  exact ⟨rfl, X5.out⟩
end Go.Proofs.YtjcejijdeohkgaaGreatDoor
