/- The contracts of dom's named, Name, attrName. -/
import Derived.Test.YtnnckjgafglgeaaDoorShelf
import Derived.Test.YtnnckjgafglgeaaDoorE1
import Derived.Test.YtnnckjgafglgeaaDoorRows
import Derived.Shelf.Strings.SlTrimAscii
import Derived.WalkKit
import Derived.WalkSpells
import Derived.WalkLawsBesides
import Derived.Deep.QuietTactic
import Derived.BigQuiet
import Derived.Deep.DeepCutAuto
import Derived.Deep.Draws
import Derived.Outline
import Derived.Deep.RegionHeld3
import Derived.Lib.Hide
namespace Go.Proofs.YtnnckjgafglgeaaDoor
open Go.RowKit

def signsB : ByteArray := ⟨#[97, 98, 99, 100, 101, 102, 103, 104, 105, 106, 107, 108, 109, 110, 111, 112, 113, 114, 115, 116, 117, 118, 119, 120, 121, 122, 48, 49, 50, 51, 52, 53, 54, 55, 56, 57, 45, 95, 58]⟩
theorem trim_any (s : ByteArray) (w : World) (h0 : 0 < s.size) (hs : s.size ≤ 40) :
    Calls Tryd.prog 45 #[.string s, .string signsB] w fun e w' => e = .returned (.string ⟨(Lib.trimS s.data.toList signs).toArray⟩) ∧ Below w.heap.size w w' := by
  refine (Any.strings_Trim_set Tryd.lays160 (fun w => by kernel_rfl) (by kernel_rfl) s signsB w (by decide) h0 (by omega) (by decide) (fun j b hb => ?_)).mono ?_
  · have hm := List.mem_of_getElem? hb
    have hall : signsB.data.toList.all (fun b => decide (b.toNat < 128)) = true := by decide
    simpa using List.all_eq_true.1 hall b hm
  · rintro e w' ⟨rfl, q, rfl⟩
    have hb := ((Below.refl w.heap.size w).alloc (Nat.le_refl _) (.cells (Lib.setCells signsB.data.toList) (Tryd.lays160_ren.t 116))).alloc (by simp) (.cells (Lib.setCells signsB.data.toList) (Tryd.lays160_ren.t 116))
    exact ⟨rfl, ⟨hb.os, hb.tape, hb.output, hb.size, hb.block⟩⟩
set_option maxRecDepth 100000 in
set_option maxHeartbeats 2000000 in
theorem named_any (s f : ByteArray) (w : World) : Calls Tryd.prog 41 #[.string s, .string f] w fun e w' => e = .returned (.bool (named s f.data.toList)) ∧ Below w.heap.size w w' := by
  by_cases h0 : s.size = 0
  · have hl : s.data.toList = [] := by
      have : s.data.toList.length = 0 := by simpa using h0
      exact List.eq_nil_of_length_eq_zero this
    have hn : named s f.data.toList = false := by simp [named, begins, hl]
    rw [hn]
    have h1 : s.toList = [] := by rw [Lib.toList_data]; exact hl
    have h2 : s.toList.isEmpty = true := by rw [h1]; rfl
    go_enter Tryd.func41, Tryd.ntmps41
    go_wp2_with fail
    go_ret
    exact ⟨rfl, Below.refl _ _⟩
  · have hne : s.toList.isEmpty = false := by
      rw [Lib.toList_data]
      cases h : s.data.toList with
      | nil => have : s.data.toList.length = 0 := by rw [h]; rfl
               exact absurd (by simpa using this) h0
      | cons _ _ => rfl
    have hpos : 0 < s.size := by omega
    have hc : s.data.toList = s[0] :: s.data.toList.tail := by
      cases h : s.data.toList with
      | nil => rw [Lib.toList_data, h] at hne; cases hne
      | cons a l =>
        have : s[0] = a := by
          have h2 : s.data.toList[0]? = some a := by rw [h]; rfl
          have h3 : s.data.toList[0]? = some s[0] := by simp [hpos]; rfl
          rw [h2] at h3
          injection h3 with h3
          exact h3.symm
        rw [this]
        rfl
    have hb : begins s f.data.toList = decide ((0 : Int) ≤ Lib.indexByte f.data.toList s[0]) := by unfold begins; rw [hc]
    by_cases h40 : s.size ≤ 40
    · have h40i : (s.size : Int) ≤ 40 := by omega
      obtain ⟨I, hI⟩ : ∃ I, Lib.indexByte f.data.toList s[0] = I := ⟨_, rfl⟩
      have hix : ∀ w, Calls Tryd.prog 44 #[.string f, .int .u8 (s[0].toNat : Int)] w fun e w' => e = .returned (.int .i64 I) ∧ w = w' := fun w => by
        refine (Tryd.strings_IndexByte f (s[0].toNat : Int) w).mono ?_
        rintro e w' ⟨rfl, rfl⟩
        refine ⟨?_, rfl⟩
        rw [← hI]
        simp
      rw [hI] at hb
      have HIX := Lib.hid hix
      have HB := Lib.hid hb
      clear hix hb hI hc
      by_cases h0I : 0 ≤ I
      · obtain ⟨T, hT⟩ : ∃ T, Lib.trimS s.data.toList signs = T := ⟨_, rfl⟩
        have HTR := Lib.hid (fun w => trim_any s w hpos h40)
        rw [hT] at HTR
        have HN : Hid (named s f.data.toList = T.isEmpty) := Lib.hid (by unfold named; rw [HB.out, hT, decide_eq_true h40, decide_eq_true h0I]; simp)
        clear hT
        obtain ⟨z, hz⟩ : ∃ z : ByteArray, (⟨T.toArray⟩ : ByteArray) = z := ⟨_, rfl⟩
        have hzT : z.toList = T := by rw [← hz, Lib.toList_data]
        rw [hz] at HTR
        clear hz
        go_enter Tryd.func41, Tryd.ntmps41
        go_wp2_with fail
        refine (HIX.out _).mono ?_
        rintro e w2 ⟨rfl, rfl⟩
        go_wp2_with fail
        refine (HTR.out _).mono ?_
        rintro e w3 ⟨rfl, hb3⟩
        cases T with
        | nil =>
          have h2 : z.toList.isEmpty = true := by rw [hzT]; rfl
          clear HIX HTR HB
          go_wp2_with fail
          go_ret
          exact ⟨by rw [HN.out]; rfl, hb3⟩
        | cons a l =>
          have h2 : z.toList.isEmpty = false := by rw [hzT]; rfl
          have h3 : ¬ z.toList = [] := by rw [hzT]; simp
          clear HIX HTR HB hzT
          go_wp2_with fail
          go_ret
          exact ⟨by rw [HN.out]; rfl, hb3⟩
      · have hn : named s f.data.toList = false := by unfold named; rw [HB.out, decide_eq_false h0I]; simp
        rw [hn]
        clear hn
        have h0I' : decide (0 ≤ I) = false := decide_eq_false h0I
        go_enter Tryd.func41, Tryd.ntmps41
        go_wp2_with fail
        refine (HIX.out _).mono ?_
        rintro e w2 ⟨rfl, rfl⟩
        go_wp2_with fail
        go_ret
        exact ⟨rfl, Below.refl _ _⟩
    · have hn : named s f.data.toList = false := by unfold named; rw [decide_eq_false h40]; rfl
      rw [hn]
      have h40i : decide ((s.size : Int) ≤ 40) = false := decide_eq_false (by omega)
      clear hn hb hc
      go_enter Tryd.func41, Tryd.ntmps41
      go_wp2_with fail
      go_ret
      exact ⟨rfl, Below.refl _ _⟩
set_option maxRecDepth 100000 in
set_option maxHeartbeats 2000000 in
theorem name_any (s : ByteArray) (w : World) : Calls Tryd.prog 38 #[.string s] w fun e w' => e = .returned (.bool (isName s)) ∧ Below w.heap.size w w' := by
  go_enter Tryd.func38, Tryd.ntmps38
  go_wp2_with fail
  refine (named_any s _ w).mono ?_
  rintro e w' ⟨rfl, hb⟩
  go_wp2_with fail
  go_ret
  exact ⟨rfl, hb⟩
set_option maxRecDepth 100000 in
set_option maxHeartbeats 2000000 in
theorem attrName_any (s : ByteArray) (w : World) : Calls Tryd.prog 42 #[.string s] w fun e w' => e = .returned (.bool (isAttr s)) ∧ Below w.heap.size w w' := by
  go_enter Tryd.func42, Tryd.ntmps42
  go_wp2_with fail
  refine (named_any s _ w).mono ?_
  rintro e w' ⟨rfl, hb⟩
  go_wp2_with fail
  go_ret
  exact ⟨rfl, hb⟩
end Go.Proofs.YtnnckjgafglgeaaDoor
