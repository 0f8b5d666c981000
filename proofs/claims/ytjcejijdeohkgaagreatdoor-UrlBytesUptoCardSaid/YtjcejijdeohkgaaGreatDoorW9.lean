/- The contract of strings.Cut at a separator of one byte, for texts of any length. -/
import Derived.Test.YtjcejijdeohkgaaGreatDoorW8
namespace Go.Proofs.YtjcejijdeohkgaaGreatDoor
open Go.RowKit

theorem ib_cut {l : Bs} {c : UInt8} {o : Nat} (h : Lib.indexByte l c = o) : o < l.length ∧ frontC c l = l.take o ∧ backC c l = l.drop (o + 1) ∧ l.contains c = true := by
  obtain ⟨h1, h2⟩ := Lib.indexByte_some h
  have hl : o < l.length := by
    rcases Nat.lt_or_ge o l.length with h3 | h3
    · exact h3
    · rw [List.getElem?_eq_none h3] at h1; cases h1
  have e : l = l.take o ++ c :: l.drop (o + 1) := by
    have e1 := (List.take_append_drop o l).symm
    rw [List.drop_eq_getElem_cons hl] at e1
    rw [List.getElem?_eq_getElem hl] at h1
    rw [Option.some.inj h1] at e1
    exact e1
  have hn : c ∉ l.take o := by
    intro hm
    obtain ⟨k, hk, e2⟩ := List.mem_iff_getElem.1 hm
    rw [List.length_take] at hk
    refine h2 k (by omega) ?_
    rw [← e2, List.getElem_take, List.getElem?_eq_getElem]
  obtain ⟨f1, f2⟩ := front_cut (l.drop (o + 1)) hn
  rw [← e] at f1 f2
  exact ⟨hl, f1, f2, by simpa using List.mem_of_getElem? h1⟩
theorem ib_none {l : Bs} {c : UInt8} (h : Lib.indexByte l c = -1) : frontC c l = l ∧ backC c l = [] ∧ l.contains c = false := by
  have hn : c ∉ l := by
    intro hm
    obtain ⟨k, hk, e⟩ := List.mem_iff_getElem.1 hm
    exact Lib.indexByte_none h k (by rw [List.getElem?_eq_getElem hk, e])
  obtain ⟨f1, f2⟩ := front_not hn
  exact ⟨f1, f2, by simpa using hn⟩
theorem call61 (args : Array Value) (w : World) : Sem.run Tryz.prog (callFunc 61 args) w = .ok (.enter 61 args) w := by go_simp
theorem call101 (args : Array Value) (w : World) : Sem.run Tryz.prog (callFunc 101 args) w = .ok (.enter 101 args) w := by go_simp
set_option maxRecDepth 100000 in
set_option maxHeartbeats 4000000 in
theorem cut1_any (c : UInt8) (l : Bs) (w : World) (hl : l.length < 9223372036854775807) : Calls Tryz.prog 61 #[.string (bs l), .string ⟨#[c]⟩] w fun e w' => e = .returned (.tuple #[.string (bs (frontC c l)), .string (bs (backC c l)), .bool (l.contains c)]) ∧ ∃ q, w' = w.drewN q := by
  have p101 := call101
  have HI := Lib.hid (Tryz.stringslite_Index_one (bs l) c w)
  rw [bs_list] at HI
  have hsz : (bs l).size = l.length := bs_size l
  have HX := Lib.hid (fun n => bs_drop l n)
  have HY := Lib.hid (fun n => bs_take l n)
  have hge := Lib.indexByte_ge l c
  rcases Int.lt_or_le (Lib.indexByte l c) 0 with h0 | h0
  · have e : Lib.indexByte l c = -1 := by omega
    obtain ⟨f1, f2, f3⟩ := ib_none e
    rw [e] at HI
    rw [f1, f2, f3]
    clear h0 e f1 f2 f3 hge
    generalize bs l = S at *
    go_enter Tryz.func61, Tryz.ntmps61
    go_wp2_with fail
    refine HI.out.mono ?_
    rintro e w' ⟨rfl, rfl⟩
    go_wp2_with fail
    refine bodyPost_ret (v := .tuple #[.string S, .string ⟨#[]⟩, .bool false]) (by simp [results, Tryz.results61, go_sem]) rfl ?_
    exact ⟨rfl, 0, rfl⟩
  · obtain ⟨o, ho⟩ : ∃ o : Nat, Lib.indexByte l c = o := ⟨(Lib.indexByte l c).toNat, by omega⟩
    obtain ⟨f0, f1, f2, f3⟩ := ib_cut ho
    rw [ho] at HI
    rw [f1, f2, f3, ← HX.out, ← HY.out]
    have h1 : o ≤ (bs l).size := by omega
    have h2 : o + 1 ≤ (bs l).size := by omega
    have h3 : (0 : Int) ≤ (o : Int) + 1 := by omega
    have h4 : (o : Int) + 1 ≤ ((bs l).size : Int) := by omega
    have hw1 : IntKind.i64.wrap ((o : Int) + 1) = (o : Int) + 1 := by rw [IntKind.wrap_i64]; omega
    have hz : (⟨#[c]⟩ : ByteArray).size = 1 := rfl
    clear h0 ho f0 f1 f2 f3 hge HX HY hsz hl
    generalize bs l = S at *
    go_enter Tryz.func61, Tryz.ntmps61
    go_wp2_with fail
    refine HI.out.mono ?_
    rintro e w' ⟨rfl, rfl⟩
    go_wp2_with fail
    go_quiet (fail)
    all_goals
      go_wp2_with fail
      refine bodyPost_ret (v := .tuple #[.string (S.extract 0 o), .string (S.extract (o + 1) S.size), .bool true]) (by simp [results, Tryz.results61, go_sem]) rfl ?_
      exact ⟨rfl, _, rfl⟩
set_option maxHeartbeats 1000000 in
theorem cut_any (c : UInt8) (l : Bs) (w : World) (hl : l.length < 9223372036854775807) : Calls Tryz.prog 24 #[.string (bs l), .string ⟨#[c]⟩] w fun e w' => e = .returned (.tuple #[.string (bs (frontC c l)), .string (bs (backC c l)), .bool (l.contains c)]) ∧ ∃ q, w' = w.drewN q := by
  have p61 := call61
  have HC := Lib.hid (cut1_any c l w hl)
  generalize List.contains l c = K at *
  go_enter Tryz.func24, Tryz.ntmps24
  go_wp2_with fail
  refine HC.out.mono ?_
  rintro e w' ⟨rfl, q, rfl⟩
  go_wp2_with fail
  refine bodyPost_ret (v := .tuple #[.string (bs (frontC c l)), .string (bs (backC c l)), .bool K]) (by simp [results, Tryz.results24, go_sem]) rfl ?_
  exact ⟨rfl, q, rfl⟩
end Go.Proofs.YtjcejijdeohkgaaGreatDoor
