/- The contracts of strings.Trim and strings.Split at one byte. -/
import Derived.Test.YtjcejijdeohkgaaGreatDoorW9
namespace Go.Proofs.YtjcejijdeohkgaaGreatDoor
open Go.RowKit

theorem trim_any (l cs : Bs) (w : World) (hl : l.length ≤ 9223372036854775807) (hc : cs.length < 4294967281) (ha : ∀ b ∈ cs, b.toNat < 128) : Calls Tryz.prog 18 #[.string (bs l), .string (bs cs)] w fun e w' => e = .returned (.string (bs (Lib.trimS l cs))) ∧ Below w.heap.size w w' := by
  have h := Any.strings_Trim_ascii Tryz.lays160 (fun w => by kernel_rfl) (by kernel_rfl) (bs l) (bs cs) w (by rw [bs_size]; exact hl) (by rw [bs_size]; exact hc) (fun j b hb => ha b (by rw [bs_list] at hb; exact List.mem_of_getElem? hb))
  rw [bs_list, bs_list] at h
  exact h
theorem split_eq (c : UInt8) : ∀ (n : Nat) (l : Bs), l.length ≤ n → Lib.splitB ⟨#[c]⟩ 0 (Lib.countB (bs l) ⟨#[c]⟩) (bs l) = (splitC c l).map bs
  | n, l, hn => by
    have hi : Lib.indexB (bs l) ⟨#[c]⟩ = Lib.indexByte l c := by
      have := Lib.index_one l c
      unfold Lib.indexB
      rw [bs_list]
      exact this
    have hge := Lib.indexByte_ge l c
    rcases Int.lt_or_le (Lib.indexByte l c) 0 with h0 | h0
    · have e : Lib.indexByte l c = -1 := by omega
      rw [Lib.countB_miss _ _ (by rw [hi, e]), Lib.splitB_zero]
      have hn : c ∉ l := by
        have := (ib_none e).2.2
        simpa using this
      rw [splitC_not hn]
      rfl
    · obtain ⟨o, ho⟩ : ∃ o : Nat, Lib.indexByte l c = o := ⟨(Lib.indexByte l c).toNat, by omega⟩
      obtain ⟨f0, f1, f2, _⟩ := ib_cut ho
      have hc := Lib.countB_hit (bs l) ⟨#[c]⟩ o (Nat.le_refl 1) (by rw [hi, ho])
      rw [hc, Nat.add_comm, Lib.splitB_hit _ _ _ _ o (by rw [hi, ho])]
      have e1 : (bs l).extract (o + (⟨#[c]⟩ : ByteArray).size) (bs l).size = bs (l.drop (o + 1)) := bs_drop l (o + 1)
      have e2 : (bs l).extract 0 (o + 0) = bs (l.take o) := bs_take l o
      rw [e1, e2]
      match n, hn with
      | 0, hn => omega
      | n + 1, hn =>
        rw [split_eq c n (l.drop (o + 1)) (by rw [List.length_drop]; omega)]
        have e3 : l = l.take o ++ c :: l.drop (o + 1) := by
          have e1 := (List.take_append_drop o l).symm
          rw [List.drop_eq_getElem_cons f0] at e1
          have h1 := (Lib.indexByte_some ho).1
          rw [List.getElem?_eq_getElem f0] at h1
          rw [Option.some.inj h1] at e1
          exact e1
        have hnm : c ∉ l.take o := by
          rw [← f1]
          exact front_free c l
        have e4 := splitC_cut (l.drop (o + 1)) hnm
        rw [← e3] at e4
        rw [e4]
        rfl
def StrB (w : World) (b x : Nat) (s : Bs) : Prop := w.cell? ⟨b, x, none⟩ = some (.string (bs s))
theorem split_any (c : UInt8) (l : Bs) (w : World) (hT : TB w) (hl : l.length ≤ 1048576) : Calls Tryz.prog 109 #[.string (bs l), .string ⟨#[c]⟩] w fun e w' => ∃ a cp, e = .returned (.slice a (splitC c l).length cp) ∧ SlR w' StrB 1 (.slice a (splitC c l).length cp) (splitC c l) ∧ Below w.heap.size w w' ∧ (splitC c l).length ≤ l.length + 1 := by
  obtain ⟨m, hm⟩ := hT.m
  have he := split_eq c l.length l (Nat.le_refl _)
  have hlen : (splitC c l).length = Lib.countB (bs l) ⟨#[c]⟩ + 1 := by
    have := congrArg List.length he
    rw [Lib.splitB_all ⟨#[c]⟩ (Nat.le_refl 1) 0 _ _ rfl, List.length_map] at this
    exact this.symm
  have hle := Lib.countB_le ⟨#[c]⟩ (Nat.le_refl 1) (bs l).size (bs l) (Nat.le_refl _)
  rw [bs_size] at hle
  refine (Tryz.strings_Split (bs l) ⟨#[c]⟩ m w (by rw [bs_size]; omega) hm (Nat.le_refl 1)).mono ?_
  rintro e w' ⟨rfl, rfl⟩
  rw [he, ← hlen]
  refine ⟨_, _, rfl, ?_, (Below.refl _ _).alloc (Nat.le_refl _) _, by omega⟩
  refine ⟨_, _, rfl, Nat.le_refl _, by unfold maxLen; omega, fun _ => ⟨w.heap.size, 0, rfl, fun k hk => ?_⟩⟩
  show World.cell? _ ⟨w.heap.size, 0 + k * 1, none⟩ = _
  rw [Nat.zero_add, Nat.mul_one]
  refine (Lib.cell_of_heap (alloc_at rfl _) _).trans ?_
  simp [hk]
end Go.Proofs.YtjcejijdeohkgaaGreatDoor
