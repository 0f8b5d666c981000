/- The contract of strings.IndexAny at slash, question mark, number sign: for any bytes. -/
import Derived.Test.YtjcejijdeohkgaaGreatDoorW18
import Derived.Lib.OthersKept
namespace Go.Proofs.YtjcejijdeohkgaaGreatDoor
open Go.RowKit

theorem high (l : Bs) (hne : l ≠ []) (h : 128 ≤ (l.getD 0 0).toNat) : 128 ≤ (Lib.decodeL l).1 ∧ ∀ x ∈ l.take (Lib.decodeL l).2, 128 ≤ x.toNat := by
  have hlen : 0 < l.length := List.length_pos_iff.2 hne
  rw [Lib.decodeL_N]
  rcases Lib.decodeN_shape l.length (l.getD 0 0).toNat (l.getD 1 0).toNat (l.getD 2 0).toNat (l.getD 3 0).toNat with h1 | h1 | h1 | h1 | h1
  · omega
  · obtain ⟨a, b, c, d, e⟩ := h1
    rw [e]
    refine ⟨d, fun x hx => ?_⟩
    rw [Lib.takeB l b] at hx
    simp only [List.mem_cons, List.not_mem_nil, or_false] at hx
    rcases hx with rfl | rfl
    · exact h
    · omega
  · obtain ⟨a, b, c, d, e, f, g⟩ := h1
    rw [g]
    refine ⟨by omega, fun x hx => ?_⟩
    rw [Lib.takeC l b] at hx
    simp only [List.mem_cons, List.not_mem_nil, or_false] at hx
    rcases hx with rfl | rfl | rfl
    · exact h
    · omega
    · omega
  · obtain ⟨a, b, c, d, e, f, g, i⟩ := h1
    rw [i]
    refine ⟨by omega, fun x hx => ?_⟩
    rw [Lib.takeD l b] at hx
    simp only [List.mem_cons, List.not_mem_nil, or_false] at hx
    rcases hx with rfl | rfl | rfl | rfl
    · exact h
    · omega
    · omega
    · omega
  · rw [h1]
    refine ⟨by decide, fun x hx => ?_⟩
    rw [Lib.takeA l hlen, List.mem_singleton] at hx
    subst hx
    exact h
theorem noany_step {l : Bs} {pos K : Nat} (h : Lib.NoAny l endSet pos) (hk : ∀ x ∈ (l.drop pos).take K, endSet.contains x = false) : Lib.NoAny l endSet (pos + K) := by
  intro j b hj hb
  by_cases hp : j < pos
  · exact h j b hp hb
  · refine hk b ?_
    refine List.mem_of_getElem? (i := j - pos) ?_
    rw [List.getElem?_take, if_pos (by omega), List.getElem?_drop]
    rw [show pos + (j - pos) = j by omega]
    exact hb
theorem end_low {x : UInt8} (h : 128 ≤ x.toNat) : endSet.contains x = false := by
  cases hc : endSet.contains x with
  | false => rfl
  | true =>
    have hm : x ∈ endSet := by simpa using hc
    have : ∀ y ∈ endSet, y.toNat < 128 := by decide
    have := this x hm
    omega
theorem call65 (args : Array Value) (w : World) : Sem.run Tryz.prog (callFunc 65 args) w = .ok (.enter 65 args) w := by go_simp
theorem call104 (args : Array Value) (w : World) : Sem.run Tryz.prog (callFunc 104 args) w = .ok (.enter 104 args) w := by go_simp
set_option maxRecDepth 100000 in
set_option maxHeartbeats 4000000 in
theorem iany_any (l : Bs) (w : World) (hl : l.length ≤ 1048576) : Calls Tryz.prog 65 #[.string (bs l), .string endB] w fun e w' => e = .returned (.int .i64 (Lib.indexAny l endSet)) ∧ Below w.heap.size w w' := by
  by_cases h8 : 8 < l.length
  · have h := Tryz.strings_IndexAny_long (fun w => by kernel_rfl) (bs l) endB w (by decide) (by rw [bs_size]; exact h8) (by rw [bs_size]; omega) (by decide) (fun j b hb => by
      have : ∀ y ∈ endB.data.toList, y.toNat < 128 := by decide
      exact this b (List.mem_of_getElem? hb))
    rw [bs_list] at h
    refine h.mono ?_
    rintro e w' ⟨rfl, rfl⟩
    exact ⟨rfl, ((Below.refl _ _).alloc (Nat.le_refl _) _).alloc (al_le (Nat.le_refl _) _) _⟩
  · have p103 := call103
    have p104 := call104
    have hemp : endB.toList.isEmpty = false := by rw [Lib.toList_data]; rfl
    have hz3 : endB.size = 3 := rfl
    have hsz : (bs l).size = l.length := bs_size l
    have h8z : ¬ (8 : Int) < ((bs l).size : Int) := by omega
    have HG : Hid (∀ i (h1 : i < l.length) (h : i < (bs l).size), (bs l)[i]'h = l[i]'h1) := Lib.hid (fun i _ h => bs_get l i h)
    obtain ⟨R, hR⟩ : ∃ R, Lib.indexAny l endSet = R := ⟨_, rfl⟩
    rw [hR]
    have HR := Lib.hid hR
    have HDD := Lib.hid (fun pos => Lib.decodeL_drop (bs l) pos)
    rw [bs_list] at HDD
    have HIA := Lib.hid (fun (c : UInt8) (hc : c.toNat < 128) (w9 : World) => Tryz.strings_IndexRune_ascii endB (c.toNat : Int) w9 (by omega) (by omega))
    have HIH := Lib.hid (fun (r : Nat) (h1 : 128 ≤ r) (h2 : r ≤ 1114111) (w9 : World) => irune_high r w9 h1 h2)
    have HE : Hid (endB.data.toList = endSet) := Lib.hid rfl
    rw [HE.out] at HIA
    have HRL := Lib.hid (fun pos => Lib.rune_le (bs l) pos)
    have HWP := Lib.hid (fun pos => Lib.width_pos (bs l) pos)
    generalize bs l = S at *
    generalize endB = EB at *
    have HZ := Lib.hid hsz
    clear hR hl h8 hsz HE
    go_enter Tryz.func65, Tryz.ntmps65
    go_wp2_with fail
    refine (Tryz.strings_shouldUseASCIISet _ _).mono ?_
    rintro e w' ⟨rfl, rfl⟩
    rw [decide_eq_false (show ¬ (8 : Int) < (S.size : Int) by omega)]
    have hi0 := Lib.hid (World.iter_heap w' S 0)
    have hb0 := Lib.hid (show Below w'.heap.size w' (w'.iter S 0) from (Below.refl _ _).alloc (Nat.le_refl _) _)
    go_wp2_with fail
    go_loopg [9, 10] l.length (fun g _ _ wx => ∃ pos : Nat, g = l.length - pos ∧ pos ≤ l.length ∧ wx.heap[w'.heap.size]? = some (.stringIter S pos) ∧ Below w'.heap.size w' wx ∧ Lib.NoAny l endSet pos)
    case atStart => exact ⟨0, rfl, Nat.zero_le _, hi0.out, hb0.out, Lib.NoAny.zero _ _⟩
    case round =>
      clear hi0 hb0
      obtain ⟨pos, hg, hp, hit, hb, hno⟩ := hrel
      have G := Lib.hid hg
      have HIT := Lib.hid hit
      have X := Lib.hid hb
      have NO := Lib.hid hno
      clear hg hit hb hno
      generalize hK : w'.heap.size = K at *
      by_cases hlt : pos < l.length
      · have h0 : pos < S.size := by have := HZ.out; omega
        have gk' : S[pos]'h0 = l[pos] := HG.out pos hlt h0
        by_cases hc : l[pos].toNat < 128
        · have hnx := fun ty => Lib.run_next_ascii_at (P := Tryz.prog) wr K S pos ty HIT.out h0 (by rw [gk']; exact hc)
          rw [gk'] at hnx
          have hit2 := Lib.hid (Lib.iterAt_heap wr K S pos (pos + 1) HIT.out)
          have X2 := Lib.hid (Lib.below_iterAt X.out (k := K) (Nat.le_refl _) S (pos + 1))
          generalize wr.iterAt K S (pos + 1) = W at *
          have HA := Lib.hid (HIA.out l[pos] hc W)
          rw [byte_of] at HA
          have HX := Lib.hid (List.getElem?_eq_getElem hlt)
          generalize l[pos] = c at *
          have HCI := Lib.hid (ib_iff endSet c)
          generalize Lib.indexByte endSet c = o at *
          clear HG HRL HWP HDD HIH gk' HIA hc
          by_cases ho : 0 ≤ o
          · rw [decide_eq_true ho] at HCI
            have hr : R = pos := by rw [← HR.out]; exact Lib.indexAny_hit NO.out HX.out HCI.out.symm
            subst hr
            go_wp2_with fail
            refine HA.out.mono ?_
            rintro e w2 ⟨rfl, rfl⟩
            go_wp2_with fail
            go_ret
            exact ⟨rfl, by rw [hK]; exact X2.out⟩
          · rw [decide_eq_false ho] at HCI
            have NO2 := Lib.hid (NO.out.succ HX.out HCI.out.symm)
            go_wp2_with fail
            refine HA.out.mono ?_
            rintro e w2 ⟨rfl, rfl⟩
            go_wp2_with fail
            go_roundg (l.length - (pos + 1))
            case measure => rw [G.out]; omega
            case rel => exact ⟨pos + 1, rfl, by omega, hit2.out, X2.out, NO2.out⟩
        · have hnx := fun ty => Lib.run_next_any_at (P := Tryz.prog) wr K S pos ty HIT.out h0
          have hne : l.drop pos ≠ [] := by
            intro e
            have := congrArg List.length e
            rw [List.length_drop] at this
            simp at this
            omega
          have hh := high (l.drop pos) hne (by
            rw [List.getD_eq_getElem?_getD, List.getElem?_drop, Nat.add_zero, List.getElem?_eq_getElem hlt]
            show 128 ≤ l[pos].toNat
            omega)
          have hle := Lib.decodeL_le (l.drop pos) hne
          rw [HDD.out, List.length_drop] at hle
          rw [HDD.out] at hh
          have hr1 := HRL.out pos
          have hw1 := HWP.out pos
          have hit2 := Lib.hid (Lib.iterAt_heap wr K S pos (pos + (Utf8.decode S pos).2) HIT.out)
          have X2 := Lib.hid (Lib.below_iterAt X.out (k := K) (Nat.le_refl _) S (pos + (Utf8.decode S pos).2))
          generalize wr.iterAt K S (pos + (Utf8.decode S pos).2) = W at *
          have HH := Lib.hid (HIH.out _ hh.1 hr1 W)
          have NO2 := Lib.hid (noany_step NO.out (fun x hx => end_low (hh.2 x hx)))
          have HW := Lib.hid (And.intro hle hw1)
          clear hh hle hr1 hw1 HG HRL HWP HDD HIH HIA gk' hc hne
          generalize (Utf8.decode S pos).1 = RR at *
          generalize (Utf8.decode S pos).2 = KK at *
          go_wp2_with fail
          refine HH.out.mono ?_
          rintro e w2 ⟨rfl, hb2⟩
          have X3 := Lib.hid (X2.out.trans (Below.le hb2 (by rw [← hK]; have := X2.out.size; omega)))
          have hit3 := Lib.hid ((hb2.block K (lt_of_heap hit2.out)).trans hit2.out)
          clear hb2
          go_wp2_with fail
          go_roundg (l.length - (pos + KK))
          case measure => rw [G.out]; have := HW.out; omega
          case rel => exact ⟨pos + KK, rfl, by have := HW.out; omega, hit3.out, X3.out, NO2.out⟩
      · have hpe : pos = l.length := by omega
        have hnx := fun ty => Lib.run_next_end_at (P := Tryz.prog) wr K S pos ty HIT.out (by have := HZ.out; omega)
        have hr : R = -1 := by rw [← HR.out]; exact Lib.indexAny_none (by rw [← hpe]; exact NO.out)
        subst hr
        clear hpe hlt HG HRL HWP HDD HIH HIA
        go_wp2_with fail
        go_ret
        exact ⟨rfl, by rw [hK]; exact X.out⟩
end Go.Proofs.YtjcejijdeohkgaaGreatDoor
