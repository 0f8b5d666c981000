/- The contracts of dom's find, attrs. -/
import Derived.Test.YtnnckjgafglgeaaDoorK
namespace Go.Proofs.YtnnckjgafglgeaaDoor
open Go.RowKit

def Attr.v (a : Attr) : Value := .agg #[.string a.name, .string a.val]
set_option maxRecDepth 100000 in
set_option maxHeartbeats 4000000 in
theorem idxA_any (f : Nat) (p : Attr → Bool) (cp : Value) (C : World → Prop) (HC : ∀ w w', C w → Below w.heap.size w w' → C w') (H : ∀ (j : Attr) (w : World), C w → Calls Tryd.prog f #[Attr.v j, cp] w fun e w' => e = .returned (.bool (p j)) ∧ Below w.heap.size w w')
    (HF : ∀ (args : Array Value) (w : World), Sem.run Tryd.prog (callFunc f args) w = .ok (.enter f args) w)
    (a : Option Addr) (c : Nat) (l : List Attr) (w : World) (h : SlR w AttrAt 2 (.slice a l.length c) l) (hl : l.length ≤ 100000) (hx0 : C w) :
    Calls Tryd.prog 46 #[.slice a l.length c, .func (.func f) #[] #[cp]] w fun e w' => e = .returned (.int .i64 (idxP p l)) ∧ Below w.heap.size w w' := by
  have HH := Lib.hid H
  have HS := Lib.hid h
  have HX0 := Lib.hid hx0
  have HCC := Lib.hid HC
  clear H h hx0 HC
  go_enter Tryd.func46, Tryd.ntmps46
  go_wp2_with fail
  go_loopg [8] l.length (fun n vk wr => ∃ k : Nat, n = l.length - k ∧ k ≤ l.length ∧ vk = .int .i64 (k : Int) ∧ (∀ x ∈ l.take k, p x = false) ∧ Below w.heap.size w wr)
  case atStart => exact ⟨0, rfl, Nat.zero_le _, rfl, by simp, Below.refl _ _⟩
  case round =>
    obtain ⟨k, hg, hk, rfl, hno, hb⟩ := hrel
    have G := Lib.hid hg
    have HN := Lib.hid hno
    have HB := Lib.hid hb
    clear hg hno hb
    by_cases hlt : k < l.length
    · have h1 : (k : Int) < (l.length : Int) := by omega
      have h1' : (l.length : Int) ≤ 100000 := by omega
      obtain ⟨b, o, rfl, hja⟩ := HS.out.item k hlt
      have hdr := idxP_drop p l k hk HN.out
      have hsn : ∀ x ∈ l.take (k + 1), x ∈ l.take k ∨ x = l[k] := by
        intro x hx
        rw [List.take_add_one, List.getElem?_eq_getElem hlt] at hx
        rcases List.mem_append.1 hx with hx | hx
        · exact .inl hx
        · exact .inr (by simpa using hx)
      rw [List.drop_eq_getElem_cons hlt] at hdr
      generalize l[k] = J at *
      have HD := Lib.hid hdr
      have HSN := Lib.hid hsn
      clear hdr hsn
      have hca := fun w h => HH.out J w h
      obtain ⟨nm, vl⟩ := J
      obtain ⟨c0, c1⟩ := hja.below HB.out
      simp only at c0 c1
      have HCA : Hid (∀ w, C w → Calls Tryd.prog f #[.agg #[.string nm, .string vl], cp] w fun e w' => e = .returned (.bool (p ⟨nm, vl⟩)) ∧ Below w.heap.size w w') := Lib.hid hca
      clear hca
      obtain ⟨B, hB⟩ : ∃ B, p ⟨nm, vl⟩ = B := ⟨_, rfl⟩
      rw [hB] at HCA
      have HPB := Lib.hid hB
      clear hB
      go_wp2_with fail
      refine (HCA.out _ (HCC.out _ _ HX0.out HB.out)).mono ?_
      rintro e w2 ⟨rfl, hb2⟩
      have B2 : Hid (Below w.heap.size w w2) := Lib.hid (HB.out.trans (Below.le hb2 HB.out.size))
      clear hb2 c0 c1 hja
      cases B with
      | true =>
        go_wp2_with fail
        go_ret
        refine ⟨?_, B2.out⟩
        rw [HD.out]
        unfold idxP
        rw [HPB.out]
        simp
      | false =>
        go_wp2_with fail
        go_roundg (l.length - (k + 1))
        case measure => rw [G.out]; omega
        case rel =>
          refine ⟨k + 1, rfl, by omega, by simp, ?_, B2.out⟩
          intro x hx
          rcases HSN.out x hx with h | h
          · exact HN.out x h
          · rw [h]; exact HPB.out
    · have hke : k = l.length := by omega
      have hdr := idxP_drop p l k hk HN.out
      rw [hke, List.drop_length] at hdr
      have HD := Lib.hid hdr
      clear hdr
      go_wp2_with fail
      go_ret
      exact ⟨by rw [HD.out]; rfl, HB.out⟩
theorem call47 (args : Array Value) (w : World) : Sem.run Tryd.prog (callFunc 47 args) w = .ok (.enter 47 args) w := by go_simp
set_option maxRecDepth 100000 in
set_option maxHeartbeats 2000000 in
theorem isNamed (b : Nat) (n : ByteArray) (a : Attr) (w : World) (h : w.cell? ⟨b, 0, none⟩ = some (.string n)) : Calls Tryd.prog 47 #[Attr.v a, .pointer (some ⟨b, 0, none⟩)] w fun e w' => e = .returned (.bool (a.name.toList == n.toList)) ∧ Below w.heap.size w w' := by
  obtain ⟨nm, vl⟩ := a
  have hlt := cell_lt h
  show Calls Tryd.prog 47 #[.agg #[.string nm, .string vl], .pointer (some ⟨b, 0, none⟩)] w _
  go_enter Tryd.func47, Tryd.ntmps47
  go_wp2_with fail
  go_ret
  exact ⟨rfl, (Below.refl _ _).alloc (Nat.le_refl _) _⟩
set_option maxRecDepth 100000 in
set_option maxHeartbeats 2000000 in
theorem find_any (a : Option Addr) (c : Nat) (l : List Attr) (n : ByteArray) (w : World) (h : SlR w AttrAt 2 (.slice a l.length c) l) (hl : l.length ≤ 100000) :
    Calls Tryd.prog 43 #[.slice a l.length c, .string n] w fun e w' => e = .returned (.int .i64 (idxP (fun x => x.name.toList == n.toList) l)) ∧ Below w.heap.size w w' := by
  have HS := Lib.hid h
  clear h
  have hcall := call47
  have HF := Lib.hid call47
  go_enter Tryd.func43, Tryd.ntmps43
  go_wp2_with fail
  have hb : Below w.heap.size w (w.alloc (.cells #[.string n] 9)) := (Below.refl _ _).alloc (Nat.le_refl _) _
  have HB := Lib.hid hb
  have hc := heap_alloc_new w (.cells #[.string n] 9)
  refine (idxA_any 47 (fun x => x.name.toList == n.toList) (.pointer (some ⟨w.heap.size, 0, none⟩)) (fun w' => w'.cell? ⟨w.heap.size, 0, none⟩ = some (.string n)) (fun _ _ h hb => kc hb h) (fun j w h => isNamed _ n j w h) HF.out a c l _ (HS.out.mono (fun _ _ _ h => h.below hb)) hl ((Lib.cell_of_heap hc 0).trans rfl)).mono ?_
  rintro e w2 ⟨rfl, hb2⟩
  have HB2 := Lib.hid (HB.out.trans (Below.le hb2 HB.out.size))
  clear hb hc hb2
  go_wp2_with fail
  go_ret
  exact ⟨rfl, HB2.out⟩
theorem find_n (a : Option Addr) (c k : Nat) (l : List Attr) (n : ByteArray) (w : World) (hk : l.length = k) (h : SlR w AttrAt 2 (.slice a k c) l) (hl : k ≤ 100000) :
    Calls Tryd.prog 43 #[.slice a k c, .string n] w fun e w' => e = .returned (.int .i64 (idxP (fun x => x.name.toList == n.toList) l)) ∧ Below w.heap.size w w' := by
  subst hk
  exact find_any a c l n w h hl
theorem SlR.take {α : Type} {w : World} {R : World → Nat → Nat → α → Prop} {size n c : Nat} {a : Option Addr} {l : List α} (h : SlR w R size (.slice a n c) l) (k : Nat) (hk : k ≤ l.length) : SlR w R size (.slice a (l.take k).length c) (l.take k) := by
  obtain ⟨a', c', h1, h2, h3, h4⟩ := h
  injection h1 with e1 _ e3
  subst e1 e3
  refine ⟨a, c, rfl, by rw [List.length_take]; omega, h3, fun h0 => ?_⟩
  obtain ⟨b, o, h5, h6⟩ := h4 (by rw [List.length_take] at h0; omega)
  refine ⟨b, o, h5, fun i hi => ?_⟩
  rw [List.getElem_take]
  exact h6 i (by rw [List.length_take] at hi; omega)
theorem attrsIn_step (l : List Attr) (k : Nat) (hk : k < l.length) : attrsIn (l.take k) (l.drop k) = if isAttr l[k].name then (if 400 < l[k].val.size then 2 else if (l.take k).any (fun x => x.name.toList == l[k].name.toList) then 3 else attrsIn (l.take (k + 1)) (l.drop (k + 1))) else 3 := by
  rw [List.drop_eq_getElem_cons hk]
  conv => lhs; unfold attrsIn
  rw [List.take_add_one, List.getElem?_eq_getElem hk]
  rfl
set_option maxRecDepth 100000 in
set_option maxHeartbeats 4000000 in
theorem attrs_any (a : Option Addr) (c : Nat) (l : List Attr) (w : World) (h : SlR w AttrAt 2 (.slice a l.length c) l) :
    Calls Tryd.prog 39 #[.slice a l.length c] w fun e w' => e = .returned (.int .i64 (attrsErr l)) ∧ Below w.heap.size w w' := by
  have HS := Lib.hid h
  obtain ⟨hc1, hc2, hc3⟩ := h.cap
  clear h
  go_enter Tryd.func39, Tryd.ntmps39
  by_cases h12 : 12 < l.length
  · have h12i : (12 : Int) < (l.length : Int) := by omega
    go_wp2_with fail
    go_ret
    exact ⟨by simp [attrsErr, h12], Below.refl _ _⟩
  · have h12i : (l.length : Int) ≤ 12 := by omega
    have HA : Hid (attrsErr l = attrsIn (l.take 0) (l.drop 0)) := Lib.hid (by simp [attrsErr, h12])
    go_wp2_with fail
    go_loopg [10] l.length (fun n vk wr => ∃ k : Nat, n = l.length - k ∧ k ≤ l.length ∧ vk = .int .i64 (k : Int) ∧ attrsErr l = attrsIn (l.take k) (l.drop k) ∧ Below w.heap.size w wr)
    case atStart => exact ⟨0, rfl, Nat.zero_le _, rfl, HA.out, Below.refl _ _⟩
    case round =>
      clear HA
      obtain ⟨k, hg, hk, rfl, he, hb⟩ := hrel
      have G := Lib.hid hg
      have HE := Lib.hid he
      have HB := Lib.hid hb
      clear hg he hb
      by_cases hlt : k < l.length
      · have h1 : (k : Int) < (l.length : Int) := by omega
        have hkc : (k : Int) ≤ (c : Int) := by omega
        obtain ⟨b, o, rfl, hja⟩ := HS.out.item k hlt
        have HST := Lib.hid (HE.out.trans (attrsIn_step l k hlt))
        clear HE
        have HTK := Lib.hid (HS.out.take k hk)
        have htl : (l.take k).length = k := by rw [List.length_take]; omega
        rw [htl] at HTK
        clear htl
        generalize l[k] = J at *
        obtain ⟨nm, vl⟩ := J
        obtain ⟨c0, c1⟩ := hja.below HB.out
        simp only at c0 c1
        clear hja
        obtain ⟨A, hA⟩ : ∃ A, wr.heap.size = A := ⟨_, rfl⟩
        have HAA := Lib.hid hA
        go_upto_region 6 with fail
        clear hA
        refine code_gen (Φ := fun wy => Hid (Below w.heap.size w wy) ∧ Hid (wy.heap[A]? = some (.cells #[.string nm, .string vl] 81 (0, 0)))) ⟨Lib.hid (HB.out.alloc HB.out.size _), Lib.hid (alloc_at HAA.out _)⟩ ?_
        rintro w3 ⟨X, XA⟩
        clear HB HAA c0 c1
        obtain ⟨c0, c1⟩ := cells2 XA.out
        go_wp2_with fail
        obtain ⟨B, hB⟩ : ∃ B, isAttr nm = B := ⟨_, rfl⟩
        have hat := attrName_any nm w3
        rw [hB] at hat
        refine hat.mono ?_
        clear hat
        rintro e w4 ⟨rfl, hb4⟩
        have Y := Lib.hid (X.out.trans (Below.le hb4 X.out.size))
        have YA := Lib.hid ((hb4.block A (lt_of_heap XA.out)).trans XA.out)
        have HBB := Lib.hid hB
        clear hB hb4 X XA c0 c1
        obtain ⟨c0, c1⟩ := cells2 YA.out
        cases B with
        | false =>
          go_wp2_with fail
          go_ret
          exact ⟨by rw [HST.out]; simp only [HBB.out]; rfl, Y.out⟩
        | true =>
          by_cases h400 : 400 < vl.size
          · have h400i : (400 : Int) < (vl.size : Int) := by omega
            go_wp2_with fail
            go_ret
            exact ⟨by rw [HST.out]; simp only [HBB.out, if_pos h400]; rfl, Y.out⟩
          · have h400i : (vl.size : Int) ≤ 400 := by omega
            obtain ⟨I, hI⟩ : ∃ I, idxP (fun x => x.name.toList == nm.toList) (l.take k) = I := ⟨_, rfl⟩
            have hany := idxP_any (fun x : Attr => x.name.toList == nm.toList) (l.take k)
            rw [hI] at hany
            have HANY := Lib.hid hany
            have HI := Lib.hid hI
            clear hany hI
            have hlt12 : (l.take k).length = k := by rw [List.length_take]; omega
            have hfi := fun w6 (hb6 : Below w.heap.size w w6) => find_n (some ⟨b, o, none⟩) c k (l.take k) nm w6 hlt12 (HTK.out.mono (fun _ _ _ h => h.below hb6)) (by omega)
            rw [HI.out] at hfi
            have HF := Lib.hid hfi
            clear hfi hlt12
            go_upto_region 10 with fail
            go_cut [25] (fun v wx => v = .bool (decide (0 ≤ I)) ∧ Below w.heap.size w wx ∧ wx.heap[A]? = some (.cells #[.string nm, .string vl] 81 (0, 0)))
            case first =>
              go_region_with (go_at_call 43; refine calls_gen (Φ := fun wy => Hid (Below w.heap.size w wy) ∧ Hid (wy.heap[A]? = some (.cells #[.string nm, .string vl] 81 (0, 0)))) ⟨by first | exact Y | exact Lib.hid (below_drewN Y.out 1), by first | exact YA | exact Lib.hid YA.out⟩ ?_; rintro w6 ⟨Z, ZA⟩; refine (HF.out _ Z.out).mono ?_; rintro e w5 ⟨rfl, hb5⟩; have V := Lib.hid (Z.out.trans (Below.le hb5 Z.out.size)); have VA := Lib.hid ((hb5.block A (lt_of_heap ZA.out)).trans ZA.out); clear hb5)
              all_goals
                go_wp2_with fail
                go_meet
                exact ⟨rfl, V.out, VA.out⟩
            obtain ⟨rfl, hb7, ha7⟩ := hcut
            have W := Lib.hid hb7
            clear Y YA c0 c1 hb7 ha7
            by_cases h0 : (0 : Int) ≤ I
            · go_wp2_with fail
              go_ret
              exact ⟨by rw [HST.out, if_pos HBB.out, if_neg h400, if_pos (by rw [← HANY.out]; exact decide_eq_true h0)]; rfl, W.out⟩
            · go_wp2_with fail
              go_roundg (l.length - (k + 1))
              case measure => rw [G.out]; omega
              case rel =>
                refine ⟨k + 1, rfl, by omega, by simp, ?_, W.out⟩
                rw [HST.out, if_pos HBB.out, if_neg h400, if_neg (by rw [← HANY.out]; simpa using h0)]
      · have hke : k = l.length := by omega
        have hres : attrsErr l = 0 := by rw [HE.out, hke, List.drop_length]; rfl
        go_wp2_with fail
        go_ret
        exact ⟨by rw [hres]; rfl, HB.out⟩
end Go.Proofs.YtnnckjgafglgeaaDoor
