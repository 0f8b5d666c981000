/- slices.IndexFunc, ContainsFunc and Clone over listeners. -/
import Derived.Test.YtnnckjgafglgeaaDoorE16
namespace Go.Proofs.YtnnckjgafglgeaaDoor
open Go.RowKit
set_option maxRecDepth 100000 in
set_option maxHeartbeats 4000000 in
theorem idxL_any (f : Nat) (p : Lis → Bool) (Q : Lis → Prop) (cp : Value) (C : World → Prop) (HC : ∀ w w', C w → Below w.heap.size w w' → C w') (H : ∀ (j : Lis) (w : World), Q j → C w → Calls Tryd.prog f #[Lis.v j, cp] w fun e w' => e = .returned (.bool (p j)) ∧ Below w.heap.size w w')
    (HF : ∀ (args : Array Value) (w : World), Sem.run Tryd.prog (callFunc f args) w = .ok (.enter f args) w)
    (a : Option Addr) (c : Nat) (l : List Lis) (w : World) (h : SlR w LisAt 8 (.slice a l.length c) l) (hl : l.length ≤ 100000) (hq : ∀ x ∈ l, Q x) (hx0 : C w) :
    Calls Tryd.prog 20 #[.slice a l.length c, .func (.func f) #[] #[cp]] w fun e w' => e = .returned (.int .i64 (idxP p l)) ∧ Below w.heap.size w w' := by
  have HH := Lib.hid H
  have HS := Lib.hid h
  have HX0 := Lib.hid hx0
  have HCC := Lib.hid HC
  have HQ := Lib.hid hq
  clear H h hx0 HC hq
  go_enter Tryd.func20, Tryd.ntmps20
  go_wp2_with fail
  go_loopg [8] l.length (fun n vk wr => ∃ k : Nat, n = l.length - k ∧ k ≤ l.length ∧ vk = .int .i64 (k : Int) ∧ (∀ x ∈ l.take k, p x = false) ∧ Below w.heap.size w wr)
  case atStart => exact ⟨0, rfl, Nat.zero_le _, rfl, by simp, Below.refl _ _⟩
  case round =>
    obtain ⟨k, hg, hk, rfl, hno, hb⟩ := hrel
    have G := Lib.hid hg
    have HN := Lib.hid hno
    have HB := Lib.hid hb
    clear hg hno hb
    by_cases hlt : k < l.length
    · have h1 : (k : Int) < (l.length : Int) := by omega
      have h1' : (l.length : Int) ≤ 100000 := by omega
      obtain ⟨b, o, rfl, hja⟩ := HS.out.item k hlt
      have hdr := idxP_drop p l k hk HN.out
      have hsn : ∀ x ∈ l.take (k + 1), x ∈ l.take k ∨ x = l[k] := by
        intro x hx
        rw [List.take_add_one, List.getElem?_eq_getElem hlt] at hx
        rcases List.mem_append.1 hx with hx | hx
        · exact .inl hx
        · exact .inr (by simpa using hx)
      rw [List.drop_eq_getElem_cons hlt] at hdr
      have HQK := Lib.hid (HQ.out l[k] (List.getElem_mem hlt))
      generalize l[k] = J at *
      have HD := Lib.hid hdr
      have HSN := Lib.hid hsn
      clear hdr hsn
      have hca := fun w h => HH.out J w HQK.out h
      clear HQK
      obtain ⟨id, nd, ty, cp2, on, st, al, pv⟩ := J
      obtain ⟨c0, c1, c2, c3, c4, c5, c6, c7⟩ := hja.below HB.out
      simp only at c0 c1 c2 c3 c4 c5 c6 c7
      have HCA : Hid (∀ w, C w → Calls Tryd.prog f #[.agg #[.int .i64 id, .int .i64 nd, .string ty, .bool cp2, .bool on, .bool st, .bool al, .bool pv], cp] w fun e w' => e = .returned (.bool (p ⟨id, nd, ty, cp2, on, st, al, pv⟩)) ∧ Below w.heap.size w w') := Lib.hid hca
      clear hca
      obtain ⟨B, hB⟩ : ∃ B, p ⟨id, nd, ty, cp2, on, st, al, pv⟩ = B := ⟨_, rfl⟩
      rw [hB] at HCA
      have HPB := Lib.hid hB
      clear hB
      go_wp2_with fail
      refine (HCA.out _ (HCC.out _ _ HX0.out HB.out)).mono ?_
      rintro e w2 ⟨rfl, hb2⟩
      have B2 : Hid (Below w.heap.size w w2) := Lib.hid (HB.out.trans (Below.le hb2 HB.out.size))
      clear hb2 c0 c1 c2 c3 c4 c5 c6 c7 hja
      cases B with
      | true =>
        go_wp2_with fail
        go_ret
        refine ⟨?_, B2.out⟩
        rw [HD.out]
        unfold idxP
        rw [HPB.out]
        simp
      | false =>
        go_wp2_with fail
        go_roundg (l.length - (k + 1))
        case measure => rw [G.out]; omega
        case rel =>
          refine ⟨k + 1, rfl, by omega, by simp, ?_, B2.out⟩
          intro x hx
          rcases HSN.out x hx with h | h
          · exact HN.out x h
          · rw [h]; exact HPB.out
    · have hke : k = l.length := by omega
      have hdr := idxP_drop p l k hk HN.out
      rw [hke, List.drop_length] at hdr
      have HD := Lib.hid hdr
      clear hdr
      go_wp2_with fail
      go_ret
      exact ⟨by rw [HD.out]; rfl, HB.out⟩
set_option maxRecDepth 100000 in
set_option maxHeartbeats 2000000 in
theorem anyL_any (f : Nat) (p : Lis → Bool) (Q : Lis → Prop) (cp : Value) (C : World → Prop) (HC : ∀ w w', C w → Below w.heap.size w w' → C w') (H : ∀ (j : Lis) (w : World), Q j → C w → Calls Tryd.prog f #[Lis.v j, cp] w fun e w' => e = .returned (.bool (p j)) ∧ Below w.heap.size w w')
    (HF : ∀ (args : Array Value) (w : World), Sem.run Tryd.prog (callFunc f args) w = .ok (.enter f args) w)
    (a : Option Addr) (c : Nat) (l : List Lis) (w : World) (h : SlR w LisAt 8 (.slice a l.length c) l) (hl : l.length ≤ 100000) (hq : ∀ x ∈ l, Q x) (hx0 : C w) :
    Calls Tryd.prog 17 #[.slice a l.length c, .func (.func f) #[] #[cp]] w fun e w' => e = .returned (.bool (l.any p)) ∧ Below w.heap.size w w' := by
  have HX := Lib.hid (idxL_any f p Q cp C HC H HF a c l w h hl hq hx0)
  have HA := Lib.hid (idxP_any p l)
  clear H HF h hx0 HC hq
  go_enter Tryd.func17, Tryd.ntmps17
  go_wp2_with fail
  refine HX.out.mono ?_
  rintro e w2 ⟨rfl, hb2⟩
  go_wp2_with fail
  go_ret
  exact ⟨by rw [← HA.out]; rfl, hb2⟩
theorem SlR.none_nil {α : Type} {w : World} {R : World → Nat → Nat → α → Prop} {size n c : Nat} {l : List α} (h : SlR w R size (.slice none n c) l) : l = [] := by
  obtain ⟨a', c', h1, _, _, h4⟩ := h
  cases l with
  | nil => rfl
  | cons x l =>
    injection h1 with h1 _ _
    obtain ⟨b, o, h5, _⟩ := h4 (by simp)
    rw [← h1] at h5
    cases h5
set_option maxRecDepth 100000 in
set_option maxHeartbeats 4000000 in
theorem cloneL_any (a : Option Addr) (c : Nat) (l : List Lis) (w : World) (h : SlR w LisAt 8 (.slice a l.length c) l) (hl : l.length * 40 ≤ 140737488351232) :
    Calls Tryd.prog 12 #[.slice a l.length c] w fun e w' => ∃ v', e = .returned v' ∧ w'.ownsRow w.heap.size 43 8 v' l.length (l.flatMap Lis.c) ∧ Below w.heap.size w w' := by
  obtain ⟨i0, hi0, hz0, hz1, hz2⟩ := info_parts lis_info
  have q := fun (w : World) (a : Option Addr) (n c n' c' : Nat) => Lib.run_eql_slice_nil w _ _ a n c n' c' Tryd.underlying35
  have HS := Lib.hid h
  clear h
  cases a with
  | none =>
    have h0 : l = [] := HS.out.none_nil
    subst h0
    go_enter Tryd.func12, Tryd.ntmps12
    go_wp2_with fail
    go_ret
    exact ⟨_, rfl, World.ownsRow_nil _ _ _ _, Below.refl _ _⟩
  | some ad =>
    go_enter Tryd.func12, Tryd.ntmps12
    have hnews : ∀ j u, (l.flatMap Lis.c)[j]? = some u → w.cell? (ad.add j) = some u := by
      by_cases h : l = []
      · subst h; intro j u hj; simp at hj
      · obtain ⟨b, o, e⟩ := HS.out.lis.some_of h
        injection e with e
        subst e
        exact Sl.flat Lis.len (by decide) HS.out.lis
    have HN := Lib.hid hnews
    clear hnews
    go_wp2_with (at_builtin; refine wpList_append_own _ rfl _ _ 35 rfl w.heap.size 43 i0 zLis 8 40 Tryd.underlying35 hi0 hz0 hz1 hz2 rfl (by decide) _ _ _ rfl (World.ownsRow_made w #[] 0 (Nat.le_refl _) (Nat.zero_le _) rfl) ad l.length c (l.flatMap Lis.c) rfl (flat_len Lis.c 8 Lis.len l) (fun j u hj => Lib.cell?_alloc_some _ (HN.out j u hj)) (one_liss l) (by unfold maxLen; omega) (by omega) (by simp) ?_)
    intro v' w1 hown hgrow _
    have X : Hid (w1.ownsRow w.heap.size 43 8 v' l.length (l.flatMap Lis.c)) := Lib.hid (by simpa using hown)
    have B : Hid (Below w.heap.size w w1) := Lib.hid (((Below.refl _ w).alloc (Nat.le_refl _) _).grown hgrow (by simp) (by intro k hk; simp [Value.ownBlock] at hk; omega))
    clear hown hgrow
    go_wp2_with fail
    go_ret
    exact ⟨v', rfl, X.out, B.out⟩
end Go.Proofs.YtnnckjgafglgeaaDoor
