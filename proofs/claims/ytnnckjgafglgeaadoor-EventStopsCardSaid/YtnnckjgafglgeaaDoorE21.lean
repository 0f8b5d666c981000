/- slices.Equal, Index, IndexFunc, ContainsFunc over what is heard, and listeners, and numbers; the closures. -/
import Derived.Test.YtnnckjgafglgeaaDoorE20
namespace Go.Proofs.YtnnckjgafglgeaaDoor
open Go.RowKit

structure HdAt (w : World) (b x : Nat) (h : Hd) : Prop where
  c0 : w.cell? ⟨b, x, none⟩ = some (.int .i64 h.lis)
  c1 : w.cell? ⟨b, x + 1, none⟩ = some (.int .i64 h.node)
  c2 : w.cell? ⟨b, x + 2, none⟩ = some (.int .i64 h.phase)
theorem HdAt.below {w w' : World} {b x : Nat} {l : Hd} (h : HdAt w b x l) (hb : Below w.heap.size w w') : HdAt w' b x l := ⟨kc hb h.c0, kc hb h.c1, kc hb h.c2⟩
theorem own_hd {w : World} {B : Nat} {v : Value} {l : List Hd} (h : w.ownsRow B 46 3 v l.length (l.flatMap Hd.c)) : SlR w HdAt 3 v l := by
  obtain ⟨a, c, h1, h2, h3, h4⟩ := Own.sl Hd.len h
  refine ⟨a, c, h1, h2, h3, fun h0 => ?_⟩
  obtain ⟨b, o, h5, _, h6⟩ := h4 h0
  exact ⟨b, o, h5, fun k hk => ⟨h6 k hk 0 (by decide), h6 k hk 1 (by decide), h6 k hk 2 (by decide)⟩⟩
def Hd.v (h : Hd) : Value := .agg #[.int .i64 h.lis, .int .i64 h.node, .int .i64 h.phase]
/-- The first items of a slice. -/
theorem SlR.first {α : Type} {w : World} {R : World → Nat → Nat → α → Prop} {size n c : Nat} {a : Option Addr} {l : List α} (h : SlR w R size (.slice a n c) l) (m : Nat) (hm : m ≤ l.length) : SlR w R size (.slice a (l.take m).length c) (l.take m) := by
  obtain ⟨a', c', h1, h2, h3, h4⟩ := h
  injection h1 with e1 _ e3
  subst e1
  subst e3
  refine ⟨a, c, rfl, by rw [List.length_take]; omega, h3, fun h0 => ?_⟩
  rw [List.length_take] at h0
  obtain ⟨b, o, h5, h6⟩ := h4 (by omega)
  refine ⟨b, o, h5, fun k hk => ?_⟩
  rw [List.length_take] at hk
  rw [List.getElem_take]
  exact h6 k (by omega)
theorem neqHd_same (li hn2 ph : Int) (w : World) : (binOp .neq 46 (.agg #[.int .i64 li, .int .i64 hn2, .int .i64 ph]) (.agg #[.int .i64 li, .int .i64 hn2, .int .i64 ph])).run Tryd.prog w = .ok (.bool false) w := by go_simp
set_option maxRecDepth 100000 in
set_option maxHeartbeats 4000000 in
theorem eqH_any (a a2 : Option Addr) (c c2 : Nat) (l : List Hd) (w : World) (h1 : SlR w HdAt 3 (.slice a l.length c) l) (h2 : SlR w HdAt 3 (.slice a2 l.length c2) l) :
    Calls Tryd.prog 13 #[.slice a l.length c, .slice a2 l.length c2] w fun e w' => e = .returned (.bool true) ∧ Below w.heap.size w w' := by
  have H1 := Lib.hid h1
  have H2 := Lib.hid h2
  obtain ⟨hct, _, _⟩ := SlR.cap h1
  clear h1 h2
  go_enter Tryd.func13, Tryd.ntmps13
  go_wp2_with fail
  go_loopg [13] l.length (fun n vk wr => ∃ k : Nat, n = l.length - k ∧ k ≤ l.length ∧ vk = .int .i64 (k : Int) ∧ Below w.heap.size w wr)
  case atStart => exact ⟨0, rfl, Nat.zero_le _, rfl, Below.refl _ _⟩
  case round =>
    obtain ⟨k, hg, hk, rfl, hb⟩ := hrel
    have G := Lib.hid hg
    have HB := Lib.hid hb
    clear hg hb
    by_cases hlt : k < l.length
    · have h1' : (k : Int) < (l.length : Int) := by omega
      obtain ⟨b, o, rfl, hq⟩ := H1.out.item k hlt
      obtain ⟨b2, o2, rfl, hq2⟩ := H2.out.item k hlt
      have hq' := hq.below HB.out
      have hq2' := hq2.below HB.out
      clear hq hq2
      generalize l[k] = J at *
      obtain ⟨li, hn2, ph⟩ := J
      obtain ⟨c0, c1, c2⟩ := hq'
      obtain ⟨d0, d1, d2⟩ := hq2'
      simp only at c0 d0 c1 d1 c2 d2
      have hn := neqHd_same li hn2 ph
      go_upto_region 6 with fail
      go_quiet (fail)
      all_goals
        clear c0 d0 c1 d1 c2 d2 hn
        go_wp2_with fail
        go_roundg (l.length - (k + 1))
        case measure => rw [G.out]; omega
        case rel => exact ⟨k + 1, rfl, by omega, by simp, below_drewN HB.out _⟩
    · have hke : k = l.length := by omega
      subst hke
      go_wp2_with fail
      go_ret
      exact ⟨rfl, HB.out⟩
theorem neqLis_same (id nd : Int) (ty : ByteArray) (cp on st al pv : Bool) (w : World) : (binOp .neq 43 (.agg #[.int .i64 id, .int .i64 nd, .string ty, .bool cp, .bool on, .bool st, .bool al, .bool pv]) (.agg #[.int .i64 id, .int .i64 nd, .string ty, .bool cp, .bool on, .bool st, .bool al, .bool pv])).run Tryd.prog w = .ok (.bool false) w := by go_simp
set_option maxRecDepth 100000 in
set_option maxHeartbeats 4000000 in
theorem eqL_any (a a2 : Option Addr) (c c2 : Nat) (l : List Lis) (w : World) (h1 : SlR w LisAt 8 (.slice a l.length c) l) (h2 : SlR w LisAt 8 (.slice a2 l.length c2) l) :
    Calls Tryd.prog 16 #[.slice a l.length c, .slice a2 l.length c2] w fun e w' => e = .returned (.bool true) ∧ Below w.heap.size w w' := by
  have H1 := Lib.hid h1
  have H2 := Lib.hid h2
  obtain ⟨hct, _, _⟩ := SlR.cap h1
  clear h1 h2
  go_enter Tryd.func16, Tryd.ntmps16
  go_wp2_with fail
  go_loopg [13] l.length (fun n vk wr => ∃ k : Nat, n = l.length - k ∧ k ≤ l.length ∧ vk = .int .i64 (k : Int) ∧ Below w.heap.size w wr)
  case atStart => exact ⟨0, rfl, Nat.zero_le _, rfl, Below.refl _ _⟩
  case round =>
    obtain ⟨k, hg, hk, rfl, hb⟩ := hrel
    have G := Lib.hid hg
    have HB := Lib.hid hb
    clear hg hb
    by_cases hlt : k < l.length
    · have h1' : (k : Int) < (l.length : Int) := by omega
      obtain ⟨b, o, rfl, hq⟩ := H1.out.item k hlt
      obtain ⟨b2, o2, rfl, hq2⟩ := H2.out.item k hlt
      have hq' := hq.below HB.out
      have hq2' := hq2.below HB.out
      clear hq hq2
      generalize l[k] = J at *
      obtain ⟨id, nd, ty, cp, on, st, al, pv⟩ := J
      obtain ⟨c0, c1, c2, c3, c4, c5, c6, c7⟩ := hq'
      obtain ⟨d0, d1, d2, d3, d4, d5, d6, d7⟩ := hq2'
      simp only at c0 d0 c1 d1 c2 d2 c3 d3 c4 d4 c5 d5 c6 d6 c7 d7
      have hn := neqLis_same id nd ty cp on st al pv
      go_upto_region 6 with fail
      go_quiet (fail)
      all_goals
        clear c0 d0 c1 d1 c2 d2 c3 d3 c4 d4 c5 d5 c6 d6 c7 d7 hn
        go_wp2_with fail
        go_roundg (l.length - (k + 1))
        case measure => rw [G.out]; omega
        case rel => exact ⟨k + 1, rfl, by omega, by simp, below_drewN HB.out _⟩
    · have hke : k = l.length := by omega
      subst hke
      go_wp2_with fail
      go_ret
      exact ⟨rfl, HB.out⟩
set_option maxRecDepth 100000 in
set_option maxHeartbeats 4000000 in
theorem eqI_any (a a2 : Option Addr) (c c2 : Nat) (l : List Int) (w : World) (h1 : SlR w IntAt 1 (.slice a l.length c) l) (h2 : SlR w IntAt 1 (.slice a2 l.length c2) l) :
    Calls Tryd.prog 10 #[.slice a l.length c, .slice a2 l.length c2] w fun e w' => e = .returned (.bool true) ∧ Below w.heap.size w w' := by
  have H1 := Lib.hid h1
  have H2 := Lib.hid h2
  obtain ⟨hct, _, _⟩ := SlR.cap h1
  clear h1 h2
  go_enter Tryd.func10, Tryd.ntmps10
  go_wp2_with fail
  go_loopg [13] l.length (fun n vk wr => ∃ k : Nat, n = l.length - k ∧ k ≤ l.length ∧ vk = .int .i64 (k : Int) ∧ Below w.heap.size w wr)
  case atStart => exact ⟨0, rfl, Nat.zero_le _, rfl, Below.refl _ _⟩
  case round =>
    obtain ⟨k, hg, hk, rfl, hb⟩ := hrel
    have G := Lib.hid hg
    have HB := Lib.hid hb
    clear hg hb
    by_cases hlt : k < l.length
    · have h1' : (k : Int) < (l.length : Int) := by omega
      obtain ⟨b, o, rfl, hq⟩ := H1.out.item k hlt
      obtain ⟨b2, o2, rfl, hq2⟩ := H2.out.item k hlt
      have hq' := kc HB.out hq
      have hq2' := kc HB.out hq2
      rw [Nat.mul_one] at hq' hq2'
      clear hq hq2
      generalize l[k] = J at *
      go_upto_region 6 with fail
      go_quiet (fail)
      all_goals
        clear hq' hq2'
        go_wp2_with fail
        go_roundg (l.length - (k + 1))
        case measure => rw [G.out]; omega
        case rel => exact ⟨k + 1, rfl, by omega, by simp, below_drewN HB.out _⟩
    · have hke : k = l.length := by omega
      subst hke
      go_wp2_with fail
      go_ret
      exact ⟨rfl, HB.out⟩
set_option maxRecDepth 100000 in
set_option maxHeartbeats 4000000 in
theorem idxH_any (f : Nat) (p : Hd → Bool) (Q : Hd → Prop) (cp : Value) (C : World → Prop) (HC : ∀ w w', C w → Below w.heap.size w w' → C w') (H : ∀ (j : Hd) (w : World), Q j → C w → Calls Tryd.prog f #[Hd.v j, cp] w fun e w' => e = .returned (.bool (p j)) ∧ Below w.heap.size w w')
    (HF : ∀ (args : Array Value) (w : World), Sem.run Tryd.prog (callFunc f args) w = .ok (.enter f args) w)
    (a : Option Addr) (c : Nat) (l : List Hd) (w : World) (h : SlR w HdAt 3 (.slice a l.length c) l) (hl : l.length ≤ 100000) (hq : ∀ x ∈ l, Q x) (hx0 : C w) :
    Calls Tryd.prog 31 #[.slice a l.length c, .func (.func f) #[] #[cp]] w fun e w' => e = .returned (.int .i64 (idxP p l)) ∧ Below w.heap.size w w' := by
  have HH := Lib.hid H
  have HS := Lib.hid h
  have HX0 := Lib.hid hx0
  have HCC := Lib.hid HC
  have HQ := Lib.hid hq
  clear H h hx0 HC hq
  go_enter Tryd.func31, Tryd.ntmps31
  go_wp2_with fail
  go_loopg [8] l.length (fun n vk wr => ∃ k : Nat, n = l.length - k ∧ k ≤ l.length ∧ vk = .int .i64 (k : Int) ∧ (∀ x ∈ l.take k, p x = false) ∧ Below w.heap.size w wr)
  case atStart => exact ⟨0, rfl, Nat.zero_le _, rfl, by simp, Below.refl _ _⟩
  case round =>
    obtain ⟨k, hg, hk, rfl, hno, hb⟩ := hrel
    have G := Lib.hid hg
    have HN := Lib.hid hno
    have HB := Lib.hid hb
    clear hg hno hb
    by_cases hlt : k < l.length
    · have h1 : (k : Int) < (l.length : Int) := by omega
      have h1' : (l.length : Int) ≤ 100000 := by omega
      obtain ⟨b, o, rfl, hja⟩ := HS.out.item k hlt
      have hdr := idxP_drop p l k hk HN.out
      have hsn : ∀ x ∈ l.take (k + 1), x ∈ l.take k ∨ x = l[k] := by
        intro x hx
        rw [List.take_add_one, List.getElem?_eq_getElem hlt] at hx
        rcases List.mem_append.1 hx with hx | hx
        · exact .inl hx
        · exact .inr (by simpa using hx)
      rw [List.drop_eq_getElem_cons hlt] at hdr
      have HQK := Lib.hid (HQ.out l[k] (List.getElem_mem hlt))
      generalize l[k] = J at *
      have HD := Lib.hid hdr
      have HSN := Lib.hid hsn
      clear hdr hsn
      have hca := fun w h => HH.out J w HQK.out h
      clear HQK
      obtain ⟨li, hn2, ph⟩ := J
      obtain ⟨c0, c1, c2⟩ := hja.below HB.out
      simp only at c0 c1 c2
      have HCA : Hid (∀ w, C w → Calls Tryd.prog f #[.agg #[.int .i64 li, .int .i64 hn2, .int .i64 ph], cp] w fun e w' => e = .returned (.bool (p ⟨li, hn2, ph⟩)) ∧ Below w.heap.size w w') := Lib.hid hca
      clear hca
      obtain ⟨B, hB⟩ : ∃ B, p ⟨li, hn2, ph⟩ = B := ⟨_, rfl⟩
      rw [hB] at HCA
      have HPB := Lib.hid hB
      clear hB
      go_wp2_with fail
      refine (HCA.out _ (HCC.out _ _ HX0.out HB.out)).mono ?_
      rintro e w2 ⟨rfl, hb2⟩
      have B2 : Hid (Below w.heap.size w w2) := Lib.hid (HB.out.trans (Below.le hb2 HB.out.size))
      clear hb2 c0 c1 c2 hja
      cases B with
      | true =>
        go_wp2_with fail
        go_ret
        refine ⟨?_, B2.out⟩
        rw [HD.out]
        unfold idxP
        rw [HPB.out]
        simp
      | false =>
        go_wp2_with fail
        go_roundg (l.length - (k + 1))
        case measure => rw [G.out]; omega
        case rel =>
          refine ⟨k + 1, rfl, by omega, by simp, ?_, B2.out⟩
          intro x hx
          rcases HSN.out x hx with h | h
          · exact HN.out x h
          · rw [h]; exact HPB.out
    · have hke : k = l.length := by omega
      have hdr := idxP_drop p l k hk HN.out
      rw [hke, List.drop_length] at hdr
      have HD := Lib.hid hdr
      clear hdr
      go_wp2_with fail
      go_ret
      exact ⟨by rw [HD.out]; rfl, HB.out⟩
set_option maxRecDepth 100000 in
set_option maxHeartbeats 2000000 in
theorem anyH_any (f : Nat) (p : Hd → Bool) (Q : Hd → Prop) (cp : Value) (C : World → Prop) (HC : ∀ w w', C w → Below w.heap.size w w' → C w') (H : ∀ (j : Hd) (w : World), Q j → C w → Calls Tryd.prog f #[Hd.v j, cp] w fun e w' => e = .returned (.bool (p j)) ∧ Below w.heap.size w w')
    (HF : ∀ (args : Array Value) (w : World), Sem.run Tryd.prog (callFunc f args) w = .ok (.enter f args) w)
    (a : Option Addr) (c : Nat) (l : List Hd) (w : World) (h : SlR w HdAt 3 (.slice a l.length c) l) (hl : l.length ≤ 100000) (hq : ∀ x ∈ l, Q x) (hx0 : C w) :
    Calls Tryd.prog 14 #[.slice a l.length c, .func (.func f) #[] #[cp]] w fun e w' => e = .returned (.bool (l.any p)) ∧ Below w.heap.size w w' := by
  have HX := Lib.hid (idxH_any f p Q cp C HC H HF a c l w h hl hq hx0)
  have HA := Lib.hid (idxP_any p l)
  clear H HF h hx0 HC hq
  go_enter Tryd.func14, Tryd.ntmps14
  go_wp2_with fail
  refine HX.out.mono ?_
  rintro e w2 ⟨rfl, hb2⟩
  go_wp2_with fail
  go_ret
  exact ⟨by rw [← HA.out]; rfl, hb2⟩
theorem call15 (args : Array Value) (w : World) : Sem.run Tryd.prog (callFunc 15 args) w = .ok (.enter 15 args) w := by go_simp
set_option maxRecDepth 100000 in
set_option maxHeartbeats 2000000 in
theorem clo15_any (b : Nat) (n : Int) (t : Hd) (w : World) (h : w.cell? ⟨b, 0, none⟩ = some (.int .i64 n)) : Calls Tryd.prog 15 #[Hd.v t, .pointer (some ⟨b, 0, none⟩)] w fun e w' => e = .returned (.bool (t.lis == n)) ∧ Below w.heap.size w w' := by
  obtain ⟨li, hn2, ph⟩ := t
  have hlt : b < w.heap.size := cell_lt h
  show Calls Tryd.prog 15 #[.agg #[.int .i64 li, .int .i64 hn2, .int .i64 ph], .pointer (some ⟨b, 0, none⟩)] w _
  go_enter Tryd.func15, Tryd.ntmps15
  go_wp2_with fail
  go_ret
  exact ⟨rfl, (Below.refl _ _).alloc (Nat.le_refl _) _⟩
theorem call19 (args : Array Value) (w : World) : Sem.run Tryd.prog (callFunc 19 args) w = .ok (.enter 19 args) w := by go_simp
set_option maxRecDepth 100000 in
set_option maxHeartbeats 2000000 in
theorem clo19_any (b : Nat) (n : Int) (t : Hd) (w : World) (h : w.cell? ⟨b, 0, none⟩ = some (.int .i64 n)) : Calls Tryd.prog 19 #[Hd.v t, .pointer (some ⟨b, 0, none⟩)] w fun e w' => e = .returned (.bool (t.lis == n)) ∧ Below w.heap.size w w' := by
  obtain ⟨li, hn2, ph⟩ := t
  have hlt : b < w.heap.size := cell_lt h
  show Calls Tryd.prog 19 #[.agg #[.int .i64 li, .int .i64 hn2, .int .i64 ph], .pointer (some ⟨b, 0, none⟩)] w _
  go_enter Tryd.func19, Tryd.ntmps19
  go_wp2_with fail
  go_ret
  exact ⟨rfl, (Below.refl _ _).alloc (Nat.le_refl _) _⟩
theorem call18 (args : Array Value) (w : World) : Sem.run Tryd.prog (callFunc 18 args) w = .ok (.enter 18 args) w := by go_simp
set_option maxRecDepth 100000 in
set_option maxHeartbeats 2000000 in
theorem clo18_any (b : Nat) (n : Int) (t : Lis) (w : World) (h : w.cell? ⟨b, 0, none⟩ = some (.int .i64 n)) : Calls Tryd.prog 18 #[Lis.v t, .pointer (some ⟨b, 0, none⟩)] w fun e w' => e = .returned (.bool (t.id == n)) ∧ Below w.heap.size w w' := by
  obtain ⟨id, nd, ty, cp, on, st, al, pv⟩ := t
  have hlt : b < w.heap.size := cell_lt h
  show Calls Tryd.prog 18 #[.agg #[.int .i64 id, .int .i64 nd, .string ty, .bool cp, .bool on, .bool st, .bool al, .bool pv], .pointer (some ⟨b, 0, none⟩)] w _
  go_enter Tryd.func18, Tryd.ntmps18
  go_wp2_with fail
  go_ret
  exact ⟨rfl, (Below.refl _ _).alloc (Nat.le_refl _) _⟩
theorem call21 (args : Array Value) (w : World) : Sem.run Tryd.prog (callFunc 21 args) w = .ok (.enter 21 args) w := by go_simp
set_option maxRecDepth 100000 in
set_option maxHeartbeats 2000000 in
theorem clo21_any (b : Nat) (n : Int) (t : Lis) (w : World) (h : w.cell? ⟨b, 0, none⟩ = some (.int .i64 n)) : Calls Tryd.prog 21 #[Lis.v t, .pointer (some ⟨b, 0, none⟩)] w fun e w' => e = .returned (.bool (t.id == n)) ∧ Below w.heap.size w w' := by
  obtain ⟨id, nd, ty, cp, on, st, al, pv⟩ := t
  have hlt : b < w.heap.size := cell_lt h
  show Calls Tryd.prog 21 #[.agg #[.int .i64 id, .int .i64 nd, .string ty, .bool cp, .bool on, .bool st, .bool al, .bool pv], .pointer (some ⟨b, 0, none⟩)] w _
  go_enter Tryd.func21, Tryd.ntmps21
  go_wp2_with fail
  go_ret
  exact ⟨rfl, (Below.refl _ _).alloc (Nat.le_refl _) _⟩
set_option maxRecDepth 100000 in
set_option maxHeartbeats 4000000 in
theorem index_any (a : Option Addr) (c : Nat) (l : List Int) (n : Int) (w : World) (h : SlR w IntAt 1 (.slice a l.length c) l) :
    Calls Tryd.prog 22 #[.slice a l.length c, .int .i64 n] w fun e w' => e = .returned (.int .i64 (idxP (fun x => n == x) l)) ∧ Below w.heap.size w w' := by
  have HS := Lib.hid h
  obtain ⟨hct, _, _⟩ := SlR.cap h
  clear h
  go_enter Tryd.func22, Tryd.ntmps22
  go_wp2_with fail
  go_loopg [8] l.length (fun g vk wr => ∃ k : Nat, g = l.length - k ∧ k ≤ l.length ∧ vk = .int .i64 (k : Int) ∧ (∀ x ∈ l.take k, (n == x) = false) ∧ Below w.heap.size w wr)
  case atStart => exact ⟨0, rfl, Nat.zero_le _, rfl, by simp, Below.refl _ _⟩
  case round =>
    obtain ⟨k, hg, hk, rfl, hno, hb⟩ := hrel
    have G := Lib.hid hg
    have HN := Lib.hid hno
    have HB := Lib.hid hb
    clear hg hno hb
    by_cases hlt : k < l.length
    · have h1 : (k : Int) < (l.length : Int) := by omega
      obtain ⟨b, o, rfl, hq⟩ := HS.out.item k hlt
      have hdr := idxP_drop (fun x => n == x) l k hk HN.out
      have hsn : ∀ x ∈ l.take (k + 1), x ∈ l.take k ∨ x = l[k] := by
        intro x hx
        rw [List.take_add_one, List.getElem?_eq_getElem hlt] at hx
        rcases List.mem_append.1 hx with hx | hx
        · exact .inl hx
        · exact .inr (by simpa using hx)
      rw [List.drop_eq_getElem_cons hlt] at hdr
      generalize l[k] = J at *
      have HD := Lib.hid hdr
      have HSN := Lib.hid hsn
      clear hdr hsn
      have c0 := kc HB.out hq
      rw [Nat.mul_one] at c0
      clear hq
      by_cases hJ : n = J
      · subst hJ
        go_wp2_with fail
        go_ret
        refine ⟨?_, HB.out⟩
        rw [HD.out]
        unfold idxP
        simp
      · have hJ2 : (n == J) = false := by simpa using hJ
        go_wp2_with fail
        go_roundg (l.length - (k + 1))
        case measure => rw [G.out]; omega
        case rel =>
          refine ⟨k + 1, rfl, by omega, by simp, ?_, HB.out⟩
          intro x hx
          rcases HSN.out x hx with h | h
          · exact HN.out x h
          · rw [h]; exact hJ2
    · have hke : k = l.length := by omega
      have hdr := idxP_drop (fun x => n == x) l k hk HN.out
      rw [hke, List.drop_length] at hdr
      have HD := Lib.hid hdr
      clear hdr
      go_wp2_with fail
      go_ret
      exact ⟨by rw [HD.out]; rfl, HB.out⟩
end Go.Proofs.YtnnckjgafglgeaaDoor
