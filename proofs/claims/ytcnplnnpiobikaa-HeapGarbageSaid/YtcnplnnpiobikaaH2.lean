/- The contracts of heap.rising, slices.IndexFunc and ContainsFunc over values, heap.cell. -/
import Derived.Test.YtcnplnnpiobikaaH1
namespace Go.Proofs.Ytcnplnnpiobikaa
open Go.RowKit

def risingB : List ByteArray → Bool
  | [] => true
  | [_] => true
  | a :: b :: l => Op.bytesLess a.toList b.toList && risingB (b :: l)
theorem rising_drop (l : List ByteArray) (k : Nat) (h : k + 1 < l.length) : risingB (l.drop k) = (Op.bytesLess (l[k]'(by omega)).toList l[k + 1].toList && risingB (l.drop (k + 1))) := by
  rw [List.drop_eq_getElem_cons (show k < l.length by omega), List.drop_eq_getElem_cons h]
  rfl
theorem rising_end (l : List ByteArray) (k : Nat) (h : l.length ≤ k + 1) : risingB (l.drop k) = true := by
  by_cases hk : k < l.length
  · rw [List.drop_eq_getElem_cons hk, List.drop_eq_nil_of_le h]
    rfl
  · rw [List.drop_eq_nil_of_le (by omega)]
    rfl
set_option maxRecDepth 100000 in
set_option maxHeartbeats 4000000 in
theorem rising_any (a : Option Addr) (c : Nat) (l : List ByteArray) (w : World) (h : SlR w StrAt 1 (.slice a l.length c) l) :
    Calls Try.prog 40 #[.slice a l.length c] w fun e w' => e = .returned (.bool (risingB l)) ∧ Below w.heap.size w w' := by
  have HS := Lib.hid h
  obtain ⟨q1, q2, q3⟩ := SlR.cap h
  clear h
  obtain ⟨R, hR⟩ : ∃ R, risingB l = R := ⟨_, rfl⟩
  rw [hR]
  have HR := Lib.hid (show risingB (l.drop 0) = R from hR)
  clear hR
  go_enter Try.func40, Try.ntmps40
  go_upto_region 2 with fail
  go_loopg [3] l.length (fun g v3 wr => ∃ k : Nat, g = l.length - k ∧ v3 = .int .i64 ((k : Int) + 1) ∧ (k = 0 ∨ k < l.length) ∧ risingB (l.drop k) = R ∧ Below w.heap.size w wr)
  case atStart => exact ⟨0, rfl, rfl, .inl rfl, HR.out, Below.refl _ _⟩
  case round =>
    clear HR
    obtain ⟨k, hg, rfl, hk, hr, hb⟩ := hrel
    have G := Lib.hid hg
    have HR := Lib.hid hr
    have HB := Lib.hid hb
    clear hg hr hb
    by_cases hlt : k + 1 < l.length
    · have h1 : (k : Int) + 1 < (l.length : Int) := by omega
      have h2 : k < l.length := by omega
      have h3 : (k : Int) < (l.length : Int) := by omega
      obtain ⟨b, o, rfl, d0⟩ := HS.out.item k h2
      obtain ⟨b', o', e, d1⟩ := HS.out.item (k + 1) hlt
      injection e with e
      injection e with e e2 _
      subst e
      subst e2
      have HRD := Lib.hid (rising_drop l k hlt)
      have x0 : wr.cell? ⟨b, o + k, none⟩ = some (.string l[k]) := by have := kc HB.out d0; rwa [Nat.mul_one] at this
      have x1 : wr.cell? ⟨b, o + (k + 1), none⟩ = some (.string l[k + 1]) := by have := kc HB.out d1; rwa [Nat.mul_one] at this
      clear d0 d1
      generalize l[k] = s0 at *
      generalize l[k + 1] = s1 at *
      obtain ⟨L, hL⟩ : ∃ L, Op.bytesLess s0.toList s1.toList = L := ⟨_, rfl⟩
      rw [hL] at HRD
      go_upto_region 4 with fail
      go_cut [19] (fun v19 wx => v19 = .bool (!L) ∧ Below w.heap.size w wx)
      case first =>
        go_quiet (fail)
        all_goals
          go_wp2_with fail
          go_meet
          exact ⟨by first | rfl | (rw [hL]), below_drewN HB.out _⟩
      case rest =>
        obtain ⟨rfl, hb⟩ := hcut
        have HB2 := Lib.hid hb
        clear hb hL x0 x1
        cases L with
        | true =>
          have HR3 := Lib.hid (show risingB (l.drop (k + 1)) = R by rw [← HR.out, HRD.out, Bool.true_and])
          go_wp2_with fail
          go_roundg (l.length - (k + 1))
          case measure => have := G.out; omega
          case rel => exact ⟨k + 1, rfl, by simp, .inr hlt, HR3.out, HB2.out⟩
        | false =>
          have hr : R = false := by rw [← HR.out, HRD.out]; rfl
          subst hr
          go_wp2_with fail
          go_ret
          exact ⟨rfl, HB2.out⟩
    · have h1 : ¬ ((k : Int) + 1 < (l.length : Int)) := by omega
      have hr : R = true := by rw [← HR.out]; exact rising_end l k (by omega)
      subst hr
      go_wp2_with fail
      go_ret
      exact ⟨rfl, HB.out⟩
set_option maxRecDepth 100000 in
set_option maxHeartbeats 4000000 in
theorem idxV_any (f : Nat) (p : JV → Bool) (Q : JV → Prop) (cp : Value) (C : World → Prop) (HC : ∀ w w', C w → Below w.heap.size w w' → C w') (H : ∀ (j : JV) (w : World), Q j → C w → Calls Try.prog f #[JV.v j, cp] w fun e w' => e = .returned (.bool (p j)) ∧ Below w.heap.size w w')
    (HF : ∀ (args : Array Value) (w : World), Sem.run Try.prog (callFunc f args) w = .ok (.enter f args) w)
    (a : Option Addr) (c : Nat) (l : List JV) (w : World) (h : SlR w JvAt 3 (.slice a l.length c) l) (hl : l.length ≤ 100000) (hq : ∀ x ∈ l, Q x) (hx0 : C w) :
    Calls Try.prog 54 #[.slice a l.length c, .func (.func f) #[] #[cp]] w fun e w' => e = .returned (.int .i64 (idxP p l)) ∧ Below w.heap.size w w' := by
  have HH := Lib.hid H
  have HS := Lib.hid h
  have HX0 := Lib.hid hx0
  have HCC := Lib.hid HC
  have HQ := Lib.hid hq
  clear H h hx0 HC hq
  go_enter Try.func54, Try.ntmps54
  go_wp2_with fail
  go_loopg [8] l.length (fun n vk wr => ∃ k : Nat, n = l.length - k ∧ k ≤ l.length ∧ vk = .int .i64 (k : Int) ∧ (∀ x ∈ l.take k, p x = false) ∧ Below w.heap.size w wr)
  case atStart => exact ⟨0, rfl, Nat.zero_le _, rfl, by simp, Below.refl _ _⟩
  case round =>
    obtain ⟨k, hg, hk, rfl, hno, hb⟩ := hrel
    have G := Lib.hid hg
    have HN := Lib.hid hno
    have HB := Lib.hid hb
    clear hg hno hb
    by_cases hlt : k < l.length
    · have h1 : (k : Int) < (l.length : Int) := by omega
      have h1' : (l.length : Int) ≤ 100000 := by omega
      obtain ⟨b, o, rfl, hja⟩ := HS.out.item k hlt
      have hdr := idxP_drop p l k hk HN.out
      have hsn : ∀ x ∈ l.take (k + 1), x ∈ l.take k ∨ x = l[k] := by
        intro x hx
        rw [List.take_add_one, List.getElem?_eq_getElem hlt] at hx
        rcases List.mem_append.1 hx with hx | hx
        · exact .inl hx
        · exact .inr (by simpa using hx)
      rw [List.drop_eq_getElem_cons hlt] at hdr
      have HQK := Lib.hid (HQ.out l[k] (List.getElem_mem hlt))
      generalize l[k] = J at *
      have HD := Lib.hid hdr
      have HSN := Lib.hid hsn
      clear hdr hsn
      have hca := fun w h => HH.out J w HQK.out h
      clear HQK
      obtain ⟨k2, n2, s2⟩ := J
      obtain ⟨c0, c1, c2⟩ := hja.below HB.out
      simp only at c0 c1 c2
      have HCA : Hid (∀ w, C w → Calls Try.prog f #[.agg #[.int .i64 k2, .int .i64 n2, .string s2], cp] w fun e w' => e = .returned (.bool (p ⟨k2, n2, s2⟩)) ∧ Below w.heap.size w w') := Lib.hid hca
      clear hca
      obtain ⟨B, hB⟩ : ∃ B, p ⟨k2, n2, s2⟩ = B := ⟨_, rfl⟩
      rw [hB] at HCA
      have HPB := Lib.hid hB
      clear hB
      go_wp2_with fail
      refine (HCA.out _ (HCC.out _ _ HX0.out HB.out)).mono ?_
      rintro e w2 ⟨rfl, hb2⟩
      have B2 : Hid (Below w.heap.size w w2) := Lib.hid (HB.out.trans (Below.le hb2 HB.out.size))
      clear hb2 c0 c1 c2 hja
      cases B with
      | true =>
        go_wp2_with fail
        go_ret
        refine ⟨?_, B2.out⟩
        rw [HD.out]
        unfold idxP
        rw [HPB.out]
        simp
      | false =>
        go_wp2_with fail
        go_roundg (l.length - (k + 1))
        case measure => rw [G.out]; omega
        case rel =>
          refine ⟨k + 1, rfl, by omega, by simp, ?_, B2.out⟩
          intro x hx
          rcases HSN.out x hx with h | h
          · exact HN.out x h
          · rw [h]; exact HPB.out
    · have hke : k = l.length := by omega
      have hdr := idxP_drop p l k hk HN.out
      rw [hke, List.drop_length] at hdr
      have HD := Lib.hid hdr
      clear hdr
      go_wp2_with fail
      go_ret
      exact ⟨by rw [HD.out]; rfl, HB.out⟩
set_option maxRecDepth 100000 in
set_option maxHeartbeats 2000000 in
theorem anyV_any (f : Nat) (p : JV → Bool) (Q : JV → Prop) (cp : Value) (C : World → Prop) (HC : ∀ w w', C w → Below w.heap.size w w' → C w') (H : ∀ (j : JV) (w : World), Q j → C w → Calls Try.prog f #[JV.v j, cp] w fun e w' => e = .returned (.bool (p j)) ∧ Below w.heap.size w w')
    (HF : ∀ (args : Array Value) (w : World), Sem.run Try.prog (callFunc f args) w = .ok (.enter f args) w)
    (a : Option Addr) (c : Nat) (l : List JV) (w : World) (h : SlR w JvAt 3 (.slice a l.length c) l) (hl : l.length ≤ 100000) (hq : ∀ x ∈ l, Q x) (hx0 : C w) :
    Calls Try.prog 41 #[.slice a l.length c, .func (.func f) #[] #[cp]] w fun e w' => e = .returned (.bool (l.any p)) ∧ Below w.heap.size w w' := by
  have HX := Lib.hid (idxV_any f p Q cp C HC H HF a c l w h hl hq hx0)
  have HA := Lib.hid (idxP_any p l)
  clear H HF h hx0 HC hq
  go_enter Try.func41, Try.ntmps41
  go_wp2_with fail
  refine HX.out.mono ?_
  rintro e w2 ⟨rfl, hb2⟩
  go_wp2_with fail
  go_ret
  exact ⟨by rw [← HA.out]; rfl, hb2⟩
theorem call42 (args : Array Value) (w : World) : Sem.run Try.prog (callFunc 42 args) w = .ok (.enter 42 args) w := by go_simp
theorem call32 (args : Array Value) (w : World) : Sem.run Try.prog (callFunc 32 args) w = .ok (.enter 32 args) w := by go_simp
theorem call40 (args : Array Value) (w : World) : Sem.run Try.prog (callFunc 40 args) w = .ok (.enter 40 args) w := by go_simp
theorem call41 (args : Array Value) (w : World) : Sem.run Try.prog (callFunc 41 args) w = .ok (.enter 41 args) w := by go_simp
/-- Where the heap's slice stands in a block. -/
structure HpAt (w : World) (A : Nat) (a : Option Addr) (c : Nat) (h : List Cl) : Prop where
  p : w.heap[A]? = some (.cells #[.slice a h.length c] 22 (0, 0))
  h : HeapAt w (.slice a h.length c) h
theorem HpAt.below {w w' : World} {A : Nat} {a : Option Addr} {c : Nat} {h : List Cl} (x : HpAt w A a c h) (hb : Below w.heap.size w w') : HpAt w' A a c h := ⟨(hb.block A (lt_of_heap x.p)).trans x.p, x.h.below hb⟩
set_option maxRecDepth 100000 in
set_option maxHeartbeats 4000000 in
theorem misfit_any (A : Nat) (a : Option Addr) (c : Nat) (h : List Cl) (v : JV) (w : World) (hp : HpAt w A a c h) :
    Calls Try.prog 42 #[JV.v v, .pointer (some ⟨A, 0, none⟩)] w fun e w' => e = .returned (.bool (!fits h v)) ∧ Below w.heap.size w w' := by
  have HP := Lib.hid hp
  have HF := Lib.hid (fun (w6 : World) (hb : Below w.heap.size w w6) => fits_any h a c v w6 (hp.h.below hb))
  clear hp
  generalize fits h v = F at *
  obtain ⟨k, n, s⟩ := v
  have HF2 : Hid (∀ w6, Below w.heap.size w w6 → Calls Try.prog 32 #[.slice a h.length c, .agg #[.int .i64 k, .int .i64 n, .string s]] w6 fun e w' => e = .returned (.bool F) ∧ Below w6.heap.size w6 w') := Lib.hid HF.out
  clear HF
  show Calls Try.prog 42 #[.agg #[.int .i64 k, .int .i64 n, .string s], .pointer (some ⟨A, 0, none⟩)] w _
  go_enter Try.func42, Try.ntmps42
  obtain ⟨B, hB⟩ : ∃ B, w.heap.size = B := ⟨_, rfl⟩
  go_upto_region 1 with fail
  refine code_gen (Φ := fun wy => Hid (Below w.heap.size w wy) ∧ Hid (wy.heap[B]? = some (.cells #[.int .i64 k, .int .i64 n, .string s] 31 (0, 0)))) ⟨Lib.hid ((Below.refl _ _).alloc (Nat.le_refl _) _), Lib.hid (alloc_at hB _)⟩ ?_
  rintro w3 ⟨X, XA⟩
  clear hB
  obtain ⟨c0, c1, c2⟩ := cells3 XA.out
  have p0 : w3.cell? ⟨A, 0, none⟩ = some (.slice a h.length c) := (Lib.cell_of_heap ((X.out.block A (lt_of_heap HP.out.p)).trans HP.out.p) 0).trans rfl
  go_wp2_with fail
  refine (HF2.out _ X.out).mono ?_
  rintro e w4 ⟨rfl, hb4⟩
  have Y := Lib.hid (X.out.trans (Below.le hb4 X.out.size))
  clear hb4 X XA c0 c1 c2 p0 HF2
  go_wp2_with fail
  go_ret
  exact ⟨rfl, Y.out⟩
/-- Is it a cell of this heap? -/
def tailOk (h : List Cl) (c : Cl) (n : Nat) : Bool := (c.names.length == n) && (risingB c.names && !(c.vals.any fun v => !fits h v))
def cellOk (h : List Cl) (c : Cl) : Bool :=
  if c.kind = 0 then (if 0 < c.vals.length then false else tailOk h c 0) else if c.kind = 1 ∨ c.kind = 3 then tailOk h c 0 else if c.kind = 2 then tailOk h c c.vals.length else false
end Go.Proofs.Ytcnplnnpiobikaa
