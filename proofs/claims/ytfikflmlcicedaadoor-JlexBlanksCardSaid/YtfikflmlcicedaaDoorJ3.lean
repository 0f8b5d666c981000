/- The contracts of jlex's run, name, number. -/
import Derived.Test.YtfikflmlcicedaaDoorJ2
import Derived.Lib.AppendIntMem
namespace Go.Proofs.YtfikflmlcicedaaDoor
open Go.RowKit

set_option maxHeartbeats 400000 in
theorem ld_any (c : UInt8) (w : World) : Calls Tryd.prog 32 #[.int .u8 (c.toNat : Int)] w fun e w' => e = .returned (.bool (ld c)) ∧ w = w' := by
  go_enter Tryd.func32, Tryd.ntmps32
  go_wp2_with fail
  refine (letter_any _ _).mono ?_
  rintro e w' ⟨rfl, rfl⟩
  by_cases h : isLetter (c.toNat : Int) = true
  · rw [h]
    go_wp2_with fail
    go_ret
    exact ⟨ret_bool (by simp [ld, lt, h]), rfl⟩
  · simp only [Bool.not_eq_true] at h
    rw [h]
    go_wp2_with fail
    refine (digit_any _ _).mono ?_
    rintro e w' ⟨rfl, rfl⟩
    go_wp2_with fail
    go_ret
    exact ⟨ret_bool (by simp [ld, lt, dg, h]), rfl⟩

theorem run_cons (p : UInt8 → Bool) (l t : List UInt8) (c : UInt8) (h : l = c :: t) (hc : p c = true) : runN p l = 1 + runN p t := by
  subst h; simp [runN, hc]
theorem run_no (p : UInt8 → Bool) (l t : List UInt8) (c : UInt8) (h : l = c :: t) (hc : p c = false) : runN p l = 0 := by
  subst h; simp [runN, hc]
theorem run_le (p : UInt8 → Bool) : ∀ l, runN p l ≤ l.length
  | [] => by simp [runN]
  | c :: t => by
    have := run_le p t
    unfold runN
    split <;> simp <;> omega

set_option maxRecDepth 100000 in
set_option maxHeartbeats 2000000 in
theorem run_any (R : Nat) (s : ByteArray) (i : Nat) (out : Value) (w : World) (f : Nat) (p : UInt8 → Bool)
    (H : ∀ (c : UInt8) (w : World), Calls Tryd.prog f #[.int .u8 (c.toNat : Int)] w fun e w' => e = .returned (.bool (p c)) ∧ w = w')
    (HF : ∀ (args : Array Value) (w : World), Sem.run Tryd.prog (callFunc f args) w = .ok (.enter f args) w)
    (hr : Rd w R s i out) (hi : i ≤ s.size) (hs : s.size ≤ 2000) :
    Calls Tryd.prog 31 #[.pointer (some ⟨R, 0, none⟩), .func (.func f) #[] #[]] w fun e w' =>
      e = .returned (.string (s.extract i (i + runN p (rest s i)))) ∧ Rd w' R s (i + runN p (rest s i)) out ∧ w.grownBy w' (some R) := by
  obtain ⟨T, hT⟩ : ∃ T, i + runN p (rest s i) = T := ⟨_, rfl⟩
  rw [hT]
  have HT := Lib.hid hT
  clear hT
  have c0' := hr.c0
  have c1' := hr.c1
  go_enter Tryd.func31, Tryd.ntmps31
  go_wp2_with fail
  go_loopg [] (s.size - i) (fun g wr => ∃ j : Nat, g = s.size - j ∧ i ≤ j ∧ j ≤ s.size ∧ Rd wr R s j out ∧ w.grownBy wr (some R) ∧ j + runN p (rest s j) = T)
  case atStart => exact ⟨i, rfl, Nat.le_refl _, hi, hr, World.grownBy.refl _ _, HT.out⟩
  case round =>
    obtain ⟨j, hg, hij, hj, hrd, hgr, ht⟩ := hrel
    have G := Lib.hid hg
    have HG := Lib.hid hgr
    have HJ := Lib.hid ht
    have HR := Lib.hid hrd
    have c0 := hrd.c0
    have c1 := hrd.c1
    have f1 := hrd.f1
    clear hg hgr ht hrd hr HT c0' c1'
    by_cases hlt : j < s.size
    · have h1 : (j : Int) < (s.size : Int) := by omega
      have h2 : (0 : Int) ≤ (j : Int) := by omega
      have hco := Lib.hid (rest_cons s j hlt)
      go_wp2_with fail
      go_quiet (exact Calls.quiet_of_same ((H _ _).mono fun _ _ ⟨a, b⟩ => ⟨a, b.symm⟩))
      generalize s[j] = b at *
      by_cases hb : p b = true
      · have hs1 := Lib.hid (run_cons p _ _ _ hco.out hb)
        rw [hb]
        go_wp2_with fail
        go_roundg (s.size - (j + 1))
        case measure => rw [G.out]; omega
        case rel =>
          exact ⟨j + 1, rfl, by omega, by omega, by simpa using (HR.out.drewN _).at (j + 1), grow_set (grow_drewN HG.out _) _ _, by have := HJ.out; have := hs1.out; omega⟩
      · simp only [Bool.not_eq_true] at hb
        have hs1 := Lib.hid (run_no p _ _ _ hco.out hb)
        rw [hb]
        have hT : T = j := by have := HJ.out; have := hs1.out; omega
        subst hT
        have h3 : (i : Int) ≤ (T : Int) := by omega
        have h4 : (0 : Int) ≤ (i : Int) := by omega
        go_wp2_with fail
        go_quiet (fail)
        go_wp2_with fail
        go_ret
        exact ⟨rfl, (HR.out.drewN _).drewN _, grow_drewN (grow_drewN HG.out _) _⟩
    · have hs1 := Lib.hid (rest_end s j (by omega))
      have h1 : (s.size : Int) ≤ (j : Int) := by omega
      have hT : T = j := by have := HJ.out; rw [hs1.out] at this; simpa [runN] using this.symm
      subst hT
      go_wp2_with fail
      go_quiet (fail)
      have h3 : (i : Int) ≤ (T : Int) := by omega
      have h4 : (0 : Int) ≤ (i : Int) := by omega
      have h5 : (T : Int) ≤ (s.size : Int) := by omega
      go_wp2_with fail
      go_quiet (fail)
      go_wp2_with fail
      go_ret
      exact ⟨rfl, (HR.out.drewN _).drewN _, grow_drewN (grow_drewN HG.out _) _⟩
theorem call24 (args : Array Value) (w : World) : Sem.run Tryd.prog (callFunc 24 args) w = .ok (.enter 24 args) w := by go_simp
theorem call32 (args : Array Value) (w : World) : Sem.run Tryd.prog (callFunc 32 args) w = .ok (.enter 32 args) w := by go_simp

theorem extract_eq (s : ByteArray) (i n : Nat) : s.extract i (i + n) = ⟨((rest s i).take n).toArray⟩ := by
  apply ByteArray.ext
  apply Array.ext'
  unfold rest
  simp

/-- The string of some bytes. -/
def sV (l : List UInt8) : Value := .string ⟨l.toArray⟩
theorem run_is (R : Nat) (s : ByteArray) (i : Nat) (out : Value) (w : World) (f : Nat) (p : UInt8 → Bool)
    (H : ∀ (c : UInt8) (w : World), Calls Tryd.prog f #[.int .u8 (c.toNat : Int)] w fun e w' => e = .returned (.bool (p c)) ∧ w = w')
    (HF : ∀ (args : Array Value) (w : World), Sem.run Tryd.prog (callFunc f args) w = .ok (.enter f args) w)
    (hr : Rd w R s i out) (hi : i ≤ s.size) (hs : s.size ≤ 2000) :
    Calls Tryd.prog 31 #[.pointer (some ⟨R, 0, none⟩), .func (.func f) #[] #[]] w fun e w' =>
      e = .returned (.string ⟨((rest s i).take (runN p (rest s i))).toArray⟩) ∧ Rd w' R s (i + runN p (rest s i)) out ∧ w.grownBy w' (some R) :=
  (run_any R s i out w f p H HF hr hi hs).mono fun e w' ⟨a, b, c⟩ => ⟨by rw [a, extract_eq], b, c⟩

def wordsB : ByteArray := ⟨#[108, 101, 116, 32, 102, 110, 32, 105, 102, 32, 101, 108, 115, 101, 32, 119, 104, 105, 108, 101, 32, 102, 111, 114, 32, 111, 102, 32, 114, 101, 116, 117, 114, 110, 32, 98, 114, 101, 97, 107, 32, 99, 111, 110, 116, 105, 110, 117, 101, 32, 116, 104, 114, 111, 119, 32, 116, 114, 121, 32, 99, 97, 116, 99, 104, 32, 102, 105, 110, 97, 108, 108, 121, 32, 116, 114, 117, 101, 32, 102, 97, 108, 115, 101, 32, 110, 117, 108, 108]⟩
def signsB : ByteArray := ⟨#[61, 61, 32, 33, 61, 32, 60, 61, 32, 62, 61, 32, 38, 38, 32, 124, 124, 32, 61, 32, 33, 32, 60, 32, 62, 32, 43, 32, 45, 32, 42, 32, 47, 32, 37, 32, 40, 32, 41, 32, 91, 32, 93, 32, 123, 32, 125, 32, 44, 32, 59, 32, 58, 32, 46, 32, 63]⟩
theorem wordsFields : Lib.fields wordsB.data.toList = words := by decide +kernel
theorem signsFields : Lib.fields signsB.data.toList = signs := by decide +kernel
theorem wordsLow : ∀ (j : Nat) b, wordsB.data.toList[j]? = some b → b.toNat < 128 := fun j b h =>
  (by decide +kernel : ∀ b ∈ wordsB.data.toList, b.toNat < 128) b (List.mem_of_getElem? h)
theorem signsLow : ∀ (j : Nat) b, signsB.data.toList[j]? = some b → b.toNat < 128 := fun j b h =>
  (by decide +kernel : ∀ b ∈ signsB.data.toList, b.toNat < 128) b (List.mem_of_getElem? h)

def tokV (t : Tok) (a b : Int) : Value := .agg #[.int .i64 t.k, .int .i64 a, .int .i64 b, .string ⟨t.text.toArray⟩, .int .i64 t.num]
abbrev SpTab (B : Nat) (w : World) : Prop := Lib.TabBelow Tryd.prog B w "strings.asciiSpace" .u8 Lib.asciiSpaceTab

/-- A token's five cells at block b. -/
structure TBx (w : World) (b : Nat) (k a c : Int) (x : ByteArray) (n : Int) : Prop where
  c0 : w.cell? ⟨b, 0, none⟩ = some (.int .i64 k)
  c1 : w.cell? ⟨b, 1, none⟩ = some (.int .i64 a)
  c2 : w.cell? ⟨b, 2, none⟩ = some (.int .i64 c)
  c3 : w.cell? ⟨b, 3, none⟩ = some (.string x)
  c4 : w.cell? ⟨b, 4, none⟩ = some (.int .i64 n)
  f0 : w.frozen? ⟨b, 0, none⟩ = false
  f1 : w.frozen? ⟨b, 1, none⟩ = false
  f2 : w.frozen? ⟨b, 2, none⟩ = false
  f3 : w.frozen? ⟨b, 3, none⟩ = false
  f4 : w.frozen? ⟨b, 4, none⟩ = false
  l : b < w.heap.size
theorem TBx.new (w : World) (k a c : Int) (x : ByteArray) (n : Int) : TBx (w.alloc (.cells #[.int .i64 k, .int .i64 a, .int .i64 c, .string x, .int .i64 n] 28)) w.heap.size k a c x n := by
  refine ⟨?_, ?_, ?_, ?_, ?_, ?_, ?_, ?_, ?_, ?_, ?_⟩ <;> simp [go_sem]
theorem TBx.grown {w w' : World} {b : Nat} {k a c : Int} {x : ByteArray} {n : Int} (h : TBx w b k a c x n) {R : Nat} (hg : w.grownBy w' (some R)) (hne : b ≠ R) : TBx w' b k a c x n := by
  have hb := hg.block b h.l (by simpa using hne)
  have hc := fun o => World.cell?_of_block (a := ⟨b, o, none⟩) hb
  have hf := fun o => World.frozen?_of_block (a := ⟨b, o, none⟩) hb
  exact ⟨(hc 0).trans h.c0, (hc 1).trans h.c1, (hc 2).trans h.c2, (hc 3).trans h.c3, (hc 4).trans h.c4, (hf 0).trans h.f0, (hf 1).trans h.f1, (hf 2).trans h.f2, (hf 3).trans h.f3, (hf 4).trans h.f4, Nat.lt_of_lt_of_le h.l hg.size⟩
theorem TBx.alloc {w : World} {b : Nat} {k a c : Int} {x : ByteArray} {n : Int} (h : TBx w b k a c x n) (o : Obj) : TBx (w.alloc o) b k a c x n :=
  h.grown (World.grownBy_alloc w o (some (b + 1))) (by omega)
theorem TBx.drewN {w : World} {b : Nat} {k a c : Int} {x : ByteArray} {n : Int} (h : TBx w b k a c x n) (q : Nat) : TBx (w.drewN q) b k a c x n :=
  ⟨h.c0, h.c1, h.c2, h.c3, h.c4, h.f0, h.f1, h.f2, h.f3, h.f4, h.l⟩
theorem Rd.kept {w w' : World} {R : Nat} {s : ByteArray} {i : Nat} {out : Value} (h : Rd w R s i out) (hb : w'.heap[R]? = w.heap[R]?) (hl : w.heap.size ≤ w'.heap.size) : Rd w' R s i out := by
  have hc := fun o => World.cell?_of_block (a := ⟨R, o, none⟩) hb
  have hf := fun o => World.frozen?_of_block (a := ⟨R, o, none⟩) hb
  exact ⟨(hc 0).trans h.c0, (hc 1).trans h.c1, (hc 2).trans h.c2, (hf 1).trans h.f1, (hf 2).trans h.f2, Nat.lt_of_lt_of_le h.l hl⟩
theorem Rd.alloc {w : World} {R : Nat} {s : ByteArray} {i : Nat} {out : Value} (h : Rd w R s i out) (o : Obj) : Rd (w.alloc o) R s i out :=
  h.kept (Below.heap_alloc w o R h.l) (World.grownBy_alloc w o none).size
theorem Rd.other {w : World} {R : Nat} {s : ByteArray} {i : Nat} {out : Value} (h : Rd w R s i out) {b : Nat} (hne : R ≠ b) (o : Nat) (v : Value) : Rd (w.setCell ⟨b, o, none⟩ v) R s i out :=
  h.kept (Below.heap_setCell w _ v R hne) (by simp [World.setCell])
theorem grow_other {w w' : World} {r : Option Nat} (h : w.grownBy w' r) {b : Nat} (hb : w.heap.size ≤ b) (o : Nat) (v : Value) : w.grownBy (w'.setCell ⟨b, o, none⟩ v) r :=
  ⟨h.os, h.tape, h.output, by simpa [World.setCell] using h.size, fun k hk hne => (Below.heap_setCell w' _ v k (fun e => by simp at e; omega)).trans (h.block k hk hne)⟩
theorem grow_alloc {w w' : World} {r : Option Nat} (h : w.grownBy w' r) (o : Obj) : w.grownBy (w'.alloc o) r := h.trans (World.grownBy_alloc w' o r)
theorem below_grow {w w' : World} {R B : Nat} (h : w.grownBy w' (some R)) (hB : B ≤ R) (hw : B ≤ w.heap.size) : Below B w w' :=
  ⟨h.os, h.tape, h.output, h.size, fun k hk => h.block k (by omega) (by simp; omega)⟩
theorem words_in (l : List (List UInt8)) (x : List UInt8) : Lib.containsS (l.map fun y => (⟨y.toArray⟩ : ByteArray)) ⟨x.toArray⟩ = l.contains x := by
  rw [Bool.eq_iff_iff, Lib.containsS_iff, List.contains_iff_mem, List.mem_map]
  constructor
  · rintro ⟨y, hy, e⟩
    have e' : y.toArray = x.toArray := congrArg ByteArray.data e
    have : y = x := by simpa using e'
    exact this ▸ hy
  · intro h; exact ⟨x, h, rfl⟩

/-- The slice of some texts, new at the end. -/
abbrev rowOf (w : World) (l : List (List UInt8)) : World := w.alloc (.cells (l.map fun y => Value.string ⟨y.toArray⟩).toArray 9)
theorem fields_words (w : World) (htab : Lib.TabIs Tryd.prog w "strings.asciiSpace" .u8 Lib.asciiSpaceTab) :
    Calls Tryd.prog 34 #[.string wordsB] w fun e w' => e = .returned (.slice (some ⟨w.heap.size, 0, none⟩) words.length words.length) ∧ w' = rowOf w words := by
  have h := Tryd.strings_Fields_laid wordsB w (by decide +kernel) wordsLow htab
  rw [wordsFields] at h
  exact h
theorem fields_signs (w : World) (htab : Lib.TabIs Tryd.prog w "strings.asciiSpace" .u8 Lib.asciiSpaceTab) :
    Calls Tryd.prog 34 #[.string signsB] w fun e w' => e = .returned (.slice (some ⟨w.heap.size, 0, none⟩) signs.length signs.length) ∧ w' = rowOf w signs := by
  have h := Tryd.strings_Fields_laid signsB w (by decide +kernel) signsLow htab
  rw [signsFields] at h
  exact h
theorem in_row (w : World) (l : List (List UInt8)) (x : List UInt8) (hl : l.length ≤ 9223372036854775807) :
    Calls Tryd.prog 33 #[.slice (some ⟨w.heap.size, 0, none⟩) l.length l.length, .string ⟨x.toArray⟩] (rowOf w l) fun e w' => e = .returned (.bool (l.contains x)) ∧ w' = rowOf w l := by
  have h := Tryd.slices_Contains_string w.heap.size 0 l.length l.length (l.map fun y => (⟨y.toArray⟩ : ByteArray)) ⟨x.toArray⟩ (rowOf w l) (by simp) hl (fun j hj => by
    have hj' : j < l.length := by simpa using hj
    simp only [World.cell?, rowOf, heap_alloc_new]
    simp [hj'])
  rw [List.take_of_length_le (by simp), words_in] at h
  exact h

def kd : Bool → Int
  | true => 5
  | false => 1
set_option maxRecDepth 100000 in
set_option maxHeartbeats 2000000 in
theorem name_any (R B : Nat) (s : ByteArray) (i : Nat) (out : Value) (w : World) (hr : Rd w R s i out) (hi : i ≤ s.size) (hs : s.size ≤ 2000) (tb : SpTab B w) (hB : B ≤ R) :
    Calls Tryd.prog 23 #[.pointer (some ⟨R, 0, none⟩)] w fun e w' =>
      e = .returned (tokV (nameT (rest s i)) 0 0) ∧ Rd w' R s (i + (nameT (rest s i)).n) out ∧ w.grownBy w' (some R) := by
  obtain ⟨n, hn⟩ : ∃ n, runN ld (rest s i) = n := ⟨_, rfl⟩
  obtain ⟨x, hx⟩ : ∃ x, (rest s i).take n = x := ⟨_, rfl⟩
  obtain ⟨b, hb⟩ : ∃ b, words.contains x = b := ⟨_, rfl⟩
  have hT : nameT (rest s i) = ⟨kd b, x, 0, n⟩ := by unfold nameT; rw [hn, hx, hb]; cases b <;> rfl
  have hin := fun w => in_row w words x (by decide)
  rw [hb] at hin
  have hrun := fun w (hr : Rd w R s i out) => run_is R s i out w 32 ld ld_any call32 hr hi hs
  rw [hn, hx] at hrun
  rw [hT]
  clear hT hn hx hb
  go_enter Tryd.func23, Tryd.ntmps23
  go_wp2_with fail
  refine (hrun _ (hr.alloc _)).mono ?_
  rintro e w1 ⟨rfl, hr1, hg1⟩
  have hne : w.heap.size ≠ R := by have := hr.l; omega
  have ht1 := (TBx.new w 0 0 0 ⟨#[]⟩ 0).grown hg1 hne
  go_wp2_with fail
  refine (fields_words _ (tb.on (below_grow (World.grownBy_alloc w _ _ |>.trans hg1) hB (by have := hr.l; omega))).here).mono ?_
  rintro e w2 ⟨rfl, rfl⟩
  go_wp2_with fail
  refine (hin _).mono ?_
  rintro e w2 ⟨rfl, rfl⟩
  have hg2 : w.grownBy (rowOf w1 words) (some R) := grow_alloc (World.grownBy_alloc w _ _ |>.trans hg1) _
  have hr2 : Rd (rowOf w1 words) R s (i + n) out := hr1.alloc _
  have ht2 : TBx (rowOf w1 words) w.heap.size 0 0 0 ⟨#[]⟩ 0 := ht1.alloc _
  have hl := hr.l
  clear ht1 hg1 hr1 hr hrun tb hin
  generalize rowOf w1 words = w2 at *
  obtain ⟨c0, c1, c2, c3, c4, f0, f1, f2, f3, f4, l2⟩ := ht2
  have HG := Lib.hid hg2
  have HR := Lib.hid hr2
  have HL := Lib.hid hl
  clear hg2 hr2 hl
  cases b
  all_goals
    go_wp2_with fail
    refine bodyPost_ret (v := _) (by simp [results, Tryd.results23, go_sem, c0, c1, c2, c3, c4]; rfl) rfl ⟨rfl, ?_⟩
    exact ⟨((((HR.out.other hne.symm _ _).other hne.symm _ _).other hne.symm _ _).other hne.symm _ _).other hne.symm _ _,
      grow_other (grow_other (grow_other (grow_other (grow_other HG.out (Nat.le_refl _) _ _) (Nat.le_refl _) _ _) (Nat.le_refl _) _ _) (Nat.le_refl _) _ _) (Nat.le_refl _) _ _⟩
end Go.Proofs.YtfikflmlcicedaaDoor
