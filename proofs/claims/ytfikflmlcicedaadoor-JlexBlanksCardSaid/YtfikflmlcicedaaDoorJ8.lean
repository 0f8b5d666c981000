/- The contracts of jlex's sign, next. -/
import Derived.Test.YtfikflmlcicedaaDoorJ7
namespace Go.Proofs.YtfikflmlcicedaaDoor
open Go.RowKit

/-- What holds at the head of sign's loop. -/
structure SX (w wr : World) (R B : Nat) (s : ByteArray) (out : Value) (i : Nat) : Prop where
  rd : Rd wr R s i out
  bx : TBx wr w.heap.size 0 0 0 ⟨#[]⟩ 0
  gr : w.grownBy wr (some R)
  tb : SpTab B wr
theorem SX.drewN {w wr : World} {R B : Nat} {s : ByteArray} {out : Value} {i : Nat} (h : SX w wr R B s out i) (q : Nat) : SX w (wr.drewN q) R B s out i :=
  ⟨h.rd.drewN q, h.bx.drewN q, grow_drewN h.gr q, h.tb.on ⟨rfl, rfl, rfl, Nat.le_refl _, fun _ _ => rfl⟩⟩
theorem SX.alloc {w wr : World} {R B : Nat} {s : ByteArray} {out : Value} {i : Nat} (h : SX w wr R B s out i) (hB : B ≤ wr.heap.size) (o : Obj) : SX w (wr.alloc o) R B s out i :=
  ⟨h.rd.alloc o, h.bx.alloc o, grow_alloc h.gr o, h.tb.on ((Below.refl _ _).alloc hB o)⟩

/-- What sign says of the lengths from the k-th on. -/
def sgK (l : List UInt8) : Nat → Out
  | 0 => signT l
  | 1 => if 1 ≤ l.length ∧ signs.contains (l.take 1) then .tok ⟨4, l.take 1, 0, 1⟩ else .err 4
  | _ => .err 4
theorem sg0 (l : List UInt8) : sgK l 0 = if 2 ≤ l.length ∧ signs.contains (l.take 2) then .tok ⟨4, l.take 2, 0, 2⟩ else sgK l 1 := rfl
theorem sg1 (l : List UInt8) : sgK l 1 = if 1 ≤ l.length ∧ signs.contains (l.take 1) then .tok ⟨4, l.take 1, 0, 1⟩ else sgK l 2 := rfl

theorem ix0 (w : World) : Sem.run Tryd.prog (Instr.index 65 (Value.agg #[Value.int IntKind.i64 2, Value.int IntKind.i64 1]) (Value.int IntKind.i64 0)) w = .ok (.int .i64 2) w := by kernel_rfl
theorem ix1 (w : World) : Sem.run Tryd.prog (Instr.index 65 (Value.agg #[Value.int IntKind.i64 2, Value.int IntKind.i64 1]) (Value.int IntKind.i64 1)) w = .ok (.int .i64 1) w := by kernel_rfl

set_option maxRecDepth 100000 in
set_option maxHeartbeats 4000000 in
theorem sign_any (R B : Nat) (s : ByteArray) (i : Nat) (out : Value) (w : World) (hr : Rd w R s i out) (hi : i ≤ s.size) (hs : s.size ≤ 2000) (tb : SpTab B w) (hB : B ≤ R) :
    Calls Tryd.prog 27 #[.pointer (some ⟨R, 0, none⟩)] w (Said R s i out w (signT (rest s i))) := by
  have X0 : SX w (w.alloc (.cells #[.int .i64 0, .int .i64 0, .int .i64 0, .string ⟨#[]⟩, .int .i64 0] 28)) R B s out i :=
    ⟨hr.alloc _, TBx.new _ _ _ _ _ _, World.grownBy_alloc _ _ _, tb.on ((Below.refl _ _).alloc (by have := hr.l; omega) _)⟩
  have hl := hr.l
  clear hr tb
  have hlen := Lib.hid (rest_length s i)
  obtain ⟨O, hO⟩ : ∃ O, signT (rest s i) = O := ⟨_, rfl⟩
  rw [hO]
  have HO := Lib.hid (show sgK (rest s i) 0 = O from hO)
  clear hO
  go_enter Tryd.func27, Tryd.ntmps27
  go_wp2_with fail
  go_loopg [8] 2 (fun g v wr => ∃ k : Nat, g = 2 - k ∧ v = .int .i64 (k : Int) ∧ k ≤ 2 ∧ SX w wr R B s out i ∧ sgK (rest s i) k = O)
  case atStart => exact ⟨0, rfl, rfl, by omega, X0, HO.out⟩
  case round =>
    obtain ⟨k, hg, rfl, hk, hx, ho⟩ := hrel
    have G := Lib.hid hg
    have X := Lib.hid hx
    have HK := Lib.hid ho
    have c0 := hx.rd.c0
    have c1 := hx.rd.c1
    have f1 := hx.rd.f1
    have hRl := hx.rd.l
    obtain ⟨t0, t1, t2, t3, t4, g0, g1, g2, g3, g4, l2⟩ := hx.bx
    have hne : w.heap.size ≠ R := by omega
    clear hg ho hx HO X0
    have H : k = 0 ∨ k = 1 ∨ k = 2 := by omega
    have i0 := ix0
    have i1 := ix1
    rcases H with rfl | rfl | rfl
    · by_cases hm : i + 2 ≤ s.size
      · have h1 : (i : Int) + 2 ≤ (s.size : Int) := by omega
        have h0 : (0 : Int) ≤ (i : Int) := by omega
        have hex := extract_eq s i 2
        obtain ⟨x, hx⟩ : ∃ x, (rest s i).take 2 = x := ⟨_, rfl⟩
        rw [hx] at hex
        obtain ⟨b, hb⟩ : ∃ b, signs.contains x = b := ⟨_, rfl⟩
        have hin := fun w => in_row w signs x (by decide)
        rw [hb] at hin
        have hsg : sgK (rest s i) 0 = if b then .tok ⟨4, x, 0, 2⟩ else sgK (rest s i) 1 := by
          rw [sg0, hx, hb]
          cases b
          · simp
          · rw [if_pos ⟨by rw [hlen.out]; omega, rfl⟩]; rfl
        have HSG := Lib.hid hsg
        clear hsg hx hb
        go_wp2_with fail
        go_quiet (fail)
        go_wp2_with fail
        go_quiet (fail)
        go_wp2_with fail
        try rw [hex]
        refine (fields_signs _ (X.out.drewN _).tb.here).mono ?_
        rintro e w2 ⟨rfl, rfl⟩
        go_wp2_with fail
        refine (hin _).mono ?_
        rintro e w2 ⟨rfl, rfl⟩
        obtain ⟨w2, hw2, X2⟩ : ∃ w2, w2 = rowOf (wr.drewN _) signs ∧ SX w w2 R B s out i := ⟨_, rfl, (X.out.drewN _).alloc (Nat.le_of_lt (Nat.lt_of_le_of_lt hB hRl)) _⟩
        rw [← hw2]
        clear hw2 c0 c1 f1 hRl t0 t1 t2 t3 t4 g0 g1 g2 g3 g4 l2 hex hin
        have X3 := Lib.hid X2
        have c0 := X2.rd.c0
        have c1 := X2.rd.c1
        have f1 := X2.rd.f1
        obtain ⟨t0, t1, t2, t3, t4, g0, g1, g2, g3, g4, l2⟩ := X2.bx
        clear X2
        cases b
        · go_wp2_with fail
          go_roundg 1
          case measure => rw [G.out]; omega
          case rel => exact ⟨1, rfl, by simp, by omega, X3.out, by rw [← HK.out, HSG.out]; rfl⟩
        · have ho : O = .tok ⟨4, x, 0, 2⟩ := by rw [← HK.out, HSG.out]; rfl
          go_wp2_with fail
          refine bodyPost_ret (v := _) (by simp [results, Tryd.results27, go_sem, t0, t1, t2, t3, t4]; rfl) rfl ?_
          exact said_of (by rw [ho]; rfl) (set5 (by simpa using X3.out.rd.at (i + 2)) (grow_set X3.out.gr _ _) hne _ _ _ _ _) (by rw [ho]; intro t ht; cases ht; rfl)
      · have h1 : (s.size : Int) < (i : Int) + 2 := by omega
        have hsg : sgK (rest s i) 1 = O := by
          rw [← HK.out, sg0, if_neg (fun h => by have := h.1; rw [hlen.out] at this; omega)]
        have HSG := Lib.hid hsg
        clear hsg
        go_wp2_with fail
        go_quiet (fail)
        go_wp2_with fail
        go_roundg 1
        case measure => rw [G.out]; omega
        case rel => exact ⟨1, rfl, by simp, by omega, X.out.drewN _, HSG.out⟩
    · by_cases hm : i + 1 ≤ s.size
      · have h1 : (i : Int) + 1 ≤ (s.size : Int) := by omega
        have h0 : (0 : Int) ≤ (i : Int) := by omega
        have hex := extract_eq s i 1
        obtain ⟨x, hx⟩ : ∃ x, (rest s i).take 1 = x := ⟨_, rfl⟩
        rw [hx] at hex
        obtain ⟨b, hb⟩ : ∃ b, signs.contains x = b := ⟨_, rfl⟩
        have hin := fun w => in_row w signs x (by decide)
        rw [hb] at hin
        have hsg : sgK (rest s i) 1 = if b then .tok ⟨4, x, 0, 1⟩ else sgK (rest s i) 2 := by
          rw [sg1, hx, hb]
          cases b
          · simp
          · rw [if_pos ⟨by rw [hlen.out]; omega, rfl⟩]; rfl
        have HSG := Lib.hid hsg
        clear hsg hx hb
        go_wp2_with fail
        go_quiet (fail)
        go_wp2_with fail
        go_quiet (fail)
        go_wp2_with fail
        try rw [hex]
        refine (fields_signs _ (X.out.drewN _).tb.here).mono ?_
        rintro e w2 ⟨rfl, rfl⟩
        go_wp2_with fail
        refine (hin _).mono ?_
        rintro e w2 ⟨rfl, rfl⟩
        obtain ⟨w2, hw2, X2⟩ : ∃ w2, w2 = rowOf (wr.drewN _) signs ∧ SX w w2 R B s out i := ⟨_, rfl, (X.out.drewN _).alloc (Nat.le_of_lt (Nat.lt_of_le_of_lt hB hRl)) _⟩
        rw [← hw2]
        clear hw2 c0 c1 f1 hRl t0 t1 t2 t3 t4 g0 g1 g2 g3 g4 l2 hex hin
        have X3 := Lib.hid X2
        have c0 := X2.rd.c0
        have c1 := X2.rd.c1
        have f1 := X2.rd.f1
        obtain ⟨t0, t1, t2, t3, t4, g0, g1, g2, g3, g4, l2⟩ := X2.bx
        clear X2
        cases b
        · go_wp2_with fail
          go_roundg 0
          case measure => rw [G.out]; omega
          case rel => exact ⟨2, rfl, by simp, by omega, X3.out, by rw [← HK.out, HSG.out]; rfl⟩
        · have ho : O = .tok ⟨4, x, 0, 1⟩ := by rw [← HK.out, HSG.out]; rfl
          go_wp2_with fail
          refine bodyPost_ret (v := _) (by simp [results, Tryd.results27, go_sem, t0, t1, t2, t3, t4]; rfl) rfl ?_
          exact said_of (by rw [ho]; rfl) (set5 (by simpa using X3.out.rd.at (i + 1)) (grow_set X3.out.gr _ _) hne _ _ _ _ _) (by rw [ho]; intro t ht; cases ht; rfl)
      · have h1 : (s.size : Int) < (i : Int) + 1 := by omega
        have hsg : sgK (rest s i) 2 = O := by
          rw [← HK.out, sg1, if_neg (fun h => by have := h.1; rw [hlen.out] at this; omega)]
        have HSG := Lib.hid hsg
        clear hsg
        go_wp2_with fail
        go_quiet (fail)
        go_wp2_with fail
        go_roundg 0
        case measure => rw [G.out]; omega
        case rel => exact ⟨2, rfl, by simp, by omega, X.out.drewN _, HSG.out⟩
    · have ho : O = .err 4 := HK.out.symm
      go_wp2_with fail
      refine bodyPost_ret (v := _) (by simp [results, Tryd.results27, go_sem, t0, t1, t2, t3, t4]; rfl) rfl ?_
      exact said_err ho (set5 X.out.rd X.out.gr hne _ _ _ _ _)
end Go.Proofs.YtfikflmlcicedaaDoor
