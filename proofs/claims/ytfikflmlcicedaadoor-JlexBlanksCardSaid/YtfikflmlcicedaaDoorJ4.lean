/- The contract of jlex's number. -/
import Derived.Test.YtfikflmlcicedaaDoorJ3
import Derived.Lib.ConvBytes
import Derived.Lib.AtoiErrMem
namespace Go.Proofs.YtfikflmlcicedaaDoor
open Go.RowKit

def zTok : Tok := ⟨0, [], 0, 0⟩
def tokOf : Out → Tok
  | .tok t => t
  | .err _ => zTok
def errOf : Out → Int
  | .tok _ => 0
  | .err e => e
/-- What a reader of one token says and leaves. -/
def Said (R : Nat) (s : ByteArray) (i : Nat) (out : Value) (w : World) (o : Out) (e : Ending) (w' : World) : Prop :=
  e = .returned (.tuple #[tokV (tokOf o) 0 0, .int .i64 (errOf o)]) ∧ (∃ i', Rd w' R s i' out ∧ ∀ t, o = .tok t → i' = i + t.n) ∧ w.grownBy w' (some R)

theorem grow_below {w w1 w2 : World} {r : Option Nat} (h : w.grownBy w1 r) (hb : Below w1.heap.size w1 w2) : w.grownBy w2 r :=
  h.trans ⟨hb.os, hb.tape, hb.output, hb.size, fun k hk _ => hb.block k hk⟩
theorem Rd.below {w w' : World} {R : Nat} {s : ByteArray} {i : Nat} {out : Value} (h : Rd w R s i out) (hb : Below w.heap.size w w') : Rd w' R s i out :=
  h.kept (hb.block R h.l) hb.size
theorem TBx.below {w w' : World} {b : Nat} {k a c : Int} {x : ByteArray} {n : Int} (h : TBx w b k a c x n) (hb : Below w.heap.size w w') : TBx w' b k a c x n :=
  h.grown (R := b + 1) ⟨hb.os, hb.tape, hb.output, hb.size, fun k hk _ => hb.block k hk⟩ (by omega)
theorem run_all (p : UInt8 → Bool) : ∀ (l : List UInt8), ∀ c ∈ l.take (runN p l), p c = true
  | [], c, h => by simp at h
  | b :: t, c, h => by
    unfold runN at h
    by_cases hb : p b = true
    · rw [if_pos hb, Nat.add_comm, List.take_succ_cons] at h
      rcases List.mem_cons.1 h with rfl | h
      · exact hb
      · exact run_all p t c h
    · rw [if_neg hb] at h; simp at h
theorem run_length (p : UInt8 → Bool) (l : List UInt8) : (l.take (runN p l)).length = runN p l := by
  rw [List.length_take]; have := run_le p l; omega
theorem drop_getD (x : List UInt8) (k : Nat) (h : k < x.length) : x.drop k = x.getD k 0 :: x.drop (k + 1) := by
  rw [List.drop_eq_getElem_cons h, List.getD_eq_getElem?_getD, List.getElem?_eq_getElem h]; rfl

theorem lt_any (c : UInt8) (w : World) : Calls Tryd.prog 22 #[.int .u8 (c.toNat : Int)] w fun e w' => e = .returned (.bool (lt c)) ∧ w = w' := letter_any _ w
theorem dg_any (c : UInt8) (w : World) : Calls Tryd.prog 24 #[.int .u8 (c.toNat : Int)] w fun e w' => e = .returned (.bool (dg c)) ∧ w = w' := digit_any _ w
theorem set5 {w w2 : World} {R : Nat} {s : ByteArray} {i : Nat} {out : Value} (hr : Rd w2 R s i out) (hg : w.grownBy w2 (some R)) (hne : w.heap.size ≠ R) (v0 v1 v2 v3 v4 : Value) :
    Rd (((((w2.setCell ⟨w.heap.size, 0, none⟩ v0).setCell ⟨w.heap.size, 1, none⟩ v1).setCell ⟨w.heap.size, 2, none⟩ v2).setCell ⟨w.heap.size, 3, none⟩ v3).setCell ⟨w.heap.size, 4, none⟩ v4) R s i out ∧
    w.grownBy (((((w2.setCell ⟨w.heap.size, 0, none⟩ v0).setCell ⟨w.heap.size, 1, none⟩ v1).setCell ⟨w.heap.size, 2, none⟩ v2).setCell ⟨w.heap.size, 3, none⟩ v3).setCell ⟨w.heap.size, 4, none⟩ v4) (some R) :=
  ⟨((((hr.other hne.symm _ _).other hne.symm _ _).other hne.symm _ _).other hne.symm _ _).other hne.symm _ _,
    grow_other (grow_other (grow_other (grow_other (grow_other hg (Nat.le_refl _) _ _) (Nat.le_refl _) _ _) (Nat.le_refl _) _ _) (Nat.le_refl _) _ _) (Nat.le_refl _) _ _⟩
theorem said_of {R : Nat} {s : ByteArray} {i i' : Nat} {out : Value} {w w' : World} {o : Out} {v : Value} (hv : v = .tuple #[tokV (tokOf o) 0 0, .int .i64 (errOf o)]) (h : Rd w' R s i' out ∧ w.grownBy w' (some R)) (ht : ∀ t, o = .tok t → i' = i + t.n) :
    Said R s i out w o (.returned v) w' := ⟨by rw [hv], ⟨i', h.1, ht⟩, h.2⟩

set_option maxRecDepth 100000 in
set_option maxHeartbeats 2000000 in
theorem number_any (R : Nat) (s : ByteArray) (i : Nat) (out : Value) (w : World) (hr : Rd w R s i out) (hi : i ≤ s.size) (hs : s.size ≤ 2000) :
    Calls Tryd.prog 25 #[.pointer (some ⟨R, 0, none⟩)] w (Said R s i out w (numberT (rest s i))) := by
  obtain ⟨n, hn⟩ : ∃ n, runN dg (rest s i) = n := ⟨_, rfl⟩
  obtain ⟨x, hx⟩ : ∃ x, (rest s i).take n = x := ⟨_, rfl⟩
  have hrun := fun w (hr : Rd w R s i out) => run_is R s i out w 24 dg (fun c w => digit_any c.toNat w) call24 hr hi hs
  have hdg := run_all dg (rest s i)
  have hlen := run_length dg (rest s i)
  have hpk := rest_drop s i n
  rw [hn, hx] at hrun hdg hlen
  have hle : i + n ≤ s.size := by have := run_le dg (rest s i); rw [hn, rest_length] at this; omega
  have hN : numberT (rest s i) = match numF 0 x with
    | none => .err 2
    | some v => if lt (pk (rest s i) n) then .err 4 else .tok ⟨2, [], v, n⟩ := by unfold numberT; rw [hn, hx]; cases numF 0 x <;> rfl
  have hp0 : pk (rest s i) n = pk (rest s (i + n)) 0 := by
    rw [← hpk]; unfold pk; simp [List.getD_eq_getElem?_getD]
  rw [hp0] at hN
  have HN := Lib.hid hN
  have HD := Lib.hid hdg
  have HL := Lib.hid hlen
  have hxl : x.length ≤ 2000 := by omega
  clear hN hn hx hdg hlen hpk hp0
  go_enter Tryd.func25, Tryd.ntmps25
  go_wp2_with fail
  refine (hrun _ (hr.alloc _)).mono ?_
  rintro e w1 ⟨rfl, hr1, hg1⟩
  clear hrun
  have hne : w.heap.size ≠ R := by have := hr.l; omega
  have hcv := Lib.run_convert_string_bytes (P := Tryd.prog) w1 9 33 5 ⟨x.toArray⟩ (u := .string) Tryd.underlying9 Tryd.underlying33 Tryd.underlying5
  have hb2 := Lib.bytesWorld_below w1 5 ⟨x.toArray⟩
  have ht2 := ((TBx.new w 0 0 0 ⟨#[]⟩ 0).grown hg1 hne).below hb2
  have HR := Lib.hid (hr1.below hb2)
  have HG := Lib.hid (grow_below (World.grownBy_alloc w _ _ |>.trans hg1) hb2)
  have HC : Hid (∀ j, j < x.length → (Lib.bytesWorld w1 5 ⟨x.toArray⟩).cell? ⟨w1.heap.size, j, none⟩ = some (.int .u8 ((x.getD j 0).toNat : Int))) :=
    Lib.hid fun j hj => Lib.bytesWorld_cell w1 5 ⟨x.toArray⟩ j (by simpa [ByteArray.size] using hj)
  clear hb2 hr1 hg1 hr
  generalize Lib.bytesWorld w1 5 ⟨x.toArray⟩ = w2 at *
  generalize grownCap w1 (ByteArray.size ⟨x.toArray⟩) 0 5 = C at *
  obtain ⟨c0, c1, c2, c3, c4, f0, f1, f2, f3, f4, l2⟩ := ht2
  go_wp2_with fail
  clear hcv
  go_loop [4, 11] (fun n i => ∃ (k : Nat) (a : Int), k ≤ x.length ∧ i = .int .i64 k ∧ n = .int .i64 a ∧ 0 ≤ a ∧ a ≤ 9007199254740992 ∧ numF 0 x = numF a (x.drop k)) (fun _ i => x.length - (intOf i).toNat)
  · exact ⟨0, 0, Nat.zero_le _, rfl, rfl, by omega, by omega, rfl⟩
  · obtain ⟨k, a, hk, rfl, rfl, ha0, ha1, hnum⟩ := hrel
    have HK := Lib.hid hnum
    clear hnum
    by_cases hlt : k < x.length
    · have hck := HC.out k hlt
      have hco := drop_getD x k hlt
      have hdk := HD.out (x.getD k 0) (by rw [List.getD_eq_getElem?_getD, List.getElem?_eq_getElem hlt]; exact List.getElem_mem hlt)
      generalize x.getD k 0 = c at *
      have HO := Lib.hid hco
      clear hco
      simp only [dg, isDigit, Bool.and_eq_true, decide_eq_true_eq] at hdk
      obtain ⟨d1, d2⟩ := hdk
      have h1 : (k : Int) < (x.length : Int) := by omega
      by_cases hbig : 9007199254740992 < 10 * a + ((c.toNat : Int) - 48)
      · go_wp2_with fail
        have hnone : numF 0 x = none := by rw [HK.out, HO.out]; unfold numF; rw [if_pos hbig]
        have ho : numberT (rest s i) = .err 2 := by rw [HN.out, hnone]
        refine bodyPost_ret (v := _) (by simp [results, Tryd.results25, go_sem, c0, c1, c2, c3, c4]; rfl) rfl ?_
        exact said_of (by rw [ho]; rfl) (set5 HR.out HG.out hne _ _ _ _ _) (by rw [ho]; intro t ht; cases ht)
      · go_wp2_with fail
        refine ⟨⟨k + 1, 10 * a + ((c.toNat : Int) - 48), by omega, rfl, rfl, by omega, by omega, ?_⟩, ?_⟩
        · rw [HK.out, HO.out]; conv => lhs; unfold numF
          rw [if_neg hbig]
        · simp [intOf]; omega
    · have hke : k = x.length := by omega
      have hval : numF 0 x = some a := by rw [HK.out, hke, List.drop_length]; rfl
      rw [hval] at HN
      go_wp2_with fail
      refine (peek_any R s (i + n) 0 out _ HR.out (by omega) hs (by omega)).mono ?_
      rintro e w3 ⟨rfl, q, rfl⟩
      go_wp2_with fail
      refine (lt_any _ _).mono ?_
      rintro e w3 ⟨rfl, rfl⟩
      generalize lt (pk (rest s (i + n)) 0) = b at *
      cases b
      · have ho : numberT (rest s i) = .tok ⟨2, [], a, n⟩ := HN.out
        clear hval
        go_wp2_with fail
        refine bodyPost_ret (v := _) (by simp [results, Tryd.results25, go_sem, c0, c1, c2, c3, c4]; rfl) rfl ?_
        exact said_of (by rw [ho]; rfl) (set5 (HR.out.drewN _) (grow_drewN HG.out _) hne _ _ _ _ _) (by rw [ho]; intro t ht; cases ht; rfl)
      · have ho : numberT (rest s i) = .err 4 := HN.out
        clear hval
        go_wp2_with fail
        refine bodyPost_ret (v := _) (by simp [results, Tryd.results25, go_sem, c0, c1, c2, c3, c4]; rfl) rfl ?_
        exact said_of (by rw [ho]; rfl) (set5 (HR.out.drewN _) (grow_drewN HG.out _) hne _ _ _ _ _) (by rw [ho]; intro t ht; cases ht)
end Go.Proofs.YtfikflmlcicedaaDoor
