/- The law UrlBytes over the walk. -/
import Derived.Test.YtjcejijdeohkgaaGreatDoorW29
namespace Go.Proofs.YtjcejijdeohkgaaGreatDoor
open Go.RowKit

def cutSet : Bs := [97, 98, 99, 100, 101, 102, 103, 104, 105, 106, 107, 108, 109, 110, 111, 112, 113, 114, 115, 116, 117, 118, 119, 120, 121, 122, 65, 66, 67, 68, 69, 70, 71, 72, 73, 74, 75, 76, 77, 78, 79, 80, 81, 82, 83, 84, 85, 86, 87, 88, 89, 90, 48, 49, 50, 51, 52, 53, 54, 55, 56, 57, 45, 46, 95, 126, 37]
theorem cut_all : ∀ n : Fin 256, plainP (UInt8.ofNat n.val) = true ∨ UInt8.ofNat n.val = 37 → UInt8.ofNat n.val ∈ cutSet := by decide +kernel
theorem cut_mem (b : UInt8) (h : plainP b = true ∨ b = 37) : b ∈ cutSet := by
  have := cut_all ⟨b.toNat, UInt8.toNat_lt b⟩
  simp only [UInt8.ofNat_toNat] at this
  exact this h
theorem cut_asc : ∀ b ∈ cutSet, b.toNat < 128 := by decide
theorem encR_len (l : Bs) : (encP l).length ≤ 3 * l.length := enc_len l
theorem call16' (args : Array Value) (w : World) : Sem.run Tryz.prog (callFunc 16 args) w = .ok (.enter 16 args) w := by go_simp
theorem call18' (args : Array Value) (w : World) : Sem.run Tryz.prog (callFunc 18 args) w = .ok (.enter 18 args) w := by go_simp
set_option maxRecDepth 100000 in
set_option maxHeartbeats 8000000 in
theorem law_bytes (s : Bs) (w : World) (hT : TB w) (hs : s.length ≤ 1048576) : Calls Tryz.prog 3 #[.string (bs s)] w fun e w' => e = .returned (.bool true) ∧ Below w.heap.size w w' := by
  have p15 := call15
  have p16 := call16'
  have p17 := call17
  have p18 := call18'
  have HTB := Lib.hid hT
  have H1 := Lib.hid (encode_any s w hs)
  have H2 : Hid (∀ w9, Calls Tryz.prog 16 #[.string (bs (encP s))] w9 fun e w' => e = .returned (.tuple #[.string (bs s), .int .i64 0]) ∧ Below w9.heap.size w9 w') := Lib.hid (fun w9 => by
    have h := decode_any (encP s) w9 (by have := encR_len s; omega)
    unfold decR at h
    rw [dec_enc] at h
    exact h)
  have H4 : Hid (∀ w9, Calls Tryz.prog 18 #[.string (bs (encP s)), .string (bs cutSet)] w9 fun e w' => e = .returned (.string ⟨#[]⟩) ∧ Below w9.heap.size w9 w') := Lib.hid (fun w9 => by
    have h := trim_any (encP s) cutSet w9 (by have := encR_len s; omega) (by decide) cut_asc
    rw [enc_trim s cutSet cut_mem] at h
    exact h)
  clear hT hs
  generalize encP s = E at *
  go_enter Tryz.func3, Tryz.ntmps3
  go_wp2_with fail
  refine (H1.out).mono ?_
  rintro e w1 ⟨rfl, hb1⟩
  have X1 := Lib.hid (hb1)
  clear hb1
  go_wp2_with fail
  refine (H2.out _).mono ?_
  rintro e w2 ⟨rfl, hb2⟩
  have X2 := Lib.hid (X1.out.trans (Below.le hb2 X1.out.size))
  clear hb2
  go_wp2_with fail
  refine (lives_any _ (HTB.out.below X2.out)).mono ?_
  rintro e w3 ⟨rfl, hb3⟩
  have X3 := Lib.hid (X2.out.trans (Below.le hb3 X2.out.size))
  clear hb3
  go_wp2_with fail
  refine (H4.out _).mono ?_
  rintro e w4 ⟨rfl, hb4⟩
  have X4 := Lib.hid (X3.out.trans (Below.le hb4 X3.out.size))
  clear hb4
  go_wp2_with fail
  go_ret
  exact ⟨rfl, X4.out⟩
end Go.Proofs.YtjcejijdeohkgaaGreatDoor
