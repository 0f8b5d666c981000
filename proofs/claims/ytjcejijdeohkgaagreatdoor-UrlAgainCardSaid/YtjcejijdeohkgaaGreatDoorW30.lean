/- The law UrlAgain over the walk. -/
import Derived.Test.YtjcejijdeohkgaaGreatDoorW29
namespace Go.Proofs.YtjcejijdeohkgaaGreatDoor
open Go.RowKit

set_option maxRecDepth 100000 in
set_option maxHeartbeats 8000000 in
theorem law_again (base ref other : Bs) (w : World) (hT : TB w) : Calls Tryz.prog 4 #[.string (bs base), .string (bs ref), .string (bs other)] w fun e w' => e = .returned (.bool true) ∧ Below w.heap.size w w' := by
  have p19 := call19
  have p17 := call17
  have HTB := Lib.hid hT
  have H1 := Lib.hid (res_any base ref w hT)
  have H2 := Lib.hid (fun w9 hT9 => res_any other (resR base ref).1 w9 hT9)
  have H3 := Lib.hid (fun w9 hT9 => res_any base (resR base ref).1 w9 hT9)
  have HA := Lib.hid (ask_again base ref other)
  clear hT
  generalize resR other (resR base ref).1 = T at *
  generalize resR base (resR base ref).1 = U at *
  generalize resR base ref = S at *
  obtain ⟨s, e0⟩ := S
  obtain ⟨t, f⟩ := T
  obtain ⟨u, g⟩ := U
  go_enter Tryz.func4, Tryz.ntmps4
  go_wp2_with fail
  refine (H1.out).mono ?_
  rintro e w1 ⟨rfl, hb1⟩
  have X1 := Lib.hid (hb1)
  clear hb1
  go_wp2_with fail
  refine (H2.out _ (HTB.out.below X1.out)).mono ?_
  rintro e w2 ⟨rfl, hb2⟩
  have X2 := Lib.hid (X1.out.trans (Below.le hb2 X1.out.size))
  clear hb2
  go_wp2_with fail
  refine (H3.out _ (HTB.out.below X2.out)).mono ?_
  rintro e w3 ⟨rfl, hb3⟩
  have X3 := Lib.hid (X2.out.trans (Below.le hb3 X2.out.size))
  clear hb3
  go_wp2_with fail
  refine (lives_any _ (HTB.out.below X3.out)).mono ?_
  rintro e w4 ⟨rfl, hb4⟩
  have X4 := Lib.hid (X3.out.trans (Below.le hb4 X3.out.size))
  clear hb4
  clear H1 H2 H3 X1 X2 X3
  by_cases he : e0 = 0
  · obtain ⟨hu, ht⟩ := HA.out he
    injection hu with hu1 hu2
    subst hu1 hu2 he
    clear HA
    by_cases hf : f = 0
    · have ht2 := ht hf
      subst ht2 hf
      clear ht
      go_wp2_with fail
      go_ret
      exact ⟨rfl, X4.out⟩
    · have hfb : (f == 0) = false := by simpa using hf
      clear ht
      go_wp2_with fail
      go_ret
      exact ⟨rfl, X4.out⟩
  · have heb : (e0 == 0) = false := by simpa using he
    clear HA
    go_wp2_with fail
    go_ret
    exact ⟨rfl, X4.out⟩
end Go.Proofs.YtjcejijdeohkgaaGreatDoor
