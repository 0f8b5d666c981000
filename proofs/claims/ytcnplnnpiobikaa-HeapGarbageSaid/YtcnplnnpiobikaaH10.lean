/- The contract of heap.copied. -/
import Derived.Test.YtcnplnnpiobikaaH9
namespace Go.Proofs.Ytcnplnnpiobikaa
open Go.RowKit

theorem call36 (args : Array Value) (w : World) : Sem.run Try.prog (callFunc 36 args) w = .ok (.enter 36 args) w := by go_simp
theorem call37 (args : Array Value) (w : World) : Sem.run Try.prog (callFunc 37 args) w = .ok (.enter 37 args) w := by go_simp
theorem kfz {w w9 : World} {b o : Nat} (hb : Below w.heap.size w w9) (hlt : b < w.heap.size) (h : w.frozen? ⟨b, o, none⟩ = false) : w9.frozen? ⟨b, o, none⟩ = false :=
  (World.frozen?_of_block (a := ⟨b, o, none⟩) (hb.block b hlt)).trans h
/-- What holds behind the building of a copy. -/
def CopX (w wx : World) (A : Nat) (kd : Int) (nms : List ByteArray) (vls : List JV) : Prop := ∃ nv vv, wx.cell? ⟨A + 1, 0, none⟩ = some (.int .i64 kd) ∧ wx.cell? ⟨A + 1, 1, none⟩ = some nv ∧ wx.cell? ⟨A + 1, 2, none⟩ = some vv ∧ wx.ownsRow w.heap.size 9 1 nv nms.length (nms.flatMap sC) ∧ wx.ownsRow w.heap.size 31 3 vv vls.length (vls.flatMap JV.c) ∧ Below w.heap.size w wx
theorem cop_end {w w2 : World} {A : Nat} {kd : Int} {nms : List ByteArray} {vls : List JV} {nv vv : Value} (hA : w.heap.size = A) (hb : Below w.heap.size w w2)
    (on : w2.ownsRow (A + 2) 9 1 nv nms.length (nms.flatMap sC)) (ov : w2.ownsRow (A + 2) 31 3 vv vls.length (vls.flatMap JV.c)) (ho : w2.heap[A + 1]? = some (.cells #[.int .i64 0, .slice none 0 0, .slice none 0 0] 46 (0, 0))) : CopX w (((w2.setCell ⟨A + 1, 0, none⟩ (.int .i64 kd)).setCell ⟨A + 1, 1, none⟩ nv).setCell ⟨A + 1, 2, none⟩ vv) A kd nms vls := by
  have hg : w2.grownBy (((w2.setCell ⟨A + 1, 0, none⟩ (.int .i64 kd)).setCell ⟨A + 1, 1, none⟩ nv).setCell ⟨A + 1, 2, none⟩ vv) (some (A + 1)) := Lib.grownBy_setB (Lib.grownBy_setB (Lib.grownBy_setB (gr_refl w2 _) _ _) _ _) _ _
  have hs := set_heap (set_heap (set_heap ho 0 (.int .i64 kd) (by simp)) 1 nv (by simp)) 2 vv (by simp)
  obtain ⟨c0, c1, c2⟩ := cells3 hs
  refine ⟨nv, vv, c0, c1, c2, own_lower (on.kept hg (.inr fun e => by have := (on.lt _ e).1; omega)) (by omega), own_lower (ov.kept hg (.inr fun e => by have := (ov.lt _ e).1; omega)) (by omega), ?_⟩
  exact below_grown hb hg (by omega) (Nat.le_refl _)
theorem CopX.drew {w wx : World} {A : Nat} {kd : Int} {nms : List ByteArray} {vls : List JV} (h : CopX w wx A kd nms vls) : CopX w wx.drew A kd nms vls := by
  obtain ⟨nv, vv, r0, r1, r2, on, ov, hb⟩ := h
  exact ⟨nv, vv, r0, r1, r2, on, ov, below_drew hb⟩
theorem up_drew {w w' : World} (h : Below w.drew.heap.size w.drew w') : Below w.heap.size w w' := ⟨h.os, h.tape, h.output, h.size, h.block⟩
set_option maxRecDepth 100000 in
set_option maxHeartbeats 16000000 in
theorem copied_any (kd : Int) (nms : List ByteArray) (vls : List JV) (na va : Option Addr) (nc vc : Nat) (w : World) (hn : SlR w StrAt 1 (.slice na nms.length nc) nms) (hv : SlR w JvAt 3 (.slice va vls.length vc) vls) (hnl : nms.length ≤ 1000) (hvl : vls.length ≤ 1000) :
    Calls Try.prog 23 #[.agg #[.int .i64 kd, .slice na nms.length nc, .slice va vls.length vc]] w fun e w' => ∃ nv vv, e = .returned (.agg #[.int .i64 kd, nv, vv]) ∧ w'.ownsRow w.heap.size 9 1 nv nms.length (nms.flatMap sC) ∧ w'.ownsRow w.heap.size 31 3 vv vls.length (vls.flatMap JV.c) ∧ Below w.heap.size w w' := by
  have HN := Lib.hid (fun (w6 : World) (hb : Below w.heap.size w w6) => cloneS_any na nc nms w6 (hn.mono (fun _ _ _ h => kc hb h)) (by omega))
  have HV := Lib.hid (fun (w6 : World) (hb : Below w.heap.size w w6) => cloneV_any va vc vls w6 (hv.mono (fun _ _ _ h => h.below hb)) (by omega))
  clear hn hv
  have q36 := call36
  have q37 := call37
  go_enter Try.func23, Try.ntmps23
  obtain ⟨A, hA⟩ : ∃ A, w.heap.size = A := ⟨_, rfl⟩
  go_upto_region 1 with fail
  refine code_gen (Φ := fun wy => Hid (Loc w wy [(.cells #[.int .i64 kd, .slice na nms.length nc, .slice va vls.length vc] 46 (0, 0)), (.cells #[.int .i64 0, .slice none 0 0, .slice none 0 0] 46 (0, 0))])) (Lib.hid (Loc.start2 _ _)) ?_
  intro w3 X
  have XA := Lib.hid (show w3.heap[A]? = some (.cells #[.int .i64 kd, .slice na nms.length nc, .slice va vls.length vc] 46 (0, 0)) from hA ▸ X.out.k0)
  have XB := Lib.hid (show w3.heap[A + 1]? = some (.cells #[.int .i64 0, .slice none 0 0, .slice none 0 0] 46 (0, 0)) from hA ▸ X.out.k1)
  have XS := Lib.hid (show A + 2 ≤ w3.heap.size by have := X.out.sz; simp at this; omega)
  have HA := Lib.hid hA
  clear hA
  obtain ⟨a0, a1, a2⟩ := cells3 XA.out
  obtain ⟨z0, z1, z2⟩ := cells3 XB.out
  have f0 := Lib.frozen_of_heap XB.out 0
  have f1 := Lib.frozen_of_heap XB.out 1
  have f2 := Lib.frozen_of_heap XB.out 2
  have CB := Lib.hid X.out.bl
  have CS := Lib.hid XS.out
  have hlA : A < w3.heap.size := by have := XS.out; omega
  have hlB : A + 1 < w3.heap.size := by have := XS.out; omega
  go_cut [] (fun wx => CopX w wx A kd nms vls)
  case first =>
    go_region_law (first
      | (go_simp; go_at_call 36; refine (HN.out _ (by first | exact CB.out | exact below_drew CB.out)).mono ?_; rintro e w36 ⟨nv, rfl, hown, hb⟩; obtain ⟨nva, nvc, rfl⟩ := own_shape hown; have ON := Lib.hid (own_lower (C := A + 2) hown (show A + 2 ≤ _ from CS.out)); have HB36 := Lib.hid hb; have CB := Lib.hid (Below.trans (show Below w.heap.size w _ from by first | exact CB.out | exact below_drew CB.out) (Below.le hb (show w.heap.size ≤ _ from CB.out.size))); have XB := Lib.hid ((hb.block (A + 1) (show A + 1 < _ from by have := CS.out; exact Nat.lt_of_lt_of_le (Nat.lt_succ_self _) this)).trans XB.out); have a0 := kc hb a0; have a1 := kc hb a1; have a2 := kc hb a2; have z0 := kc hb z0; have z1 := kc hb z1; have z2 := kc hb z2; have f0 := Lib.frozen_of_heap XB.out 0; have f1 := Lib.frozen_of_heap XB.out 1; have f2 := Lib.frozen_of_heap XB.out 2; have CS := Lib.hid (Nat.le_trans CS.out hb.size); clear hown hb)
      | (go_simp; go_at_call 37; refine (HV.out _ (by first | exact CB.out | exact below_drew CB.out)).mono ?_; rintro e w37 ⟨vv, rfl, hown, hb⟩; obtain ⟨vva, vvc, rfl⟩ := own_shape hown; have OV := Lib.hid (own_lower (C := A + 2) hown (show A + 2 ≤ _ from CS.out)); have HB37 := Lib.hid hb; have CB := Lib.hid (Below.trans (show Below w.heap.size w _ from by first | exact CB.out | exact below_drew CB.out) (Below.le hb (show w.heap.size ≤ _ from CB.out.size))); have XB := Lib.hid ((hb.block (A + 1) (show A + 1 < _ from by have := CS.out; exact Nat.lt_of_lt_of_le (Nat.lt_succ_self _) this)).trans XB.out); have a0 := kc hb a0; have a1 := kc hb a1; have a2 := kc hb a2; have z0 := kc hb z0; have z1 := kc hb z1; have z2 := kc hb z2; have f0 := Lib.frozen_of_heap XB.out 0; have f1 := Lib.frozen_of_heap XB.out 1; have f2 := Lib.frozen_of_heap XB.out 2; have CS := Lib.hid (Nat.le_trans CS.out hb.size); clear hown hb))
    all_goals
      go_wp2_with fail
      go_meet
      first
      | exact cop_end HA.out CB.out (own_below ON.out HB37.out (Nat.le_refl _)) OV.out XB.out
      | exact cop_end HA.out CB.out ON.out (own_below OV.out HB36.out (Nat.le_refl _)) XB.out
      | exact (cop_end HA.out CB.out (own_below ON.out HB37.out (Nat.le_refl _)) OV.out XB.out).drew
      | exact (cop_end HA.out CB.out ON.out (own_below OV.out HB36.out (Nat.le_refl _)) XB.out).drew
      | exact cop_end HA.out CB.out (own_below ON.out (up_drew HB37.out) (Nat.le_refl _)) OV.out XB.out
      | exact cop_end HA.out CB.out ON.out (own_below OV.out (up_drew HB36.out) (Nat.le_refl _)) XB.out
  case rest =>
    obtain ⟨nv, vv, r0, r1, r2, on, ov, hb⟩ := hcut
    have ON := Lib.hid on
    have OV := Lib.hid ov
    have HB := Lib.hid hb
    clear on ov hb a0 a1 a2 z0 z1 z2 f0 f1 f2
    go_wp2_with fail
    refine bodyPost_ret (v := .agg #[.int .i64 kd, nv, vv]) (by have := HA.out; simp [results, Try.results23, go_sem, r0, r1, r2]) rfl ?_
    exact ⟨nv, vv, rfl, ON.out, OV.out, HB.out⟩
end Go.Proofs.Ytcnplnnpiobikaa
