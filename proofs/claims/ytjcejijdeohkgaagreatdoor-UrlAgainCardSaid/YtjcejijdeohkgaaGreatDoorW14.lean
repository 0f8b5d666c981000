/- The contract of url.origin. -/
import Derived.Test.YtjcejijdeohkgaaGreatDoorW13
namespace Go.Proofs.YtjcejijdeohkgaaGreatDoor
open Go.RowKit

theorem bs_app (a b : Bs) : bs a ++ bs b = bs (a ++ b) := by
  have h : (bs a ++ bs b).data.toList = a ++ b := by simp [bs]
  rw [← h, bs_of]
def Ur.v (u : Ur) (pv : Value) : Value := .agg #[.string (bs u.sch), .string (bs u.host), .int .i64 u.port, pv, .string (bs u.query), .bool u.asks, .string (bs u.frag), .bool u.points]
def Ur.c (u : Ur) (pv : Value) : Array Value := #[.string (bs u.sch), .string (bs u.host), .int .i64 u.port, pv, .string (bs u.query), .bool u.asks, .string (bs u.frag), .bool u.points]
theorem call100 (args : Array Value) (w : World) : Sem.run Tryz.prog (callFunc 100 args) w = .ok (.enter 100 args) w := by go_simp
theorem call60 (args : Array Value) (w : World) : Sem.run Tryz.prog (callFunc 60 args) w = .ok (.enter 60 args) w := by go_simp
theorem below_grow (w : World) (q : Nat) (os : Array Obj) : Below w.heap.size w (Sort.grow (w.drewN q) os) := by
  refine ⟨rfl, rfl, rfl, ?_, fun k hk => ?_⟩
  · show w.heap.size ≤ (w.heap ++ os).size
    rw [Array.size_append]
    omega
  · show (w.heap ++ os)[k]? = w.heap[k]?
    rw [Array.getElem?_append_left hk]
theorem itoa_any (n : Int) (w : World) (hT : TB w) (h0 : -9223372036854775808 ≤ n) (h1 : n ≤ 9223372036854775807) : Calls Tryz.prog 100 #[.int .i64 n] w fun e w' => e = .returned (.string (bs (Lib.itoa n))) ∧ Below w.heap.size w w' :=
  (Tryz.strconv_Itoa n h0 h1 w hT.p).mono fun e w' ⟨h1, k, os, h2⟩ => ⟨h1, by rw [h2]; exact below_grow w k os⟩
set_option maxRecDepth 100000 in
set_option maxHeartbeats 4000000 in
theorem origin_any (u : Ur) (pv : Value) (w : World) (hT : TB w) (hs : u.sch.length ≤ 1048576) (hh : u.host.length ≤ 1048576) (hp : 0 ≤ u.port ∧ u.port ≤ 65535) (hv : ∃ a n c, pv = .slice a n c) : Calls Tryz.prog 60 #[u.v pv] w fun e w' => e = .returned (.string (bs (origP u))) ∧ Below w.heap.size w w' := by
  have p100 := call100
  obtain ⟨va, vn, vc, rfl⟩ := hv
  obtain ⟨R, hR⟩ : ∃ R, bs (origP u) = R := ⟨_, rfl⟩
  rw [hR]
  have HR := Lib.hid hR
  have HTB := Lib.hid hT
  clear hR hT
  obtain ⟨sch, host, port, path, query, asks, frag, points⟩ := u
  simp only at hs hh hp HR
  show Calls Tryz.prog 60 #[.agg #[.string (bs sch), .string (bs host), .int .i64 port, .slice va vn vc, .string (bs query), .bool asks, .string (bs frag), .bool points]] w _
  have h1 : (bs sch).size ≤ 1048576 := by rw [bs_size]; exact hs
  have h2 : (bs host).size ≤ 1048576 := by rw [bs_size]; exact hh
  have HE : Hid (R = bs sch ++ (⟨#[58, 47, 47]⟩ : ByteArray) ++ bs host ++ (if port = 0 then bs [] else (⟨#[58]⟩ : ByteArray) ++ bs (Lib.itoa port))) := Lib.hid (by
    rw [← HR.out]
    unfold origP portT
    have e1 : (⟨#[58, 47, 47]⟩ : ByteArray) = bs [58, 47, 47] := rfl
    have e2 : (⟨#[58]⟩ : ByteArray) = bs [58] := rfl
    simp only
    rw [e1, e2, bs_app, bs_app]
    split
    · rw [bs_app]; simp
    · rw [bs_app, bs_app]; simp)
  have HI := Lib.hid (fun (w9 : World) (hb : Below w.heap.size w w9) => itoa_any port w9 (HTB.out.below hb) (by omega) (by omega))
  have HIL := Lib.hid (show (bs (Lib.itoa port)).size ≤ 5 from by
    rw [bs_size]
    unfold Lib.itoa
    rw [if_neg (by omega)]
    exact dec_len 4 port.toNat (by omega))
  clear HR hs hh
  generalize bs sch = S at *
  generalize bs host = H at *
  generalize bs (Lib.itoa port) = I at *
  have h3 := HIL.out
  go_enter Tryz.func60, Tryz.ntmps60
  by_cases h0 : port = 0
  · subst h0
    have HE2 := Lib.hid (show R = S ++ (⟨#[58, 47, 47]⟩ : ByteArray) ++ H from by rw [HE.out, if_pos rfl]; exact ByteArray.append_empty)
    go_wp2_with fail
    go_ret
    rw [HE2.out]
    exact ⟨rfl, (Below.refl _ _).alloc (Nat.le_refl _) _⟩
  · have hb : (port == 0) = false := by simpa using h0
    have HE2 := Lib.hid (show R = S ++ (⟨#[58, 47, 47]⟩ : ByteArray) ++ H ++ ((⟨#[58]⟩ : ByteArray) ++ I) from by rw [HE.out, if_neg h0])
    go_wp2_with fail
    refine (HI.out _ ((Below.refl _ _).alloc (Nat.le_refl _) _)).mono ?_
    rintro e w2 ⟨rfl, hb2⟩
    have X := Lib.hid (((Below.refl w.heap.size w).alloc (Nat.le_refl _) (.cells #[.string S, .string H, .int .i64 port, .slice va vn vc, .string (bs query), .bool asks, .string (bs frag), .bool points] 47)).trans (Below.le hb2 (al_le (Nat.le_refl _) _)))
    clear hb2
    go_wp2_with fail
    go_ret
    rw [HE2.out]
    exact ⟨rfl, X.out⟩
end Go.Proofs.YtjcejijdeohkgaaGreatDoor
