/- loop.copied. -/
import Derived.Test.YtpmklganodlciaaT5
namespace Go.Proofs.Ytpmklganodlciaa
open Go.RowKit

/-- A loop whose three rows are the call's own, each in a block of its own. -/
structure LpOwn (w : World) (B : Nat) (ts ss : List Job) (ms : List Tim) (vt vs vm : Value) : Prop where
  t : w.ownsRow B 39 7 vt ts.length (ts.flatMap Job.c)
  s : w.ownsRow B 39 7 vs ss.length (ss.flatMap Job.c)
  m : w.ownsRow B 49 5 vm ms.length (ms.flatMap Tim.c)
  d1 : ∀ g, vt.ownBlock = some g → vs.ownBlock ≠ some g
  d2 : ∀ g, vt.ownBlock = some g → vm.ownBlock ≠ some g
  d3 : ∀ g, vs.ownBlock = some g → vm.ownBlock ≠ some g
theorem own_below {w w' : World} {B C e size n : Nat} {v : Value} {xs : List Value} (h : w.ownsRow B e size v n xs) (hb : Below w.heap.size w w') (hC : C ≤ B) : w'.ownsRow C e size v n xs := by
  refine ⟨h.1, ?_⟩
  rcases h.2 with h2 | ⟨g, cap, cur, e1, e2, e3, e4⟩
  · exact .inl h2
  · have hlt : g < w.heap.size := by
      rcases Nat.lt_or_ge g w.heap.size with h' | h'
      · exact h'
      · simp [Array.getElem?_eq_none h'] at e3
    exact .inr ⟨g, cap, cur, e1, Nat.le_trans hC e2, (hb.block g hlt).trans e3, e4⟩

/-- All blocks but those from lo to hi stand. -/
structure G (lo hi : Nat) (w w' : World) : Prop where
  os : w'.os = w.os
  tape : w'.tape = w.tape
  output : w'.output = w.output
  size : w.heap.size ≤ w'.heap.size
  block : ∀ k, k < w.heap.size → (k < lo ∨ hi ≤ k) → w'.heap[k]? = w.heap[k]?
theorem G.refl (lo hi : Nat) (w : World) : G lo hi w w := ⟨rfl, rfl, rfl, Nat.le_refl _, fun _ _ _ => rfl⟩
theorem G.drew {lo hi : Nat} {w w' : World} (h : G lo hi w w') : G lo hi w w'.drew := ⟨h.os, h.tape, h.output, h.size, h.block⟩
theorem G.drewN {lo hi : Nat} {w w' : World} (h : G lo hi w w') (n : Nat) : G lo hi w (w'.drewN n) := ⟨h.os, h.tape, h.output, h.size, h.block⟩
theorem G.set {lo hi b : Nat} {w w' : World} (h : G lo hi w w') (hb : lo ≤ b ∧ b < hi) (o : Nat) (v : Value) : G lo hi w (w'.setCell ⟨b, o, none⟩ v) := by
  have hB := (Below.refl b w').setCell (p := ⟨b, o, none⟩) (Nat.le_refl _) v
  refine ⟨hB.os.trans h.os, hB.tape.trans h.tape, hB.output.trans h.output, Nat.le_trans h.size hB.size, fun k hk hne => ?_⟩
  rw [Below.heap_setCell _ _ _ _ (fun e => by have e : k = b := e; omega)]
  exact h.block k hk hne
theorem G.below {lo hi : Nat} {w w' w'' : World} (hb : Below w'.heap.size w' w'') (h : G lo hi w w') : G lo hi w w'' :=
  ⟨hb.os.trans h.os, hb.tape.trans h.tape, hb.output.trans h.output, Nat.le_trans h.size hb.size, fun k hk hne => (hb.block k (Nat.lt_of_lt_of_le hk h.size)).trans (h.block k hk hne)⟩
theorem G.alloc {lo hi : Nat} {w w' : World} (h : G lo hi w w') (o : Obj) : G lo hi w (w'.alloc o) := h.below (w' := w') ((Below.refl _ _).alloc (Nat.le_refl _) _)
theorem Sl.g {α : Type} {lo hi : Nat} {w w' : World} {enc : α → List Value} {size : Nat} {v : Value} {l : List α} (h : Sl w enc size v l) (hg : G lo hi w w') (hb : w.heap.size ≤ lo) : Sl w' enc size v l := by
  obtain ⟨a, c, h1, h2, h3, h4⟩ := h
  refine ⟨a, c, h1, h2, h3, fun h0 => ?_⟩
  obtain ⟨b', o, h5, h6, h7⟩ := h4 h0
  exact ⟨b', o, h5, Nat.lt_of_lt_of_le h6 hg.size, fun k hk i hi => (World.cell?_of_block (a := ⟨b', _, none⟩) (hg.block b' h6 (by omega))).trans (h7 k hk i hi)⟩
theorem Sl.g0 {α : Type} {lo hi : Nat} {w w0 w' : World} {enc : α → List Value} {size : Nat} {v : Value} {l : List α} (h : Sl w enc size v l) (hb : w.heap.size ≤ lo) (h0 : Below w.heap.size w w0) (hg : G lo hi w0 w') : Sl w' enc size v l := by
  refine h.g (lo := lo) (hi := hi) ⟨hg.os.trans h0.os, hg.tape.trans h0.tape, hg.output.trans h0.output, Nat.le_trans h0.size hg.size, fun k hk hne => ?_⟩ hb
  exact (hg.block k (Nat.lt_of_lt_of_le hk h0.size) hne).trans (h0.block k hk)
theorem own_g {lo hi : Nat} {w w' : World} {B C e size n : Nat} {v : Value} {xs : List Value} (h : w.ownsRow B e size v n xs) (hg : G lo hi w w') (hb : hi ≤ B) (hC : C ≤ B) : w'.ownsRow C e size v n xs := by
  refine ⟨h.1, ?_⟩
  rcases h.2 with h2 | ⟨g, cap, cur, e1, e2, e3, e4⟩
  · exact .inl h2
  · have hlt : g < w.heap.size := by
      rcases Nat.lt_or_ge g w.heap.size with h' | h'
      · exact h'
      · simp [Array.getElem?_eq_none h'] at e3
    exact .inr ⟨g, cap, cur, e1, Nat.le_trans hC e2, (hg.block g hlt (by omega)).trans e3, e4⟩
theorem G.toBelow {lo hi : Nat} {w w' : World} (h : G lo hi w w') (hb : w.heap.size ≤ lo) : Below w.heap.size w w' := ⟨h.os, h.tape, h.output, h.size, fun k hk => h.block k hk (by omega)⟩
theorem sc_same {w : World} {b o : Nat} {v v0 : Value} (h : w.cell? ⟨b, o, none⟩ = some v0) : (w.setCell ⟨b, o, none⟩ v).cell? ⟨b, o, none⟩ = some v := by go_simp
theorem sc_other {w : World} {b o o' : Nat} {v v0 : Value} (hne : o ≠ o') (h : w.cell? ⟨b, o, none⟩ = some v0) : (w.setCell ⟨b, o', none⟩ v).cell? ⟨b, o, none⟩ = some v0 := by
  rw [← h]
  exact World.cell?_setCell_other w _ _ _ (fun e => hne (by injection e with _ e _; exact e.symm))
theorem sc_size {w : World} {b b' o : Nat} {v : Value} (h : b < w.heap.size) : b < (w.setCell ⟨b', o, none⟩ v).heap.size := by simpa using h
theorem sc_fz {w : World} {b o o' : Nat} {v : Value} (h : w.frozen? ⟨b, o, none⟩ = false) : (w.setCell ⟨b, o', none⟩ v).frozen? ⟨b, o, none⟩ = false := by go_simp
theorem fz {w w9 : World} {b o : Nat} (hb : Below w.heap.size w w9) (hlt : b < w.heap.size) (h : w.frozen? ⟨b, o, none⟩ = false) : w9.frozen? ⟨b, o, none⟩ = false :=
  (World.frozen?_of_block (a := ⟨b, o, none⟩) (hb.block b hlt)).trans h
theorem copied_end {b N : Nat} {w1 w2 w3 wf : World} {B1 B2 B3 : Nat} {ts ss : List Job} {ms : List Tim} {vt vs vm : Value} (o1 : w1.ownsRow B1 39 7 vt ts.length (ts.flatMap Job.c)) (o2 : w2.ownsRow B2 39 7 vs ss.length (ss.flatMap Job.c)) (o3 : w3.ownsRow B3 49 5 vm ms.length (ms.flatMap Tim.c))
    (h1 : N ≤ B1) (hN : b + 1 ≤ N) (h2 : w1.heap.size ≤ B2) (h3 : w2.heap.size ≤ B3) (hb1 : N ≤ w1.heap.size) (hs2 : w1.heap.size ≤ w2.heap.size) (g1 : G b (b + 1) w1 w2) (g2 : G b (b + 1) w2 w3) (g3 : G b (b + 1) w3 wf) : LpOwn wf N ts ss ms vt vs vm where
  t := own_g (own_g (own_g o1 g1 (by omega) (Nat.le_refl _)) g2 (by omega) (Nat.le_refl _)) g3 (by omega) h1
  s := own_g (own_g o2 g2 (by omega) (Nat.le_refl _)) g3 (by omega) (by omega)
  m := own_g o3 g3 (by omega) (by omega)
  d1 g hg hg' := by
    have := (o1.lt g hg).2
    have := (o2.lt g hg').1
    omega
  d2 g hg hg' := by
    have := (o1.lt g hg).2
    have := (o3.lt g hg').1
    omega
  d3 g hg hg' := by
    have := (o2.lt g hg).2
    have := (o3.lt g hg').1
    omega
theorem LpOwn.g {lo hi B C : Nat} {w w' : World} {ts ss : List Job} {ms : List Tim} {vt vs vm : Value} (h : LpOwn w B ts ss ms vt vs vm) (hg : G lo hi w w') (hb : hi ≤ B) (hC : C ≤ B) : LpOwn w' C ts ss ms vt vs vm :=
  ⟨own_g h.t hg hb hC, own_g h.s hg hb hC, own_g h.m hg hb hC, h.d1, h.d2, h.d3⟩
/-- What holds behind copied's assignment. -/
def CopX (w w0 : World) (now next : Int) (ts ss : List Job) (ms : List Tim) (wx : World) : Prop :=
  ∃ ta tc sa sc ma mc, wx.cell? ⟨w.heap.size, 0, none⟩ = some (.int .i64 now) ∧ wx.cell? ⟨w.heap.size, 1, none⟩ = some (.int .i64 next) ∧ wx.cell? ⟨w.heap.size, 2, none⟩ = some (.slice ta ts.length tc) ∧ wx.cell? ⟨w.heap.size, 3, none⟩ = some (.slice sa ss.length sc) ∧ wx.cell? ⟨w.heap.size, 4, none⟩ = some (.slice ma ms.length mc) ∧ LpOwn wx (w.heap.size + 2) ts ss ms (.slice ta ts.length tc) (.slice sa ss.length sc) (.slice ma ms.length mc) ∧ G w.heap.size (w.heap.size + 1) w0 wx
set_option maxRecDepth 100000 in
set_option maxHeartbeats 8000000 in
theorem copied_any (now next : Int) (ts ss : List Job) (ms : List Tim) (at_ as_ am : Option Addr) (ct cs cm : Nat) (w : World) (h : LpAt w ⟨now, next, ts, ss, ms⟩ (.slice at_ ts.length ct) (.slice as_ ss.length cs) (.slice am ms.length cm))
    (h1 : ts.length ≤ 100) (h2 : ss.length ≤ 100) (h3 : ms.length ≤ 100) :
    Calls Try.prog 27 #[.agg #[.int .i64 now, .int .i64 next, .slice at_ ts.length ct, .slice as_ ss.length cs, .slice am ms.length cm]] w fun e w' => ∃ vt vs vm, e = .returned (.agg #[.int .i64 now, .int .i64 next, vt, vs, vm]) ∧ LpOwn w' w.heap.size ts ss ms vt vs vm ∧ Below w.heap.size w w' := by
  have H := Lib.hid h
  clear h
  go_enter Try.func27, Try.ntmps27
  go_upto_region 1 with fail
  obtain ⟨w0, hw0, g0, hs0, q2, q3, q4, q0, q1, f2, f3, f4⟩ : ∃ w0, w0 = ((w.alloc (.cells #[.int .i64 now, .int .i64 next, .slice at_ ts.length ct, .slice as_ ss.length cs, .slice am ms.length cm] 26)).alloc (.cells #[.int .i64 0, .int .i64 0, .slice none 0 0, .slice none 0 0, .slice none 0 0] 26)) ∧ Below w.heap.size w w0 ∧ w0.heap.size = w.heap.size + 2 ∧
      w0.cell? ⟨w.heap.size, 2, none⟩ = some (.slice at_ ts.length ct) ∧ w0.cell? ⟨w.heap.size, 3, none⟩ = some (.slice as_ ss.length cs) ∧ w0.cell? ⟨w.heap.size, 4, none⟩ = some (.slice am ms.length cm) ∧ w0.cell? ⟨w.heap.size, 0, none⟩ = some (.int .i64 now) ∧ w0.cell? ⟨w.heap.size, 1, none⟩ = some (.int .i64 next) ∧ w0.frozen? ⟨w.heap.size, 2, none⟩ = false ∧ w0.frozen? ⟨w.heap.size, 3, none⟩ = false ∧ w0.frozen? ⟨w.heap.size, 4, none⟩ = false :=
    ⟨_, rfl, ((Below.refl _ _).alloc (Nat.le_refl _) _).alloc (by simp) _, by simp, by go_simp, by go_simp, by go_simp, by go_simp, by go_simp, by go_simp, by go_simp, by go_simp⟩
  rw [← hw0]
  have HT := Lib.hid H.out.t
  have HS := Lib.hid H.out.s
  have HM := Lib.hid H.out.m
  have hz : w.heap.size < w0.heap.size := by omega
  have hbb : w.heap.size ≤ w.heap.size ∧ w.heap.size < w.heap.size + 1 := by omega
  have h1' : ts.length ≤ 1000 := by omega
  have h2' : ss.length ≤ 1000 := by omega
  have h3' : ms.length ≤ 1000 := by omega
  have HG0 := Lib.hid g0
  have HS0 := Lib.hid hs0
  have hz2 : w0.heap[w.heap.size + 1]? = some (.cells #[.int .i64 0, .int .i64 0, .slice none 0 0, .slice none 0 0, .slice none 0 0] 26 (0, 0)) := by rw [hw0]; have := heap_alloc_new (w.alloc (.cells #[.int .i64 now, .int .i64 next, .slice at_ ts.length ct, .slice as_ ss.length cs, .slice am ms.length cm] 26)) (.cells #[.int .i64 0, .int .i64 0, .slice none 0 0, .slice none 0 0, .slice none 0 0] 26); simpa using this
  have HZ2 := Lib.hid hz2
  clear hw0 H g0 hs0 hz2
  go_cut [] (fun wx => CopX w w0 now next ts ss ms wx)
  case first =>
   go_region_with ((first
    | (go_at_call 38; refine (cloneT_any am cm ms _ (HM.out.g0 (hi := w.heap.size + 1) (Nat.le_refl _) HG0.out (by first | exact G2.out | exact G2.out.set hbb _ _ | exact (G2.out.set hbb _ _).set hbb _ _)) h3').mono ?_; rintro e w3 ⟨vm, rfl, o3, hb3⟩; obtain ⟨ma, mc, rfl⟩ := own_shape o3; have O3 := Lib.hid o3; have HB3 := Lib.hid hb3.size; have G3 : Hid (G w.heap.size (w.heap.size + 1) w0 w3) := Lib.hid (G.below hb3 (by first | exact G2.out | exact G2.out.set hbb _ _ | exact (G2.out.set hbb _ _).set hbb _ _)); have G23 : Hid (G w.heap.size (w.heap.size + 1) w2 w3) := Lib.hid (G.below hb3 (by first | exact G.refl _ _ _ | exact (G.refl _ _ _).set hbb _ _ | exact ((G.refl _ _ _).set hbb _ _).set hbb _ _)); have hlt3 : w.heap.size < w3.heap.size := Nat.lt_of_lt_of_le (by first | exact hlt2 | exact sc_size hlt2 | exact sc_size (sc_size hlt2)) hb3.size; (first | (have m0 := kc hb3 l0) | (have m0 := kc hb3 (sc_other (by decide) l0)) | (have m0 := kc hb3 (sc_other (by decide) (sc_other (by decide) l0)))); (first | (have m1 := kc hb3 l1) | (have m1 := kc hb3 (sc_other (by decide) l1)) | (have m1 := kc hb3 (sc_other (by decide) (sc_other (by decide) l1)))); (first | (have m2 := kc hb3 l2) | (have m2 := kc hb3 (sc_same l2)) | (have m2 := kc hb3 (sc_other (by decide) (sc_same l2))) | (have m2 := kc hb3 (sc_other (by decide) l2))); (first | (have m3 := kc hb3 l3) | (have m3 := kc hb3 (sc_other (by decide) l3)) | (have m3 := kc hb3 (sc_same l3)) | (have m3 := kc hb3 (sc_same (sc_other (by decide) l3)))); (first | (have m4 := kc hb3 l4) | (have m4 := kc hb3 (sc_other (by decide) l4)) | (have m4 := kc hb3 (sc_other (by decide) (sc_other (by decide) l4)))); (first | (have y2 := fz hb3 hlt2 x2) | (have y2 := fz hb3 (sc_size hlt2) (sc_fz x2)) | (have y2 := fz hb3 (sc_size (sc_size hlt2)) (sc_fz (sc_fz x2)))); (first | (have y3 := fz hb3 hlt2 x3) | (have y3 := fz hb3 (sc_size hlt2) (sc_fz x3)) | (have y3 := fz hb3 (sc_size (sc_size hlt2)) (sc_fz (sc_fz x3)))); (first | (have y4 := fz hb3 hlt2 x4) | (have y4 := fz hb3 (sc_size hlt2) (sc_fz x4)) | (have y4 := fz hb3 (sc_size (sc_size hlt2)) (sc_fz (sc_fz x4)))); clear o3 hb3)
    | (go_at_call 37; refine (cloneJ_any as_ cs ss _ (HS.out.g0 (hi := w.heap.size + 1) (Nat.le_refl _) HG0.out (by first | exact G1.out | exact G1.out.set hbb _ _)) h2').mono ?_; rintro e w2 ⟨vs, rfl, o2, hb2⟩; obtain ⟨sa, sc, rfl⟩ := own_shape o2; have O2 := Lib.hid o2; have HB2 := Lib.hid hb2.size; have G2 : Hid (G w.heap.size (w.heap.size + 1) w0 w2) := Lib.hid (G.below hb2 (by first | exact G1.out | exact G1.out.set hbb _ _)); have G12 : Hid (G w.heap.size (w.heap.size + 1) w1 w2) := Lib.hid (G.below hb2 (by first | exact G.refl _ _ _ | exact (G.refl _ _ _).set hbb _ _)); have hlt2 : w.heap.size < w2.heap.size := Nat.lt_of_lt_of_le (by first | exact hlt1 | exact sc_size hlt1) hb2.size; (first | (have l0 := kc hb2 k0) | (have l0 := kc hb2 (sc_other (by decide) k0))); (first | (have l1 := kc hb2 k1) | (have l1 := kc hb2 (sc_other (by decide) k1))); (first | (have l2 := kc hb2 k2) | (have l2 := kc hb2 (sc_same k2))); (first | (have l3 := kc hb2 k3) | (have l3 := kc hb2 (sc_other (by decide) k3))); (first | (have l4 := kc hb2 k4) | (have l4 := kc hb2 (sc_other (by decide) k4))); (first | (have x2 := fz hb2 hlt1 z2) | (have x2 := fz hb2 (sc_size hlt1) (sc_fz z2)) | (have x2 := fz hb2 (sc_size (sc_size hlt1)) (sc_fz (sc_fz z2)))); (first | (have x3 := fz hb2 hlt1 z3) | (have x3 := fz hb2 (sc_size hlt1) (sc_fz z3)) | (have x3 := fz hb2 (sc_size (sc_size hlt1)) (sc_fz (sc_fz z3)))); (first | (have x4 := fz hb2 hlt1 z4) | (have x4 := fz hb2 (sc_size hlt1) (sc_fz z4)) | (have x4 := fz hb2 (sc_size (sc_size hlt1)) (sc_fz (sc_fz z4)))); clear o2 hb2)
    | (go_at_call 37; refine (cloneJ_any at_ ct ts _ (HT.out.g0 (hi := w.heap.size + 1) (Nat.le_refl _) HG0.out (by first | exact (G.refl _ _ _).drew | exact G.refl _ _ _)) h1').mono ?_; rintro e w1 ⟨vt, rfl, o1, hb1⟩; obtain ⟨ta, tc, rfl⟩ := own_shape o1; have O1 := Lib.hid o1; have HB1 := Lib.hid hb1.size; have G1 : Hid (G w.heap.size (w.heap.size + 1) w0 w1) := Lib.hid (G.below hb1 (by first | exact (G.refl _ _ _).drew | exact G.refl _ _ _)); have hlt1 : w.heap.size < w1.heap.size := Nat.lt_of_lt_of_le hz hb1.size; have k0 := kc hb1 q0; have k1 := kc hb1 q1; have k2 := kc hb1 q2; have k3 := kc hb1 q3; have k4 := kc hb1 q4; have z2 := fz hb1 hz f2; have z3 := fz hb1 hz f3; have z4 := fz hb1 hz f4; clear o1 hb1)))
   all_goals
    clear z2 z3 z4 x2 x3 x4 k0 k1 k2 k3 k4 l0 l1 l2 l3 l4 q0 q1 q2 q3 q4 f2 f3 f4
    go_wp2_with fail
    go_meet
    exact ⟨ta, tc, sa, sc, ma, mc, by go_simp, by go_simp, by go_simp, by go_simp, by go_simp, copied_end O1.out O2.out O3.out (by rw [← HS0.out]; exact Nat.le_refl _) (by omega) (by first | exact Nat.le_refl _ | simp) (by first | exact Nat.le_refl _ | simp) (by rw [← HS0.out]; exact HB1.out) (by have := HB2.out; simpa using this) G12.out G23.out (by first | exact G.refl _ _ _ | exact (G.refl _ _ _).set hbb _ _ | exact ((G.refl _ _ _).set hbb _ _).set hbb _ _ | exact (((G.refl _ _ _).set hbb _ _).set hbb _ _).set hbb _ _), by first | exact G3.out | exact G3.out.set hbb _ _ | exact (G3.out.set hbb _ _).set hbb _ _ | exact ((G3.out.set hbb _ _).set hbb _ _).set hbb _ _⟩
  case rest =>
    obtain ⟨ta, tc, sa, sc, ma, mc, e0, e1, e2, e3, e4, ho, hg⟩ := hcut
    clear q0 q1 q2 q3 q4 f2 f3 f4
    have HO := Lib.hid ho
    have HG := Lib.hid hg
    have hz2 := (hg.block (w.heap.size + 1) (by rw [HS0.out]; omega) (.inr (Nat.le_refl _))).trans HZ2.out
    have r0 : wc.cell? ⟨w.heap.size + 1, 0, none⟩ = some (.int .i64 0) := by rw [Lib.cell_of_heap hz2]; rfl
    have r1 : wc.cell? ⟨w.heap.size + 1, 1, none⟩ = some (.int .i64 0) := by rw [Lib.cell_of_heap hz2]; rfl
    have r2 : wc.cell? ⟨w.heap.size + 1, 2, none⟩ = some (.slice none 0 0) := by rw [Lib.cell_of_heap hz2]; rfl
    have r3 : wc.cell? ⟨w.heap.size + 1, 3, none⟩ = some (.slice none 0 0) := by rw [Lib.cell_of_heap hz2]; rfl
    have r4 : wc.cell? ⟨w.heap.size + 1, 4, none⟩ = some (.slice none 0 0) := by rw [Lib.cell_of_heap hz2]; rfl
    have s0 : wc.frozen? ⟨w.heap.size + 1, 0, none⟩ = false := Lib.frozen_of_heap hz2 0
    have s1 : wc.frozen? ⟨w.heap.size + 1, 1, none⟩ = false := Lib.frozen_of_heap hz2 1
    have s2 : wc.frozen? ⟨w.heap.size + 1, 2, none⟩ = false := Lib.frozen_of_heap hz2 2
    have s3 : wc.frozen? ⟨w.heap.size + 1, 3, none⟩ = false := Lib.frozen_of_heap hz2 3
    have s4 : wc.frozen? ⟨w.heap.size + 1, 4, none⟩ = false := Lib.frozen_of_heap hz2 4
    clear ho hg hz2
    go_wp2_with fail
    refine bodyPost_ret (v := _) (by simp [results, Try.results27, go_sem, r0, r1, r2, r3, r4]; rfl) rfl ?_
    have hbc : w.heap.size + 1 ≤ w.heap.size + 1 ∧ w.heap.size + 1 < w.heap.size + 2 := by omega
    have hgf := (((((G.refl (w.heap.size + 1) (w.heap.size + 2) wc).set hbc 0 (.int .i64 now)).set hbc 1 (.int .i64 next)).set hbc 2 (.slice ta ts.length tc)).set hbc 3 (.slice sa ss.length sc)).set hbc 4 (.slice ma ms.length mc)
    refine ⟨.slice ta ts.length tc, .slice sa ss.length sc, .slice ma ms.length mc, rfl, HO.out.g hgf (Nat.le_refl _) (by omega), ?_⟩
    refine ⟨hgf.os.trans (HG.out.os.trans HG0.out.os), hgf.tape.trans (HG.out.tape.trans HG0.out.tape), hgf.output.trans (HG.out.output.trans HG0.out.output), Nat.le_trans HG0.out.size (Nat.le_trans HG.out.size hgf.size), fun k hk => ?_⟩
    have hk0 : k < w0.heap.size := Nat.lt_of_lt_of_le hk HG0.out.size
    exact (hgf.block k (Nat.lt_of_lt_of_le hk0 HG.out.size) (.inl (by omega))).trans ((HG.out.block k hk0 (.inl hk)).trans (HG0.out.block k hk))
end Go.Proofs.Ytpmklganodlciaa
