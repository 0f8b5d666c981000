/- slices.Insert of one timer, wherever; loop.lay. -/
import Derived.Test.YtpmklganodlciaaT13
import Derived.Test.YtpmklganodlciaaT10
import Derived.Test.YtpmklganodlciaaT6
import Derived.Lib.BufferOwn
namespace Go.Proofs.Ytpmklganodlciaa
open Go.RowKit

theorem gr_refl (w : World) (row : Option Nat) : w.grownBy w row := ⟨rfl, rfl, rfl, Nat.le_refl _, fun _ _ _ => rfl⟩
theorem ins_any (B i vb : Nat) (l : List Tim) (t : Tim) (v : Value) (w : World) (h : w.ownsRow B 49 5 v l.length (l.flatMap Tim.c)) (hi : i ≤ l.length) (hl : l.length ≤ 1000) (hB : B ≤ w.heap.size) (hne : v.ownBlock ≠ some vb)
    (hv : w.heap[vb]? = some (.cells #[.int .i64 t.id, .int .i64 t.at_, .int .i64 t.every, .int .i64 t.turn, .string t.call] 49 (0, 0))) :
    Calls Try.prog 50 #[v, .int .i64 (i : Int), .slice (some ⟨vb, 0, none⟩) 1 1] w fun e w' => ∃ v', e = .returned v' ∧ w'.ownsRow B 49 5 v' (l.length + 1) ((l.take i ++ t :: l.drop i).flatMap Tim.c) ∧ w.grownBy w' v.ownBlock ∧ (∀ k, v'.ownBlock = some k → v.ownBlock = some k ∨ w.heap.size ≤ k) := by
  by_cases he : i = l.length
  · refine (ins_end B i vb l t v w h he hl hB hv).mono ?_
    rintro e w' ⟨v', rfl, ho, hg, ha⟩
    refine ⟨v', rfl, ?_, hg, ha⟩
    subst he
    rw [List.take_length, List.drop_length, List.flatMap_append, List.flatMap_cons]
    simpa using ho
  · have hi' : i < l.length := by omega
    obtain ⟨g, cap, cur, rfl, e2, e3, e4, e5, e6, e7⟩ : ∃ g cap cur, v = .slice (some ⟨g, 0, none⟩) l.length cap ∧ B ≤ g ∧ w.heap[g]? = some (.cells cur 49 (0, 0)) ∧ l.length ≤ cap ∧ cap ≤ maxLen ∧ cur.size = cap * 5 ∧ cur.toList.take (l.length * 5) = l.flatMap Tim.c := by
      rcases h.2 with ⟨e1, e2⟩ | h2
      · omega
      · exact h2
    have hne' : vb ≠ g := fun e => hne (by rw [e]; rfl)
    have hfl : (l.take i ++ t :: l.drop i).flatMap Tim.c = (l.take i).flatMap Tim.c ++ Tim.c t ++ (l.drop i).flatMap Tim.c := by
      rw [List.flatMap_append, List.flatMap_cons, List.append_assoc]
    by_cases hroom : l.length + 1 ≤ cap
    · refine (ins_room g cap B i vb l t w h hi' hl hroom hne' hv).mono ?_
      rintro e w' ⟨rfl, ho, hg⟩
      exact ⟨_, rfl, by rw [hfl]; exact ho, hg, fun k hk => .inl hk⟩
    · refine (ins_grow g cap B i vb l t w h hi' hl (by omega) hB hv).mono ?_
      rintro e w' ⟨v', rfl, ho, hg, ha⟩
      exact ⟨v', rfl, by rw [hfl]; exact ho, hg, fun k hk => .inr (ha k hk)⟩

/-- The timers with one more, where it belongs. -/
def laid (t : Tim) (l : List Tim) : List Tim := l.takeWhile (fun x => decide (ordT x t < 0)) ++ t :: l.dropWhile (fun x => decide (ordT x t < 0))
def Srt (l : List Tim) : Prop := l.Pairwise (fun a b => ordT a b < 0)
theorem cmpI_lt {a b : Int} : cmpI a b < 0 ↔ a < b := by
  unfold cmpI
  split
  · simp [*]
  · split <;> simp <;> omega
theorem cmpI_zero {a b : Int} : cmpI a b = 0 ↔ a = b := by
  unfold cmpI
  split
  · simp; omega
  · split <;> simp <;> omega
theorem ordT_lt {a b : Tim} : ordT a b < 0 ↔ a.at_ < b.at_ ∨ a.at_ = b.at_ ∧ a.id < b.id := by
  unfold ordT
  split
  · rename_i h; rw [cmpI_zero] at h; rw [cmpI_lt]; omega
  · rename_i h; rw [cmpI_zero] at h; rw [cmpI_lt]; omega
theorem ordT_trans {a b c : Tim} (h : ordT a b < 0) (k : ordT b c < 0) : ordT a c < 0 := by
  rw [ordT_lt] at *
  omega
/-- The place that the search finds is the one. -/
theorem split_laid (t : Tim) : ∀ (l : List Tim) (r : Nat), Srt l → Split t l r r → l.take r ++ t :: l.drop r = laid t l
  | [], r, _, h => by
    obtain ⟨_, h2, _, _⟩ := h
    simp only [List.length_nil] at h2
    obtain rfl : r = 0 := by omega
    rfl
  | x :: l, 0, hs, h => by
    have h4 := h.2.2.2 x rfl
    unfold laid
    rw [List.takeWhile_cons_of_neg (by simp; omega), List.dropWhile_cons_of_neg (by simp; omega)]
    rfl
  | x :: l, r + 1, hs, h => by
    obtain ⟨_, h2, h3, h4⟩ := h
    obtain ⟨hs1, hs2⟩ := List.pairwise_cons.1 hs
    have hx : ordT x t < 0 := by
      by_cases hr : r = 0
      · subst hr; exact h3 x (by omega) rfl
      · obtain ⟨y, hy⟩ : ∃ y, l[r - 1]? = some y := ⟨l[r - 1]'(by simp only [List.length_cons] at h2; omega), List.getElem?_eq_getElem _⟩
        have := h3 y (by omega) (by rw [show r + 1 - 1 = (r - 1) + 1 by omega, List.getElem?_cons_succ]; exact hy)
        exact ordT_trans (hs1 y (List.mem_of_getElem? hy)) this
    have ih := split_laid t l r hs2 ⟨Nat.le_refl _, by simpa using h2, fun y hr hy => h3 y (by omega) (by rw [show r + 1 - 1 = (r - 1) + 1 by omega, List.getElem?_cons_succ]; exact hy), fun y hy => h4 y (by simpa using hy)⟩
    unfold laid at ih ⊢
    rw [List.takeWhile_cons_of_pos (by simpa using hx), List.dropWhile_cons_of_pos (by simpa using hx), List.take_succ_cons, List.drop_succ_cons, List.cons_append, ih, List.cons_append]

set_option maxRecDepth 100000 in
set_option maxHeartbeats 4000000 in
theorem lay_any (B : Nat) (l : List Tim) (t : Tim) (v : Value) (w : World) (h : w.ownsRow B 49 5 v l.length (l.flatMap Tim.c)) (hl : l.length ≤ 1000) (hs : Srt l) (hB : B ≤ w.heap.size) :
    Calls Try.prog 46 #[v, t.v] w fun e w' => ∃ v', e = .returned v' ∧ w'.ownsRow B 49 5 v' (laid t l).length ((laid t l).flatMap Tim.c) ∧ w.grownBy w' v.ownBlock ∧ (∀ k, v'.ownBlock = some k → v.ownBlock = some k ∨ w.heap.size ≤ k) := by
  obtain ⟨a, c, rfl⟩ := own_shape h
  obtain ⟨id, ta, te, tt, call⟩ := t
  show Calls Try.prog 46 #[.slice a l.length c, .agg #[.int .i64 id, .int .i64 ta, .int .i64 te, .int .i64 tt, .string call]] w _
  have HO := Lib.hid h
  have HS := Lib.hid hs
  clear h hs
  go_enter Try.func46, Try.ntmps46
  go_wp2_with fail
  obtain ⟨w0, hw0, ho0, hz0⟩ : ∃ w0, w0 = (w.alloc (.cells #[.int .i64 id, .int .i64 ta, .int .i64 te, .int .i64 tt, .string call] 49)) ∧ w0.ownsRow B 49 5 (.slice a l.length c) l.length (l.flatMap Tim.c) ∧ w0.heap.size = w.heap.size + 1 := ⟨_, rfl, HO.out.alloc _, by simp⟩
  have hg0 : Below w.heap.size w w0 := by rw [hw0]; exact (Below.refl _ _).alloc (Nat.le_refl _) _
  have hc0 : w0.heap[w.heap.size]? = some (.cells #[.int .i64 id, .int .i64 ta, .int .i64 te, .int .i64 tt, .string call] 49 (0, 0)) := by rw [hw0]; exact heap_alloc_new w _
  rw [← hw0]
  have HC0 := Lib.hid hc0
  have HO0 := Lib.hid ho0
  have HG0 := Lib.hid hg0
  clear hw0 ho0 hg0 hc0
  refine (bs_any ⟨id, ta, te, tt, call⟩ a c l w0 (Own.sl Tim.len HO0.out) hl).mono ?_
  rintro e w1 ⟨r, b, rfl, hsp, hb1⟩
  have HSP := Lib.hid hsp
  have HB1 := Lib.hid hb1
  have hr : r ≤ l.length := hsp.2.1
  have hlt1 : w.heap.size < w1.heap.size := Nat.lt_of_lt_of_le (by omega) hb1.size
  have t0 : w1.cell? ⟨w.heap.size, 0, none⟩ = some (.int .i64 id) := kc hb1 ((Lib.cell_of_heap HC0.out _).trans rfl)
  have t1 : w1.cell? ⟨w.heap.size, 1, none⟩ = some (.int .i64 ta) := kc hb1 ((Lib.cell_of_heap HC0.out _).trans rfl)
  have t2 : w1.cell? ⟨w.heap.size, 2, none⟩ = some (.int .i64 te) := kc hb1 ((Lib.cell_of_heap HC0.out _).trans rfl)
  have t3 : w1.cell? ⟨w.heap.size, 3, none⟩ = some (.int .i64 tt) := kc hb1 ((Lib.cell_of_heap HC0.out _).trans rfl)
  have t4 : w1.cell? ⟨w.heap.size, 4, none⟩ = some (.string call) := kc hb1 ((Lib.cell_of_heap HC0.out _).trans rfl)
  clear hsp hb1
  go_wp2_with fail
  have ho1 : w1.ownsRow B 49 5 (.slice a l.length c) l.length (l.flatMap Tim.c) := own_below HO0.out HB1.out (Nat.le_refl _)
  have hob : (Value.slice a l.length c).ownBlock ≠ some w1.heap.size := fun e => by have := (ho1.lt _ e).2; omega
  refine (ins_any B r w1.heap.size l ⟨id, ta, te, tt, call⟩ (.slice a l.length c) (w1.alloc (.cells #[.int .i64 id, .int .i64 ta, .int .i64 te, .int .i64 tt, .string call] 49)) (ho1.alloc _) hr hl (by simp; omega) hob (heap_alloc_new w1 _)).mono ?_
  rintro e w3 ⟨v', rfl, ho3, hg3, ha3⟩
  have hlen : (laid ⟨id, ta, te, tt, call⟩ l).length = l.length + 1 := by rw [← split_laid _ l r HS.out HSP.out]; simp; omega
  have X3 : Hid (w3.ownsRow B 49 5 v' (laid ⟨id, ta, te, tt, call⟩ l).length ((laid ⟨id, ta, te, tt, call⟩ l).flatMap Tim.c)) := Lib.hid (by rw [hlen, ← split_laid _ l r HS.out HSP.out]; exact ho3)
  have hsz : (w1.alloc (.cells #[.int .i64 id, .int .i64 ta, .int .i64 te, .int .i64 tt, .string call] 49)).heap.size = w1.heap.size + 1 := by simp
  have G3 : Hid (w.grownBy w3 (Value.slice a l.length c).ownBlock) := Lib.hid (by
    have h1 : w.grownBy w1 (Value.slice a l.length c).ownBlock := Lib.grownBy_below (Lib.grownBy_below (gr_refl w _) HG0.out) HB1.out
    exact Lib.grownBy_trans (Lib.grownBy_allocR h1 _) hg3)
  have A3 : Hid (∀ k, v'.ownBlock = some k → (Value.slice a l.length c).ownBlock = some k ∨ w.heap.size ≤ k) := Lib.hid (fun k hk => by
    rcases ha3 k hk with h9 | h9
    · exact .inl h9
    · rw [hsz] at h9; exact .inr (by omega))
  clear ho3 hg3 ha3 hob ho1 hsz hlen
  go_wp2_with fail
  go_ret
  exact ⟨_, rfl, X3.out, G3.out, A3.out⟩
end Go.Proofs.Ytpmklganodlciaa
