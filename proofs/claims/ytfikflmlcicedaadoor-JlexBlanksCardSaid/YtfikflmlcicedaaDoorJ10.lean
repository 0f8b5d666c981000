/- What holds at the head of jlex.Tokens' loop; how much a token takes. -/
import Derived.Test.YtfikflmlcicedaaDoorJ9
namespace Go.Proofs.YtfikflmlcicedaaDoor
open Go.RowKit

/-- A token's cells. -/
def tkV (t : Tk) : List Value := [.int .i64 t.t.k, .int .i64 (t.i : Int), .int .i64 ((t.i : Int) + (t.t.n : Int)), .string ⟨t.t.text.toArray⟩, .int .i64 t.t.num]
/-- What holds at the head of Tokens' loop. -/
structure LX (w wr : World) (s : ByteArray) (j : Nat) (acc : List Tk) (v : Value) : Prop where
  rd : Rd wr w.heap.size s j v
  own : wr.ownsRow (w.heap.size + 1) 28 5 v acc.length (acc.flatMap tkV)
  gr : Below w.heap.size w wr
  tb : SpTab w.heap.size wr
theorem LX.on {w wr w1 : World} {s : ByteArray} {j j1 : Nat} {acc : List Tk} {v : Value} (h : LX w wr s j acc v) (hr : Rd w1 w.heap.size s j1 v) (hg : wr.grownBy w1 (some w.heap.size)) : LX w w1 s j1 acc v := by
  have hb := below_grow hg (Nat.le_refl _) (Nat.le_of_lt h.rd.l)
  refine ⟨hr, h.own.kept hg ?_, h.gr.trans hb, h.tb.on hb⟩
  rcases hv : v.ownBlock with _ | k
  · exact .inl rfl
  · refine .inr (fun e => ?_)
    have := (h.own.lt k hv).1
    injection e with e
    omega
theorem LX.drewN {w wr : World} {s : ByteArray} {j : Nat} {acc : List Tk} {v : Value} (h : LX w wr s j acc v) (q : Nat) : LX w (wr.drewN q) s j acc v :=
  h.on (h.rd.drewN q) (grow_drewN (World.grownBy.refl _ _) q)
theorem LX.start (s : ByteArray) (w : World) (tb : SpTab w.heap.size w) : LX w (w.alloc (.cells #[.string s, .int .i64 0, .slice none 0 0] 45)) s 0 [] (.slice none 0 0) := by
  refine ⟨?_, World.ownsRow_nil _ _ _ _, (Below.refl _ _).alloc (Nat.le_refl _) _, tb.on ((Below.refl _ _).alloc (Nat.le_refl _) _)⟩
  refine ⟨?_, ?_, ?_, ?_, ?_, ?_⟩ <;> simp [go_sem]

/-- The tokens that are there already, ahead of those that come. -/
def preT (acc : List Tk) : List Tk ⊕ Int → List Tk ⊕ Int
  | .inl l => .inl (acc ++ l)
  | .inr e => .inr e
def LexSaid (w : World) (L : List Tk ⊕ Int) (e : Ending) (w' : World) : Prop :=
  match L with
  | .inr k => e = .returned (.tuple #[.slice none 0 0, .int .i64 k]) ∧ Below w.heap.size w w'
  | .inl l => (∃ v, e = .returned (.tuple #[v, .int .i64 0]) ∧ w'.ownsRow (w.heap.size + 1) 28 5 v l.length (l.flatMap tkV)) ∧ Below w.heap.size w w'


def addT (t : Tk) : List Tk ⊕ Int → List Tk ⊕ Int
  | .inl r => .inl (t :: r)
  | .inr e => .inr e
theorem preT_nil (x : List Tk ⊕ Int) : preT [] x = x := by cases x <;> simp [preT]
theorem preT_app (acc : List Tk) (t : Tk) (x : List Tk ⊕ Int) : preT (acc ++ [t]) x = preT acc (addT t x) := by
  cases x <;> simp [preT, addT]
theorem skip_le : ∀ (b : Bool) (l : List UInt8), skipN b l ≤ l.length
  | _, [] => by simp [skipN]
  | false, c :: t => by
    have h1 := skip_le false t
    have h2 := skip_le true t
    unfold skipN
    rw [List.length_cons]
    split
    · omega
    · split <;> omega
  | true, c :: t => by
    have h1 := skip_le false t
    have h2 := skip_le true t
    unfold skipN
    rw [List.length_cons]
    split <;> omega
theorem textF_n : ∀ (f : Nat) (acc l : List UInt8) (n : Nat) (x : List UInt8) (m : Nat), textF f acc l n = some (x, m) → n < m ∧ m ≤ n + l.length
  | 0, _, _, _, _, _, h => by cases h
  | f + 1, acc, [], n, x, m, h => by rw [textF_nil] at h; cases h
  | f + 1, acc, c :: t, n, x, m, h => by
    rw [List.length_cons]
    by_cases h1 : c = 34
    · subst h1
      rw [textF_quote] at h
      injection h with h
      injection h with _ h
      omega
    · by_cases h2 : c < 32
      · rw [textF_low _ _ _ _ _ h1 h2] at h; cases h
      · by_cases h3 : c = 92
        · subst h3
          rcases he : esc t with _ | ⟨b, k⟩
          · rw [textF_back_no _ _ _ _ he] at h; cases h
          · rw [textF_back _ _ _ _ _ _ he] at h
            have := textF_n f _ _ _ _ _ h
            have hk := esc_le _ _ _ he
            rw [List.length_drop] at this
            omega
        · rw [textF_on _ _ _ _ _ h1 h2 h3] at h
          have := textF_n f _ _ _ _ _ h
          omega
theorem run_pos (p : UInt8 → Bool) (l : List UInt8) (hl : l ≠ []) (h : p (pk l 0) = true) : 1 ≤ runN p l := by
  cases l with
  | nil => exact absurd rfl hl
  | cons c t =>
    have h' : p c = true := h
    simp [runN, h']
theorem next_n (l : List UInt8) (t : Tok) (hl : l ≠ []) (h : nextT l = .tok t) : 1 ≤ t.n ∧ t.n ≤ l.length := by
  unfold nextT at h
  split at h
  · rename_i h1
    injection h with h
    subst h
    exact ⟨run_pos _ _ hl (by unfold ld; rw [h1]; rfl), run_le _ _⟩
  · split at h
    · rename_i h2
      unfold numberT at h
      split at h
      · cases h
      · split at h
        · cases h
        · injection h with h
          subst h
          exact ⟨run_pos _ _ hl h2, run_le _ _⟩
    · split at h
      · unfold textT at h
        split at h
        · cases h
        · rename_i w n he
          injection h with h
          subst h
          have := textF_n _ _ _ _ _ _ he
          have h1 : 1 ≤ l.length := by cases l with
            | nil => exact absurd rfl hl
            | cons c t => simp
          rw [List.length_drop] at this
          show 1 ≤ n ∧ n ≤ l.length
          omega
      · unfold signT at h
        split at h
        · rename_i h1
          injection h with h
          subst h
          exact ⟨by show 1 ≤ 2; omega, h1.1⟩
        · split at h
          · rename_i h1
            injection h with h
            subst h
            exact ⟨Nat.le_refl _, h1.1⟩
          · cases h
theorem next_err (l : List UInt8) (e : Int) (h : nextT l = .err e) : e = 2 ∨ e = 4 := by
  unfold nextT at h
  split at h
  · cases h
  · split at h
    · unfold numberT at h
      split at h
      · injection h with h; exact .inl h.symm
      · split at h
        · injection h with h; exact .inr h.symm
        · cases h
    · split at h
      · unfold textT at h
        split at h
        · injection h with h; exact .inr h.symm
        · cases h
      · unfold signT at h
        split at h
        · cases h
        · split at h
          · cases h
          · injection h with h; exact .inr h.symm
theorem own_shape {w : World} {B e size n : Nat} {v : Value} {xs : List Value} (h : w.ownsRow B e size v n xs) : ∃ a c, v = .slice a n c := by
  rcases h.2 with ⟨rfl, rfl⟩ | ⟨g, cap, cur, rfl, _⟩
  · exact ⟨_, _, rfl⟩
  · exact ⟨_, _, rfl⟩
theorem lexF_nil (f c i : Nat) : lexF (f + 1) c i [] = .inl [] := rfl
theorem lexF_err (f c i : Nat) (l : List UInt8) (hl : l ≠ []) (e : Int) (h : nextT l = .err e) : lexF (f + 1) c i l = .inr e := by
  cases l with
  | nil => exact absurd rfl hl
  | cons a t => simp only [lexF]; rw [h]
theorem lexF_large (f i : Nat) (l : List UInt8) (hl : l ≠ []) (t : Tok) (h : nextT l = .tok t) : lexF (f + 1) 1000 i l = .inr 2 := by
  cases l with
  | nil => exact absurd rfl hl
  | cons a u => simp only [lexF]; rw [h]; rfl
theorem lexF_tok (f c i : Nat) (l : List UInt8) (hl : l ≠ []) (t : Tok) (h : nextT l = .tok t) (hc : c ≠ 1000) :
    lexF (f + 1) c i l = addT ⟨t, i⟩ (lexF f (c + 1) (i + t.n + skipN false (l.drop t.n)) (l.drop (t.n + skipN false (l.drop t.n)))) := by
  cases l with
  | nil => exact absurd rfl hl
  | cons a u =>
    conv => lhs; simp only [lexF]
    rw [h]
    simp only [beq_iff_eq, hc, if_false]
    generalize lexF f _ _ _ = y
    cases y <;> rfl
theorem LX.setOther {w wr : World} {s : ByteArray} {j : Nat} {acc : List Tk} {v : Value} (h : LX w wr s j acc v) {b : Nat} (hb : w.heap.size < b) (hob : v.ownBlock ≠ some b) (o : Nat) (x : Value) : LX w (wr.setCell ⟨b, o, none⟩ x) s j acc v := by
  have hB : Below w.heap.size wr (wr.setCell ⟨b, o, none⟩ x) := ⟨rfl, rfl, rfl, by simp [World.setCell], fun k hk => Below.heap_setCell wr _ x k (fun e => by simp at e; omega)⟩
  exact ⟨h.rd.other (by omega) _ _, h.own.kept (row := some b) (grow_set (World.grownBy.refl _ _) _ _) (.inr hob), h.gr.trans hB, h.tb.on hB⟩
theorem TBx.set12 {w : World} {b : Nat} {k a c : Int} {x : ByteArray} {n : Int} (h : TBx w b k a c x n) (a' c' : Int) :
    TBx ((w.setCell ⟨b, 1, none⟩ (.int .i64 a')).setCell ⟨b, 2, none⟩ (.int .i64 c')) b k a' c' x n := by
  obtain ⟨c0, c1, c2, c3, c4, f0, f1, f2, f3, f4, l⟩ := h
  refine ⟨?_, ?_, ?_, ?_, ?_, ?_, ?_, ?_, ?_, ?_, ?_⟩
  all_goals first
    | (go_simp; done)
    | (go_simp; omega)
theorem tk_one (t : Tk) : ∀ u ∈ tkV t, u.oneCell' = true := by
  intro u hu
  simp only [tkV, List.mem_cons, List.not_mem_nil, or_false] at hu
  rcases hu with rfl | rfl | rfl | rfl | rfl <;> rfl
theorem app_grown {w wr w1 : World} {s : ByteArray} {j : Nat} {acc : List Tk} {v : Value} {o : Obj} (_h : LX w wr s j acc v) (hgr : (wr.alloc o).drew.grownBy w1 v.ownBlock) : wr.grownBy w1 v.ownBlock :=
  (grow_drew (World.grownBy_alloc wr o _)).trans hgr
theorem app_block {w wr w1 : World} {s : ByteArray} {j : Nat} {acc : List Tk} {v : Value} {o : Obj} (h : LX w wr s j acc v) (hgr : (wr.alloc o).drew.grownBy w1 v.ownBlock) (b : Nat) (hb : b ≤ w.heap.size) : w1.heap[b]? = wr.heap[b]? :=
  (app_grown h hgr).block b (Nat.lt_of_le_of_lt hb h.rd.l) (fun e => by have := (h.own.lt b e.symm).1; omega)
theorem app_far {w wr w1 : World} {s : ByteArray} {j : Nat} {acc : List Tk} {v : Value} {o : Obj} (h : LX w wr s j acc v) (hgr : (wr.alloc o).drew.grownBy w1 v.ownBlock) :
    w1.cell? ⟨w.heap.size, 2, none⟩ = some v ∧ w1.frozen? ⟨w.heap.size, 2, none⟩ = false :=
  ⟨(World.cell?_of_block (a := ⟨w.heap.size, 2, none⟩) (app_block h hgr _ (Nat.le_refl _))).trans h.rd.c2, (World.frozen?_of_block (a := ⟨w.heap.size, 2, none⟩) (app_block h hgr _ (Nat.le_refl _))).trans h.rd.f2⟩
theorem Rd.out {w : World} {R : Nat} {s : ByteArray} {i : Nat} {v : Value} (h : Rd w R s i v) (x : Value) : Rd (w.setCell ⟨R, 2, none⟩ x) R s i x := by
  obtain ⟨c0, c1, c2, f1, f2, l⟩ := h
  refine ⟨?_, ?_, ?_, ?_, ?_, ?_⟩
  all_goals first
    | (go_simp; done)
    | (go_simp; omega)
theorem LX.app {w wr w1 : World} {s : ByteArray} {j : Nat} {acc : List Tk} {v v1 : Value} {o : Obj} (h : LX w wr s j acc v) (t : Tk)
    (hown : w1.ownsRow (w.heap.size + 1) 28 5 v1 (acc.length + 1) (acc.flatMap tkV ++ tkV t)) (hgr : (wr.alloc o).drew.grownBy w1 v.ownBlock) : LX w (w1.setCell ⟨w.heap.size, 2, none⟩ v1) s j (acc ++ [t]) v1 := by
  have hb : Below w.heap.size wr w1 := ⟨(app_grown h hgr).os, (app_grown h hgr).tape, (app_grown h hgr).output, (app_grown h hgr).size, fun k hk => app_block h hgr k (Nat.le_of_lt hk)⟩
  have hs : Below w.heap.size w1 (w1.setCell ⟨w.heap.size, 2, none⟩ v1) := ⟨rfl, rfl, rfl, by simp [World.setCell], fun k hk => Below.heap_setCell w1 _ v1 k (fun e => by simp at e; omega)⟩
  refine ⟨(h.rd.kept (app_block h hgr _ (Nat.le_refl _)) (app_grown h hgr).size).out v1, ?_, (h.gr.trans hb).trans hs, (h.tb.on hb).on hs⟩
  have := ownsRow_setCell_below hown (a := ⟨w.heap.size, 2, none⟩) (by show w.heap.size < w.heap.size + 1; omega) v1
  simpa using this
end Go.Proofs.YtfikflmlcicedaaDoor
