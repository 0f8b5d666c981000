/- JlexPlaces walked. -/
import Derived.Test.YtfikflmlcicedaaDoorJ12
import Derived.Test.YtfikflmlcicedaaDoorL2
import Derived.Deep.RegionHeld3
namespace Go.Proofs.YtfikflmlcicedaaDoor
open Go.RowKit

theorem sp_up {B : Nat} {w : World} (h : SpTab B w) : SpTab w.heap.size w := Lib.tabBelow_of_tabIs h.here
/-- The errors that reading tells. -/
theorem lexF_err24 : ∀ (f c i : Nat) (l : List UInt8) (e : Int), lexF f c i l = .inr e → e = 2 ∨ e = 4
  | 0, _, _, _, _, h => by injection h with h; exact .inl h.symm
  | f + 1, c, i, [], e, h => by rw [lexF_nil] at h; cases h
  | f + 1, c, i, a :: u, e, h => by
    rcases hO : nextT (a :: u) with t | e'
    · by_cases hc : c = 1000
      · subst hc
        rw [lexF_large _ _ _ (by simp) t hO] at h
        injection h with h; exact .inl h.symm
      · rw [lexF_tok _ _ _ _ (by simp) t hO hc] at h
        revert h
        generalize hy : lexF f _ _ _ = y
        cases y with
        | inl r => intro h; cases h
        | inr e2 => intro h; injection h with h; subst h; exact lexF_err24 _ _ _ _ _ hy
    · rw [lexF_err _ _ _ _ (by simp) e' hO] at h
      injection h with h; subst h; exact next_err _ _ hO
theorem lex_err24 (l : List UInt8) (e : Int) (h : lex l = .inr e) : e = 2 ∨ e = 4 := by
  unfold lex at h
  split at h
  · injection h with h; exact .inl h.symm
  · exact lexF_err24 _ _ _ _ _ h

theorem TokAt.below {w w' : World} {g k : Nat} {t : Tk} (h : TokAt w g k t) (hg : g < w.heap.size) (hb : Below w.heap.size w w') : TokAt w' g k t := by
  have hc := fun o => World.cell?_of_block (a := ⟨g, o, none⟩) (hb.block g hg)
  exact ⟨(hc _).trans h.c0, (hc _).trans h.c1, (hc _).trans h.c2, (hc _).trans h.c3, (hc _).trans h.c4⟩
theorem extract_list (s : ByteArray) (a b : Nat) (h : a ≤ b) : (s.extract a b).data.toList = (s.data.toList.drop a).take (b - a) := by
  have := extract_eq s a (b - a)
  rw [show a + (b - a) = b by omega] at this
  rw [this]; rfl
theorem ok_yes (g cap : Nat) (w : World) (h0 : w.cell? ⟨g, 0, none⟩ = some (.int .i64 0)) (h1 : w.cell? ⟨g, 1, none⟩ = some (.int .i64 0)) :
    Calls Tryd.prog 9 #[.slice (some ⟨g, 0, none⟩) 2 cap] w fun r w' => r = .returned (.bool true) ∧ w = w' := ok_any g cap 0 0 w h0 h1
theorem below_le {B C : Nat} {w w' : World} (h : Below C w w') (hB : B ≤ C) : Below B w w' := ⟨h.os, h.tape, h.output, h.size, fun k hk => h.block k (Nat.lt_of_lt_of_le hk hB)⟩
set_option maxRecDepth 100000 in
set_option maxHeartbeats 4000000 in
theorem places_any (s : ByteArray) (w : World) (tb : SpTab w.heap.size w) : Calls Tryd.prog 3 #[.string s] w fun e w' => e = .returned (.bool true) ∧ Below w.heap.size w w' := by
  have htk := tokens_any s w tb
  cases hl : lex s.data.toList with
  | inr k =>
    rw [hl] at htk
    have hk := lex_err24 _ _ hl
    clear hl
    go_enter Tryd.func3, Tryd.ntmps3
    go_wp2_with fail
    refine htk.mono ?_
    intro e w1 h
    obtain ⟨rfl, hb⟩ := h
    have HB := Lib.hid hb
    clear hb htk
    have htb := sp_up (tb.on HB.out)
    clear tb
    rcases hk with rfl | rfl
    all_goals
      go_wp2_with fail
      refine (lives_any _ htb).mono ?_
      rintro e w2 ⟨rfl, hb2⟩
      have htb2 := sp_up (htb.on hb2)
      have HB2 := Lib.hid hb2
      clear hb2 htb
      go_wp2_with fail
      refine (lives_any _ htb2).mono ?_
      rintro e w3 ⟨rfl, hb3⟩
      have HB3 := Lib.hid hb3
      clear hb3 htb2
      go_wp2_with fail
      go_ret
      exact ⟨rfl, (HB.out.trans (below_le HB2.out HB.out.size)).trans (below_le HB3.out (Nat.le_trans HB.out.size HB2.out.size))⟩
  | inl l =>
    rw [hl] at htk
    have HLEX := Lib.hid hl
    clear hl
    go_enter Tryd.func3, Tryd.ntmps3
    go_wp2_with fail
    refine htk.mono ?_
    intro e w1 h
    obtain ⟨⟨v, rfl, hown⟩, hb⟩ := h
    have HB := Lib.hid hb
    have HO := Lib.hid hown
    obtain ⟨a, c, rfl⟩ := own_shape hown
    clear hb hown htk
    have htb := sp_up (tb.on HB.out)
    clear tb
    go_wp2_with fail
    refine (lives_any _ htb).mono ?_
    rintro e w2 ⟨rfl, hb2⟩
    have HB2 := Lib.hid hb2
    have HTB2 := Lib.hid (sp_up (htb.on hb2))
    clear hb2
    go_wp2_with fail
    have hrow : ∀ k (hk : k < l.length), ∃ g, a = some ⟨g, 0, none⟩ ∧ g < w1.heap.size ∧ TokAt w1 g k l[k] := by
      intro k hk
      rcases HO.out.2 with ⟨_, h0⟩ | ⟨g, cap, cur, hv, _⟩
      · omega
      · injection hv with h1 _ _
        subst h1
        exact ⟨g, rfl, (HO.out.lt g rfl).2, tokAt HO.out k hk⟩
    have HR := Lib.hid hrow
    clear hrow htb
    have hch := lex_chain _ _ HLEX.out
    have HCH := Lib.hid hch.2
    have hl2 : s.size ≤ 2000 := by simpa using hch.1
    clear hch
    go_loopg [5, 31] l.length (fun n va vk wr => ∃ (k at_ : Nat), n = l.length - k ∧ k ≤ l.length ∧ va = .int .i64 (at_ : Int) ∧ vk = .int .i64 (k : Int) ∧ Chain s.data.toList at_ (l.drop k) ∧ Below w1.heap.size w1 wr ∧ SpTab wr.heap.size wr)
    case atStart => exact ⟨0, 0, rfl, Nat.zero_le _, rfl, rfl, HCH.out, HB2.out, HTB2.out⟩
    case round =>
      obtain ⟨k, at_, hg, hk, rfl, rfl, hch, hbl, htb⟩ := hrel
      have G := Lib.hid hg
      have HC2 := Lib.hid hch
      have HBL := Lib.hid hbl
      have HTB := Lib.hid htb
      clear hg hch hbl htb HCH
      by_cases hlt : k < l.length
      · have h1 : (k : Int) < (l.length : Int) := by omega
        obtain ⟨g, rfl, hgl, hta0⟩ := HR.out k hlt
        have hta := hta0.below hgl HBL.out
        have hst := HC2.out
        rw [List.drop_eq_getElem_cons hlt] at hst
        clear hta0
        generalize l[k] = T at *
        obtain ⟨p1, p2, p3, p4, p5, p6⟩ := chain_step _ (by simpa using hl2) _ _ _ hst
        have P4 := Lib.hid p4
        have P5 := Lib.hid p5
        have P6 := Lib.hid p6
        have p3' : T.i + T.t.n ≤ s.size := by simpa using p3
        clear p3 p4 p5 p6 hst HC2
        obtain ⟨⟨tk, text, num, n⟩, i⟩ := T
        obtain ⟨c0, c1, c2, c3, c4⟩ := hta
        simp only at *
        have q1 : (at_ : Int) ≤ (i : Int) := by omega
        have q2 : (i : Int) + (n : Int) ≤ (s.size : Int) := by omega
        have q3 : (1 : Int) ≤ (n : Int) := by omega
        have q4 : (s.size : Int) ≤ 2000 := by omega
        have htg := fun w h => tokens_any (s.extract at_ i) w h
        rw [extract_list s at_ i p1, P4.out] at htg
        have hto := fun w h => tokens_any (s.extract i (i + n)) w h
        rw [extract_list s i (i + n) (by omega), show i + n - i = n by omega, P5.out] at hto
        have HTG := Lib.hid htg
        have HTO := Lib.hid hto
        clear htg hto
        go_wp2_with fail
        refine (HTG.out _ (sp_up (HTB.out.on ((Below.refl _ _).alloc (Nat.le_refl _) _)))).mono ?_
        intro e w3 h3
        obtain ⟨⟨ga, gc, rfl⟩, hb3⟩ := lex_none h3
        have T3 := TBx.below (TBx.new wr tk i ((i : Int) + (n : Int)) ⟨text.toArray⟩ num) hb3
        have B3 := Lib.hid (((Below.refl wr.heap.size wr).alloc (Nat.le_refl _) (.cells #[.int .i64 tk, .int .i64 i, .int .i64 ((i : Int) + (n : Int)), .string ⟨text.toArray⟩, .int .i64 num] 28)).trans (below_le hb3 (World.grownBy_alloc wr _ none).size))
        have S3 := Lib.hid (sp_up (HTB.out.on B3.out))
        have TB3 := Lib.hid T3
        obtain ⟨t0, t1, t2, t3, t4, g0, g1, g2, g3, g4, l3⟩ := T3
        clear h3 hb3 c0 c1 c2 c3 c4
        go_wp2_with fail
        refine (HTO.out _ S3.out).mono ?_
        intro e w4 h4
        obtain ⟨og, oc, rfl, hat4, ho1, ho2, hoc, hb4⟩ := lex_some h4 (by simp)
        obtain ⟨t0, t1, t2, t3, t4, g0, g1, g2, g3, g4, l4⟩ := TB3.out.below hb4
        obtain ⟨o0, o1, o2, o3, o4⟩ := hat4 0 (by simp)
        have B4 := Lib.hid (B3.out.trans (below_le hb4 B3.out.size))
        have S4 := Lib.hid (sp_up (S3.out.on hb4))
        clear h4 hat4 hb4
        simp only [List.getElem_cons_zero, Nat.zero_mul, Nat.zero_add, List.length_cons, List.length_nil] at o0 o1 o2 o3 o4 hoc ⊢
        go_wp2_with fail
        have hbb := HBL.out.size
        generalize wr.heap.size = b at *
        clear g0 g1 g2 g3 g4 o1 o2 t1 q1 q2 q3 q4
        go_region_held3 (fun w' => w'.cell? ⟨b, 0, none⟩ = some (.int .i64 tk) ∧ w'.cell? ⟨b, 2, none⟩ = some (.int .i64 ((i : Int) + (n : Int))) ∧ w'.cell? ⟨b, 3, none⟩ = some (.string ⟨text.toArray⟩) ∧ w'.cell? ⟨b, 4, none⟩ = some (.int .i64 num) ∧ w'.cell? ⟨og, 0, none⟩ = some (.int .i64 tk) ∧ w'.cell? ⟨og, 3, none⟩ = some (.string ⟨text.toArray⟩) ∧ w'.cell? ⟨og, 4, none⟩ = some (.int .i64 num)) (go_keep)
          ((go_at_call 9; refine (ok_yes _ _ _ ?_ ?_).mono ?_; (go_simp); (go_simp); rintro e w' ⟨rfl, rfl⟩))
        have HW := Lib.hid (HBL.out.trans (below_le B4.out hbb))
        have hw4 := HW.out.size
        have hll : l.length ≤ 9223372036854775807 := by
          rcases HO.out.2 with ⟨_, h0⟩ | ⟨_, cap, cur, _, _, _, h1, h2, _⟩
          · omega
          · simp only [maxLen] at h2; omega
        have hkk : (k : Int) + 1 ≤ 9223372036854775807 := by omega
        have hk0 : (0 : Int) ≤ (k : Int) := by omega
        clear t0 t2 t3 t4 o0 o3 o4
        go_wp2_with fail
        go_roundg (l.length - (k + 1))
        case measure => rw [G.out]; omega
        case rel =>
          have hA := HW.out.alloc hw4 (.cells #[.int .i64 0, .int .i64 0] 23)
          have hS := (Below.refl w4.heap.size w4).alloc (Nat.le_refl _) (.cells #[.int .i64 0, .int .i64 0] 23)
          refine ⟨k + 1, i + n, rfl, by omega, by simp, by simp, P6.out, ⟨hA.os, hA.tape, hA.output, hA.size, hA.block⟩, sp_up (S4.out.on ⟨hS.os, hS.tape, hS.output, hS.size, hS.block⟩)⟩
      · go_wp2_with fail
        go_ret
        exact ⟨rfl, HB.out.trans (below_le HBL.out HB.out.size)⟩
end Go.Proofs.YtfikflmlcicedaaDoor
