/- The contract of jlex.Tokens. -/
import Derived.Test.YtfikflmlcicedaaDoorJ10
import Derived.Deep.AppendLies
namespace Go.Proofs.YtfikflmlcicedaaDoor
open Go.RowKit

theorem Tryd_info28 : (Tryd.prog.info? 28).map (fun i => (i.zero, i.size, i.bytes)) = some (some (.agg #[.int .i64 0, .int .i64 0, .int .i64 0, .string ⟨#[]⟩, .int .i64 0]), 5, 48) := by kernel_rfl

set_option maxRecDepth 100000 in
set_option maxHeartbeats 4000000 in
theorem tokens_any (s : ByteArray) (w : World) (tb : SpTab w.heap.size w) :
    Calls Tryd.prog 7 #[.string s] w (LexSaid w (lex s.data.toList)) := by
  obtain ⟨L, hL⟩ : ∃ L, lex s.data.toList = L := ⟨_, rfl⟩
  rw [hL]
  unfold lex at hL
  have hsz : s.data.toList.length = s.size := by simp
  by_cases hs : 2000 < s.size
  · have hLe : L = .inr 2 := by rw [← hL, if_pos (by omega)]
    subst hLe
    clear hL
    have h1 : (2000 : Int) < (s.size : Int) := by omega
    go_enter Tryd.func7, Tryd.ntmps7
    go_wp2_with fail
    go_ret2
    exact ⟨rfl, Below.refl _ _⟩
  · rw [if_neg (by omega)] at hL
    have hr0 : rest s 0 = s.data.toList := rfl
    rw [← hr0, rest_length] at hL
    have HL := Lib.hid hL
    have X0 := Lib.hid (LX.start s w tb)
    clear hL hr0 hsz tb
    have hs' : s.size ≤ 2000 := by omega
    have h1 : (s.size : Int) ≤ 2000 := by omega
    clear hs
    obtain ⟨i0, hi0, hz0, hz1, hz2⟩ := info_parts Tryd_info28
    go_enter Tryd.func7, Tryd.ntmps7
    go_wp2_with fail
    refine (skip_any w.heap.size s 0 _ _ X0.out.rd (Nat.zero_le _) hs').mono ?_
    rintro e w1 ⟨rfl, hr1, hg1⟩
    have X1 := Lib.hid (X0.out.on hr1 hg1)
    clear X0 hr1 hg1
    go_wp2_with fail
    have hsk := skip_le false (rest s 0)
    rw [rest_length] at hsk
    go_loopg [] (s.size - (0 + skipN false (rest s 0))) (fun g wr => ∃ (j : Nat) (acc : List Tk) (f : Nat) (v : Value), g = s.size - j ∧ j ≤ s.size ∧ acc.length ≤ 1000 ∧ LX w wr s j acc v ∧ s.size - j < f ∧ preT acc (lexF f acc.length j (rest s j)) = L)
    case atStart => exact ⟨_, [], s.size + 1, _, rfl, by omega, by simp, X1.out, by omega, by rw [preT_nil, ← HL.out, rest_drop]; simp⟩
    case round =>
      obtain ⟨j, acc, f, v, hg, hj, hacc, hx, hf, hlx⟩ := hrel
      have G := Lib.hid hg
      have X := Lib.hid hx
      have HX := Lib.hid hlx
      have c0 := hx.rd.c0
      have c1 := hx.rd.c1
      have c2 := hx.rd.c2
      have f1 := hx.rd.f1
      have f2 := hx.rd.f2
      have hwl := hx.rd.l
      obtain ⟨f, rfl⟩ : ∃ f', f = f' + 1 := ⟨f - 1, by omega⟩
      clear hg hlx X1 HL hsk
      obtain ⟨va, vc, rfl⟩ := own_shape hx.own
      clear hx
      by_cases hlt : j < s.size
      · have h2 : (j : Int) < (s.size : Int) := by omega
        have hne : Hid (rest s j ≠ []) := Lib.hid (by rw [rest_cons s j hlt]; simp)
        go_wp2_with fail
        refine (next_any w.heap.size w.heap.size s j _ _ X.out.rd hlt hs' X.out.tb (Nat.le_refl _)).mono ?_
        rintro e w2 ⟨rfl, ⟨i2, hrd2, hti2⟩, hg2⟩
        have X2 := Lib.hid (X.out.on hrd2 hg2)
        have HT2 := Lib.hid hti2
        clear hrd2 hti2 hg2
        have hle : acc.length ≤ 1000 := hacc
        rcases hO : nextT (rest s j) with t | e
        · have hn := next_n _ _ hne.out hO
          rw [rest_length] at hn
          have hi2 := HT2.out t hO
          subst hi2
          clear HT2 c0 c1 c2 f1 f2 hwl
          have c0 := X2.out.rd.c0
          have c1 := X2.out.rd.c1
          have c2 := X2.out.rd.c2
          have f1 := X2.out.rd.f1
          have f2 := X2.out.rd.f2
          have hwl := X2.out.rd.l
          simp only [tokOf, errOf, tokV]
          by_cases hfull : acc.length = 1000
          · have hL : L = .inr 2 := by rw [← HX.out, hfull, lexF_large _ _ _ hne.out t hO]; rfl
            go_wp2_with fail
            go_ret2
            rw [hL]
            exact ⟨rfl, X2.out.gr.alloc (Nat.le_of_lt hwl) _⟩
          · have hL := HX.out
            rw [lexF_tok _ _ _ _ hne.out t hO hfull, rest_drop, rest_drop] at hL
            have HL := Lib.hid hL
            have hfl : acc.length < 1000 := by omega
            have hfull' : ((acc.length : Int) == 1000) = false := beq_eq_false_iff_ne.2 (by omega)
            clear hL hfull hO
            go_wp2_with fail
            have hwB : w.heap.size ≠ w2.heap.size := by omega
            obtain ⟨w3, hw3, X3, B3⟩ : ∃ w3, w3 = w2.alloc (.cells #[.int .i64 t.k, .int .i64 0, .int .i64 0, .string ⟨t.text.toArray⟩, .int .i64 t.num] 28) ∧ LX w w3 s (j + t.n) acc (Value.slice va acc.length vc) ∧ TBx w3 w2.heap.size t.k 0 0 ⟨t.text.toArray⟩ t.num :=
              ⟨_, rfl, X2.out.on (X2.out.rd.alloc _) (World.grownBy_alloc _ _ _), TBx.new _ _ _ _ _ _⟩
            rw [← hw3]
            have hob : (Value.slice va acc.length vc).ownBlock ≠ some w2.heap.size := fun e => by have := (X2.out.own.lt _ e).2; omega
            have hbw := hwl
            clear hw3 X2 X c0 c1 c2 f1 f2 hwl
            generalize w2.heap.size = b at *
            have X4 := Lib.hid X3
            have B4 := Lib.hid B3
            have c0 := X3.rd.c0
            have c1 := X3.rd.c1
            have c2 := X3.rd.c2
            have f1 := X3.rd.f1
            have f2 := X3.rd.f2
            have hwl := X3.rd.l
            obtain ⟨t0, t1, t2, t3, t4, g0, g1, g2, g3, g4, l2⟩ := B3
            clear X3
            go_region
            obtain ⟨w4, hw4, X5, B5⟩ : ∃ w4, w4 = ((w3.setCell ⟨b, 1, none⟩ (.int .i64 (j : Int))).setCell ⟨b, 2, none⟩ (.int .i64 ((j : Int) + (t.n : Int)))).drew ∧ LX w w4 s (j + t.n) acc (Value.slice va acc.length vc) ∧ TBx w4 b t.k j (j + t.n) ⟨t.text.toArray⟩ t.num :=
              ⟨_, rfl, ((X4.out.setOther hbw hob _ _).setOther hbw hob _ _).drewN 1, (B4.out.set12 _ _).drewN 1⟩
            rw [← hw4]
            clear hw4 X4 B4 c0 c1 c2 f1 f2 hwl t0 t1 t2 t3 t4 g0 g1 g2 g3 g4 l2
            have X6 := Lib.hid X5
            have c0 := X5.rd.c0
            have c1 := X5.rd.c1
            have c2 := X5.rd.c2
            have f1 := X5.rd.f1
            have f2 := X5.rd.f2
            have hwl := X5.rd.l
            obtain ⟨t0, t1, t2, t3, t4, g0, g1, g2, g3, g4, l2⟩ := B5
            clear X5
            go_wp2_with fail
            go_region_law ((refine step_append_lies _ (by rfl) (.tmp 58) (.tmp 60) 22 (by rfl) (w.heap.size + 1) 28 i0 _ 5 48 Tryd.underlying22 hi0 hz0 hz1 hz2 rfl (by omega) (Value.slice va acc.length vc) acc.length _ (by rfl) (own_drewN (X6.out.own.alloc _) 1) ⟨_, 0, none⟩ 1 1 (tkV ⟨t, j⟩) (by rfl) rfl (World.news_of_block (heap_alloc_new w4 _)) (tk_one _) (by omega) (by unfold maxLen; omega) (by omega) (alloc_le (w := w4) _ hwl) _ (by rfl) ?_; intro g cap w5 hown1 hgrow1 hat1 hlt1; obtain ⟨e2, e3⟩ := app_far X6.out hgrow1; have A1 := Lib.hid (LX.app X6.out ⟨t, j⟩ hown1 hgrow1); clear hown1 hgrow1 hat1 hlt1))
            all_goals
              clear c0 c1 c2 f1 f2 t0 t1 t2 t3 t4 g0 g1 g2 g3 g4 l2 e2 e3 hwl
              go_wp2_with fail
              refine (skip_any w.heap.size s (j + t.n) _ _ A1.out.rd (by omega) hs').mono ?_
              rintro e w6 ⟨rfl, hr6, hg6⟩
              have X7 := Lib.hid (A1.out.on hr6 hg6)
              clear hr6 hg6
              have hsk := skip_le false (rest s (j + t.n))
              rw [rest_length] at hsk
              go_wp2_with fail
              go_roundg (s.size - (j + t.n + skipN false (rest s (j + t.n))))
              case measure => rw [G.out]; omega
              case rel =>
                refine ⟨_, acc ++ [⟨t, j⟩], f, _, rfl, by omega, by simp; omega, X7.out, by omega, ?_⟩
                rw [preT_app, ← HL.out, List.length_append, Nat.add_assoc j]
                rfl
        · have hL : L = .inr e := by rw [← HX.out, lexF_err _ _ _ _ hne.out e hO]; rfl
          have he := next_err _ _ hO
          simp only [tokOf, errOf, tokV, zTok]
          rcases he with rfl | rfl
          · go_wp2_with fail
            go_ret2
            rw [hL]
            exact ⟨rfl, X2.out.gr.alloc (Nat.le_of_lt X2.out.rd.l) _⟩
          · go_wp2_with fail
            go_ret2
            rw [hL]
            exact ⟨rfl, X2.out.gr.alloc (Nat.le_of_lt X2.out.rd.l) _⟩
      · have hL : L = .inl acc := by rw [← HX.out, rest_end s j (by omega), lexF_nil]; simp [preT]
        have h2 : (s.size : Int) ≤ (j : Int) := by omega
        go_wp2_with fail
        go_ret2
        rw [hL]
        exact ⟨⟨_, rfl, X.out.own⟩, X.out.gr⟩
end Go.Proofs.YtfikflmlcicedaaDoor
