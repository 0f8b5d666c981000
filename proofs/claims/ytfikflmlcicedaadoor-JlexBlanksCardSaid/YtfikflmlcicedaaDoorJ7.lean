/- The contract of jlex's text. -/
import Derived.Test.YtfikflmlcicedaaDoorJ6
namespace Go.Proofs.YtfikflmlcicedaaDoor
open Go.RowKit

theorem Tryd_info5 : (Tryd.prog.info? 5).map (fun i => (i.zero, i.size, i.bytes)) = some (some (.int .u8 0), 1, 1) := by kernel_rfl

theorem TX.at1 {w wr : World} {R : Nat} {s : ByteArray} {out : Value} {j : Nat} {acc : List UInt8} {v : Value} (h : TX w wr R s out j acc v) : TX w (wr.setCell ⟨R, 1, none⟩ (.int .i64 ((j : Int) + 1))) R s out (j + 1) acc v := by
  simpa using h.at (j + 1)
theorem TX.at2 {w wr : World} {R : Nat} {s : ByteArray} {out : Value} {j : Nat} {acc : List UInt8} {v : Value} (h : TX w wr R s out (j + 1) acc v) (k : Nat) : TX w (wr.setCell ⟨R, 1, none⟩ (.int .i64 ((j : Int) + 1 + (k : Int)))) R s out (j + 1 + k) acc v := by
  simpa using h.at (j + 1 + k)
theorem said_err {R : Nat} {s : ByteArray} {i j : Nat} {out : Value} {w w' : World} {o : Out} (ho : o = .err 4) (h : Rd w' R s j out ∧ w.grownBy w' (some R)) :
    Said R s i out w o (.returned (.tuple #[tokV zTok 0 0, .int .i64 4])) w' := said_of (by rw [ho]; rfl) h (by rw [ho]; intro t ht; cases ht)
theorem set_size (w : World) (a : Addr) (v : Value) : (w.setCell a v).heap.size = w.heap.size := by simp [World.setCell]
theorem cell_at (w : World) (b : UInt8) (n : Nat) (hn : w.heap.size = n) : ∀ j u, [bV b][j]? = some u → (w.alloc (.cells #[.int .u8 (b.toNat : Int)] 5)).cell? ((⟨n, 0, none⟩ : Addr).add j) = some u := by
  subst hn; exact cell_one_new w (bV b) 5
theorem one_cell (b : UInt8) : ∀ u ∈ [bV b], u.oneCell' = true := by
  intro u hu; rw [List.mem_singleton] at hu; subst hu; rfl
theorem alloc_le {w : World} {n : Nat} (o : Obj) (h : n ≤ w.heap.size) : n ≤ (w.alloc o).heap.size := Nat.le_trans h (World.grownBy_alloc w o none).size
def outT : Option (List UInt8 × Nat) → Out
  | none => .err 4
  | some (w, n) => .tok ⟨3, w, 0, n⟩
set_option maxRecDepth 100000 in
set_option maxHeartbeats 4000000 in
theorem text_any (R : Nat) (s : ByteArray) (i : Nat) (out : Value) (w : World) (hr : Rd w R s i out) (hi : i < s.size) (hs : s.size ≤ 2000) :
    Calls Tryd.prog 26 #[.pointer (some ⟨R, 0, none⟩)] w (Said R s i out w (textT (rest s i))) := by
  obtain ⟨T, hT⟩ : ∃ T, textF (s.size - i + 1) [] (rest s (i + 1)) (i + 1 - i) = T := ⟨_, rfl⟩
  have ht : textT (rest s i) = outT T := by
    unfold textT
    rw [rest_drop, rest_length]
    rw [show i + 1 - i = 1 by omega] at hT
    rw [hT]
    rcases T with _ | ⟨a, b⟩ <;> rfl
  have HT := Lib.hid ht
  have HF := Lib.hid hT
  have X0 := Lib.hid (TX.start hr (i + 1))
  have hl := hr.l
  clear ht hT
  have c0 := hr.c0
  have c1 := hr.c1
  have f1 := hr.f1
  clear hr
  obtain ⟨i0, hi0, hz0, hz1, hz2⟩ := info_parts Tryd_info5
  go_enter Tryd.func26, Tryd.ntmps26
  go_wp2_with fail
  clear c0 c1 f1
  go_loopg [4] (s.size - (i + 1)) (fun g v wr => ∃ (j : Nat) (acc : List UInt8) (f : Nat), g = s.size - j ∧ i < j ∧ j ≤ s.size ∧ acc.length ≤ j ∧ TX w wr R s out j acc v ∧ s.size - j < f ∧ textF f acc (rest s j) (j - i) = T)
  case atStart => exact ⟨i + 1, [], _, rfl, by omega, by omega, by simp, by simpa using X0.out, by omega, HF.out⟩
  case round =>
    obtain ⟨j, acc, f, hg, hij, hj, hacc, hx, hf, htf⟩ := hrel
    obtain ⟨v, hv⟩ : ∃ v, v = u4 := ⟨_, rfl⟩
    subst hv
    have G := Lib.hid hg
    have HJ := Lib.hid htf
    have X := Lib.hid hx
    have c0 := hx.rd.c0
    have c1 := hx.rd.c1
    have f1 := hx.rd.f1
    obtain ⟨t0, t1, t2, t3, t4, g0, g1, g2, g3, g4, l2⟩ := hx.bx
    have hne : w.heap.size ≠ R := by omega
    obtain ⟨f, rfl⟩ : ∃ f', f = f' + 1 := ⟨f - 1, by omega⟩
    clear hg htf hx HF X0
    by_cases hlt : j < s.size
    · have h1 : (j : Int) < (s.size : Int) := by omega
      have h2 : (0 : Int) ≤ (j : Int) := by omega
      have hco := Lib.hid (rest_cons s j hlt)
      go_wp2_with fail
      go_quiet (fail)
      go_wp2_with fail
      go_quiet (fail)
      generalize s[j] = b at *
      have hcv : ∀ q, (convert 33 9 v).run Tryd.prog ((wr.drewN q).setCell ⟨R, 1, none⟩ (.int .i64 ((j : Int) + 1))) = .ok (.string ⟨acc.toArray⟩) ((wr.drewN q).setCell ⟨R, 1, none⟩ (.int .i64 ((j : Int) + 1))) :=
        fun q => convRow ((X.out.drewN q).at1).own
      by_cases h34 : b = 34
      · subst h34
        have hT : T = some (acc, j - i + 1) := by rw [← HJ.out, hco.out]; rfl
        go_wp2_with fail
        refine bodyPost_ret (v := _) (by simp [results, Tryd.results26, go_sem, t0, t1, t2, t3, t4]; rfl) rfl ?_
        exact said_of (by rw [HT.out, hT]; rfl) (set5 ((X.out.drewN _).at1).rd ((X.out.drewN _).at1).gr hne _ _ _ _ _) (by rw [HT.out, hT]; intro t ht; cases ht; show j + 1 = i + (j - i + 1); omega)
      · have e34 : ((b.toNat : Int) == 34) = false := beq_eq_false_iff_ne.2 (u8_ne h34)
        have H34 := Lib.hid h34
        clear hcv h34
        by_cases hlo : b < 32
        · have hT : T = none := by rw [← HJ.out, hco.out, textF_low _ _ _ _ _ H34.out hlo]
          have hlo' : (b.toNat : Int) < 32 := by have : b.toNat < 32 := hlo; omega
          go_wp2_with fail
          refine bodyPost_ret (v := _) (by simp [results, Tryd.results26, go_sem, t0, t1, t2, t3, t4]; rfl) rfl ?_
          exact said_err (by rw [HT.out, hT]; rfl) (set5 ((X.out.drewN _).at1).rd ((X.out.drewN _).at1).gr hne _ _ _ _ _)
        · have hlo' : (32 : Int) ≤ (b.toNat : Int) := by have : ¬ b.toNat < 32 := hlo; omega
          have HLO := Lib.hid hlo
          clear hlo
          by_cases h92 : b = 92
          · subst h92
            go_wp2_with fail
            refine (escape_any R s (j + 1) out _ ((X.out.drewN _).at1).rd (by omega) hs).mono ?_
            rintro e w1 ⟨rfl, q, rfl⟩
            rcases he : esc (rest s (j + 1)) with _ | ⟨c, k⟩
            · have hT : T = none := by rw [← HJ.out, hco.out, textF_back_no _ _ _ _ he]
              have hB : escB (rest s (j + 1)) = 0 := by unfold escB; rw [he]
              have hN : escN (rest s (j + 1)) = 0 := by unfold escN; rw [he]
              rw [hB, hN]
              clear hB hN he
              go_wp2_with fail
              refine bodyPost_ret (v := _) (by simp [results, Tryd.results26, go_sem, t0, t1, t2, t3, t4]; rfl) rfl ?_
              exact said_err (by rw [HT.out, hT]; rfl) (set5 (((X.out.drewN _).at1).drewN _).rd (((X.out.drewN _).at1).drewN _).gr hne _ _ _ _ _)
            · have hk := esc_le _ _ _ he
              rw [rest_length] at hk
              have hT : textF f (acc ++ [c]) (rest s (j + 1 + k)) (j + 1 + k - i) = T := by
                rw [← HJ.out, hco.out, textF_back _ _ _ _ _ _ he, rest_drop]; congr 1; omega
              have hB : escB (rest s (j + 1)) = (c.toNat : Int) := by unfold escB; rw [he]
              have hN : escN (rest s (j + 1)) = (k : Int) := by unfold escN; rw [he]
              rw [hB, hN]
              have HT2 := Lib.hid hT
              have hk0 : ((k : Int) == 0) = false := beq_eq_false_iff_ne.2 (by omega)
              have hkb : (k : Int) ≤ 2000 := by omega
              clear hT he hB hN
              go_wp2_with (at_builtin; refine wpList_append_own _ rfl (.tmp 71) (.tmp 73) 33 rfl (w.heap.size + 1) 5 i0 (.int .u8 0) 1 1 Tryd.underlying33 hi0 hz0 hz1 hz2 rfl (by decide) _ _ _ rfl (((((X.out.drewN _).at1).drewN _).at2 k).own.alloc _) ⟨_, 0, none⟩ 1 1 [bV c] rfl rfl (cell_at _ c _ (by rw [set_size]; exact set_size _ _ _)) (one_cell c) (by unfold maxLen; omega) (by omega) (alloc_le _ (by rw [set_size]; show w.heap.size + 1 ≤ (World.setCell _ _ _).heap.size; rw [set_size]; exact l2)) ?_)
              intro v1 w1 hown1 hgr1 _
              have X1 := Lib.hid (((((X.out.drewN _).at1).drewN _).at2 k).app c hown1 hgr1)
              clear hown1 hgr1
              go_wp2_with fail
              go_roundg (s.size - (j + 1 + k))
              case measure => rw [G.out]; omega
              case rel => exact ⟨j + 1 + k, acc ++ [c], f, rfl, by omega, by omega, by simp; omega, X1.out, by omega, HT2.out⟩
          · have e92 : ((b.toNat : Int) == 92) = false := beq_eq_false_iff_ne.2 (u8_ne h92)
            have hT : textF f (acc ++ [b]) (rest s (j + 1)) (j + 1 - i) = T := by rw [← HJ.out, hco.out, textF_on _ _ _ _ _ H34.out HLO.out h92]; congr 1; omega
            have HT2 := Lib.hid hT
            clear hT h92
            go_wp2_with (at_builtin; refine wpList_append_own _ rfl (.tmp 71) (.tmp 73) 33 rfl (w.heap.size + 1) 5 i0 (.int .u8 0) 1 1 Tryd.underlying33 hi0 hz0 hz1 hz2 rfl (by decide) _ _ _ rfl (((X.out.drewN _).at1).own.alloc _) ⟨_, 0, none⟩ 1 1 [bV b] rfl rfl (cell_at _ b _ (set_size _ _ _)) (one_cell b) (by unfold maxLen; omega) (by omega) (alloc_le _ (by rw [set_size]; exact l2)) ?_)
            intro v1 w1 hown1 hgr1 _
            have X1 := Lib.hid (((X.out.drewN _).at1).app b hown1 hgr1)
            clear hown1 hgr1
            go_wp2_with fail
            go_roundg (s.size - (j + 1))
            case measure => rw [G.out]; omega
            case rel => exact ⟨j + 1, acc ++ [b], f, rfl, by omega, by omega, by simp; omega, X1.out, by omega, HT2.out⟩
    · have hT : T = none := by rw [← HJ.out, rest_end s j (by omega)]; rfl
      have h1 : (s.size : Int) ≤ (j : Int) := by omega
      go_wp2_with fail
      go_quiet (fail)
      go_wp2_with fail
      refine bodyPost_ret (v := _) (by simp [results, Tryd.results26, go_sem, t0, t1, t2, t3, t4]; rfl) rfl ?_
      exact said_err (by rw [HT.out, hT]; rfl) (set5 (X.out.drewN _).rd (X.out.drewN _).gr hne _ _ _ _ _)
end Go.Proofs.YtfikflmlcicedaaDoor
