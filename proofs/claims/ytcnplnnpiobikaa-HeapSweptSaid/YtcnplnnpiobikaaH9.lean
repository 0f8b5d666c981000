/- slices.Clone over names and values; refTo; ok; heap.copied. -/
import Derived.Test.YtcnplnnpiobikaaH8
namespace Go.Proofs.Ytcnplnnpiobikaa
open Go.RowKit

def sC (s : ByteArray) : List Value := [.string s]
def zJv : Value := .agg #[.int .i64 0, .int .i64 0, .string ⟨#[]⟩]
theorem one_jv (v : JV) : ∀ u ∈ JV.c v, u.oneCell' = true := by
  intro u hu
  simp only [JV.c, List.mem_cons, List.not_mem_nil, or_false] at hu
  rcases hu with rfl | rfl | rfl <;> rfl
theorem one_jvs (l : List JV) : ∀ u ∈ l.flatMap JV.c, u.oneCell' = true := by
  intro u hu
  obtain ⟨v, _, hv⟩ := List.mem_flatMap.1 hu
  exact one_jv v u hv
theorem one_strs (l : List ByteArray) : ∀ u ∈ l.flatMap sC, u.oneCell' = true := by
  intro u hu
  obtain ⟨v, _, hv⟩ := List.mem_flatMap.1 hu
  simp only [sC, List.mem_singleton] at hv
  subst hv
  rfl
theorem SlR.jv {w : World} {v : Value} {l : List JV} (h : SlR w JvAt 3 v l) : Sl w JV.c 3 v l := by
  obtain ⟨a, c, h1, h2, h3, h4⟩ := h
  refine ⟨a, c, h1, h2, h3, fun h0 => ?_⟩
  obtain ⟨b, o, h5, h6⟩ := h4 h0
  refine ⟨b, o, h5, cell_lt (h6 0 h0).c0, fun k hk i hi => ?_⟩
  match i, hi with
  | 0, _ => exact (h6 k hk).c0
  | 1, _ => exact (h6 k hk).c1
  | 2, _ => exact (h6 k hk).c2
theorem SlR.str {w : World} {v : Value} {l : List ByteArray} (h : SlR w StrAt 1 v l) : Sl w sC 1 v l := by
  obtain ⟨a, c, h1, h2, h3, h4⟩ := h
  refine ⟨a, c, h1, h2, h3, fun h0 => ?_⟩
  obtain ⟨b, o, h5, h6⟩ := h4 h0
  refine ⟨b, o, h5, cell_lt (h6 0 h0), fun k hk i hi => ?_⟩
  match i, hi with
  | 0, _ => exact h6 k hk
theorem own_jv {w : World} {B : Nat} {v : Value} {l : List JV} (h : w.ownsRow B 31 3 v l.length (l.flatMap JV.c)) : SlR w JvAt 3 v l := by
  obtain ⟨a, c, h1, h2, h3, h4⟩ := Own.sl JV.len h
  refine ⟨a, c, h1, h2, h3, fun h0 => ?_⟩
  obtain ⟨b, o, h5, _, h6⟩ := h4 h0
  exact ⟨b, o, h5, fun k hk => ⟨h6 k hk 0 (by decide), h6 k hk 1 (by decide), h6 k hk 2 (by decide)⟩⟩
theorem own_str {w : World} {B : Nat} {v : Value} {l : List ByteArray} (h : w.ownsRow B 9 1 v l.length (l.flatMap sC)) : SlR w StrAt 1 v l := by
  obtain ⟨a, c, h1, h2, h3, h4⟩ := Own.sl (enc := sC) (fun _ => rfl) h
  refine ⟨a, c, h1, h2, h3, fun h0 => ?_⟩
  obtain ⟨b, o, h5, _, h6⟩ := h4 h0
  exact ⟨b, o, h5, fun k hk => h6 k hk 0 (by decide)⟩
theorem jv_info : (Try.prog.info? 31).map (fun i => (i.zero, i.size, i.bytes)) = some (some zJv, 3, 32) := by kernel_rfl
set_option maxRecDepth 100000 in
set_option maxHeartbeats 4000000 in
theorem cloneV_any (a : Option Addr) (c : Nat) (l : List JV) (w : World) (h : SlR w JvAt 3 (.slice a l.length c) l) (hl : l.length * 32 ≤ 140737488351232) :
    Calls Try.prog 37 #[.slice a l.length c] w fun e w' => ∃ v', e = .returned v' ∧ w'.ownsRow w.heap.size 31 3 v' l.length (l.flatMap JV.c) ∧ Below w.heap.size w w' := by
  obtain ⟨i0, hi0, hz0, hz1, hz2⟩ := info_parts jv_info
  have q := fun (w : World) (a : Option Addr) (n c n' c' : Nat) => Lib.run_eql_slice_nil w _ _ a n c n' c' Try.underlying23
  have HS := Lib.hid h
  clear h
  cases a with
  | none =>
    have h0 : l = [] := HS.out.none_nil
    subst h0
    go_enter Try.func37, Try.ntmps37
    go_wp2_with fail
    go_ret
    exact ⟨_, rfl, World.ownsRow_nil _ _ _ _, Below.refl _ _⟩
  | some ad =>
    go_enter Try.func37, Try.ntmps37
    have hnews : ∀ j u, (l.flatMap JV.c)[j]? = some u → w.cell? (ad.add j) = some u := by
      by_cases h : l = []
      · subst h; intro j u hj; simp at hj
      · obtain ⟨b, o, e⟩ := HS.out.jv.some_of h
        injection e with e
        subst e
        exact Sl.flat (enc := JV.c) (s := 3) (fun _ => rfl) (by decide) HS.out.jv
    have HN := Lib.hid hnews
    clear hnews
    go_wp2_with (at_builtin; refine wpList_append_own _ rfl _ _ 23 rfl w.heap.size 31 i0 zJv 3 32 Try.underlying23 hi0 hz0 hz1 hz2 rfl (by decide) _ _ _ rfl (World.ownsRow_made w #[] 0 (Nat.le_refl _) (Nat.zero_le _) rfl) ad l.length c (l.flatMap JV.c) rfl (flat_len JV.c 3 (fun _ => rfl) l) (fun j u hj => Lib.cell?_alloc_some _ (HN.out j u hj)) (one_jvs l) (by unfold maxLen; omega) (by omega) (by simp) ?_)
    intro v' w1 hown hgrow _
    have X : Hid (w1.ownsRow w.heap.size 31 3 v' l.length (l.flatMap JV.c)) := Lib.hid (by simpa using hown)
    have B : Hid (Below w.heap.size w w1) := Lib.hid (((Below.refl _ w).alloc (Nat.le_refl _) _).grown hgrow (by simp) (by intro k hk; simp [Value.ownBlock] at hk; omega))
    clear hown hgrow
    go_wp2_with fail
    go_ret
    exact ⟨v', rfl, X.out, B.out⟩
theorem str_info : (Try.prog.info? 9).map (fun i => (i.zero, i.size, i.bytes)) = some (some (.string ⟨#[]⟩), 1, 16) := by kernel_rfl
set_option maxRecDepth 100000 in
set_option maxHeartbeats 4000000 in
theorem cloneS_any (a : Option Addr) (c : Nat) (l : List ByteArray) (w : World) (h : SlR w StrAt 1 (.slice a l.length c) l) (hl : l.length * 16 ≤ 140737488351232) :
    Calls Try.prog 36 #[.slice a l.length c] w fun e w' => ∃ v', e = .returned v' ∧ w'.ownsRow w.heap.size 9 1 v' l.length (l.flatMap sC) ∧ Below w.heap.size w w' := by
  obtain ⟨i0, hi0, hz0, hz1, hz2⟩ := info_parts str_info
  have q := fun (w : World) (a : Option Addr) (n c n' c' : Nat) => Lib.run_eql_slice_nil w _ _ a n c n' c' Try.underlying44
  have HS := Lib.hid h
  clear h
  cases a with
  | none =>
    have h0 : l = [] := HS.out.none_nil
    subst h0
    go_enter Try.func36, Try.ntmps36
    go_wp2_with fail
    go_ret
    exact ⟨_, rfl, World.ownsRow_nil _ _ _ _, Below.refl _ _⟩
  | some ad =>
    go_enter Try.func36, Try.ntmps36
    have hnews : ∀ j u, (l.flatMap sC)[j]? = some u → w.cell? (ad.add j) = some u := by
      by_cases h : l = []
      · subst h; intro j u hj; simp at hj
      · obtain ⟨b, o, e⟩ := HS.out.str.some_of h
        injection e with e
        subst e
        exact Sl.flat (enc := sC) (s := 1) (fun _ => rfl) (by decide) HS.out.str
    have HN := Lib.hid hnews
    clear hnews
    go_wp2_with (at_builtin; refine wpList_append_own _ rfl _ _ 44 rfl w.heap.size 9 i0 (.string ⟨#[]⟩) 1 16 Try.underlying44 hi0 hz0 hz1 hz2 rfl (by decide) _ _ _ rfl (World.ownsRow_made w #[] 0 (Nat.le_refl _) (Nat.zero_le _) rfl) ad l.length c (l.flatMap sC) rfl (flat_len sC 1 (fun _ => rfl) l) (fun j u hj => Lib.cell?_alloc_some _ (HN.out j u hj)) (one_strs l) (by unfold maxLen; omega) (by omega) (by simp) ?_)
    intro v' w1 hown hgrow _
    have X : Hid (w1.ownsRow w.heap.size 9 1 v' l.length (l.flatMap sC)) := Lib.hid (by simpa using hown)
    have B : Hid (Below w.heap.size w w1) := Lib.hid (((Below.refl _ w).alloc (Nat.le_refl _) _).grown hgrow (by simp) (by intro k hk; simp [Value.ownBlock] at hk; omega))
    clear hown hgrow
    go_wp2_with fail
    go_ret
    exact ⟨v', rfl, X.out, B.out⟩
set_option maxRecDepth 100000 in
set_option maxHeartbeats 2000000 in
theorem refTo_any (n : Int) (w : World) : Calls Try.prog 16 #[.int .i64 n] w fun e w' => e = .returned (.agg #[.int .i64 4, .int .i64 n, .string ⟨#[]⟩]) ∧ Below w.heap.size w w' := by
  go_enter Try.func16, Try.ntmps16
  go_wp2_with fail
  refine bodyPost_ret (v := .agg #[.int .i64 4, .int .i64 n, .string ⟨#[]⟩]) (by simp [results, Try.results16, go_sem]) rfl ⟨rfl, ?_⟩
  exact (Below.refl _ _).alloc (Nat.le_refl _) _
set_option maxRecDepth 100000 in
set_option maxHeartbeats 4000000 in
theorem ok_any (a : Option Addr) (c : Nat) (l : List Int) (w : World) (h : SlR w IntAt 1 (.slice a l.length c) l) : Calls Try.prog 11 #[.slice a l.length c] w fun e w' => e = .returned (.bool (l.all fun x => x == 0)) ∧ Below w.heap.size w w' := by
  have HS := Lib.hid h
  obtain ⟨q1, q2, q3⟩ := SlR.cap h
  clear h
  obtain ⟨R, hR⟩ : ∃ R, (l.all fun x => x == 0) = R := ⟨_, rfl⟩
  rw [hR]
  have HR := Lib.hid (show ((l.drop 0).all fun x => x == 0) = R from hR)
  clear hR
  go_enter Try.func11, Try.ntmps11
  go_upto_region 2 with fail
  go_loopg [7, 4] l.length (fun g v7 _ wr => ∃ k : Nat, g = l.length - k ∧ k ≤ l.length ∧ v7 = .int .i64 (k : Int) ∧ ((l.drop k).all fun x => x == 0) = R ∧ Below w.heap.size w wr)
  case atStart => exact ⟨0, rfl, Nat.zero_le _, rfl, HR.out, Below.refl _ _⟩
  case round =>
    clear HR
    obtain ⟨k, hg, hk, rfl, hr, hb⟩ := hrel
    have G := Lib.hid hg
    have HR := Lib.hid hr
    have HB := Lib.hid hb
    clear hg hr hb
    by_cases hlt : k < l.length
    · have hki : (k : Int) < (l.length : Int) := by omega
      have HAD := Lib.hid (show ((l.drop k).all fun x => x == 0) = ((l[k] == 0) && (l.drop (k + 1)).all fun x => x == 0) by rw [List.drop_eq_getElem_cons hlt]; rfl)
      obtain ⟨b, o, rfl, hi⟩ := HS.out.item k hlt
      have x0 : wr.cell? ⟨b, o + k, none⟩ = some (.int .i64 l[k]) := by have := kc HB.out hi; rwa [Nat.mul_one] at this
      clear hi
      generalize l[k] = X at *
      by_cases h0 : X = 0
      · subst h0
        have HR3 := Lib.hid (show ((l.drop (k + 1)).all fun x => x == 0) = R by rw [← HR.out, HAD.out]; rfl)
        go_wp2_with fail
        go_roundg (l.length - (k + 1))
        case measure => have := G.out; omega
        case rel => exact ⟨k + 1, rfl, by omega, by simp, HR3.out, HB.out⟩
      · have h1 : (X == 0) = false := by simpa using h0
        have hr : R = false := by rw [← HR.out, HAD.out, h1]; rfl
        subst hr
        go_wp2_with fail
        go_ret
        exact ⟨rfl, HB.out⟩
    · have hke : k = l.length := by omega
      have hr : R = true := by rw [← HR.out, hke, List.drop_length]; rfl
      subst hr
      clear HR
      have hnl : ¬ ((k : Int) < (l.length : Int)) := by omega
      go_wp2_with fail
      go_ret
      exact ⟨rfl, HB.out⟩
end Go.Proofs.Ytcnplnnpiobikaa
