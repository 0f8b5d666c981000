/- The contract of url.Parse. -/
import Derived.Test.YtjcejijdeohkgaaGreatDoorMD
namespace Go.Proofs.YtjcejijdeohkgaaGreatDoor
open Go.RowKit

def zU : Array Value := #[.string ⟨#[]⟩, .string ⟨#[]⟩, .int .i64 0, .slice none 0 0, .string ⟨#[]⟩, .bool false, .string ⟨#[]⟩, .bool false]
/-- Eight stores into a block. -/
def put8 (w : World) (b : Nat) (v0 v1 v2 v3 v4 v5 v6 v7 : Value) : World := ((((((((((((((((w).setCell ⟨b, 0, none⟩ v0)).setCell ⟨b, 1, none⟩ v1)).setCell ⟨b, 2, none⟩ v2)).setCell ⟨b, 3, none⟩ v3)).setCell ⟨b, 4, none⟩ v4)).setCell ⟨b, 5, none⟩ v5)).setCell ⟨b, 6, none⟩ v6)).setCell ⟨b, 7, none⟩ v7)
theorem put8_heap {w : World} {b : Nat} {cs : Array Value} (h : w.heap[b]? = some (.cells cs 47 (0, 0))) (hc : cs.size = 8) (v0 v1 v2 v3 v4 v5 v6 v7 : Value) : (put8 w b v0 v1 v2 v3 v4 v5 v6 v7).heap[b]? = some (.cells #[v0, v1, v2, v3, v4, v5, v6, v7] 47 (0, 0)) := by
  obtain ⟨x0, x1, x2, x3, x4, x5, x6, x7, rfl⟩ : ∃ x0 x1 x2 x3 x4 x5 x6 x7, cs = #[x0, x1, x2, x3, x4, x5, x6, x7] := by
    obtain ⟨l⟩ := cs
    match l, hc with
    | [a, b, c, d, e, f, g, i], _ => exact ⟨a, b, c, d, e, f, g, i, rfl⟩
  exact set_heap (set_heap (set_heap (set_heap (set_heap (set_heap (set_heap (set_heap h 0 v0 (by simp)) 1 v1 (by simp)) 2 v2 (by simp)) 3 v3 (by simp)) 4 v4 (by simp)) 5 v5 (by simp)) 6 v6 (by simp)) 7 v7 (by simp)
theorem put8_below {w0 w : World} {b B : Nat} (h : Below B w0 w) (hB : B ≤ b) (v0 v1 v2 v3 v4 v5 v6 v7 : Value) : Below B w0 (put8 w b v0 v1 v2 v3 v4 v5 v6 v7) :=
  (((((((h.setCell (p := ⟨b, 0, none⟩) hB v0).setCell (p := ⟨b, 1, none⟩) hB v1).setCell (p := ⟨b, 2, none⟩) hB v2).setCell (p := ⟨b, 3, none⟩) hB v3).setCell (p := ⟨b, 4, none⟩) hB v4).setCell (p := ⟨b, 5, none⟩) hB v5).setCell (p := ⟨b, 6, none⟩) hB v6).setCell (p := ⟨b, 7, none⟩) hB v7
theorem put8_grown {w0 w : World} {b : Nat} (h : w0.grownBy w (some b)) (v0 v1 v2 v3 v4 v5 v6 v7 : Value) : w0.grownBy (put8 w b v0 v1 v2 v3 v4 v5 v6 v7) (some b) :=
  Lib.grownBy_setB (Lib.grownBy_setB (Lib.grownBy_setB (Lib.grownBy_setB (Lib.grownBy_setB (Lib.grownBy_setB (Lib.grownBy_setB (Lib.grownBy_setB h _ _) _ _) _ _) _ _) _ _) _ _) _ _) _ _
/-- What Parse answers. -/
def ParseSaid (w : World) (p : Except Int Ur) (e : Ending) (w' : World) : Prop :=
  match p with
  | .ok u => ∃ pv, e = .returned (.tuple #[u.v pv, .int .i64 0]) ∧ w'.ownsRow w.heap.size 9 1 pv u.path.length (u.path.map sB) ∧ Below w.heap.size w w'
  | .error x => e = .returned (.tuple #[.agg zU, .int .i64 x]) ∧ Below w.heap.size w w'
theorem call56 (args : Array Value) (w : World) : Sem.run Tryz.prog (callFunc 56 args) w = .ok (.enter 56 args) w := by go_simp
theorem call64 (args : Array Value) (w : World) : Sem.run Tryz.prog (callFunc 64 args) w = .ok (.enter 64 args) w := by go_simp
theorem call68 (args : Array Value) (w : World) : Sem.run Tryz.prog (callFunc 68 args) w = .ok (.enter 68 args) w := by go_simp
theorem call69 (args : Array Value) (w : World) : Sem.run Tryz.prog (callFunc 69 args) w = .ok (.enter 69 args) w := by go_simp
theorem call70 (args : Array Value) (w : World) : Sem.run Tryz.prog (callFunc 70 args) w = .ok (.enter 70 args) w := by go_simp
theorem call28 (args : Array Value) (w : World) : Sem.run Tryz.prog (callFunc 28 args) w = .ok (.enter 28 args) w := by go_simp
theorem sch_rest_len {l a b : Bs} (h : schP l = some (a, b)) : b.length ≤ l.length ∧ a.length ≤ 4 * l.length := by
  unfold schP at h
  obtain ⟨k, _, h2⟩ := Option.map_eq_some_iff.1 h
  injection h2 with h2 h3
  constructor
  · rw [← h3, List.length_drop]; omega
  · rw [← h2]
    have := small_len (l.take k)
    rw [List.length_take] at this
    omega
theorem clean_opt (x : Bs) : cleanP x = if (cleanR x).2 then some (cleanR x).1 else none := by
  unfold cleanR
  cases cleanP x <;> rfl
theorem seg_opt (x : Bs) : segsP (splitC 47 x) = if (segO x).2 then some (segO x).1 else none := by
  unfold segO
  cases segsP (splitC 47 x) <;> rfl
theorem segs_len : ∀ (l ds : List Bs), segsP l = some ds → ds.length = l.length
  | [], ds, h => by
    rw [segsP] at h
    injection h with h
    subst h
    rfl
  | p :: ps, ds, h => by
    rw [segs_cons] at h
    cases hd : decP p with
    | none => rw [hd] at h; cases h
    | some d =>
      rw [hd] at h
      obtain ⟨e, h1, h2⟩ := Option.map_eq_some_iff.1 h
      rw [← h2, List.length_cons, List.length_cons, segs_len ps e h1]
theorem splitC_count (c : UInt8) : ∀ (l : Bs), (splitC c l).length ≤ l.length + 1
  | [] => by simp [splitC]
  | b :: r => by
    have := splitC_count c r
    unfold splitC
    split
    · simp only [List.length_cons]; omega
    · split
      · simp
      · rename_i q ps hq
        rw [hq] at this
        simp only [List.length_cons] at this ⊢
        omega
theorem seg_len (x : Bs) : (segO x).1.length ≤ x.length + 1 := by
  unfold segO
  cases h : segsP (splitC 47 x) with
  | none => simp
  | some ds =>
    have := segs_len _ _ h
    have := splitC_count 47 x
    simp only
    omega
theorem row_block {w : World} {B e s n : Nat} {v : Value} {xs : List Value} {b : Nat} {c : Array Value} {t : TypeId} (h : w.ownsRow B e s v n xs) (hb : w.heap[b]? = some (.cells c t (0, 0))) (he : e ≠ t) : v.ownBlock ≠ some b := by
  intro e2
  rcases h.2 with ⟨rfl, _⟩ | ⟨g, cap, cur, rfl, _, hg, _⟩
  · cases e2
  · have : g = b := by simpa [Value.ownBlock] using e2
    subst this
    rw [hb] at hg
    injection hg with hg
    injection hg with _ hg _
    exact he hg.symm
theorem own_str {w : World} {B : Nat} {v : Value} {l : List Bs} (h : w.ownsRow B 9 1 v l.length (l.map sB)) : SlR w StrB 1 v l := by
  have e : l.map sB = l.flatMap (fun x => [sB x]) := by
    clear h
    induction l with
    | nil => rfl
    | cons a l ih => rw [List.map_cons, List.flatMap_cons, ih]; rfl
  rw [e] at h
  obtain ⟨a, c, e1, e2, e3, e4⟩ := Own.sl (enc := fun x : Bs => [sB x]) (s := 1) (fun _ => rfl) h
  refine ⟨a, c, e1, e2, e3, fun h0 => ?_⟩
  obtain ⟨b, o, e5, _, e6⟩ := e4 h0
  refine ⟨b, o, e5, fun k hk => ?_⟩
  have := e6 k hk 0 (by decide)
  exact this
theorem _root_.Go.World.grownBy.trans' {w0 w w' : World} {r : Option Nat} (h2 : w.grownBy w' r) (h1 : w0.grownBy w r) : w0.grownBy w' r :=
  ⟨h2.os.trans h1.os, h2.tape.trans h1.tape, h2.output.trans h1.output, Nat.le_trans h1.size h2.size, fun k hk hne => (h2.block k (Nat.lt_of_lt_of_le hk h1.size) hne).trans (h1.block k hk hne)⟩
set_option maxRecDepth 100000 in
set_option maxHeartbeats 16000000 in
theorem parse_any (l : Bs) (w : World) (hT : TB w) : Calls Tryz.prog 28 #[.string (bs l)] w fun e w' => ParseSaid w (parseP l) e w' := by
  have p56 := call56
  have p64 := call64
  have p65 := call65
  have p66 := call66
  have p67 := call67
  have p68 := call68
  have p69 := call69
  have p70 := call70
  have HTB := Lib.hid hT
  obtain ⟨R, hR⟩ : ∃ R, parseP l = R := ⟨_, rfl⟩
  rw [hR]
  unfold parseP at hR
  have HR := Lib.hid hR
  have hsz : (bs l).size = l.length := bs_size l
  clear hR
  by_cases h500 : 500 < l.length
  · have hr : R = .error 2 := by rw [← HR.out, if_pos h500]
    subst hr
    have hsi : (500 : Int) < ((bs l).size : Int) := by omega
    generalize bs l = S at *
    clear HR hsz h500
    go_enter Tryz.func28, Tryz.ntmps28
    go_wp2_with fail
    have hb := Lib.hid (show Below w.heap.size w (w.alloc (.cells #[.string ⟨#[]⟩, .string ⟨#[]⟩, .int .i64 0, .slice none 0 0, .string ⟨#[]⟩, .bool false, .string ⟨#[]⟩, .bool false] 47)) from (Below.refl _ _).alloc (Nat.le_refl _) _)
    obtain ⟨e0, e1, e2, e3, e4, e5, e6, e7⟩ := cells8 (alloc_at (w := w) rfl (.cells #[.string ⟨#[]⟩, .string ⟨#[]⟩, .int .i64 0, .slice none 0 0, .string ⟨#[]⟩, .bool false, .string ⟨#[]⟩, .bool false] 47))
    refine bodyPost_ret (v := .tuple #[.agg zU, .int .i64 2]) (by simp [results, Tryz.results28, go_sem, e0, e1, e2, e3, e4, e5, e6, e7, zU]) rfl ?_
    exact ⟨rfl, hb.out⟩
  · rw [if_neg h500] at HR
    have hsi : ((bs l).size : Int) ≤ 500 := by omega
    have HS := Lib.hid (fun w9 hT9 => scheme_any l w9 hT9 (by omega))
    generalize bs l = S at *
    obtain ⟨A, hA⟩ : ∃ A, w.heap.size = A := ⟨_, rfl⟩
    have A5 := Lib.hid (show 5 < A by rw [← hA]; exact HTB.out.lt)
    go_enter Tryz.func28, Tryz.ntmps28
    go_upto_region 4 with fail
    refine code_gen (Φ := fun wy => Hid (Below w.heap.size w wy) ∧ Hid (wy.heap[A]? = some (.cells zU 47 (0, 0))) ∧ Hid (wy.heap[A + 1]? = some (.cells zU 47 (0, 0)))) ?_ ?_
    · have e1 := alloc_at hA (.cells zU 47)
      refine ⟨Lib.hid (((Below.refl _ _).alloc (Nat.le_refl _) _).alloc (al_le (Nat.le_refl _) _) _), Lib.hid ?_, Lib.hid (alloc_at (by rw [← hA]; simp) _)⟩
      exact (((Below.refl _ _).alloc (Nat.le_refl _) _).block A (lt_of_heap e1)).trans e1
    rintro w1 ⟨X1, Z1, U1'⟩
    have T1 := Lib.hid (HTB.out.below X1.out)
    have U1 := Lib.hid (UB.start U1'.out)
    have AN : Hid (A + 1 ≠ 0 ∧ A + 1 ≠ 1 ∧ A + 1 ≠ 2 ∧ A + 1 ≠ 5) := Lib.hid (by have := A5.out; omega)
    have TBK := Lib.hid (fun (wr : World) (cs : Array Value) (u : UB w1 wr (A + 1) cs) => u.tb T1.out AN.out)
    have ZBK := Lib.hid (fun (wr : World) (cs : Array Value) (u : UB w1 wr (A + 1) cs) => (u.g.block A (lt_of_heap Z1.out) (by simp)).trans Z1.out)
    have XBK := Lib.hid (fun (wr : World) (cs : Array Value) (u : UB w1 wr (A + 1) cs) => below_grown X1.out u.g (by rw [← hA]; omega) (Nat.le_refl _))
    have HS1 := Lib.hid (HS.out w1 T1.out)
    clear U1' HS
    go_wp2_with fail
    refine HS1.out.mono ?_
    rintro e w2 ⟨rfl, hb2⟩
    have U2 := Lib.hid (U1.out.call hb2)
    clear hb2 HS1 U1
    cases hsc : schP l with
    | none =>
      have hsr : schR l = ([], [], false) := by unfold schR; rw [hsc]
      rw [hsc] at HR
      have hr : R = .error 3 := HR.out.symm
      subst hr
      rw [hsr]
      have HCP := Lib.hid (fun w9 => Tryz.strings_CutPrefix (bs []) ⟨#[47, 47]⟩ w9)
      clear HR hsr hsc
      go_wp2_with fail
      refine (HCP.out _).mono ?_
      rintro e w3 ⟨rfl, rfl⟩
      have ZB := Lib.hid (ZBK.out _ _ U2.out)
      obtain ⟨c0, c1, c2, c3, c4, c5, c6, c7⟩ := cells8 ZB.out
      have f0 := Lib.frozen_of_heap ZB.out 0
      have f1 := Lib.frozen_of_heap ZB.out 1
      have f2 := Lib.frozen_of_heap ZB.out 2
      have f3 := Lib.frozen_of_heap ZB.out 3
      have f4 := Lib.frozen_of_heap ZB.out 4
      have f5 := Lib.frozen_of_heap ZB.out 5
      have f6 := Lib.frozen_of_heap ZB.out 6
      have f7 := Lib.frozen_of_heap ZB.out 7
      go_wp2_with fail
      have EB := Lib.hid (put8_heap ZB.out rfl (.string ⟨#[]⟩) (.string ⟨#[]⟩) (.int .i64 0) (.slice none 0 0) (.string ⟨#[]⟩) (.bool false) (.string ⟨#[]⟩) (.bool false))
      have XB := Lib.hid (put8_below (b := A) (XBK.out _ _ U2.out) (Nat.le_of_eq hA) (.string ⟨#[]⟩) (.string ⟨#[]⟩) (.int .i64 0) (.slice none 0 0) (.string ⟨#[]⟩) (.bool false) (.string ⟨#[]⟩) (.bool false))
      obtain ⟨e0, e1, e2, e3, e4, e5, e6, e7⟩ := cells8 EB.out
      unfold put8 at e0 e1 e2 e3 e4 e5 e6 e7
      refine bodyPost_ret (v := .tuple #[.agg zU, .int .i64 3]) (by simp [results, Tryz.results28, go_sem, e0, e1, e2, e3, e4, e5, e6, e7, zU]) rfl ?_
      exact ⟨rfl, XB.out⟩
    | some x =>
      obtain ⟨sch, rest⟩ := x
      have hsr : schR l = (sch, rest, true) := by unfold schR; rw [hsc]
      obtain ⟨hrl, hsl⟩ := sch_rest_len hsc
      rw [hsc] at HR
      have HR2 := Lib.hid (show (if rest.take 2 = [47, 47] then parseB sch (rest.drop 2) else .error 3) = R from HR.out)
      rw [hsr]
      have HRL := Lib.hid (show rest.length ≤ 500 by omega)
      have HPT := Lib.hid (pre_two rest)
      have HCP : Hid (∀ w9, Calls Tryz.prog 64 #[.string (bs rest), .string ⟨#[47, 47]⟩] w9 fun e w' => e = .returned (.tuple #[.string (bs (Lib.trimPrefix rest [47, 47])), .bool (decide (rest.take 2 = [47, 47]))]) ∧ w' = w9) := Lib.hid (fun w9 => by
        have h := Tryz.strings_CutPrefix (bs rest) ⟨#[47, 47]⟩ w9
        rw [bs_list, show (⟨#[47, 47]⟩ : ByteArray).data.toList = [47, 47] from rfl, HPT.out.1] at h
        exact h)
      clear HR hsr hsc hrl hsl
      by_cases h2 : rest.take 2 = [47, 47]
      · rw [if_pos h2] at HR2
        rw [decide_eq_true h2, HPT.out.2 h2] at HCP
        have HRL2 := Lib.hid (show (rest.drop 2).length ≤ 500 by rw [List.length_drop]; have := HRL.out; omega)
        clear h2 HPT HRL
        generalize rest.drop 2 = r at *
        go_wp2_with fail
        refine (HCP.out _).mono ?_
        rintro e w3 ⟨rfl, rfl⟩
        obtain ⟨c0, c1, c2, c3, c4, c5, c6, c7⟩ := cells8 U2.out.c
        have f0 := Lib.frozen_of_heap U2.out.c 0
        have U3 := Lib.hid (U2.out.set 0 (.string (bs sch)) (by decide))
        go_upto_region 9 with fail
        refine code_gen (Φ := fun wy => Hid (UB w1 wy (A + 1) #[.string (bs sch), .string ⟨#[]⟩, .int .i64 0, .slice none 0 0, .string ⟨#[]⟩, .bool false, .string ⟨#[]⟩, .bool false])) U3 ?_
        clear U3 U2 c0 c1 c2 c3 c4 c5 c6 c7 f0 HCP
        intro w4 U4
        have HIA := Lib.hid (iany_any r w4 (by have := HRL2.out; omega))
        go_wp2_with fail
        refine HIA.out.mono ?_
        rintro e w5 ⟨rfl, hb5⟩
        have U5 := Lib.hid (U4.out.call hb5)
        clear hb5 HIA U4
        have HPB : Hid (parseB sch r = match placeP sch (authP r) with
          | none => .error 3
          | some (h, port) =>
            match queryT (restP r), fragT (restP r), segsP (splitC 47 (noSl (pathT (restP r)))) with
            | some q, some f, some l => .ok ⟨sch, h, port, tidyP l, q, asksT (restP r), f, pointsT (restP r)⟩
            | _, _, _ => .error 3) := Lib.hid rfl
        rw [HPB.out] at HR2
        clear HPB
        obtain ⟨ia1, ia2⟩ := ia_auth r
        have hge := Lib.indexAny_ge endSet r
        have HIA1 := Lib.hid ia1
        have HIA2 := Lib.hid ia2
        clear ia1 ia2
        have hrz : (bs r).size = r.length := bs_size r
        by_cases ho : Lib.indexAny r endSet = -1
        · obtain ⟨hau, hre⟩ := HIA1.out ho
          have HAL := Lib.hid (show r.length ≤ 500 from HRL2.out)
          have HRR := Lib.hid (show ([] : Bs).length ≤ 500 by decide)
          rw [ho]
          rw [hau, hre] at HR2
          clear hau hre ho HIA1 HIA2 hge hrz
          have HPL := Lib.hid (place_any (A + 1) sch (.string ⟨#[]⟩) (.slice none 0 0) (.string ⟨#[]⟩) (.bool false) (.string ⟨#[]⟩) (.bool false) r w5 (TBK.out _ _ U5.out) AN.out U5.out.c HAL.out)
          go_wp2_with fail
          refine HPL.out.mono ?_
          intro e w6 hpl
          clear HPL
          cases hpp : placeP sch r with
          | none =>
            rw [hpp] at hpl HR2
            obtain ⟨rfl, cs6, hu6⟩ := hpl
            have U6 := Lib.hid (UB.mk (hu6.g.trans' U5.out.g) hu6.c)
            have hr : R = .error 3 := HR2.out.symm
            subst hr
            clear HR2 hpp hu6 U5
            have ZB := Lib.hid (ZBK.out _ _ U6.out)
            obtain ⟨c0, c1, c2, c3, c4, c5, c6, c7⟩ := cells8 ZB.out
            have f0 := Lib.frozen_of_heap ZB.out 0
            have f1 := Lib.frozen_of_heap ZB.out 1
            have f2 := Lib.frozen_of_heap ZB.out 2
            have f3 := Lib.frozen_of_heap ZB.out 3
            have f4 := Lib.frozen_of_heap ZB.out 4
            have f5 := Lib.frozen_of_heap ZB.out 5
            have f6 := Lib.frozen_of_heap ZB.out 6
            have f7 := Lib.frozen_of_heap ZB.out 7
            go_wp2_with fail
            have EB := Lib.hid (put8_heap ZB.out rfl (.string ⟨#[]⟩) (.string ⟨#[]⟩) (.int .i64 0) (.slice none 0 0) (.string ⟨#[]⟩) (.bool false) (.string ⟨#[]⟩) (.bool false))
            have XB := Lib.hid (put8_below (b := A) (XBK.out _ _ U6.out) (Nat.le_of_eq hA) (.string ⟨#[]⟩) (.string ⟨#[]⟩) (.int .i64 0) (.slice none 0 0) (.string ⟨#[]⟩) (.bool false) (.string ⟨#[]⟩) (.bool false))
            obtain ⟨e0, e1, e2, e3, e4, e5, e6, e7⟩ := cells8 EB.out
            unfold put8 at e0 e1 e2 e3 e4 e5 e6 e7
            refine bodyPost_ret (v := .tuple #[.agg zU, .int .i64 3]) (by simp [results, Tryz.results28, go_sem, e0, e1, e2, e3, e4, e5, e6, e7, zU]) rfl ?_
            exact ⟨rfl, XB.out⟩
          | some x =>
            obtain ⟨hst, port⟩ := x
            rw [hpp] at hpl HR2
            obtain ⟨rfl, hu6⟩ := hpl
            have U6 := Lib.hid (UB.mk (hu6.g.trans' U5.out.g) hu6.c)
            clear hpp hu6 U5
            have HTL := Lib.hid (tail_any (A + 1) _ _ _ _ _ _ _ _ ([] : Bs) w6 U6.out.c (by have := HRR.out; omega))
            have HQT : Hid (queryT ([] : Bs) = if (cleanR (backC 63 (frontC 35 ([] : Bs)))).2 then some (cleanR (backC 63 (frontC 35 ([] : Bs)))).1 else none) := Lib.hid (clean_opt _)
            have HFT : Hid (fragT ([] : Bs) = if (cleanR (backC 35 ([] : Bs))).2 then some (cleanR (backC 35 ([] : Bs))).1 else none) := Lib.hid (clean_opt _)
            have HPA := Lib.hid (show (pathT ([] : Bs)).length ≤ 500 from Nat.le_trans (Nat.le_trans (front_len 63 _) (front_len 35 _)) HRR.out)
            rw [HQT.out, HFT.out] at HR2
            clear HQT HFT
            generalize cleanR (backC 63 (frontC 35 ([] : Bs))) = CQ at *
            generalize cleanR (backC 35 ([] : Bs)) = CF at *
            generalize pathT ([] : Bs) = PA at *
            obtain ⟨q, qo⟩ := CQ
            obtain ⟨f, fo⟩ := CF
            go_wp2_with fail
            refine HTL.out.mono ?_
            rintro e w7 ⟨rfl, hu7⟩
            have U7 := Lib.hid (UB.mk (hu7.g.trans' U6.out.g) hu7.c)
            clear hu7 U6 HTL
            have HTP : Hid (∀ w9, Calls Tryz.prog 69 #[.string (bs PA), .string ⟨#[47]⟩] w9 fun e w' => e = .returned (.string (bs (noSl PA))) ∧ w' = w9) := Lib.hid (fun w9 => by
              have h := Tryz.strings_TrimPrefix (bs PA) ⟨#[47]⟩ w9
              rw [bs_list, show (⟨#[47]⟩ : ByteArray).data.toList = [47] from rfl, pre_one] at h
              exact h)
            have HNS := Lib.hid (show (noSl PA).length ≤ 500 by
              have := HPA.out
              unfold noSl
              split
              · rw [List.length_drop]; omega
              · exact this)
            have HSG := Lib.hid (fun w9 hT9 => segments_any (noSl PA) w9 hT9 (by have := HNS.out; omega))
            have HSO := Lib.hid (seg_opt (noSl PA))
            have HSL := Lib.hid (seg_len (noSl PA))
            rw [HSO.out] at HR2
            clear HSO
            generalize segO (noSl PA) = SO at *
            generalize noSl PA = NP at *
            obtain ⟨ds, so⟩ := SO
            go_wp2_with fail
            refine (HTP.out _).mono ?_
            rintro e w8 ⟨rfl, rfl⟩
            go_wp2_with fail
            refine (HSG.out _ (TBK.out _ _ U7.out)).mono ?_
            rintro e w9 ⟨dv, rfl, hown, hb9⟩
            have U9 := Lib.hid (U7.out.call hb9)
            have O9 := Lib.hid (own_str hown)
            obtain ⟨da, dc, rfl⟩ := own_shape hown
            clear hown hb9 U7 HTP HSG
            cases qo with
            | false =>
              have hr : R = .error 3 := HR2.out.symm
              subst hr
              clear HR2
              have ZB := Lib.hid (ZBK.out _ _ U9.out)
              obtain ⟨c0, c1, c2, c3, c4, c5, c6, c7⟩ := cells8 ZB.out
              have f0 := Lib.frozen_of_heap ZB.out 0
              have f1 := Lib.frozen_of_heap ZB.out 1
              have f2 := Lib.frozen_of_heap ZB.out 2
              have f3 := Lib.frozen_of_heap ZB.out 3
              have f4 := Lib.frozen_of_heap ZB.out 4
              have f5 := Lib.frozen_of_heap ZB.out 5
              have f6 := Lib.frozen_of_heap ZB.out 6
              have f7 := Lib.frozen_of_heap ZB.out 7
              go_wp2_with fail
              have EB := Lib.hid (put8_heap ZB.out rfl (.string ⟨#[]⟩) (.string ⟨#[]⟩) (.int .i64 0) (.slice none 0 0) (.string ⟨#[]⟩) (.bool false) (.string ⟨#[]⟩) (.bool false))
              have XB := Lib.hid (put8_below (b := A) (XBK.out _ _ U9.out) (Nat.le_of_eq hA) (.string ⟨#[]⟩) (.string ⟨#[]⟩) (.int .i64 0) (.slice none 0 0) (.string ⟨#[]⟩) (.bool false) (.string ⟨#[]⟩) (.bool false))
              obtain ⟨e0, e1, e2, e3, e4, e5, e6, e7⟩ := cells8 EB.out
              unfold put8 at e0 e1 e2 e3 e4 e5 e6 e7
              refine bodyPost_ret (v := .tuple #[.agg zU, .int .i64 3]) (by simp [results, Tryz.results28, go_sem, e0, e1, e2, e3, e4, e5, e6, e7, zU]) rfl ?_
              exact ⟨rfl, XB.out⟩
            | true =>
              cases fo with
              | false =>
                have hr : R = .error 3 := HR2.out.symm
                subst hr
                clear HR2
                have ZB := Lib.hid (ZBK.out _ _ U9.out)
                obtain ⟨c0, c1, c2, c3, c4, c5, c6, c7⟩ := cells8 ZB.out
                have f0 := Lib.frozen_of_heap ZB.out 0
                have f1 := Lib.frozen_of_heap ZB.out 1
                have f2 := Lib.frozen_of_heap ZB.out 2
                have f3 := Lib.frozen_of_heap ZB.out 3
                have f4 := Lib.frozen_of_heap ZB.out 4
                have f5 := Lib.frozen_of_heap ZB.out 5
                have f6 := Lib.frozen_of_heap ZB.out 6
                have f7 := Lib.frozen_of_heap ZB.out 7
                go_wp2_with fail
                have EB := Lib.hid (put8_heap ZB.out rfl (.string ⟨#[]⟩) (.string ⟨#[]⟩) (.int .i64 0) (.slice none 0 0) (.string ⟨#[]⟩) (.bool false) (.string ⟨#[]⟩) (.bool false))
                have XB := Lib.hid (put8_below (b := A) (XBK.out _ _ U9.out) (Nat.le_of_eq hA) (.string ⟨#[]⟩) (.string ⟨#[]⟩) (.int .i64 0) (.slice none 0 0) (.string ⟨#[]⟩) (.bool false) (.string ⟨#[]⟩) (.bool false))
                obtain ⟨e0, e1, e2, e3, e4, e5, e6, e7⟩ := cells8 EB.out
                unfold put8 at e0 e1 e2 e3 e4 e5 e6 e7
                refine bodyPost_ret (v := .tuple #[.agg zU, .int .i64 3]) (by simp [results, Tryz.results28, go_sem, e0, e1, e2, e3, e4, e5, e6, e7, zU]) rfl ?_
                exact ⟨rfl, XB.out⟩
              | true =>
                cases so with
                | false =>
                  have hr : R = .error 3 := HR2.out.symm
                  subst hr
                  clear HR2
                  have ZB := Lib.hid (ZBK.out _ _ U9.out)
                  obtain ⟨c0, c1, c2, c3, c4, c5, c6, c7⟩ := cells8 ZB.out
                  have f0 := Lib.frozen_of_heap ZB.out 0
                  have f1 := Lib.frozen_of_heap ZB.out 1
                  have f2 := Lib.frozen_of_heap ZB.out 2
                  have f3 := Lib.frozen_of_heap ZB.out 3
                  have f4 := Lib.frozen_of_heap ZB.out 4
                  have f5 := Lib.frozen_of_heap ZB.out 5
                  have f6 := Lib.frozen_of_heap ZB.out 6
                  have f7 := Lib.frozen_of_heap ZB.out 7
                  go_wp2_with fail
                  have EB := Lib.hid (put8_heap ZB.out rfl (.string ⟨#[]⟩) (.string ⟨#[]⟩) (.int .i64 0) (.slice none 0 0) (.string ⟨#[]⟩) (.bool false) (.string ⟨#[]⟩) (.bool false))
                  have XB := Lib.hid (put8_below (b := A) (XBK.out _ _ U9.out) (Nat.le_of_eq hA) (.string ⟨#[]⟩) (.string ⟨#[]⟩) (.int .i64 0) (.slice none 0 0) (.string ⟨#[]⟩) (.bool false) (.string ⟨#[]⟩) (.bool false))
                  obtain ⟨e0, e1, e2, e3, e4, e5, e6, e7⟩ := cells8 EB.out
                  unfold put8 at e0 e1 e2 e3 e4 e5 e6 e7
                  refine bodyPost_ret (v := .tuple #[.agg zU, .int .i64 3]) (by simp [results, Tryz.results28, go_sem, e0, e1, e2, e3, e4, e5, e6, e7, zU]) rfl ?_
                  exact ⟨rfl, XB.out⟩
                | true =>
                    have hr := Lib.hid (show R = .ok ⟨sch, hst, port, tidyP ds, q, asksT ([] : Bs), f, pointsT ([] : Bs)⟩ from HR2.out.symm)
                    have HTD := Lib.hid (tidy_any da dc ds w9 O9.out (by have h1 : ds.length ≤ NP.length + 1 := HSL.out; have h2 := HNS.out; omega))
                    clear HR2
                    go_wp2_with fail
                    refine HTD.out.mono ?_
                    rintro e w10 ⟨tv, rfl, own10, hb10⟩
                    have U10 := Lib.hid (U9.out.call hb10)
                    have W9 := Lib.hid (XBK.out _ _ U9.out).size
                    have O10 := Lib.hid own10
                    obtain ⟨ta, tc, rfl⟩ := own_shape own10
                    clear own10 hb10 HTD U9
                    obtain ⟨c0, c1, c2, c3, c4, c5, c6, c7⟩ := cells8 U10.out.c
                    have f3 := Lib.frozen_of_heap U10.out.c 3
                    have U11 := Lib.hid (U10.out.set 3 (.slice ta (tidyP ds).length tc) (by simp))
                    have O11 := Lib.hid (O10.out.kept (Lib.grownBy_setB (gr_refl w10 (some (A + 1))) 3 (.slice ta (tidyP ds).length tc)) (.inr (row_block O10.out U10.out.c (by decide))))
                    go_upto_region 19 with fail
                    refine code_gen (Φ := fun wy => Hid (UB w1 wy (A + 1) #[.string (bs sch), .string (bs hst), .int .i64 port, .slice ta (tidyP ds).length tc, .string (bs q), .bool (asksT ([] : Bs)), .string (bs f), .bool (pointsT ([] : Bs))]) ∧ Hid (wy.ownsRow w9.heap.size 9 1 (.slice ta (tidyP ds).length tc) (tidyP ds).length ((tidyP ds).map sB))) ⟨U11, O11⟩ ?_
                    clear U11 O11 U10 O10 c0 c1 c2 c3 c4 c5 c6 c7 f3
                    rintro w11 ⟨U11, O11⟩
                    obtain ⟨c0, c1, c2, c3, c4, c5, c6, c7⟩ := cells8 U11.out.c
                    have ZB := Lib.hid (ZBK.out _ _ U11.out)
                    have g0 := Lib.frozen_of_heap ZB.out 0
                    have g1 := Lib.frozen_of_heap ZB.out 1
                    have g2 := Lib.frozen_of_heap ZB.out 2
                    have g3 := Lib.frozen_of_heap ZB.out 3
                    have g4 := Lib.frozen_of_heap ZB.out 4
                    have g5 := Lib.frozen_of_heap ZB.out 5
                    have g6 := Lib.frozen_of_heap ZB.out 6
                    have g7 := Lib.frozen_of_heap ZB.out 7
                    obtain ⟨d0, d1, d2, d3, d4, d5, d6, d7⟩ := cells8 ZB.out
                    go_wp2_with fail
                    have EB := Lib.hid (put8_heap ZB.out rfl (.string (bs sch)) (.string (bs hst)) (.int .i64 port) (.slice ta (tidyP ds).length tc) (.string (bs q)) (.bool (asksT ([] : Bs))) (.string (bs f)) (.bool (pointsT ([] : Bs))))
                    have XB := Lib.hid (put8_below (b := A) (XBK.out _ _ U11.out) (Nat.le_of_eq hA) (.string (bs sch)) (.string (bs hst)) (.int .i64 port) (.slice ta (tidyP ds).length tc) (.string (bs q)) (.bool (asksT ([] : Bs))) (.string (bs f)) (.bool (pointsT ([] : Bs))))
                    have OB := Lib.hid (O11.out.kept (put8_grown (gr_refl w11 (some A)) (.string (bs sch)) (.string (bs hst)) (.int .i64 port) (.slice ta (tidyP ds).length tc) (.string (bs q)) (.bool (asksT ([] : Bs))) (.string (bs f)) (.bool (pointsT ([] : Bs)))) (.inr (row_block O11.out ZB.out (by decide))))
                    obtain ⟨e0, e1, e2, e3, e4, e5, e6, e7⟩ := cells8 EB.out
                    unfold put8 at e0 e1 e2 e3 e4 e5 e6 e7
                    refine bodyPost_ret (v := .tuple #[.agg #[.string (bs sch), .string (bs hst), .int .i64 port, .slice ta (tidyP ds).length tc, .string (bs q), .bool (asksT ([] : Bs)), .string (bs f), .bool (pointsT ([] : Bs))], .int .i64 0]) (by simp [results, Tryz.results28, go_sem, e0, e1, e2, e3, e4, e5, e6, e7]) rfl ?_
                    rw [hr.out]
                    exact ⟨_, rfl, own_lower OB.out W9.out, XB.out⟩
        · obtain ⟨o, hoe⟩ : ∃ o : Nat, Lib.indexAny r endSet = o := ⟨(Lib.indexAny r endSet).toNat, by omega⟩
          obtain ⟨hle, hau, hre⟩ := HIA2.out o hoe
          have HAL := Lib.hid (show (authP r).length ≤ 500 by rw [hau, List.length_take]; have := HRL2.out; omega)
          have HRR := Lib.hid (show (restP r).length ≤ 500 by rw [hre, List.length_drop]; have := HRL2.out; omega)
          rw [hoe]
          have HYa := Lib.hid (show (bs r).extract 0 o = bs (authP r) by rw [bs_take r o, hau])
          have HXa := Lib.hid (show (bs r).extract o (bs r).size = bs (restP r) by rw [bs_drop r o, hre])
          have hz1 : o ≤ (bs r).size := by omega
          have hz2 : (o : Int) ≤ ((bs r).size : Int) := by omega
          clear hau hre ho hoe HIA1 HIA2 hge hle hrz
          generalize authP r = AU at *
          generalize restP r = RE at *
          generalize bs r = SR at *
          have HPL := Lib.hid (place_any (A + 1) sch (.string ⟨#[]⟩) (.slice none 0 0) (.string ⟨#[]⟩) (.bool false) (.string ⟨#[]⟩) (.bool false) AU w5 (TBK.out _ _ U5.out) AN.out U5.out.c HAL.out)
          rw [← HYa.out] at HPL
          go_wp2_with fail
          refine HPL.out.mono ?_
          intro e w6 hpl
          clear HPL
          cases hpp : placeP sch AU with
          | none =>
            rw [hpp] at hpl HR2
            obtain ⟨rfl, cs6, hu6⟩ := hpl
            have U6 := Lib.hid (UB.mk (hu6.g.trans' U5.out.g) hu6.c)
            have hr : R = .error 3 := HR2.out.symm
            subst hr
            clear HR2 hpp hu6 U5
            have ZB := Lib.hid (ZBK.out _ _ U6.out)
            obtain ⟨c0, c1, c2, c3, c4, c5, c6, c7⟩ := cells8 ZB.out
            have f0 := Lib.frozen_of_heap ZB.out 0
            have f1 := Lib.frozen_of_heap ZB.out 1
            have f2 := Lib.frozen_of_heap ZB.out 2
            have f3 := Lib.frozen_of_heap ZB.out 3
            have f4 := Lib.frozen_of_heap ZB.out 4
            have f5 := Lib.frozen_of_heap ZB.out 5
            have f6 := Lib.frozen_of_heap ZB.out 6
            have f7 := Lib.frozen_of_heap ZB.out 7
            go_wp2_with fail
            have EB := Lib.hid (put8_heap ZB.out rfl (.string ⟨#[]⟩) (.string ⟨#[]⟩) (.int .i64 0) (.slice none 0 0) (.string ⟨#[]⟩) (.bool false) (.string ⟨#[]⟩) (.bool false))
            have XB := Lib.hid (put8_below (b := A) (XBK.out _ _ U6.out) (Nat.le_of_eq hA) (.string ⟨#[]⟩) (.string ⟨#[]⟩) (.int .i64 0) (.slice none 0 0) (.string ⟨#[]⟩) (.bool false) (.string ⟨#[]⟩) (.bool false))
            obtain ⟨e0, e1, e2, e3, e4, e5, e6, e7⟩ := cells8 EB.out
            unfold put8 at e0 e1 e2 e3 e4 e5 e6 e7
            refine bodyPost_ret (v := .tuple #[.agg zU, .int .i64 3]) (by simp [results, Tryz.results28, go_sem, e0, e1, e2, e3, e4, e5, e6, e7, zU]) rfl ?_
            exact ⟨rfl, XB.out⟩
          | some x =>
            obtain ⟨hst, port⟩ := x
            rw [hpp] at hpl HR2
            obtain ⟨rfl, hu6⟩ := hpl
            have U6 := Lib.hid (UB.mk (hu6.g.trans' U5.out.g) hu6.c)
            clear hpp hu6 U5
            have HTL := Lib.hid (tail_any (A + 1) _ _ _ _ _ _ _ _ RE w6 U6.out.c (by have := HRR.out; omega))
            rw [← HXa.out] at HTL
            have HQT : Hid (queryT RE = if (cleanR (backC 63 (frontC 35 RE))).2 then some (cleanR (backC 63 (frontC 35 RE))).1 else none) := Lib.hid (clean_opt _)
            have HFT : Hid (fragT RE = if (cleanR (backC 35 RE)).2 then some (cleanR (backC 35 RE)).1 else none) := Lib.hid (clean_opt _)
            have HPA := Lib.hid (show (pathT RE).length ≤ 500 from Nat.le_trans (Nat.le_trans (front_len 63 _) (front_len 35 _)) HRR.out)
            rw [HQT.out, HFT.out] at HR2
            clear HQT HFT
            generalize cleanR (backC 63 (frontC 35 RE)) = CQ at *
            generalize cleanR (backC 35 RE) = CF at *
            generalize pathT RE = PA at *
            obtain ⟨q, qo⟩ := CQ
            obtain ⟨f, fo⟩ := CF
            go_wp2_with fail
            refine HTL.out.mono ?_
            rintro e w7 ⟨rfl, hu7⟩
            have U7 := Lib.hid (UB.mk (hu7.g.trans' U6.out.g) hu7.c)
            clear hu7 U6 HTL
            have HTP : Hid (∀ w9, Calls Tryz.prog 69 #[.string (bs PA), .string ⟨#[47]⟩] w9 fun e w' => e = .returned (.string (bs (noSl PA))) ∧ w' = w9) := Lib.hid (fun w9 => by
              have h := Tryz.strings_TrimPrefix (bs PA) ⟨#[47]⟩ w9
              rw [bs_list, show (⟨#[47]⟩ : ByteArray).data.toList = [47] from rfl, pre_one] at h
              exact h)
            have HNS := Lib.hid (show (noSl PA).length ≤ 500 by
              have := HPA.out
              unfold noSl
              split
              · rw [List.length_drop]; omega
              · exact this)
            have HSG := Lib.hid (fun w9 hT9 => segments_any (noSl PA) w9 hT9 (by have := HNS.out; omega))
            have HSO := Lib.hid (seg_opt (noSl PA))
            have HSL := Lib.hid (seg_len (noSl PA))
            rw [HSO.out] at HR2
            clear HSO
            generalize segO (noSl PA) = SO at *
            generalize noSl PA = NP at *
            obtain ⟨ds, so⟩ := SO
            go_wp2_with fail
            refine (HTP.out _).mono ?_
            rintro e w8 ⟨rfl, rfl⟩
            go_wp2_with fail
            refine (HSG.out _ (TBK.out _ _ U7.out)).mono ?_
            rintro e w9 ⟨dv, rfl, hown, hb9⟩
            have U9 := Lib.hid (U7.out.call hb9)
            have O9 := Lib.hid (own_str hown)
            obtain ⟨da, dc, rfl⟩ := own_shape hown
            clear hown hb9 U7 HTP HSG
            cases qo with
            | false =>
              have hr : R = .error 3 := HR2.out.symm
              subst hr
              clear HR2
              have ZB := Lib.hid (ZBK.out _ _ U9.out)
              obtain ⟨c0, c1, c2, c3, c4, c5, c6, c7⟩ := cells8 ZB.out
              have f0 := Lib.frozen_of_heap ZB.out 0
              have f1 := Lib.frozen_of_heap ZB.out 1
              have f2 := Lib.frozen_of_heap ZB.out 2
              have f3 := Lib.frozen_of_heap ZB.out 3
              have f4 := Lib.frozen_of_heap ZB.out 4
              have f5 := Lib.frozen_of_heap ZB.out 5
              have f6 := Lib.frozen_of_heap ZB.out 6
              have f7 := Lib.frozen_of_heap ZB.out 7
              go_wp2_with fail
              have EB := Lib.hid (put8_heap ZB.out rfl (.string ⟨#[]⟩) (.string ⟨#[]⟩) (.int .i64 0) (.slice none 0 0) (.string ⟨#[]⟩) (.bool false) (.string ⟨#[]⟩) (.bool false))
              have XB := Lib.hid (put8_below (b := A) (XBK.out _ _ U9.out) (Nat.le_of_eq hA) (.string ⟨#[]⟩) (.string ⟨#[]⟩) (.int .i64 0) (.slice none 0 0) (.string ⟨#[]⟩) (.bool false) (.string ⟨#[]⟩) (.bool false))
              obtain ⟨e0, e1, e2, e3, e4, e5, e6, e7⟩ := cells8 EB.out
              unfold put8 at e0 e1 e2 e3 e4 e5 e6 e7
              refine bodyPost_ret (v := .tuple #[.agg zU, .int .i64 3]) (by simp [results, Tryz.results28, go_sem, e0, e1, e2, e3, e4, e5, e6, e7, zU]) rfl ?_
              exact ⟨rfl, XB.out⟩
            | true =>
              cases fo with
              | false =>
                have hr : R = .error 3 := HR2.out.symm
                subst hr
                clear HR2
                have ZB := Lib.hid (ZBK.out _ _ U9.out)
                obtain ⟨c0, c1, c2, c3, c4, c5, c6, c7⟩ := cells8 ZB.out
                have f0 := Lib.frozen_of_heap ZB.out 0
                have f1 := Lib.frozen_of_heap ZB.out 1
                have f2 := Lib.frozen_of_heap ZB.out 2
                have f3 := Lib.frozen_of_heap ZB.out 3
                have f4 := Lib.frozen_of_heap ZB.out 4
                have f5 := Lib.frozen_of_heap ZB.out 5
                have f6 := Lib.frozen_of_heap ZB.out 6
                have f7 := Lib.frozen_of_heap ZB.out 7
                go_wp2_with fail
                have EB := Lib.hid (put8_heap ZB.out rfl (.string ⟨#[]⟩) (.string ⟨#[]⟩) (.int .i64 0) (.slice none 0 0) (.string ⟨#[]⟩) (.bool false) (.string ⟨#[]⟩) (.bool false))
                have XB := Lib.hid (put8_below (b := A) (XBK.out _ _ U9.out) (Nat.le_of_eq hA) (.string ⟨#[]⟩) (.string ⟨#[]⟩) (.int .i64 0) (.slice none 0 0) (.string ⟨#[]⟩) (.bool false) (.string ⟨#[]⟩) (.bool false))
                obtain ⟨e0, e1, e2, e3, e4, e5, e6, e7⟩ := cells8 EB.out
                unfold put8 at e0 e1 e2 e3 e4 e5 e6 e7
                refine bodyPost_ret (v := .tuple #[.agg zU, .int .i64 3]) (by simp [results, Tryz.results28, go_sem, e0, e1, e2, e3, e4, e5, e6, e7, zU]) rfl ?_
                exact ⟨rfl, XB.out⟩
              | true =>
                cases so with
                | false =>
                  have hr : R = .error 3 := HR2.out.symm
                  subst hr
                  clear HR2
                  have ZB := Lib.hid (ZBK.out _ _ U9.out)
                  obtain ⟨c0, c1, c2, c3, c4, c5, c6, c7⟩ := cells8 ZB.out
                  have f0 := Lib.frozen_of_heap ZB.out 0
                  have f1 := Lib.frozen_of_heap ZB.out 1
                  have f2 := Lib.frozen_of_heap ZB.out 2
                  have f3 := Lib.frozen_of_heap ZB.out 3
                  have f4 := Lib.frozen_of_heap ZB.out 4
                  have f5 := Lib.frozen_of_heap ZB.out 5
                  have f6 := Lib.frozen_of_heap ZB.out 6
                  have f7 := Lib.frozen_of_heap ZB.out 7
                  go_wp2_with fail
                  have EB := Lib.hid (put8_heap ZB.out rfl (.string ⟨#[]⟩) (.string ⟨#[]⟩) (.int .i64 0) (.slice none 0 0) (.string ⟨#[]⟩) (.bool false) (.string ⟨#[]⟩) (.bool false))
                  have XB := Lib.hid (put8_below (b := A) (XBK.out _ _ U9.out) (Nat.le_of_eq hA) (.string ⟨#[]⟩) (.string ⟨#[]⟩) (.int .i64 0) (.slice none 0 0) (.string ⟨#[]⟩) (.bool false) (.string ⟨#[]⟩) (.bool false))
                  obtain ⟨e0, e1, e2, e3, e4, e5, e6, e7⟩ := cells8 EB.out
                  unfold put8 at e0 e1 e2 e3 e4 e5 e6 e7
                  refine bodyPost_ret (v := .tuple #[.agg zU, .int .i64 3]) (by simp [results, Tryz.results28, go_sem, e0, e1, e2, e3, e4, e5, e6, e7, zU]) rfl ?_
                  exact ⟨rfl, XB.out⟩
                | true =>
                    have hr := Lib.hid (show R = .ok ⟨sch, hst, port, tidyP ds, q, asksT RE, f, pointsT RE⟩ from HR2.out.symm)
                    have HTD := Lib.hid (tidy_any da dc ds w9 O9.out (by have h1 : ds.length ≤ NP.length + 1 := HSL.out; have h2 := HNS.out; omega))
                    clear HR2
                    go_wp2_with fail
                    refine HTD.out.mono ?_
                    rintro e w10 ⟨tv, rfl, own10, hb10⟩
                    have U10 := Lib.hid (U9.out.call hb10)
                    have W9 := Lib.hid (XBK.out _ _ U9.out).size
                    have O10 := Lib.hid own10
                    obtain ⟨ta, tc, rfl⟩ := own_shape own10
                    clear own10 hb10 HTD U9
                    obtain ⟨c0, c1, c2, c3, c4, c5, c6, c7⟩ := cells8 U10.out.c
                    have f3 := Lib.frozen_of_heap U10.out.c 3
                    have U11 := Lib.hid (U10.out.set 3 (.slice ta (tidyP ds).length tc) (by simp))
                    have O11 := Lib.hid (O10.out.kept (Lib.grownBy_setB (gr_refl w10 (some (A + 1))) 3 (.slice ta (tidyP ds).length tc)) (.inr (row_block O10.out U10.out.c (by decide))))
                    go_upto_region 19 with fail
                    refine code_gen (Φ := fun wy => Hid (UB w1 wy (A + 1) #[.string (bs sch), .string (bs hst), .int .i64 port, .slice ta (tidyP ds).length tc, .string (bs q), .bool (asksT RE), .string (bs f), .bool (pointsT RE)]) ∧ Hid (wy.ownsRow w9.heap.size 9 1 (.slice ta (tidyP ds).length tc) (tidyP ds).length ((tidyP ds).map sB))) ⟨U11, O11⟩ ?_
                    clear U11 O11 U10 O10 c0 c1 c2 c3 c4 c5 c6 c7 f3
                    rintro w11 ⟨U11, O11⟩
                    obtain ⟨c0, c1, c2, c3, c4, c5, c6, c7⟩ := cells8 U11.out.c
                    have ZB := Lib.hid (ZBK.out _ _ U11.out)
                    have g0 := Lib.frozen_of_heap ZB.out 0
                    have g1 := Lib.frozen_of_heap ZB.out 1
                    have g2 := Lib.frozen_of_heap ZB.out 2
                    have g3 := Lib.frozen_of_heap ZB.out 3
                    have g4 := Lib.frozen_of_heap ZB.out 4
                    have g5 := Lib.frozen_of_heap ZB.out 5
                    have g6 := Lib.frozen_of_heap ZB.out 6
                    have g7 := Lib.frozen_of_heap ZB.out 7
                    obtain ⟨d0, d1, d2, d3, d4, d5, d6, d7⟩ := cells8 ZB.out
                    go_wp2_with fail
                    have EB := Lib.hid (put8_heap ZB.out rfl (.string (bs sch)) (.string (bs hst)) (.int .i64 port) (.slice ta (tidyP ds).length tc) (.string (bs q)) (.bool (asksT RE)) (.string (bs f)) (.bool (pointsT RE)))
                    have XB := Lib.hid (put8_below (b := A) (XBK.out _ _ U11.out) (Nat.le_of_eq hA) (.string (bs sch)) (.string (bs hst)) (.int .i64 port) (.slice ta (tidyP ds).length tc) (.string (bs q)) (.bool (asksT RE)) (.string (bs f)) (.bool (pointsT RE)))
                    have OB := Lib.hid (O11.out.kept (put8_grown (gr_refl w11 (some A)) (.string (bs sch)) (.string (bs hst)) (.int .i64 port) (.slice ta (tidyP ds).length tc) (.string (bs q)) (.bool (asksT RE)) (.string (bs f)) (.bool (pointsT RE))) (.inr (row_block O11.out ZB.out (by decide))))
                    obtain ⟨e0, e1, e2, e3, e4, e5, e6, e7⟩ := cells8 EB.out
                    unfold put8 at e0 e1 e2 e3 e4 e5 e6 e7
                    refine bodyPost_ret (v := .tuple #[.agg #[.string (bs sch), .string (bs hst), .int .i64 port, .slice ta (tidyP ds).length tc, .string (bs q), .bool (asksT RE), .string (bs f), .bool (pointsT RE)], .int .i64 0]) (by simp [results, Tryz.results28, go_sem, e0, e1, e2, e3, e4, e5, e6, e7]) rfl ?_
                    rw [hr.out]
                    exact ⟨_, rfl, own_lower OB.out W9.out, XB.out⟩
      · have hr : R = .error 3 := by rw [← HR2.out, if_neg h2]
        subst hr
        rw [decide_eq_false h2] at HCP
        clear HR2 h2 HPT
        go_wp2_with fail
        refine (HCP.out _).mono ?_
        rintro e w3 ⟨rfl, rfl⟩
        have ZB := Lib.hid (ZBK.out _ _ U2.out)
        obtain ⟨c0, c1, c2, c3, c4, c5, c6, c7⟩ := cells8 ZB.out
        have f0 := Lib.frozen_of_heap ZB.out 0
        have f1 := Lib.frozen_of_heap ZB.out 1
        have f2 := Lib.frozen_of_heap ZB.out 2
        have f3 := Lib.frozen_of_heap ZB.out 3
        have f4 := Lib.frozen_of_heap ZB.out 4
        have f5 := Lib.frozen_of_heap ZB.out 5
        have f6 := Lib.frozen_of_heap ZB.out 6
        have f7 := Lib.frozen_of_heap ZB.out 7
        go_wp2_with fail
        have EB := Lib.hid (put8_heap ZB.out rfl (.string ⟨#[]⟩) (.string ⟨#[]⟩) (.int .i64 0) (.slice none 0 0) (.string ⟨#[]⟩) (.bool false) (.string ⟨#[]⟩) (.bool false))
        have XB := Lib.hid (put8_below (b := A) (XBK.out _ _ U2.out) (Nat.le_of_eq hA) (.string ⟨#[]⟩) (.string ⟨#[]⟩) (.int .i64 0) (.slice none 0 0) (.string ⟨#[]⟩) (.bool false) (.string ⟨#[]⟩) (.bool false))
        obtain ⟨e0, e1, e2, e3, e4, e5, e6, e7⟩ := cells8 EB.out
        unfold put8 at e0 e1 e2 e3 e4 e5 e6 e7
        refine bodyPost_ret (v := .tuple #[.agg zU, .int .i64 3]) (by simp [results, Tryz.results28, go_sem, e0, e1, e2, e3, e4, e5, e6, e7, zU]) rfl ?_
        exact ⟨rfl, XB.out⟩
end Go.Proofs.YtjcejijdeohkgaaGreatDoor
