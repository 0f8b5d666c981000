/- slices.Insert of one timer. -/
import Derived.Test.YtpmklganodlciaaTA
import Derived.Laws.CopyRow
import Derived.Lib.Overlaps
import Derived.Deep.RegionLawGrows
namespace Go.Proofs.Ytpmklganodlciaa
open Go.RowKit

/-- copy into a row that is known whole, at items of any size. -/
theorem run_copy_items {P : Program} (w : World) (dT sT ty elem : TypeId) (g o dLen dCap : Nat) (a : Addr) (sLen sCap s : Nat) (cur : Array Value) (t : TypeId) (cs : List Value)
    (hu : P.underlying dT = some (.slice elem)) (hs : (P.info? elem).map (·.size) = some s)
    (hg : w.heap[g]? = some (.cells cur t (0, 0))) (hn : cs.length = Nat.min sLen dLen * s)
    (hsrc : ∀ j v, cs[j]? = some v → w.cell? (a.add j) = some v) (hfit : o + cs.length ≤ cur.size) (h1 : ∀ v ∈ cs, v.oneCell' = true) :
    (Builtin.copy_ #[dT, sT] ty #[.slice (some ⟨g, o, none⟩) dLen dCap, .slice (some a) sLen sCap]).run P w =
      .ok (goInt (Nat.min sLen dLen)) (w.setRow g (cur.toList.take o ++ cs ++ cur.toList.drop (o + cs.length)).toArray) := by
  have hl := run_loadCells_list (P := P) w a cs hsrc
  have hst := run_storeCells_at P g o t cs 0 cur w hg (by simpa using hfit) h1
  cases hq : P.info? elem with
  | none => simp [hq] at hs
  | some i =>
    have hi : i.size = s := by simpa [hq] using hs
    simp [Builtin.copy_, run_underlying hu, Builtin.lenOf, Builtin.firstCells, sizeOf, typeInfo, hq, hi, ← hn, hl, hst]
/-- Two copies make room for one item, and lay it. -/
theorem room_list (cur F T D : List Value) (i n : Nat) (hF : F.length = i * 5) (hT : T.length = 5) (hD : D.length = (n - i) * 5) (hi : i ≤ n) (hcur : cur.take (n * 5) = F ++ D) (hlen : (n + 1) * 5 ≤ cur.length) :
    ((cur.take ((i + 1) * 5) ++ D ++ cur.drop ((i + 1) * 5 + D.length)).take (i * 5) ++ T ++ (cur.take ((i + 1) * 5) ++ D ++ cur.drop ((i + 1) * 5 + D.length)).drop (i * 5 + T.length)).take ((n + 1) * 5) = F ++ T ++ D := by
  have h1 : (cur.take ((i + 1) * 5)).length = (i + 1) * 5 := by rw [List.length_take]; omega
  have hA : (cur.take ((i + 1) * 5) ++ D ++ cur.drop ((i + 1) * 5 + D.length)).take (i * 5) = F := by
    rw [List.append_assoc, List.take_append_of_le_length (by rw [h1]; omega), List.take_take, Nat.min_eq_left (by omega)]
    have e1 : cur.take (i * 5) = (cur.take (n * 5)).take (i * 5) := by rw [List.take_take, Nat.min_eq_left (Nat.mul_le_mul_right 5 hi)]
    rw [e1, hcur, List.take_append_of_le_length (by omega), List.take_of_length_le (by omega)]
  have hB : (cur.take ((i + 1) * 5) ++ D ++ cur.drop ((i + 1) * 5 + D.length)).drop (i * 5 + T.length) = D ++ cur.drop ((i + 1) * 5 + D.length) := by
    rw [List.append_assoc, show i * 5 + T.length = (cur.take ((i + 1) * 5)).length by rw [h1, hT]; omega, List.drop_left]
  rw [hA, hB, ← List.append_assoc, List.take_append_of_le_length (by simp only [List.length_append]; omega), List.take_of_length_le (by simp only [List.length_append]; omega)]
theorem own_of_row {w : World} {B e s g n cap : Nat} {xs : List Value} {cur : Array Value} (hB : B ≤ g) (hh : w.heap[g]? = some (.cells cur e (0, 0))) (hn : n ≤ cap) (hm : cap ≤ maxLen) (hs : cur.size = cap * s) (ht : cur.toList.take (n * s) = xs) (hx : xs.length = n * s) : w.ownsRow B e s (.slice (some ⟨g, 0, none⟩) n cap) n xs :=
  ⟨hx, .inr ⟨g, cap, cur, rfl, hB, hh, hn, hm, hs, ht⟩⟩

set_option maxRecDepth 100000 in
set_option maxHeartbeats 4000000 in
theorem ins_end (B i vb : Nat) (l : List Tim) (t : Tim) (v : Value) (w : World) (h : w.ownsRow B 49 5 v l.length (l.flatMap Tim.c)) (hi : i = l.length) (hl : l.length ≤ 1000) (hB : B ≤ w.heap.size)
    (hv : w.heap[vb]? = some (.cells #[.int .i64 t.id, .int .i64 t.at_, .int .i64 t.every, .int .i64 t.turn, .string t.call] 49 (0, 0))) :
    Calls Try.prog 50 #[v, .int .i64 (i : Int), .slice (some ⟨vb, 0, none⟩) 1 1] w fun e w' => ∃ v', e = .returned v' ∧ w'.ownsRow B 49 5 v' (l.length + 1) (l.flatMap Tim.c ++ Tim.c t) ∧ w.grownBy w' v.ownBlock ∧ (∀ k, v'.ownBlock = some k → v.ownBlock = some k ∨ w.heap.size ≤ k) := by
  obtain ⟨i0, hi0, hz0, hz1, hz2⟩ := info_parts tim_info
  obtain ⟨a, c, rfl⟩ := own_shape h
  have hnc : l.length ≤ c := by
    rcases h.2 with ⟨e1, e2⟩ | ⟨g', cap', cur, e1, e2, e3, e4, e5, _⟩
    · injection e1 with _ _ e3; omega
    · cases e1; exact e4
  have HO := Lib.hid h
  have HV := Lib.hid hv
  clear h hv
  subst hi
  have k1 : (l.length : Int) ≤ (c : Int) := by omega
  have k2 : (0 : Int) ≤ (l.length : Int) := by omega
  go_enter Try.func50, Try.ntmps50
  have HNW : Hid (∀ j u, (Tim.c t)[j]? = some u → w.cell? ((⟨vb, 0, none⟩ : Addr).add j) = some u) := Lib.hid (World.news_of_block HV.out)
  have h1c : ∀ u ∈ Tim.c t, u.oneCell' = true := by have := tim_one [t]; simpa using this
  have H1C := Lib.hid h1c
  clear h1c
  go_wp2_with (at_builtin; refine wpList_append_at _ rfl (.tmp 23) (.tmp 24) 24 rfl B 49 i0 zTim 5 48 Try.underlying24 hi0 hz0 hz1 hz2 rfl (by decide) _ _ _ rfl HO.out ⟨vb, 0, none⟩ 1 1 (Tim.c t) rfl rfl HNW.out H1C.out (by unfold maxLen; omega) (by omega) hB (by decide) ?_)
  all_goals
    intro v' w1 hown hgrow hat
    have XA := Lib.hid hat
    have XO := Lib.hid hown
    have XG := Lib.hid hgrow
    clear hown hgrow hat
    go_wp2_with fail
    go_ret
    exact ⟨_, rfl, XO.out, by have h9 := XG.out; revert h9; cases a <;> exact fun h9 => h9, by have h9 := XA.out; revert h9; cases a <;> exact fun h9 => h9⟩
end Go.Proofs.Ytpmklganodlciaa
