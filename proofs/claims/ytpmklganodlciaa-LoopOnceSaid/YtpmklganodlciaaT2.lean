/- What a loop is in memory; loop.numbers. -/
import Derived.Test.YtpmklganodlciaaT1
import Derived.Deep.AppendLies
import Derived.Laws.AppendOwn
namespace Go.Proofs.Ytpmklganodlciaa
open Go.RowKit

/-- A job. -/
structure Job where
  id : Int
  src : Int
  small : Bool
  call : ByteArray
  ak : Int
  an : Int
  as_ : ByteArray
def Job.c (j : Job) : List Value := [.int .i64 j.id, .int .i64 j.src, .bool j.small, .string j.call, .int .i64 j.ak, .int .i64 j.an, .string j.as_]
def Tim.c (t : Tim) : List Value := [.int .i64 t.id, .int .i64 t.at_, .int .i64 t.every, .int .i64 t.turn, .string t.call]
/-- A loop. -/
structure Lp where
  now : Int
  next : Int
  tasks : List Job
  smalls : List Job
  tims : List Tim
/-- A slice that reads as these items, each of so many cells. -/
def Sl {α : Type} (w : World) (enc : α → List Value) (size : Nat) (v : Value) (l : List α) : Prop :=
  ∃ a c, v = .slice a l.length c ∧ l.length ≤ c ∧ c ≤ maxLen ∧
    (0 < l.length → ∃ b o, a = some ⟨b, o, none⟩ ∧ b < w.heap.size ∧ ∀ k (hk : k < l.length) i, i < size → w.cell? ⟨b, o + k * size + i, none⟩ = (enc l[k])[i]?)
theorem Sl.below {α : Type} {w w' : World} {enc : α → List Value} {size : Nat} {v : Value} {l : List α} (h : Sl w enc size v l) (hb : Below w.heap.size w w') : Sl w' enc size v l := by
  obtain ⟨a, c, h1, h2, h3, h4⟩ := h
  refine ⟨a, c, h1, h2, h3, fun h0 => ?_⟩
  obtain ⟨b, o, h5, h6, h7⟩ := h4 h0
  exact ⟨b, o, h5, Nat.lt_of_lt_of_le h6 hb.size, fun k hk i hi => (World.cell?_of_block (a := ⟨b, _, none⟩) (hb.block b h6)).trans (h7 k hk i hi)⟩
structure LpAt (w : World) (q : Lp) (vt vs vm : Value) : Prop where
  t : Sl w Job.c 7 vt q.tasks
  s : Sl w Job.c 7 vs q.smalls
  m : Sl w Tim.c 5 vm q.tims
theorem LpAt.below {w w' : World} {q : Lp} {vt vs vm : Value} (h : LpAt w q vt vs vm) (hb : Below w.heap.size w w') : LpAt w' q vt vs vm := ⟨h.t.below hb, h.s.below hb, h.m.below hb⟩
def Lp.v (q : Lp) (vt vs vm : Value) : Value := .agg #[.int .i64 q.now, .int .i64 q.next, vt, vs, vm]
def Lp.nums (q : Lp) : List Int := q.tasks.map Job.id ++ q.smalls.map Job.id ++ q.tims.map Tim.id
def nV (n : Int) : Value := .int .i64 n

structure JobAt (w : World) (b x : Nat) (J : Job) : Prop where
  c0 : w.cell? ⟨b, x, none⟩ = some (.int .i64 J.id)
  c1 : w.cell? ⟨b, x + 1, none⟩ = some (.int .i64 J.src)
  c2 : w.cell? ⟨b, x + 2, none⟩ = some (.bool J.small)
  c3 : w.cell? ⟨b, x + 3, none⟩ = some (.string J.call)
  c4 : w.cell? ⟨b, x + 4, none⟩ = some (.int .i64 J.ak)
  c5 : w.cell? ⟨b, x + 5, none⟩ = some (.int .i64 J.an)
  c6 : w.cell? ⟨b, x + 6, none⟩ = some (.string J.as_)
structure TimAt (w : World) (b x : Nat) (T : Tim) : Prop where
  c0 : w.cell? ⟨b, x, none⟩ = some (.int .i64 T.id)
  c1 : w.cell? ⟨b, x + 1, none⟩ = some (.int .i64 T.at_)
  c2 : w.cell? ⟨b, x + 2, none⟩ = some (.int .i64 T.every)
  c3 : w.cell? ⟨b, x + 3, none⟩ = some (.int .i64 T.turn)
  c4 : w.cell? ⟨b, x + 4, none⟩ = some (.string T.call)
theorem jobAt_of {w : World} {b x : Nat} {J : Job} (h : ∀ i, i < 7 → w.cell? ⟨b, x + i, none⟩ = (Job.c J)[i]?) : JobAt w b x J :=
  ⟨h 0 (by omega), h 1 (by omega), h 2 (by omega), h 3 (by omega), h 4 (by omega), h 5 (by omega), h 6 (by omega)⟩
theorem timAt_of {w : World} {b x : Nat} {T : Tim} (h : ∀ i, i < 5 → w.cell? ⟨b, x + i, none⟩ = (Tim.c T)[i]?) : TimAt w b x T :=
  ⟨h 0 (by omega), h 1 (by omega), h 2 (by omega), h 3 (by omega), h 4 (by omega)⟩
/-- Item k of such a slice. -/
theorem Sl.job {w : World} {a : Option Addr} {n c : Nat} {l : List Job} (h : Sl w Job.c 7 (.slice a n c) l) (k : Nat) (hk : k < l.length) : ∃ b o, a = some ⟨b, o, none⟩ ∧ JobAt w b (o + k * 7) l[k] := by
  obtain ⟨a', c', h1, _, _, h4⟩ := h
  injection h1 with h1 _ _
  subst h1
  obtain ⟨b, o, h5, _, h7⟩ := h4 (by omega)
  exact ⟨b, o, h5, jobAt_of (h7 k hk)⟩
theorem Sl.tim {w : World} {a : Option Addr} {n c : Nat} {l : List Tim} (h : Sl w Tim.c 5 (.slice a n c) l) (k : Nat) (hk : k < l.length) : ∃ b o, a = some ⟨b, o, none⟩ ∧ TimAt w b (o + k * 5) l[k] := by
  obtain ⟨a', c', h1, _, _, h4⟩ := h
  injection h1 with h1 _ _
  subst h1
  obtain ⟨b, o, h5, _, h7⟩ := h4 (by omega)
  exact ⟨b, o, h5, timAt_of (h7 k hk)⟩
theorem int_info : (Try.prog.info? 3).map (fun i => (i.zero, i.size, i.bytes)) = some (some (.int .i64 0), 1, 8) := by kernel_rfl
theorem ix0 (a b : Value) (w : World) : Sem.run Try.prog (Instr.index 80 (Value.agg #[a, b]) (Value.int IntKind.i64 0)) w = .ok a w := by kernel_rfl
theorem ix1 (a b : Value) (w : World) : Sem.run Try.prog (Instr.index 80 (Value.agg #[a, b]) (Value.int IntKind.i64 1)) w = .ok b w := by kernel_rfl
theorem cell_new (x : Int) (t : TypeId) (w : World) : ∀ j u, [Value.int .i64 x][j]? = some u → (w.alloc (.cells #[.int .i64 x] t)).cell? ((⟨w.heap.size, 0, none⟩ : Addr).add j) = some u := World.news_of_block (heap_alloc_new w _)
theorem cell_new2 (x : Int) (t : TypeId) (w : World) (o : Obj) : ∀ j u, [Value.int .i64 x][j]? = some u → ((w.alloc o).alloc (.cells #[.int .i64 x] t)).cell? ((⟨w.heap.size + 1, 0, none⟩ : Addr).add j) = some u := by
  have := cell_new x t (w.alloc o)
  rwa [show (w.alloc o).heap.size = w.heap.size + 1 by simp] at this
theorem one_int (x : Int) : ∀ u ∈ [Value.int .i64 x], u.oneCell' = true := by intro u hu; simp at hu; subst hu; rfl
theorem al_le {B : Nat} {w : World} (h : B ≤ w.heap.size) (o : Obj) : B ≤ (w.alloc o).heap.size := Nat.le_trans h (World.grownBy_alloc _ _ none).size
/-- What holds at the heads of numbers' loops. -/
structure NX (w0 wr : World) (v : Value) (l : List Int) : Prop where
  own : wr.ownsRow w0.heap.size 3 1 v l.length (l.map nV)
  bl : Below w0.heap.size w0 wr
theorem NX.push {w0 wr w' : World} {v v' : Value} {l : List Int} (h : NX w0 wr v l) (o1 o2 : Obj) (x : Int) (hown : w'.ownsRow w0.heap.size 3 1 v' (l.length + 1) (l.map nV ++ [.int .i64 x])) (hg : ((wr.alloc o1).alloc o2).grownBy w' v.ownBlock) : NX w0 w' v' (l ++ [x]) := by
  have h1 : w0.heap.size ≤ (wr.alloc o1).heap.size := Nat.le_trans h.bl.size (World.grownBy_alloc _ _ none).size
  exact ⟨by simpa [nV] using hown, ((h.bl.alloc h.bl.size o1).alloc h1 o2).grown hg (Nat.le_trans h1 (World.grownBy_alloc _ _ none).size) (fun k hk => (h.own.lt k hk).1)⟩
theorem ids_snoc {α : Type} (f : α → Int) (l : List α) (k : Nat) (h : k < l.length) : (l.take (k + 1)).map f = (l.take k).map f ++ [f l[k]] := by
  rw [List.take_add_one, List.getElem?_eq_getElem h, List.map_append]; rfl
theorem own_shape {w : World} {B e size n : Nat} {v : Value} {xs : List Value} (h : w.ownsRow B e size v n xs) : ∃ a c, v = .slice a n c := by
  rcases h.2 with ⟨rfl, rfl⟩ | ⟨g, cap, cur, rfl, _⟩
  · exact ⟨_, _, rfl⟩
  · exact ⟨_, _, rfl⟩

theorem Below.le {B C : Nat} {w w' : World} (h : Below C w w') (hB : B ≤ C) : Below B w w' := ⟨h.os, h.tape, h.output, h.size, fun k hk => h.block k (Nat.lt_of_lt_of_le hk hB)⟩
theorem JobAt.below {w w' : World} {b x : Nat} {J : Job} (h : JobAt w b x J) (hb : Below w.heap.size w w') : JobAt w' b x J := by
  have hlt : b < w.heap.size := by
    rcases Nat.lt_or_ge b w.heap.size with h' | h'
    · exact h'
    · have := h.c0; simp [World.cell?, Array.getElem?_eq_none h'] at this
  have hc := fun o => World.cell?_of_block (a := ⟨b, o, none⟩) (hb.block b hlt)
  exact ⟨(hc _).trans h.c0, (hc _).trans h.c1, (hc _).trans h.c2, (hc _).trans h.c3, (hc _).trans h.c4, (hc _).trans h.c5, (hc _).trans h.c6⟩
theorem TimAt.below {w w' : World} {b x : Nat} {J : Tim} (h : TimAt w b x J) (hb : Below w.heap.size w w') : TimAt w' b x J := by
  have hlt : b < w.heap.size := by
    rcases Nat.lt_or_ge b w.heap.size with h' | h'
    · exact h'
    · have := h.c0; simp [World.cell?, Array.getElem?_eq_none h'] at this
  have hc := fun o => World.cell?_of_block (a := ⟨b, o, none⟩) (hb.block b hlt)
  exact ⟨(hc _).trans h.c0, (hc _).trans h.c1, (hc _).trans h.c2, (hc _).trans h.c3, (hc _).trans h.c4⟩

set_option maxRecDepth 100000 in
set_option maxHeartbeats 8000000 in
theorem numbers_any (now next : Int) (ts ss : List Job) (ms : List Tim) (at_ as_ am : Option Addr) (ct cs cm : Nat) (w : World) (h : LpAt w ⟨now, next, ts, ss, ms⟩ (.slice at_ ts.length ct) (.slice as_ ss.length cs) (.slice am ms.length cm))
    (h1 : ts.length ≤ 100) (h2 : ss.length ≤ 100) (h3 : ms.length ≤ 100) :
    Calls Try.prog 29 #[.agg #[.int .i64 now, .int .i64 next, .slice at_ ts.length ct, .slice as_ ss.length cs, .slice am ms.length cm]] w fun e w' => ∃ v', e = .returned v' ∧ w'.ownsRow (w.heap.size + 1) 3 1 v' (Lp.nums ⟨now, next, ts, ss, ms⟩).length ((Lp.nums ⟨now, next, ts, ss, ms⟩).map nV) ∧ Below w.heap.size w w' := by
  have HT : Hid (Sl w Job.c 7 (.slice at_ ts.length ct) ts) := Lib.hid h.t
  have HS : Hid (Sl w Job.c 7 (.slice as_ ss.length cs) ss) := Lib.hid h.s
  have HM : Hid (Sl w Tim.c 5 (.slice am ms.length cm) ms) := Lib.hid h.m
  clear h
  obtain ⟨i0, hi0, hz0, hz1, hz2⟩ := info_parts int_info
  go_enter Try.func29, Try.ntmps29
  go_wp2_with fail
  obtain ⟨w0, hw0, hbw, q4, hsz⟩ : ∃ w0, w0 = (w.alloc (.cells #[.int .i64 now, .int .i64 next, .slice at_ ts.length ct, .slice as_ ss.length cs, .slice am ms.length cm] 26)) ∧ Below w.heap.size w w0 ∧ w0.cell? ⟨w.heap.size, 4, none⟩ = some (.slice am ms.length cm) ∧ w0.heap.size = w.heap.size + 1 :=
    ⟨_, rfl, (Below.refl _ _).alloc (Nat.le_refl _) _, by go_simp, by simp⟩
  rw [← hw0]
  have HBW := Lib.hid hbw
  have Q4 := Lib.hid q4
  have SZ := Lib.hid hsz
  clear hw0 hbw q4 hsz
  go_loopg [3, 15] 2 (fun n v vk wr => ∃ k : Nat, n = 2 - k ∧ k ≤ 2 ∧ vk = .int .i64 (k : Int) ∧ NX w0 wr v (((if 1 ≤ k then ts.map Job.id else [])) ++ (if 2 ≤ k then ss.map Job.id else [])))
  case atStart => exact ⟨0, rfl, Nat.zero_le _, rfl, ⟨by simpa using World.ownsRow_nil w0 w0.heap.size 3 1, Below.refl _ _⟩⟩
  case round =>
    obtain ⟨k, hg, hk, rfl, hx⟩ := hrel
    obtain ⟨v, hv⟩ : ∃ v, v = u3 := ⟨_, rfl⟩
    subst hv
    have G := Lib.hid hg
    clear hg
    have H : k = 0 ∨ k = 1 ∨ k = 2 := by omega
    rcases H with rfl | rfl | rfl
    · have X : Hid (NX w0 wr v []) := Lib.hid (by simpa using hx)
      clear hx
      have hix := ix0 (.slice at_ ts.length ct) (.slice as_ ss.length cs)
      go_wp2_with fail
      clear hix
      go_loopg [3, 20] ts.length (fun n v vk wr => ∃ k : Nat, n = ts.length - k ∧ k ≤ ts.length ∧ vk = .int .i64 (k : Int) ∧ NX w0 wr v ([] ++ (ts.take k).map Job.id))
      case atStart => exact ⟨0, rfl, Nat.zero_le _, rfl, by simpa using X.out⟩
      case round =>
        obtain ⟨k, hg, hk, rfl, hx⟩ := hrel
        have G2 := Lib.hid hg
        obtain ⟨v, hv⟩ : ∃ v, v = u3 := ⟨_, rfl⟩
        subst hv
        obtain ⟨L, hL⟩ : ∃ L, [] ++ (ts.take k).map Job.id = L := ⟨_, rfl⟩
        rw [hL] at hx
        have X2 := Lib.hid hx
        have HL := Lib.hid hL
        have HN : Hid (L.length ≤ 300) := Lib.hid (by rw [← hL]; simp; omega)
        clear hL
        clear hg hx
        by_cases hlt : k < ts.length
        · have h1' : (k : Int) < (ts.length : Int) := by omega
          obtain ⟨b, o, rfl, hja⟩ := (HT.out).job k hlt
          have hsn := Lib.hid (ids_snoc Job.id ts k hlt)
          generalize ts[k] = J at *
          obtain ⟨id, src, small, call, ak, an, as1⟩ := J
          obtain ⟨c0, c1, c2, c3, c4, c5, c6⟩ := hja.below (HBW.out.trans (Below.le X2.out.bl HBW.out.size))
          simp only at c0 c1 c2 c3 c4 c5 c6
          go_wp2_with (at_builtin; refine wpList_append_own _ rfl (.tmp 24) (.tmp 27) 66 rfl w0.heap.size 3 i0 (.int .i64 0) 1 8 Try.underlying66 hi0 hz0 hz1 hz2 rfl (by decide) v _ _ rfl ((X2.out.own.alloc _).alloc _) ⟨_, 0, none⟩ 1 1 [.int .i64 id] rfl rfl (cell_new2 id _ _ _) (one_int id) (by unfold maxLen; have := HN.out; omega) (by have := HN.out; omega) (al_le (al_le X2.out.bl.size _) _) ?_)
          intro v' w2 hown hgrow _
          have X3 := Lib.hid (NX.push X2.out _ _ id hown hgrow)
          clear hown hgrow c0 c1 c2 c3 c4 c5 c6 hja
          go_wp2_with fail
          go_roundg (ts.length - (k + 1))
          case measure => rw [G2.out]; omega
          case rel => exact ⟨k + 1, rfl, by omega, by simp, by rw [hsn.out, ← List.append_assoc, HL.out]; exact X3.out⟩
        · have hke : k = ts.length := by omega
          have X4 : Hid (NX w0 wr v ([] ++ ts.map Job.id)) := Lib.hid (by have h5 := X2.out; have h6 := HL.out; rw [hke, List.take_length] at h6; rwa [← h6] at h5)
          clear X2
          go_wp2_with fail
          go_roundg 1
          case measure => rw [G.out]; omega
          case rel => exact ⟨1, rfl, by omega, rfl, by simpa using X4.out⟩
    · have X : Hid (NX w0 wr v (ts.map Job.id)) := Lib.hid (by simpa using hx)
      clear hx
      have hix := ix1 (.slice at_ ts.length ct) (.slice as_ ss.length cs)
      go_wp2_with fail
      clear hix
      go_loopg [3, 20] ss.length (fun n v vk wr => ∃ k : Nat, n = ss.length - k ∧ k ≤ ss.length ∧ vk = .int .i64 (k : Int) ∧ NX w0 wr v (ts.map Job.id ++ (ss.take k).map Job.id))
      case atStart => exact ⟨0, rfl, Nat.zero_le _, rfl, by simpa using X.out⟩
      case round =>
        obtain ⟨k, hg, hk, rfl, hx⟩ := hrel
        have G2 := Lib.hid hg
        obtain ⟨v, hv⟩ : ∃ v, v = u3 := ⟨_, rfl⟩
        subst hv
        obtain ⟨L, hL⟩ : ∃ L, ts.map Job.id ++ (ss.take k).map Job.id = L := ⟨_, rfl⟩
        rw [hL] at hx
        have X2 := Lib.hid hx
        have HL := Lib.hid hL
        have HN : Hid (L.length ≤ 300) := Lib.hid (by rw [← hL]; simp; omega)
        clear hL
        clear hg hx
        by_cases hlt : k < ss.length
        · have h1' : (k : Int) < (ss.length : Int) := by omega
          obtain ⟨b, o, rfl, hja⟩ := (HS.out).job k hlt
          have hsn := Lib.hid (ids_snoc Job.id ss k hlt)
          generalize ss[k] = J at *
          obtain ⟨id, src, small, call, ak, an, as1⟩ := J
          obtain ⟨c0, c1, c2, c3, c4, c5, c6⟩ := hja.below (HBW.out.trans (Below.le X2.out.bl HBW.out.size))
          simp only at c0 c1 c2 c3 c4 c5 c6
          go_wp2_with (at_builtin; refine wpList_append_own _ rfl (.tmp 24) (.tmp 27) 66 rfl w0.heap.size 3 i0 (.int .i64 0) 1 8 Try.underlying66 hi0 hz0 hz1 hz2 rfl (by decide) v _ _ rfl ((X2.out.own.alloc _).alloc _) ⟨_, 0, none⟩ 1 1 [.int .i64 id] rfl rfl (cell_new2 id _ _ _) (one_int id) (by unfold maxLen; have := HN.out; omega) (by have := HN.out; omega) (al_le (al_le X2.out.bl.size _) _) ?_)
          intro v' w2 hown hgrow _
          have X3 := Lib.hid (NX.push X2.out _ _ id hown hgrow)
          clear hown hgrow c0 c1 c2 c3 c4 c5 c6 hja
          go_wp2_with fail
          go_roundg (ss.length - (k + 1))
          case measure => rw [G2.out]; omega
          case rel => exact ⟨k + 1, rfl, by omega, by simp, by rw [hsn.out, ← List.append_assoc, HL.out]; exact X3.out⟩
        · have hke : k = ss.length := by omega
          have X4 : Hid (NX w0 wr v (ts.map Job.id ++ ss.map Job.id)) := Lib.hid (by have h5 := X2.out; have h6 := HL.out; rw [hke, List.take_length] at h6; rwa [← h6] at h5)
          clear X2
          go_wp2_with fail
          go_roundg 0
          case measure => rw [G.out]; omega
          case rel => exact ⟨2, rfl, by omega, rfl, by simpa using X4.out⟩
    · have X : Hid (NX w0 wr v (ts.map Job.id ++ ss.map Job.id)) := Lib.hid (by simpa using hx)
      clear hx
      have q4 : wr.cell? ⟨w.heap.size, 4, none⟩ = some (.slice am ms.length cm) := (World.cell?_of_block (a := ⟨w.heap.size, 4, none⟩) (X.out.bl.block w.heap.size (by rw [SZ.out]; omega))).trans Q4.out
      go_wp2_with fail
      go_loopg [3, 34] ms.length (fun n v vk wr => ∃ k : Nat, n = ms.length - k ∧ k ≤ ms.length ∧ vk = .int .i64 (k : Int) ∧ NX w0 wr v (ts.map Job.id ++ ss.map Job.id ++ (ms.take k).map Tim.id))
      case atStart => exact ⟨0, rfl, Nat.zero_le _, rfl, by simpa using X.out⟩
      case round =>
        obtain ⟨k, hg, hk, rfl, hx⟩ := hrel
        have G2 := Lib.hid hg
        obtain ⟨v, hv⟩ : ∃ v, v = u3 := ⟨_, rfl⟩
        subst hv
        obtain ⟨L, hL⟩ : ∃ L, ts.map Job.id ++ ss.map Job.id ++ (ms.take k).map Tim.id = L := ⟨_, rfl⟩
        rw [hL] at hx
        have X2 := Lib.hid hx
        have HL := Lib.hid hL
        have HN : Hid (L.length ≤ 300) := Lib.hid (by rw [← hL]; simp; omega)
        clear hL
        clear hg hx
        by_cases hlt : k < ms.length
        · have h1' : (k : Int) < (ms.length : Int) := by omega
          obtain ⟨b, o, rfl, hja⟩ := (HM.out).tim k hlt
          have hsn := Lib.hid (ids_snoc Tim.id ms k hlt)
          generalize ms[k] = J at *
          obtain ⟨id, ta, te, tt, call⟩ := J
          obtain ⟨c0, c1, c2, c3, c4⟩ := hja.below (HBW.out.trans (Below.le X2.out.bl HBW.out.size))
          simp only at c0 c1 c2 c3 c4
          go_wp2_with (at_builtin; refine wpList_append_own _ rfl (.tmp 38) (.tmp 41) 66 rfl w0.heap.size 3 i0 (.int .i64 0) 1 8 Try.underlying66 hi0 hz0 hz1 hz2 rfl (by decide) v _ _ rfl ((X2.out.own.alloc _).alloc _) ⟨_, 0, none⟩ 1 1 [.int .i64 id] rfl rfl (cell_new2 id _ _ _) (one_int id) (by unfold maxLen; have := HN.out; omega) (by have := HN.out; omega) (al_le (al_le X2.out.bl.size _) _) ?_)
          intro v' w2 hown hgrow _
          have X3 := Lib.hid (NX.push X2.out _ _ id hown hgrow)
          clear hown hgrow c0 c1 c2 c3 c4 hja
          go_wp2_with fail
          go_roundg (ms.length - (k + 1))
          case measure => rw [G2.out]; omega
          case rel => exact ⟨k + 1, rfl, by omega, by simp, by rw [hsn.out, ← List.append_assoc, HL.out]; exact X3.out⟩
        · have hke : k = ms.length := by omega
          have X4 : Hid (NX w0 wr v (ts.map Job.id ++ ss.map Job.id ++ ms.map Tim.id)) := Lib.hid (by have h5 := X2.out; have h6 := HL.out; rw [hke, List.take_length] at h6; rwa [← h6] at h5)
          clear X2
          go_wp2_with fail
          go_ret
          exact ⟨v, rfl, by have h := X4.out.own; rw [SZ.out] at h; exact h, HBW.out.trans (Below.le X4.out.bl HBW.out.size)⟩
end Go.Proofs.Ytpmklganodlciaa
