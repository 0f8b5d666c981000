/- Several texts in one: W22, W23, W24, Y1, T1, T2. -/
import Derived.Test.YtjcejijdeohkgaaGreatDoorW21
import Derived.Lib.AppendZerosOnto
/- W22. -/
namespace Go.Proofs.YtjcejijdeohkgaaGreatDoor

theorem unitsF_len : ∀ (f : Nat) (s : Bs) (us : List (UInt8 × Nat)), unitsF f s = some us → us.length ≤ s.length
  | f, [], us, h => by
    have : unitsF f [] = some [] := by cases f <;> rfl
    rw [this] at h
    injection h with h
    subst h
    exact Nat.le_refl _
  | 0, _ :: _, us, h => by cases h
  | f + 1, c :: r, us, h => by
    unfold unitsF at h
    split at h
    · cases h
    · rename_i h0
      obtain ⟨vs, h1, h2⟩ := Option.map_eq_some_iff.1 h
      have := unitsF_len f _ vs h1
      rw [← h2, List.length_cons]
      rw [List.length_drop] at this
      simp only [List.length_cons] at this ⊢
      omega
theorem dec_le {p d : Bs} (h : decP p = some d) : d.length ≤ p.length := by
  unfold decP units at h
  obtain ⟨us, h1, h2⟩ := Option.map_eq_some_iff.1 h
  rw [← h2, List.length_map]
  exact unitsF_len _ _ _ h1
theorem clean_le {p d : Bs} (h : cleanP p = some d) : d.length ≤ 3 * p.length := by
  unfold cleanP units at h
  obtain ⟨us, h1, h2⟩ := Option.map_eq_some_iff.1 h
  have h3 := unitsF_len _ _ _ h1
  have key : ∀ l : List (UInt8 × Nat), (l.flatMap clU).length ≤ 3 * l.length := by
    intro l
    induction l with
    | nil => exact Nat.le_refl _
    | cons u l ih =>
      have := clU_len u
      rw [List.flatMap_cons, List.length_append, List.length_cons]
      omega
  have := key us
  rw [← h2]
  omega
theorem segs_each : ∀ (l ds : List Bs) (n : Nat), segsP l = some ds → (∀ p ∈ l, p.length ≤ n) → ∀ d ∈ ds, d.length ≤ n
  | [], ds, n, h, _ => by
    rw [segsP] at h
    injection h with h
    subst h
    intro d hd
    cases hd
  | p :: ps, ds, n, h, hp => by
    rw [segs_cons] at h
    cases hd : decP p with
    | none => rw [hd] at h; cases h
    | some d =>
      rw [hd] at h
      obtain ⟨e, h1, h2⟩ := Option.map_eq_some_iff.1 h
      intro x hx
      rw [← h2] at hx
      rcases List.mem_cons.1 hx with rfl | hx
      · exact Nat.le_trans (dec_le hd) (hp p (by simp))
      · exact segs_each ps e n h1 (fun q hq => hp q (List.mem_cons_of_mem _ hq)) x hx
theorem tidyF_each (n : Nat) : ∀ (l out : List Bs), (∀ p ∈ l, p.length ≤ n) → (∀ p ∈ out, p.length ≤ n) → (∀ p ∈ tidyF out l, p.length ≤ n) ∧ (tidyF out l).length ≤ out.length + l.length
  | [], out, _, ho => by
    rw [tidyF_nil]
    exact ⟨ho, Nat.le_refl _⟩
  | s :: r, out, hl, ho => by
    have hr : ∀ p ∈ r, p.length ≤ n := fun p hp => hl p (List.mem_cons_of_mem _ hp)
    have hd : ∀ p ∈ (if s = [46, 46] then out.dropLast else out), p.length ≤ n := by
      split
      · exact fun p hp => ho p (List.dropLast_subset _ hp)
      · exact ho
    have hdl : (if s = [46, 46] then out.dropLast else out).length ≤ out.length := by
      split
      · rw [List.length_dropLast]; omega
      · exact Nat.le_refl _
    rw [tidyF_cons]
    split
    · split
      · have h := tidyF_each n r ((if s = [46, 46] then out.dropLast else out) ++ [[]]) hr (fun p hp => by
          rcases List.mem_append.1 hp with hp | hp
          · exact hd p hp
          · rw [List.mem_singleton] at hp
            subst hp
            exact Nat.zero_le _)
        refine ⟨h.1, Nat.le_trans h.2 ?_⟩
        rw [List.length_append, List.length_cons]
        simp only [List.length_cons, List.length_nil]
        omega
      · have h := tidyF_each n r _ hr hd
        refine ⟨h.1, Nat.le_trans h.2 ?_⟩
        rw [List.length_cons]
        omega
    · have h := tidyF_each n r (out ++ [s]) hr (fun p hp => by
        rcases List.mem_append.1 hp with hp | hp
        · exact ho p hp
        · rw [List.mem_singleton] at hp
          subst hp
          exact hl p (by simp))
      refine ⟨h.1, Nat.le_trans h.2 ?_⟩
      rw [List.length_append, List.length_cons]
      simp only [List.length_cons, List.length_nil]
      omega
theorem tidy_each {n : Nat} {l : List Bs} (hl : ∀ p ∈ l, p.length ≤ n) : (∀ p ∈ tidyP l, p.length ≤ n) ∧ (tidyP l).length ≤ l.length + 1 := by
  have h := tidyF_each n l [] hl (fun p hp => by cases hp)
  unfold tidyP
  split
  · refine ⟨fun p hp => ?_, by simp⟩
    rw [List.mem_singleton] at hp
    subst hp
    exact Nat.zero_le _
  · refine ⟨h.1, ?_⟩
    have := h.2
    simp only [List.length_nil] at this
    omega
/-- Bounds on the parts of an address. -/
structure Small (u : Ur) : Prop where
  s : u.sch.length ≤ 2000
  h : u.host.length ≤ 100
  p : 0 ≤ u.port ∧ u.port ≤ 65535
  l : ∀ x ∈ u.path, x.length ≤ 500
  n : u.path.length ≤ 1502
  q : u.query.length ≤ 1500
  f : u.frag.length ≤ 1500
theorem join_le (l : List Bs) (h : ∀ x ∈ l, x.length ≤ 500) : (joinT l).length ≤ 1501 * l.length := by
  induction l with
  | nil => exact Nat.le_refl _
  | cons p l ih =>
    have h1 := ih (fun x hx => h x (List.mem_cons_of_mem _ hx))
    have h2 := enc_len p
    have h3 := h p (by simp)
    have e : joinT (p :: l) = 47 :: (encP p ++ joinT l) := rfl
    rw [e]
    simp only [List.length_cons, List.length_append]
    omega
theorem Small.short {u : Ur} (h : Small u) : Short u := by
  refine ⟨by have := h.s; omega, by have := h.h; omega, h.p, fun x hx => by have := h.l x hx; omega, by have := h.n; omega, ?_⟩
  have h1 := join_le u.path h.l
  have h2 := h.n
  have h3 := h.s
  have h4 := h.h
  have h5 := h.q
  have h6 := h.f
  have h7 : (portT u.port).length ≤ 6 := by
    rcases Int.lt_or_le u.port 1 with h0 | h0
    · have : u.port = 0 := by have := h.p.1; omega
      rw [this]
      exact Nat.zero_le _
    · rw [portT_eq h0 h.p.2, List.length_cons]
      have := dec_len 4 u.port.toNat (by have := h.p.2; omega)
      omega
  have e : textP u = u.sch ++ ([58, 47, 47] ++ (u.host ++ portT u.port)) ++ (joinT u.path ++ ((if u.asks then 63 :: u.query else []) ++ (if u.points then 35 :: u.frag else []))) := rfl
  have h8 : (if u.asks then 63 :: u.query else []).length ≤ 1501 := by
    split
    · rw [List.length_cons]; omega
    · exact Nat.zero_le _
  have h9 : (if u.points then 35 :: u.frag else []).length ≤ 1501 := by
    split
    · rw [List.length_cons]; omega
    · exact Nat.zero_le _
  rw [e]
  simp only [List.length_append, List.length_cons, List.length_nil]
  omega
theorem host_len {h : Bs} (hh : hostP h = true) : h.length ≤ 100 := by
  unfold hostP at hh
  rw [Bool.and_eq_true] at hh
  exact of_decide_eq_true hh.1
theorem tail_small {s q f : Bs} {l : List Bs} (hs : s.length ≤ 500) (hq : queryT s = some q) (hf : fragT s = some f) (hl : segsP (splitC 47 (noSl (pathT s))) = some l) : q.length ≤ 1500 ∧ f.length ≤ 1500 ∧ (∀ p ∈ l, p.length ≤ 500) ∧ l.length ≤ 501 := by
  have h1 := clean_le hq
  have h2 := clean_le hf
  have h3 := back_len 63 (frontC 35 s)
  have h4 := front_len 35 s
  have h5 := back_len 35 s
  have h6 : (pathT s).length ≤ 500 := Nat.le_trans (Nat.le_trans (front_len 63 _) h4) hs
  have h7 : (noSl (pathT s)).length ≤ 500 := by
    unfold noSl
    split
    · rw [List.length_drop]; omega
    · exact h6
  refine ⟨by omega, by omega, segs_each _ _ 500 hl (fun p hp => Nat.le_trans (splitC_len 47 _ p hp) h7), ?_⟩
  have := segs_len _ _ hl
  have := splitC_count 47 (noSl (pathT s))
  omega
theorem parse_small {s : Bs} {u : Ur} (h : parseP s = .ok u) : Small u := by
  obtain ⟨hl, sch, r, h1, h2⟩ := parse_parts h
  have g := parse_good h
  obtain ⟨hr, hsc⟩ := sch_rest_len h1
  simp only [List.length_cons] at hr
  unfold parseB at h2
  split at h2
  · cases h2
  · rename_i hst port hp
    split at h2
    · rename_i q f l hq hf hs
      injection h2 with h2
      subst h2
      have hre : (restP r).length ≤ 500 := by
        unfold restP
        have := (List.dropWhile_sublist (l := r) (fun b => !endSet.contains b)).length_le
        omega
      obtain ⟨t1, t2, t3, t4⟩ := tail_small hre hq hf hs
      obtain ⟨t5, t6⟩ := tidy_each t3
      refine ⟨by simp only; omega, host_len g.host, ?_, t5, by simp only; omega, t1, t2⟩
      rcases g.port with h0 | ⟨h0, h9, _⟩
      · exact ⟨by rw [h0]; decide, by rw [h0]; decide⟩
      · exact ⟨by omega, h9⟩
    · cases h2
theorem beside_small {b u : Ur} {s : Bs} (hb : Small b) (hn : b.path.length ≤ 502) (hs : s.length ≤ 500) (g : Good u) (h : besideP b s = .ok u) : Small u := by
  unfold besideP at h
  split at h
  · rename_i q f l hq hf hl
    obtain ⟨t1, t2, t3, t4⟩ := tail_small hs hq hf hl
    split at h
    · injection h with h
      subst h
      refine ⟨hb.s, hb.h, hb.p, hb.l, hb.n, ?_, t2⟩
      simp only
      split
      · exact t1
      · exact hb.q
    · split at h
      · injection h with h
        subst h
        obtain ⟨t5, t6⟩ := tidy_each t3
        exact ⟨hb.s, hb.h, hb.p, t5, by simp only; omega, t1, t2⟩
      · injection h with h
        subst h
        obtain ⟨t5, t6⟩ := tidy_each (n := 500) (l := b.path.dropLast ++ l) (fun p hp => by
          rcases List.mem_append.1 hp with hp | hp
          · exact hb.l p (List.dropLast_subset _ hp)
          · exact t3 p hp)
        rw [List.length_append, List.length_dropLast] at t6
        exact ⟨hb.s, hb.h, hb.p, t5, by simp only; omega, t1, t2⟩
  · cases h
end Go.Proofs.YtjcejijdeohkgaaGreatDoor
/- W23. -/
namespace Go.Proofs.YtjcejijdeohkgaaGreatDoor
open Go.RowKit

theorem parse_path {s : Bs} {u : Ur} (h : parseP s = .ok u) : u.path.length ≤ 502 := by
  obtain ⟨hl, sch, r, h1, h2⟩ := parse_parts h
  obtain ⟨hr, hsc⟩ := sch_rest_len h1
  simp only [List.length_cons] at hr
  unfold parseB at h2
  split at h2
  · cases h2
  · split at h2
    · rename_i q f l hq hf hs
      injection h2 with h2
      subst h2
      have hre : (restP r).length ≤ 500 := by
        unfold restP
        have := (List.dropWhile_sublist (l := r) (fun b => !endSet.contains b)).length_le
        omega
      obtain ⟨t1, t2, t3, t4⟩ := tail_small hre hq hf hs
      obtain ⟨t5, t6⟩ := tidy_each t3
      simp only
      omega
    · cases h2
theorem parse_err {s : Bs} {x : Int} (h : parseP s = .error x) : x = 2 ∨ x = 3 := by
  unfold parseP at h
  split at h
  · injection h with h; exact .inl h.symm
  · split at h
    · injection h with h; exact .inr h.symm
    · split at h
      · unfold parseB at h
        split at h
        · injection h with h; exact .inr h.symm
        · split at h
          · cases h
          · injection h with h; exact .inr h.symm
      · injection h with h; exact .inr h.symm
def orgR (s : Bs) : Bs × Int := match originP s with
  | .ok o => (o, 0)
  | .error x => ([], x)
set_option maxRecDepth 100000 in
set_option maxHeartbeats 8000000 in
theorem org_any (l : Bs) (w : World) (hT : TB w) : Calls Tryz.prog 23 #[.string (bs l)] w fun e w' => e = .returned (.tuple #[.string (bs (orgR l).1), .int .i64 (orgR l).2]) ∧ Below w.heap.size w w' := by
  have p28 := call28
  have p60 := call60
  have HP := Lib.hid (parse_any l w hT)
  have HTB := Lib.hid hT
  obtain ⟨R, hR⟩ : ∃ R, orgR l = R := ⟨_, rfl⟩
  rw [hR]
  unfold orgR originP at hR
  have HR := Lib.hid hR
  clear hR hT
  go_enter Tryz.func23, Tryz.ntmps23
  go_wp2_with fail
  refine HP.out.mono ?_
  intro e w1 hp
  clear HP
  cases hpl : parseP l with
  | error x =>
    rw [hpl] at hp HR
    obtain ⟨rfl, hb⟩ := hp
    have X := Lib.hid hb
    have hx := parse_err hpl
    have hxb : (x == 0) = false := by rw [beq_eq_false_iff_ne]; omega
    have hxn : ¬ x = 0 := by omega
    have HV := Lib.hid (show R = ([], x) from HR.out.symm)
    clear hb hx hpl HR
    unfold zU
    go_wp2_with fail
    go_ret2
    rw [HV.out]
    exact ⟨rfl, X.out.alloc X.out.size _⟩
  | ok u =>
    rw [hpl] at hp HR
    obtain ⟨pv, rfl, hown, hb⟩ := hp
    have X := Lib.hid hb
    have S := Lib.hid (parse_small hpl)
    have HV := Lib.hid (show R = (origP u, 0) from HR.out.symm)
    obtain ⟨va, vc, rfl⟩ := own_shape hown
    have HO := Lib.hid (fun (w9 : World) (hb9 : Below w.heap.size w w9) => origin_any u (.slice va u.path.length vc) w9 (HTB.out.below hb9) (by have := S.out.s; omega) (by have := S.out.h; omega) S.out.p ⟨_, _, _, rfl⟩)
    have HB2 := Lib.hid (fun o => X.out.alloc X.out.size o)
    clear hb hpl HR hown
    obtain ⟨sch, host, port, path, query, asks, frag, points⟩ := u
    show _
    simp only [Ur.v] at HO ⊢
    go_wp2_with fail
    refine (HO.out _ (HB2.out _)).mono ?_
    rintro e w2 ⟨rfl, hb2⟩
    have Y := Lib.hid ((HB2.out (.cells #[.string (bs sch), .string (bs host), .int .i64 port, .slice va path.length vc, .string (bs query), .bool asks, .string (bs frag), .bool points] 47)).trans (Below.le hb2 (al_le X.out.size _)))
    clear hb2
    go_wp2_with fail
    go_ret2
    rw [HV.out]
    exact ⟨rfl, Y.out⟩
end Go.Proofs.YtjcejijdeohkgaaGreatDoor
/- W24. -/
namespace Go.Proofs.YtjcejijdeohkgaaGreatDoor
open Go.RowKit

theorem call119 (args : Array Value) (w : World) : Sem.run Tryz.prog (callFunc 119 args) w = .ok (.enter 119 args) w := by go_simp
theorem call95 (args : Array Value) (w : World) : Sem.run Tryz.prog (callFunc 95 args) w = .ok (.enter 95 args) w := by go_simp
set_option maxRecDepth 100000 in
set_option maxHeartbeats 4000000 in
theorem grow_any (n : Nat) (hn : n ≤ 4194304) (w : World) : Calls Tryz.prog 119 #[.slice none 0 0, .int .i64 n] w fun e w' => ∃ v, e = .returned v ∧ w'.ownsRow w.heap.size 9 1 v 0 [] ∧ Below w.heap.size w w' := by
  obtain ⟨i0, hi0, hz0, hz1, hz2⟩ := info_parts str_info
  by_cases h0 : n = 0
  · subst h0
    go_enter Tryz.func119, Tryz.ntmps119
    go_wp2_with fail
    go_ret
    exact ⟨_, rfl, World.ownsRow_nil _ _ _ _, Below.refl _ _⟩
  · have hr : ∀ ty, (Builtin.append_ #[38, 3] ty #[.slice none 0 0, .int .i64 (n : Int)]).run Tryz.prog w =
      .ok (.slice (some ⟨w.heap.size, 0, none⟩) n (grownCap w n 0 9)) (w.drew.alloc (.cells (#[] ++ Builtin.zeroCells (Value.string ⟨#[]⟩).cells n ++ Builtin.zeroCells (Value.string ⟨#[]⟩).cells (grownCap w n 0 9 - n)) 9)) := fun ty => by
      have h := Lib.run_append_grow_zeros (P := Tryz.prog) w 38 3 ty 9 i0 (.string ⟨#[]⟩) .i64 .i64 Tryz.underlying38 Tryz.underlying3 hi0 hz0 none 0 0 [] (run_firstCells_none w.drew i0.size 0 0 0) n (by omega) (by omega) (by omega) (by omega) (by rw [hz2]; omega)
        (growslice_fits (by omega) (by rw [hz2]; omega))
      simpa using h
    have hge : n ≤ grownCap w n 0 9 := grownCap_ge w _ _ _
    have hle := grownCap_le_maxLen w n 0 9 (by unfold maxLen; omega)
    obtain ⟨G, hG⟩ : ∃ G, G = grownCap w n 0 9 := ⟨_, rfl⟩
    rw [← hG] at hr hge hle
    clear hG
    have hni : ¬ ((n : Int) < 0) := by omega
    have hn0 : (n : Int) > 0 := by omega
    have hle2 : G ≤ 9223372036854775807 := by unfold maxLen at hle; omega
    have h3 : wrap64 (n : Int) = (n : Int) := by unfold wrap64; omega
    have h4 : IntKind.i64.wrap (n : Int) = (n : Int) := by rw [IntKind.wrap_i64]; omega
    have HN := Lib.hid hn
    have HG := Lib.hid hge
    have HM := Lib.hid hle
    clear hn hge hle hi0 hz0 hz1 hz2
    go_enter Tryz.func119, Tryz.ntmps119
    go_wp2_with (at_builtin; refine Lib.wpList_append_run _ rfl _ _ _ _ rfl _ _ rfl rfl _ _ (hr _) ?_)
    go_ret
    refine ⟨_, rfl, ⟨rfl, .inr ⟨w.heap.size, G, _, rfl, Nat.le_refl _, alloc_at (w := w.drew) rfl _, Nat.zero_le _, HM.out, ?_, rfl⟩⟩, ?_⟩
    · simp only [Array.size_append, size_zeroCells]
      have := HG.out
      simp
      omega
    · have hb : Below w.heap.size w (w.alloc (.cells (Builtin.zeroCells #[.string ⟨#[]⟩] n ++ Builtin.zeroCells #[.string ⟨#[]⟩] (G - n)) 9)) := (Below.refl _ _).alloc (Nat.le_refl _) _
      exact ⟨hb.os, hb.tape, hb.output, hb.size, hb.block⟩
theorem str_cells {w : World} {a : Addr} {n c : Nat} {l : List Bs} (h : SlR w StrB 1 (.slice (some a) n c) l) : ∀ j u, (l.map sB)[j]? = some u → w.cell? (a.add j) = some u := by
  intro j u hu
  rw [List.getElem?_map] at hu
  obtain ⟨x, h1, rfl⟩ := Option.map_eq_some_iff.1 hu
  obtain ⟨hj, rfl⟩ := List.getElem?_eq_some_iff.1 h1
  obtain ⟨b, o, e1, h2⟩ := h.item j hj
  injection e1 with e1
  subst e1
  have h3 : w.cell? ⟨b, o + j * 1, none⟩ = some (.string (bs l[j])) := h2
  rw [Nat.mul_one] at h3
  show w.cell? (Addr.add ⟨b, o, none⟩ j) = some (sB l[j])
  unfold Addr.add
  split
  · rename_i h0; subst h0; exact h3
  · exact h3
theorem kc' {w w' : World} {p : Addr} {v : Value} (hb : Below w.heap.size w w') (h : w.cell? p = some v) : w'.cell? p = some v := by
  have hlt : p.block < w.heap.size := by
    rcases Nat.lt_or_ge p.block w.heap.size with h' | h'
    · exact h'
    · unfold World.cell? at h; rw [Array.getElem?_eq_none h'] at h; cases h
  unfold World.cell? at h ⊢
  rw [hb.block _ hlt]
  exact h
theorem one_strs (l : List Bs) : ∀ u ∈ l.map sB, u.oneCell' = true := by
  intro u hu
  obtain ⟨x, _, rfl⟩ := List.mem_map.1 hu
  rfl
set_option maxRecDepth 100000 in
set_option maxHeartbeats 4000000 in
theorem concat_any (A : Nat) (a1 a2 : Addr) (c1 c2 : Nat) (l1 l2 : List Bs) (w : World) (h1 : w.cell? ⟨A, 0, none⟩ = some (.slice (some a1) l1.length c1)) (h2 : w.cell? ⟨A, 1, none⟩ = some (.slice (some a2) l2.length c2))
    (s1 : SlR w StrB 1 (.slice (some a1) l1.length c1) l1) (s2 : SlR w StrB 1 (.slice (some a2) l2.length c2) l2) (hl1 : l1.length ≤ 1048576) (hl2 : l2.length ≤ 1048576) :
    Calls Tryz.prog 95 #[.slice (some ⟨A, 0, none⟩) 2 2] w fun e w' => ∃ v, e = .returned v ∧ w'.ownsRow w.heap.size 9 1 v (l1 ++ l2).length ((l1 ++ l2).map sB) ∧ Below w.heap.size w w' := by
  obtain ⟨i0, hi0, hz0, hz1, hz2⟩ := info_parts str_info
  have p119 := call119
  have cs1 := Lib.hid (str_cells s1)
  have cs2 := Lib.hid (str_cells s2)
  have H1 := Lib.hid hl1
  have H2 := Lib.hid hl2
  have hw1 : IntKind.i64.wrap (l1.length : Int) = (l1.length : Int) := by rw [IntKind.wrap_i64]; omega
  have hw2 : IntKind.i64.wrap ((l1.length : Int) + (l2.length : Int)) = (l1.length : Int) + (l2.length : Int) := by rw [IntKind.wrap_i64]; omega
  have hn1 : ¬ ((l1.length : Int) < 0) := by omega
  have hn2 : ¬ ((l1.length : Int) + (l2.length : Int) < 0) := by omega
  have HGR := Lib.hid (grow_any (l1.length + l2.length) (by omega) w)
  have hcast : ((l1.length + l2.length : Nat) : Int) = (l1.length : Int) + (l2.length : Int) := by omega
  rw [hcast] at HGR
  have LN : Hid (((l1 ++ l2).length = l1.length + l2.length) ∧ (l1 ++ l2).map sB = l1.map sB ++ l2.map sB) := Lib.hid ⟨by simp, by simp⟩
  rw [LN.out.1, LN.out.2]
  clear s1 s2 hl1 hl2 hcast LN
  go_enter Tryz.func95, Tryz.ntmps95
  go_wp2_with fail
  go_loopg [11, 3] 2 (fun n vk v3 wr => ∃ k : Nat, n = 2 - k ∧ k ≤ 2 ∧ vk = .int .i64 (k : Int) ∧ v3 = .int .i64 (if k = 0 then 0 else if k = 1 then (l1.length : Int) else (l1.length : Int) + (l2.length : Int)) ∧ wr = w)
  case atStart => exact ⟨0, rfl, by omega, rfl, rfl, rfl⟩
  case round =>
    obtain ⟨k, hg, hk, rfl, rfl, hwr⟩ := hrel
    have hwr' := hwr.symm
    clear hwr
    subst hwr'
    have G := Lib.hid hg
    clear hg
    obtain rfl | rfl | rfl : k = 0 ∨ k = 1 ∨ k = 2 := by omega
    · go_wp2_with fail
      go_roundg 1
      case measure => rw [G.out]; omega
      case rel => exact ⟨1, rfl, by omega, by simp, by simp, rfl⟩
    · go_wp2_with fail
      go_roundg 0
      case measure => rw [G.out]; omega
      case rel => exact ⟨2, rfl, by omega, by simp, by simp, rfl⟩
    · clear G
      go_wp2_with fail
      refine HGR.out.mono ?_
      rintro e w1 ⟨v, rfl, hown, hb⟩
      have O := Lib.hid hown
      have X := Lib.hid hb
      clear hown hb HGR
      obtain ⟨ga, gc, rfl⟩ := own_shape O.out
      go_wp2_with fail
      go_loopg [27, 6] 2 (fun n vk v3 wr => ∃ (k : Nat) (out : List Value), n = 2 - k ∧ k ≤ 2 ∧ vk = .int .i64 (k : Int) ∧ out = (if k = 0 then [] else if k = 1 then l1.map sB else l1.map sB ++ l2.map sB) ∧ wr.ownsRow w.heap.size 9 1 v3 out.length out ∧ Below w.heap.size w wr)
      case atStart => exact ⟨0, [], rfl, by omega, rfl, rfl, O.out, X.out⟩
      case round =>
        obtain ⟨k, out, hg, hk, rfl, ho, hown, hb⟩ := hrel
        obtain ⟨ov, hov⟩ : ∃ v, v = u6 := ⟨_, rfl⟩
        subst hov
        have G := Lib.hid hg
        have OO := Lib.hid ho
        have O5 := Lib.hid hown
        have Y := Lib.hid hb
        have x1 := kc Y.out h1
        have x2 := kc Y.out h2
        clear hg ho hown hb
        obtain rfl | rfl | rfl : k = 0 ∨ k = 1 ∨ k = 2 := by omega
        · have ho := OO.out
          simp only [if_true] at ho
          subst ho
          go_wp2_with (at_builtin; refine wpList_append_own _ rfl _ _ 38 rfl w.heap.size 9 i0 (.string ⟨#[]⟩) 1 16 Tryz.underlying38 hi0 hz0 hz1 hz2 rfl (by decide) _ _ _ rfl O5.out a1 l1.length c1 (l1.map sB) rfl (by simp) (fun j u hu => kc' Y.out (cs1.out j u hu)) (one_strs l1) (by have := H1.out; unfold maxLen; simp only [List.length_nil]; omega) (by have := H1.out; simp only [List.length_nil]; omega) Y.out.size ?_)
          intro v' w5 hown' hgrow _
          have Y5 := Lib.hid (Y.out.grown hgrow Y.out.size (fun k hk => (O5.out.lt k hk).1))
          have O6 : Hid (w5.ownsRow w.heap.size 9 1 v' (l1.map sB).length (l1.map sB)) := Lib.hid (by simpa using hown')
          clear hown' hgrow O5 Y
          go_wp2_with fail
          go_roundg 1
          case measure => rw [G.out]; omega
          case rel => exact ⟨1, _, rfl, by omega, by simp, rfl, O6.out, Y5.out⟩
        · have ho := OO.out
          simp only [if_true, if_neg (show ¬ (1 = 0) by decide)] at ho
          subst ho
          go_wp2_with (at_builtin; refine wpList_append_own _ rfl _ _ 38 rfl w.heap.size 9 i0 (.string ⟨#[]⟩) 1 16 Tryz.underlying38 hi0 hz0 hz1 hz2 rfl (by decide) _ _ _ rfl O5.out a2 l2.length c2 (l2.map sB) rfl (by simp) (fun j u hu => kc' Y.out (cs2.out j u hu)) (one_strs l2) (by have := H1.out; have := H2.out; unfold maxLen; simp only [List.length_map]; omega) (by have := H1.out; have := H2.out; simp only [List.length_map]; omega) Y.out.size ?_)
          intro v' w5 hown' hgrow _
          have Y5 := Lib.hid (Y.out.grown hgrow Y.out.size (fun k hk => (O5.out.lt k hk).1))
          have O6 : Hid (w5.ownsRow w.heap.size 9 1 v' (l1.map sB ++ l2.map sB).length (l1.map sB ++ l2.map sB)) := Lib.hid (by simpa using hown')
          clear hown' hgrow O5 Y
          go_wp2_with fail
          go_roundg 0
          case measure => rw [G.out]; omega
          case rel => exact ⟨2, _, rfl, by omega, by simp, rfl, O6.out, Y5.out⟩
        · have ho := OO.out
          simp only [if_neg (show ¬ (2 = 0) by decide), if_neg (show ¬ (2 = 1) by decide)] at ho
          subst ho
          go_wp2_with fail
          go_ret
          refine ⟨_, rfl, ?_, Y.out⟩
          have := O5.out
          rwa [List.length_append, List.length_map, List.length_map] at this
end Go.Proofs.YtjcejijdeohkgaaGreatDoor
/- Y1. -/
namespace Go.Proofs.YtjcejijdeohkgaaGreatDoor

def resR (b r : Bs) : Bs × Int := match resolveP b r with
  | .ok s => (s, 0)
  | .error x => ([], x)
theorem beside_err {b : Ur} {s : Bs} {x : Int} (h : besideP b s = .error x) : x = 3 := by
  unfold besideP at h
  split at h
  · split at h
    · cases h
    · split at h <;> cases h
  · injection h with h; exact h.symm
theorem aim_err {b : Ur} {r : Bs} {x : Int} (h : aimP b r = .error x) : x = 2 ∨ x = 3 := by
  unfold aimP at h
  split at h
  · exact parse_err h
  · split at h
    · exact parse_err h
    · exact .inr (beside_err h)
theorem res_err {b r : Bs} {x : Int} (h : resolveP b r = .error x) : x = 2 ∨ x = 3 := by
  unfold resolveP at h
  split at h
  · rename_i hp
    injection h with h
    subst h
    exact parse_err hp
  · split at h
    · injection h with h; exact .inl h.symm
    · split at h
      · rename_i ha
        injection h with h
        subst h
        exact aim_err ha
      · split at h
        · injection h with h; exact .inl h.symm
        · cases h
theorem resR_ok {b r : Bs} (h : (resR b r).2 = 0) : resolveP b r = .ok (resR b r).1 := by
  unfold resR at h ⊢
  cases hp : resolveP b r with
  | ok s => rfl
  | error x =>
    rw [hp] at h
    have := res_err hp
    simp only at h
    omega
theorem resR_of {b r s : Bs} (h : resolveP b r = .ok s) : resR b r = (s, 0) := by
  unfold resR
  rw [h]
theorem resR_bad {b r : Bs} (h : ¬ (resR b r).2 = 0) : (resR b r).1 = [] := by
  unfold resR at h ⊢
  cases hp : resolveP b r with
  | ok s => rw [hp] at h; exact absurd rfl h
  | error x => rfl
theorem resR_len (b r : Bs) : (resR b r).1.length ≤ 500 := by
  unfold resR
  cases hp : resolveP b r with
  | ok s =>
    obtain ⟨_, _, _, _, _, _, hl, _⟩ := resolve_parts hp
    exact hl
  | error x => exact Nat.zero_le _
theorem orgR_ok {s : Bs} (h : (orgR s).2 = 0) : ∃ u, parseP s = .ok u ∧ (orgR s).1 = origP u := by
  unfold orgR originP at h ⊢
  cases hp : parseP s with
  | ok u => exact ⟨u, rfl, rfl⟩
  | error x =>
    rw [hp] at h
    have := parse_err hp
    simp only at h
    omega
theorem orgR_of {s o : Bs} (h : originP s = .ok o) : orgR s = (o, 0) := by
  unfold orgR
  rw [h]
theorem orgR_bad {s : Bs} (h : ¬ (orgR s).2 = 0) : ∃ x, parseP s = .error x := by
  unfold orgR originP at h
  cases hp : parseP s with
  | ok u => rw [hp] at h; exact absurd rfl h
  | error x => exact ⟨x, rfl⟩
/-- UrlAgain, as the law asks it. -/
theorem ask_again (base ref other : Bs) (h : (resR base ref).2 = 0) : resR base (resR base ref).1 = ((resR base ref).1, 0) ∧ ((resR other (resR base ref).1).2 = 0 → (resR other (resR base ref).1).1 = (resR base ref).1) := by
  obtain ⟨h1, h2⟩ := plain_again (resR_ok h)
  exact ⟨resR_of h1, fun h3 => h2 other _ (resR_ok h3)⟩
/-- UrlHere, as the law asks it. -/
theorem ask_here_bad (base ref : Bs) (h : ¬ (orgR base).2 = 0) : ¬ (resR base ref).2 = 0 ∧ ¬ (resR base []).2 = 0 := by
  obtain ⟨x, hx⟩ := orgR_bad h
  have key : ∀ r, ¬ (resR base r).2 = 0 := fun r h0 => by
    have h1 := resR_ok h0
    rw [resolve_bad hx] at h1
    cases h1
  exact ⟨key ref, key []⟩
theorem ask_here_empty (base : Bs) (h : (orgR base).2 = 0) : resR base [] = resR (frontC 35 base) (frontC 35 base) := by
  obtain ⟨u, hu, _⟩ := orgR_ok h
  unfold resR
  rw [plain_empty hu]
theorem ask_here (base ref : Bs) (h : (orgR base).2 = 0) (hr : (resR base ref).2 = 0) (h58 : ref.contains 58 = false) (h2 : ref.take 2 ≠ [47, 47]) :
    orgR (resR base ref).1 = ((orgR base).1, 0) ∧ Lib.hasPrefix (resR base ref).1 ((orgR base).1 ++ [47]) = true := by
  obtain ⟨u, hu, ho⟩ := orgR_ok h
  obtain ⟨h3, t, ht⟩ := plain_here hu (resR_ok hr) (by simpa using h58) h2
  refine ⟨?_, ?_⟩
  · rw [orgR_of h3, ho]
  · rw [ht, ho]
    unfold Lib.hasPrefix
    rw [List.isPrefixOf_iff_prefix]
    exact ⟨t, by simp⟩
/-- UrlDots, as the law asks it. -/
theorem ask_dots (base ref : Bs) (h : (resR base ref).2 = 0) : ∃ u, parseP (resR base ref).1 = .ok u ∧ u.path ≠ [] ∧ [46] ∉ u.path ∧ [46, 46] ∉ u.path := plain_dots (resR_ok h)
theorem check_le (u : Ur) : checkU u = 0 ∨ checkU u = 2 ∨ checkU u = 3 := by
  unfold checkU
  split
  · exact .inr (.inl rfl)
  · split
    · split
      · exact .inl rfl
      · exact .inr (.inr rfl)
    · exact .inr (.inr rfl)
theorem enc_trim (s : Bs) (cs : Bs) (hcs : ∀ b, plainP b = true ∨ b = 37 → b ∈ cs) : Lib.trimS (encP s) cs = [] := by
  rw [trim_iff]
  intro b hb
  exact hcs b (enc_bytes s b hb)
end Go.Proofs.YtjcejijdeohkgaaGreatDoor
/- T1. -/
namespace Go.Proofs.YtjcejijdeohkgaaGreatDoor

structure En where
  url : Bs
  state : Bs
  doc : Int
deriving DecidableEq
structure Tr where
  l : List En
  pos : Int
deriving DecidableEq
instance : Inhabited En := ⟨⟨[], [], 0⟩⟩
def cleanS (s : Bs) : Bool := decide (resR s s = (s, 0))
def orgT (s : Bs) : Bs := (orgR s).1
def pairs (l : List En) : List (Int × Bs) := l.map fun e => (e.doc, orgT e.url)
def docsF : Option (Int × Bs) → List Int → List (Int × Bs) → Bool
  | _, _, [] => true
  | p, seen, e :: r =>
    if e.1 < 0 ∨ 1000000 < e.1 then false
    else if p.map Prod.fst = some e.1 then (decide (p.map Prod.snd = some e.2) && docsF (some e) seen r)
    else (!seen.contains e.1 && docsF (some e) (e.1 :: seen) r)
def docsT (l : List En) : Bool := docsF none [] (pairs l)
theorem docs_mono : ∀ (l : List (Int × Bs)) (p : Option (Int × Bs)) (seen seen' : List Int), docsF p seen l = true → (∀ x ∈ seen', x ∈ seen) → docsF p seen' l = true
  | [], _, _, _, _, _ => rfl
  | e :: r, p, seen, seen', h, hs => by
    unfold docsF at h ⊢
    split at h
    · cases h
    · rename_i h1
      rw [if_neg h1]
      split at h
      · rename_i h2
        rw [if_pos h2]
        rw [Bool.and_eq_true] at h ⊢
        exact ⟨h.1, docs_mono r _ _ _ h.2 hs⟩
      · rename_i h2
        rw [if_neg h2]
        rw [Bool.and_eq_true] at h ⊢
        refine ⟨?_, docs_mono r _ _ _ h.2 ?_⟩
        · have := h.1
          simp only [Bool.not_eq_true', List.contains_eq_mem, decide_eq_false_iff_not] at this ⊢
          exact fun hm => this (hs _ hm)
        · intro x hx
          rcases List.mem_cons.1 hx with rfl | hx
          · exact List.mem_cons_self
          · exact List.mem_cons_of_mem _ (hs x hx)
theorem docs_take : ∀ (l : List (Int × Bs)) (p : Option (Int × Bs)) (seen : List Int) (n : Nat), docsF p seen l = true → docsF p seen (l.take n) = true
  | [], _, _, n, _ => by rw [List.take_nil]; rfl
  | e :: r, p, seen, 0, _ => rfl
  | e :: r, p, seen, n + 1, h => by
    rw [List.take_succ_cons]
    unfold docsF at h ⊢
    split at h
    · cases h
    · rename_i h1
      rw [if_neg h1]
      split at h
      · rename_i h2
        rw [if_pos h2]
        rw [Bool.and_eq_true] at h ⊢
        exact ⟨h.1, docs_take r _ _ n h.2⟩
      · rename_i h2
        rw [if_neg h2]
        rw [Bool.and_eq_true] at h ⊢
        exact ⟨h.1, docs_take r _ _ n h.2⟩
theorem docs_tail {a : Int × Bs} {r : List (Int × Bs)} (h : docsF none [] (a :: r) = true) : docsF none [] r = true := by
  unfold docsF at h
  split at h
  · cases h
  · rw [if_neg (by simp), Bool.and_eq_true] at h
    have h := h.2
    cases r with
    | nil => rfl
    | cons b r =>
      unfold docsF at h ⊢
      split at h
      · cases h
      · rename_i h1
        rw [if_neg h1, if_neg (by simp)]
        split at h
        · rename_i h2
          simp only [Option.map_some, Option.some.injEq] at h2
          rw [Bool.and_eq_true] at h ⊢
          refine ⟨rfl, ?_⟩
          rw [← h2]
          exact h.2
        · rw [Bool.and_eq_true] at h ⊢
          refine ⟨rfl, docs_mono r _ _ _ h.2 ?_⟩
          intro x hx
          rw [List.mem_singleton] at hx
          subst hx
          exact List.mem_cons_self
def lastP (p : Option (Int × Bs)) : List (Int × Bs) → Option (Int × Bs)
  | [] => p
  | a :: r => lastP (some a) r
theorem docs_snoc (e : Int × Bs) (he : 0 ≤ e.1 ∧ e.1 ≤ 1000000) : ∀ (l : List (Int × Bs)) (p : Option (Int × Bs)) (seen : List Int), docsF p seen l = true →
    ((lastP p l).map Prod.fst = some e.1 ∧ (lastP p l).map Prod.snd = some e.2) ∨ ((lastP p l).map Prod.fst ≠ some e.1 ∧ e.1 ∉ seen ∧ e.1 ∉ l.map Prod.fst) → docsF p seen (l ++ [e]) = true
  | [], p, seen, _, h => by
    rw [List.nil_append]
    unfold docsF lastP at *
    rw [if_neg (by omega)]
    rcases h with ⟨h1, h2⟩ | ⟨h1, h2, _⟩
    · rw [if_pos h1, h2]
      simp [docsF]
    · rw [if_neg h1]
      simp [docsF, h2]
  | a :: r, p, seen, h0, h => by
    rw [List.cons_append]
    unfold docsF at h0 ⊢
    split at h0
    · cases h0
    · rename_i h1
      rw [if_neg h1]
      split at h0
      · rename_i h2
        rw [if_pos h2]
        rw [Bool.and_eq_true] at h0 ⊢
        refine ⟨h0.1, docs_snoc e he r _ _ h0.2 ?_⟩
        rcases h with h | ⟨h3, h4, h5⟩
        · exact .inl h
        · exact .inr ⟨h3, h4, fun hm => h5 (List.mem_cons_of_mem _ hm)⟩
      · rename_i h2
        rw [if_neg h2]
        rw [Bool.and_eq_true] at h0 ⊢
        refine ⟨h0.1, docs_snoc e he r _ _ h0.2 ?_⟩
        rcases h with h | ⟨h3, h4, h5⟩
        · exact .inl h
        · refine .inr ⟨h3, fun hm => ?_, fun hm => h5 (List.mem_cons_of_mem _ hm)⟩
          rcases List.mem_cons.1 hm with hm | hm
          · exact h5 (by rw [hm]; exact List.mem_cons_self)
          · exact h4 hm
theorem lastP_eq : ∀ (l : List (Int × Bs)) (p : Option (Int × Bs)) (h : l ≠ []), lastP p l = some (l.getLast h)
  | [a], _, _ => rfl
  | a :: b :: r, _, _ => by
    show lastP (some a) (b :: r) = _
    rw [lastP_eq (b :: r) (some a) (List.cons_ne_nil b r), List.getLast_cons (List.cons_ne_nil b r)]
def checkT (t : Tr) : Int :=
  if 50 < t.l.length ∨ t.l.any (fun e => decide (2000 < e.state.length)) = true then 2
  else if t.pos < 0 ∨ (t.l.length : Int) ≤ t.pos ∨ t.l.any (fun e => !cleanS e.url) = true ∨ docsT t.l = false then 3
  else 0
structure Right (t : Tr) : Prop where
  n : t.l.length ≤ 50
  s : ∀ e ∈ t.l, e.state.length ≤ 2000
  p : 0 ≤ t.pos ∧ t.pos < t.l.length
  c : ∀ e ∈ t.l, cleanS e.url = true
  d : docsT t.l = true
theorem check_iff (t : Tr) : checkT t = 0 ↔ Right t := by
  unfold checkT
  constructor
  · intro h
    split at h
    · cases h
    · rename_i h1
      split at h
      · cases h
      · rename_i h2
        rw [not_or] at h1
        rw [not_or, not_or, not_or] at h2
        obtain ⟨a1, a2⟩ := h1
        obtain ⟨b1, b2, b3, b4⟩ := h2
        refine ⟨by omega, fun e he => ?_, ⟨by omega, by omega⟩, fun e he => ?_, by simpa using b4⟩
        · rw [List.any_eq_true] at a2
          rcases Nat.lt_or_ge 2000 e.state.length with h3 | h3
          · exact absurd ⟨e, he, by simpa using h3⟩ a2
          · exact h3
        · rw [List.any_eq_true] at b3
          cases hc : cleanS e.url with
          | true => rfl
          | false => exact absurd ⟨e, he, by simp [hc]⟩ b3
  · intro ⟨h1, h2, h3, h4, h5⟩
    rw [if_neg, if_neg]
    · rw [not_or, not_or, not_or]
      refine ⟨by omega, by omega, ?_, by simp [h5]⟩
      rw [List.any_eq_true]
      rintro ⟨e, he, hc⟩
      rw [h4 e he] at hc
      cases hc
    · rw [not_or]
      refine ⟨by omega, ?_⟩
      rw [List.any_eq_true]
      rintro ⟨e, he, hc⟩
      have := h2 e he
      simp only [decide_eq_true_eq] at hc
      omega
theorem check_err (t : Tr) : checkT t = 0 ∨ checkT t = 2 ∨ checkT t = 3 := by
  unfold checkT
  split
  · exact .inr (.inl rfl)
  · split
    · exact .inr (.inr rfl)
    · exact .inl rfl
def hereE (t : Tr) : En := t.l.getD t.pos.toNat default
theorem here_mem {t : Tr} (h : 0 ≤ t.pos ∧ t.pos < t.l.length) : hereE t ∈ t.l := by
  unfold hereE
  have : t.pos.toNat < t.l.length := by omega
  rw [List.getD_eq_getElem?_getD, List.getElem?_eq_getElem this]
  exact List.getElem_mem _
def resolvedT (t : Tr) (ref : Bs) : Bs × Int := if checkT t = 0 then resR (hereE t).url ref else ([], checkT t)
def behindL (t : Tr) (e : En) : List En := t.l.take (t.pos.toNat + 1) ++ [e]
def cutL (l : List En) : List En := if 50 < l.length then l.drop 1 else l
def behindT (t : Tr) (e : En) : Tr := ⟨cutL (behindL t e), ((cutL (behindL t e)).length : Int) - 1⟩
def freshD : Int → List En → Int
  | m, [] => m
  | m, x :: r => freshD (max m (x.doc + 1)) r
def newDoc (t : Tr) (ref s : Bs) : Int := if ref.contains 35 = false ∨ frontC 35 s ≠ frontC 35 (hereE t).url then freshD 0 t.l else (hereE t).doc
def zT : Tr := ⟨[], 0⟩
def zE : En := ⟨[], [], 0⟩
def loadT (t : Tr) (ref : Bs) : Tr × Int :=
  if (resolvedT t ref).2 = 0 then
    (if 1000000 < newDoc t ref (resolvedT t ref).1 then (zT, 2) else (behindT t ⟨(resolvedT t ref).1, [], newDoc t ref (resolvedT t ref).1⟩, 0))
  else (zT, (resolvedT t ref).2)
def ownT (t : Tr) (ref state : Bs) : En × Int :=
  if (resolvedT t ref).2 = 0 then
    (if 2000 < state.length then (zE, 2) else if orgT (resolvedT t ref).1 = orgT (hereE t).url then (⟨(resolvedT t ref).1, state, (hereE t).doc⟩, 0) else (zE, 12))
  else (zE, (resolvedT t ref).2)
def pushT (t : Tr) (ref state : Bs) : Tr × Int := if (ownT t ref state).2 = 0 then (behindT t (ownT t ref state).1, 0) else (zT, (ownT t ref state).2)
def replaceT (t : Tr) (ref state : Bs) : Tr × Int := if (ownT t ref state).2 = 0 then (⟨t.l.set t.pos.toNat (ownT t ref state).1, t.pos⟩, 0) else (zT, (ownT t ref state).2)
def goT (t : Tr) (n : Int) : Tr × Bool × Int :=
  if checkT t = 0 then
    (if n < -t.pos ∨ (t.l.length : Int) - t.pos ≤ n then (zT, false, 5) else (⟨t.l, t.pos + n⟩, !decide ((hereE ⟨t.l, t.pos + n⟩).doc = (hereE t).doc), 0))
  else (zT, false, checkT t)
/-! What the laws ask. -/
theorem clean_res {b r : Bs} (h : (resR b r).2 = 0) : cleanS (resR b r).1 = true := by
  obtain ⟨_, u, _, _, _, e, hl, g⟩ := resolve_parts (resR_ok h)
  unfold cleanS
  rw [decide_eq_true_eq]
  refine resR_of ?_
  have hp := parse_text g (by rw [← e]; exact hl)
  have := resolve_self hp g (by rw [← e]; exact hl)
  rw [e]
  exact this
theorem clean_parse {s : Bs} (h : cleanS s = true) : ∃ u, parseP s = .ok u ∧ s = textP u ∧ Good u ∧ s.length ≤ 500 := by
  unfold cleanS at h
  rw [decide_eq_true_eq] at h
  have h1 := resR_ok (b := s) (r := s) (by rw [h])
  rw [h] at h1
  obtain ⟨_, u, _, _, _, e, hl, g⟩ := resolve_parts h1
  have e' : s = textP u := e
  have hl' : s.length ≤ 500 := hl
  have hp := parse_text g (by rw [← e']; exact hl')
  rw [← e'] at hp
  exact ⟨u, hp, e', g, hl'⟩
theorem org_of_parse {s : Bs} {u : Ur} (h : parseP s = .ok u) : orgT s = origP u := by
  unfold orgT orgR originP
  rw [h]
theorem org_front {s : Bs} (h : cleanS s = true) : orgT (frontC 35 s) = orgT s := by
  obtain ⟨u, hu, _⟩ := clean_parse h
  rw [org_of_parse hu, org_of_parse (parse_front hu)]
  rfl
theorem pairs_take (l : List En) (n : Nat) : pairs (l.take n) = (pairs l).take n := by unfold pairs; rw [List.map_take]
theorem fresh_ge : ∀ (l : List En) (m : Int), m ≤ freshD m l ∧ ∀ x ∈ l, x.doc + 1 ≤ freshD m l
  | [], m => ⟨Int.le_refl _, fun x hx => by cases hx⟩
  | a :: r, m => by
    obtain ⟨h1, h2⟩ := fresh_ge r (max m (a.doc + 1))
    unfold freshD
    refine ⟨by omega, fun x hx => ?_⟩
    rcases List.mem_cons.1 hx with rfl | hx
    · omega
    · exact h2 x hx
theorem take_last {t : Tr} (h : 0 ≤ t.pos ∧ t.pos < t.l.length) : t.l.take (t.pos.toNat + 1) = t.l.take t.pos.toNat ++ [hereE t] := by
  have hk : t.pos.toNat < t.l.length := by omega
  rw [List.take_succ_eq_append_getElem hk]
  unfold hereE
  rw [List.getD_eq_getElem?_getD, List.getElem?_eq_getElem hk]
  rfl
theorem docs_range : ∀ (l : List (Int × Bs)) (p : Option (Int × Bs)) (seen : List Int), docsF p seen l = true → ∀ e ∈ l, 0 ≤ e.1 ∧ e.1 ≤ 1000000
  | [], _, _, _, e, he => by cases he
  | a :: r, p, seen, h, e, he => by
    unfold docsF at h
    split at h
    · cases h
    · rename_i h1
      have key : ∃ p' s', docsF p' s' r = true := by
        split at h
        · rw [Bool.and_eq_true] at h; exact ⟨_, _, h.2⟩
        · rw [Bool.and_eq_true] at h; exact ⟨_, _, h.2⟩
      obtain ⟨p', s', h2⟩ := key
      rcases List.mem_cons.1 he with rfl | he
      · omega
      · exact docs_range r p' s' h2 e he
/-- An entry behind where one is. -/
theorem right_behind {t : Tr} (h : Right t) (e : En) (he : cleanS e.url = true) (hs : e.state.length ≤ 2000) (hd : 0 ≤ e.doc ∧ e.doc ≤ 1000000)
    (hx : (e.doc = (hereE t).doc ∧ orgT e.url = orgT (hereE t).url) ∨ (∀ x ∈ t.l, x.doc ≠ e.doc)) : Right (behindT t e) := by
  have hk : t.pos.toNat < t.l.length := by have := h.p; omega
  have hd1 : docsF none [] (pairs (t.l.take (t.pos.toNat + 1))) = true := by rw [pairs_take]; exact docs_take _ _ _ _ h.d
  have hl : pairs (t.l.take (t.pos.toNat + 1)) = pairs (t.l.take t.pos.toNat) ++ [((hereE t).doc, orgT (hereE t).url)] := by rw [take_last h.p]; unfold pairs; rw [List.map_append]; rfl
  have hlast : lastP none (pairs (t.l.take (t.pos.toNat + 1))) = some ((hereE t).doc, orgT (hereE t).url) := by
    rw [lastP_eq _ _ (by rw [hl]; simp)]
    simp only [hl, List.getLast_append, List.getLast_singleton]
    simp
  have hd2 : docsT (behindL t e) = true := by
    unfold docsT behindL
    have e1 : pairs (t.l.take (t.pos.toNat + 1) ++ [e]) = pairs (t.l.take (t.pos.toNat + 1)) ++ [(e.doc, orgT e.url)] := by unfold pairs; rw [List.map_append]; rfl
    rw [e1]
    refine docs_snoc (e.doc, orgT e.url) hd _ _ _ hd1 ?_
    rw [hlast]
    rcases hx with ⟨h1, h2⟩ | h1
    · left
      simp only [Option.map_some, h1, h2, and_self]
    · right
      refine ⟨?_, by simp, ?_⟩
      · simp only [Option.map_some, ne_eq, Option.some.injEq]
        exact h1 _ (here_mem h.p)
      · intro hm
        unfold pairs at hm
        simp only [List.map_map, List.mem_map, Function.comp] at hm
        obtain ⟨x, hx1, hx2⟩ := hm
        exact h1 x (List.mem_of_mem_take hx1) hx2
  have hmem : ∀ x ∈ behindL t e, x = e ∨ x ∈ t.l := by
    intro x hx
    unfold behindL at hx
    rcases List.mem_append.1 hx with hx | hx
    · exact .inr (List.mem_of_mem_take hx)
    · rw [List.mem_singleton] at hx; exact .inl hx
  have hlen : (behindL t e).length = t.pos.toNat + 2 := by
    unfold behindL
    rw [List.length_append, List.length_take]
    simp only [List.length_cons, List.length_nil]
    omega
  have hc : ∀ x ∈ cutL (behindL t e), x ∈ behindL t e := by
    intro x hx
    unfold cutL at hx
    split at hx
    · exact List.mem_of_mem_drop hx
    · exact hx
  have hcl : (cutL (behindL t e)).length ≤ 50 ∧ 1 ≤ (cutL (behindL t e)).length := by
    have := h.n
    unfold cutL
    split
    · rw [List.length_drop]; omega
    · omega
  have hcd : docsT (cutL (behindL t e)) = true := by
    unfold cutL
    split
    · cases hb : behindL t e with
      | nil => rfl
      | cons a r =>
        rw [hb] at hd2
        exact docs_tail hd2
    · exact hd2
  refine ⟨hcl.1, fun x hx => ?_, ?_, fun x hx => ?_, hcd⟩
  · rcases hmem x (hc x hx) with rfl | hx
    · exact hs
    · exact h.s x hx
  · show 0 ≤ ((cutL (behindL t e)).length : Int) - 1 ∧ ((cutL (behindL t e)).length : Int) - 1 < ((cutL (behindL t e)).length : Int)
    omega
  · rcases hmem x (hc x hx) with rfl | hx
    · exact he
    · exact h.c x hx
theorem resolved_ok {t : Tr} {ref : Bs} (h : (resolvedT t ref).2 = 0) : Right t ∧ (resR (hereE t).url ref).2 = 0 ∧ (resolvedT t ref).1 = (resR (hereE t).url ref).1 := by
  unfold resolvedT at h ⊢
  by_cases hc : checkT t = 0
  · rw [if_pos hc] at h ⊢
    exact ⟨(check_iff t).1 hc, h, rfl⟩
  · rw [if_neg hc] at h
    exact absurd h hc
theorem here_range {t : Tr} (h : Right t) : 0 ≤ (hereE t).doc ∧ (hereE t).doc ≤ 1000000 := by
  refine docs_range _ _ _ h.d ((hereE t).doc, orgT (hereE t).url) ?_
  unfold pairs
  exact List.mem_map.2 ⟨_, here_mem h.p, rfl⟩
theorem ask_load {t : Tr} {ref : Bs} (h : (loadT t ref).2 = 0) : Right t ∧ Right (loadT t ref).1 ∧ ∃ e, (loadT t ref).1 = behindT t e := by
  unfold loadT at h ⊢
  by_cases hr : (resolvedT t ref).2 = 0
  · rw [if_pos hr] at h ⊢
    obtain ⟨hR, h1, h2⟩ := resolved_ok hr
    by_cases hd : 1000000 < newDoc t ref (resolvedT t ref).1
    · rw [if_pos hd] at h; cases h
    · rw [if_neg hd] at h ⊢
      refine ⟨hR, right_behind hR _ ?_ (by simp) ?_ ?_, _, rfl⟩
      · show cleanS (resolvedT t ref).1 = true
        rw [h2]; exact clean_res h1
      · show 0 ≤ newDoc t ref (resolvedT t ref).1 ∧ newDoc t ref (resolvedT t ref).1 ≤ 1000000
        refine ⟨?_, by omega⟩
        unfold newDoc
        split
        · exact (fresh_ge t.l 0).1
        · exact (here_range hR).1
      · show (newDoc t ref (resolvedT t ref).1 = _ ∧ orgT (resolvedT t ref).1 = _) ∨ (∀ x ∈ t.l, x.doc ≠ newDoc t ref (resolvedT t ref).1)
        unfold newDoc
        split
        · right
          intro x hx
          have := (fresh_ge t.l 0).2 x hx
          omega
        · rename_i hn
          left
          rw [not_or] at hn
          have hf : frontC 35 (resolvedT t ref).1 = frontC 35 (hereE t).url := Decidable.not_not.1 hn.2
          refine ⟨rfl, ?_⟩
          have c1 : cleanS (resolvedT t ref).1 = true := by rw [h2]; exact clean_res h1
          rw [← org_front c1, hf, org_front (hR.c _ (here_mem hR.p))]
  · rw [if_neg hr] at h
    exact absurd h hr
theorem own_ok {t : Tr} {ref state : Bs} (h : (ownT t ref state).2 = 0) : Right t ∧ (resR (hereE t).url ref).2 = 0 ∧ state.length ≤ 2000 ∧ orgT (resR (hereE t).url ref).1 = orgT (hereE t).url ∧ (ownT t ref state).1 = ⟨(resR (hereE t).url ref).1, state, (hereE t).doc⟩ := by
  unfold ownT at h ⊢
  by_cases hr : (resolvedT t ref).2 = 0
  · rw [if_pos hr] at h ⊢
    obtain ⟨hR, h1, h2⟩ := resolved_ok hr
    by_cases hs : 2000 < state.length
    · rw [if_pos hs] at h; cases h
    · rw [if_neg hs] at h ⊢
      by_cases ho : orgT (resolvedT t ref).1 = orgT (hereE t).url
      · rw [if_pos ho]
        rw [h2] at ho ⊢
        exact ⟨hR, h1, by omega, ho, rfl⟩
      · rw [if_neg ho] at h; cases h
  · rw [if_neg hr] at h
    exact absurd h hr
theorem ask_push {t : Tr} {ref state : Bs} (h : (pushT t ref state).2 = 0) : Right t ∧ Right (pushT t ref state).1 ∧ (pushT t ref state).1 = behindT t (ownT t ref state).1 ∧ (ownT t ref state).2 = 0 := by
  unfold pushT at h ⊢
  by_cases ho : (ownT t ref state).2 = 0
  · rw [if_pos ho] at h ⊢
    obtain ⟨hR, h1, h2, h3, h4⟩ := own_ok ho
    refine ⟨hR, ?_, rfl, ho⟩
    rw [h4]
    exact right_behind hR _ (clean_res h1) h2 (here_range hR) (.inl ⟨rfl, h3⟩)
  · rw [if_neg ho] at h
    exact absurd h ho
theorem ask_replace {t : Tr} {ref state : Bs} (h : (replaceT t ref state).2 = 0) : Right (replaceT t ref state).1 := by
  unfold replaceT at h ⊢
  by_cases ho : (ownT t ref state).2 = 0
  · rw [if_pos ho] at h ⊢
    obtain ⟨hR, h1, h2, h3, h4⟩ := own_ok ho
    rw [h4]
    have hk : t.pos.toNat < t.l.length := by have := hR.p; omega
    have hget : hereE t = t.l[t.pos.toNat] := by
      unfold hereE
      rw [List.getD_eq_getElem?_getD, List.getElem?_eq_getElem hk]
      rfl
    have hp : pairs (t.l.set t.pos.toNat ⟨(resR (hereE t).url ref).1, state, (hereE t).doc⟩) = pairs t.l := by
      unfold pairs
      rw [List.map_set]
      simp only [h3]
      rw [hget]
      have : ((t.l[t.pos.toNat].doc, orgT t.l[t.pos.toNat].url)) = (t.l.map fun e => (e.doc, orgT e.url))[t.pos.toNat]'(by simpa using hk) := by simp
      rw [this]
      exact List.set_getElem_self _
    refine ⟨by show (t.l.set _ _).length ≤ 50; rw [List.length_set]; exact hR.n, fun e he => ?_, ?_, fun e he => ?_, ?_⟩
    · rcases List.mem_or_eq_of_mem_set he with he | rfl
      · exact hR.s e he
      · exact h2
    · show 0 ≤ t.pos ∧ t.pos < ((t.l.set _ _).length : Int)
      rw [List.length_set]
      exact hR.p
    · rcases List.mem_or_eq_of_mem_set he with he | rfl
      · exact hR.c e he
      · exact clean_res h1
    · show docsT (t.l.set _ _) = true
      unfold docsT
      rw [hp]
      exact hR.d
  · rw [if_neg ho] at h
    exact absurd h ho
theorem ask_go {t : Tr} {n : Int} (h : (goT t n).2.2 = 0) : Right t ∧ -t.pos ≤ n ∧ n < (t.l.length : Int) - t.pos ∧ (goT t n).1 = ⟨t.l, t.pos + n⟩ ∧ (goT t n).2.1 = !decide ((hereE ⟨t.l, t.pos + n⟩).doc = (hereE t).doc) ∧ Right (goT t n).1 := by
  unfold goT at h ⊢
  by_cases hc : checkT t = 0
  · rw [if_pos hc] at h ⊢
    have hR := (check_iff t).1 hc
    by_cases hn : n < -t.pos ∨ (t.l.length : Int) - t.pos ≤ n
    · rw [if_pos hn] at h; cases h
    · rw [if_neg hn] at h ⊢
      rw [not_or] at hn
      refine ⟨hR, by omega, by omega, rfl, rfl, ⟨hR.n, hR.s, ?_, hR.c, hR.d⟩⟩
      show 0 ≤ t.pos + n ∧ t.pos + n < (t.l.length : Int)
      omega
  · rw [if_neg hc] at h
    exact absurd h hc
theorem go_of {t : Tr} {n : Int} (hR : Right t) (h1 : -t.pos ≤ n) (h2 : n < (t.l.length : Int) - t.pos) : goT t n = (⟨t.l, t.pos + n⟩, !decide ((hereE ⟨t.l, t.pos + n⟩).doc = (hereE t).doc), 0) := by
  unfold goT
  rw [if_pos ((check_iff t).2 hR), if_neg (by rw [not_or]; omega)]
end Go.Proofs.YtjcejijdeohkgaaGreatDoor
/- T2. -/
namespace Go.Proofs.YtjcejijdeohkgaaGreatDoor

theorem load_bad {t : Tr} {ref : Bs} (h : ¬ (loadT t ref).2 = 0) : (loadT t ref).1 = zT := by
  unfold loadT at h ⊢
  by_cases hr : (resolvedT t ref).2 = 0
  · rw [if_pos hr] at h ⊢
    by_cases hd : 1000000 < newDoc t ref (resolvedT t ref).1
    · rw [if_pos hd]
    · rw [if_neg hd] at h; exact absurd rfl h
  · rw [if_neg hr]
theorem push_bad {t : Tr} {ref state : Bs} (h : ¬ (pushT t ref state).2 = 0) : (pushT t ref state).1 = zT := by
  unfold pushT at h ⊢
  by_cases hr : (ownT t ref state).2 = 0
  · rw [if_pos hr] at h; exact absurd rfl h
  · rw [if_neg hr]
theorem go_bad {t : Tr} {n : Int} (h : ¬ (goT t n).2.2 = 0) : (goT t n).1 = zT := by
  unfold goT at h ⊢
  by_cases hr : checkT t = 0
  · rw [if_pos hr] at h ⊢
    by_cases hd : n < -t.pos ∨ (t.l.length : Int) - t.pos ≤ n
    · rw [if_pos hd]
    · rw [if_neg hd] at h; exact absurd rfl h
  · rw [if_neg hr]
/-- TrailBack. -/
theorem ask_back {t : Tr} {n : Int} (h : (goT t n).2.2 = 0) : goT (goT t n).1 (-n) = (t, (goT t n).2.1, 0) ∧ ∀ m, (goT (goT t n).1 m).2.2 = 0 → (goT t (n + m)).1 = (goT (goT t n).1 m).1 ∧ (goT t (n + m)).2.2 = 0 := by
  obtain ⟨hR, h1, h2, h3, h4, h5⟩ := ask_go h
  rw [h4]
  rw [h3] at h5 ⊢
  have hp := hR.p
  have e : t.pos + n + -n = t.pos := by omega
  refine ⟨?_, fun m hm => ?_⟩
  · rw [go_of h5 (by show -(t.pos + n) ≤ -n; omega) (by show -n < (t.l.length : Int) - (t.pos + n); omega)]
    show ((⟨t.l, t.pos + n + -n⟩ : Tr), _, _) = _
    have e2 : (⟨t.l, t.pos + n + -n⟩ : Tr) = t := by rw [e]
    simp only [e2, Prod.mk.injEq, true_and, and_true]
    congr 1
    exact Bool.eq_iff_iff.2 (by simp only [decide_eq_true_eq]; exact ⟨fun h => h.symm, fun h => h.symm⟩)
  · obtain ⟨_, g1, g2, g3, _, _⟩ := ask_go hm
    have g1' : -(t.pos + n) ≤ m := g1
    have g2' : m < (t.l.length : Int) - (t.pos + n) := g2
    rw [go_of hR (by omega) (by omega), g3]
    show (⟨t.l, t.pos + (n + m)⟩ : Tr) = ⟨t.l, t.pos + n + m⟩ ∧ _
    rw [Int.add_assoc]
    exact ⟨rfl, rfl⟩
theorem behind_len {t : Tr} (h : Right t) (e : En) : (behindL t e).length = t.pos.toNat + 2 := by
  have := h.p
  unfold behindL
  rw [List.length_append, List.length_take]
  simp only [List.length_cons, List.length_nil]
  omega
theorem behind_get {t : Tr} (h : Right t) (e : En) : (behindL t e)[t.pos.toNat]? = some (hereE t) ∧ (behindL t e)[t.pos.toNat + 1]? = some e := by
  have hk : t.pos.toNat < t.l.length := by have := h.p; omega
  unfold behindL
  constructor
  · rw [List.getElem?_append_left (by rw [List.length_take]; omega), List.getElem?_take, if_pos (by omega), List.getElem?_eq_getElem hk]
    unfold hereE
    rw [List.getD_eq_getElem?_getD, List.getElem?_eq_getElem hk]
    rfl
  · rw [List.getElem?_append_right (by rw [List.length_take]; omega), List.length_take, show t.pos.toNat + 1 - min (t.pos.toNat + 1) t.l.length = 0 by omega]
    rfl
theorem cut_get (l : List En) : (50 < l.length ∧ cutL l = l.drop 1 ∧ (cutL l).length = l.length - 1) ∨ (l.length ≤ 50 ∧ cutL l = l) := by
  unfold cutL
  by_cases h : 50 < l.length
  · rw [if_pos h]; exact .inl ⟨h, rfl, by rw [List.length_drop]⟩
  · rw [if_neg h]; exact .inr ⟨by omega, rfl⟩
theorem behind_last {t : Tr} (h : Right t) (e : En) : hereE (behindT t e) = e := by
  have h1 := behind_len h e
  obtain ⟨h2, h3⟩ := behind_get h e
  unfold hereE behindT
  simp only
  rcases cut_get (behindL t e) with ⟨a, b, c⟩ | ⟨a, b⟩
  · rw [c, b, List.getD_eq_getElem?_getD, List.getElem?_drop, show 1 + (((behindL t e).length - 1 : Nat) - 1 : Int).toNat = t.pos.toNat + 1 by omega, h3]
    rfl
  · rw [b, List.getD_eq_getElem?_getD, show (((behindL t e).length : Int) - 1).toNat = t.pos.toNat + 1 by omega, h3]
    rfl
theorem behind_back {t : Tr} (h : Right t) (e : En) : 1 ≤ (behindT t e).pos ∧ (behindT t e).l.length ≤ 50 ∧ hereE ⟨(behindT t e).l, (behindT t e).pos + -1⟩ = hereE t ∧ (behindT t e).pos = (behindT t e).l.length - 1 := by
  have h1 := behind_len h e
  have h0 := h.n
  have hp := h.p
  obtain ⟨h2, h3⟩ := behind_get h e
  unfold behindT
  simp only
  rcases cut_get (behindL t e) with ⟨a, b, c⟩ | ⟨a, b⟩
  · refine ⟨by omega, by omega, ?_, trivial⟩
    unfold hereE
    simp only
    rw [c, b, List.getD_eq_getElem?_getD, List.getElem?_drop, show 1 + (((behindL t e).length - 1 : Nat) - 1 + -1 : Int).toNat = t.pos.toNat by omega, h2]
    rfl
  · rw [b]
    refine ⟨by omega, by omega, ?_, trivial⟩
    unfold hereE
    simp only
    rw [List.getD_eq_getElem?_getD, show (((behindL t e).length : Int) - 1 + -1).toNat = t.pos.toNat by omega, h2]
    rfl
/-- TrailCuts. -/
theorem ask_cuts {t r : Tr} {e : En} (hR : Right t) (hr : Right r) (he : r = behindT t e) : (goT r 1).2.2 = 5 ∧ (goT r (-1)).2.2 = 0 ∧ (goT r (-1)).1 = ⟨r.l, r.pos + -1⟩ ∧ r.l.length ≤ 50 ∧ hereE ⟨r.l, r.pos + -1⟩ = hereE t ∧ 0 ≤ r.pos + -1 ∧ r.pos + -1 < r.l.length := by
  obtain ⟨h1, h2, h3, h4⟩ := behind_back hR e
  rw [← he] at h1 h2 h3 h4
  refine ⟨?_, ?_, ?_, h2, h3, by omega, by omega⟩
  · unfold goT
    rw [if_pos ((check_iff r).2 hr), if_pos (by right; omega)]
  · rw [go_of hr (by omega) (by omega)]
  · rw [go_of hr (by omega) (by omega)]
theorem root_res {s : Bs} (h : cleanS s = true) : resR s [47] = (orgT s ++ [47], 0) := by
  obtain ⟨u, hu, e, g, hl⟩ := clean_parse h
  have ho := org_of_parse hu
  refine resR_of ?_
  have hb : besideP u [47] = .ok ⟨u.sch, u.host, u.port, [[]], [], false, [], false⟩ := by
    have e1 : queryT [47] = some [] := by rfl
    have e2 : fragT [47] = some [] := by rfl
    have e3 : pathT [47] = [47] := by rfl
    have e4 : segsP (splitC 47 (noSl [47])) = some [[]] := by rfl
    have e5 : asksT [47] = false := by rfl
    have e6 : pointsT [47] = false := by rfl
    have e7 : tidyP [[]] = [[]] := by rfl
    unfold besideP
    rw [e1, e2, e3, e4, e5, e6]
    simp only
    rw [if_neg (by simp), if_pos (show ([47] : Bs).head? = some 47 from rfl), e7]
  have ht : textP ⟨u.sch, u.host, u.port, [[]], [], false, [], false⟩ = origP u ++ [47] := by
    unfold textP
    simp only [List.flatMap_cons, List.flatMap_nil, List.append_nil]
    rfl
  have hlen : (origP u ++ [47]).length ≤ 500 := by
    have : s.length = (origP u).length + ((u.path.flatMap fun p => 47 :: encP p) ++ ((if u.asks then 63 :: u.query else []) ++ (if u.points then 35 :: u.frag else []))).length := by
      rw [e]; unfold textP; rw [List.length_append]
    have h2 : 1 ≤ (u.path.flatMap fun p => 47 :: encP p).length := by
      cases hp : u.path with
      | nil => exact absurd hp g.path.1
      | cons p l => rw [List.flatMap_cons, List.cons_append, List.length_cons]; omega
    rw [List.length_append] at this ⊢
    simp only [List.length_cons, List.length_nil]
    omega
  unfold resolveP
  rw [hu]
  simp only
  rw [if_neg (by simp)]
  unfold aimP
  rw [if_neg (by rw [show schP [47] = none from rfl]; simp), if_neg (by simp), hb]
  simp only
  rw [ht, if_neg (by omega), ho]
theorem root_org {s : Bs} (h : cleanS s = true) : orgT (orgT s ++ [47]) = orgT s := by
  obtain ⟨u, hu, e, g, hl⟩ := clean_parse h
  have h1 : (orgR s).2 = 0 := by unfold orgR originP; rw [hu]
  have h2 := root_res h
  have h3 := ask_here s [47] h1 (by rw [h2]) (by decide) (by decide)
  rw [h2] at h3
  unfold orgT
  rw [show (orgR ((orgR s).1 ++ [47])) = _ from h3.1]
theorem push_root {t : Tr} (h : Right t) : pushT t [47] [] = (behindT t ⟨orgT (hereE t).url ++ [47], [], (hereE t).doc⟩, 0) := by
  have hc := h.c _ (here_mem h.p)
  have hr : resolvedT t [47] = (orgT (hereE t).url ++ [47], 0) := by
    unfold resolvedT
    rw [if_pos ((check_iff t).2 h), root_res hc]
  have ho : ownT t [47] [] = (⟨orgT (hereE t).url ++ [47], [], (hereE t).doc⟩, 0) := by
    unfold ownT
    rw [hr]
    simp only
    rw [if_pos trivial, if_neg (by simp), if_pos (root_org hc)]
  unfold pushT
  rw [ho]
  simp only
  rw [if_pos trivial]
/-- TrailOrigin. -/
theorem ask_origin {t : Tr} {ref state : Bs} (h : (pushT t ref state).2 = 0) : (pushT (pushT t ref state).1 [47] []).2 = 0 ∧ (pushT t [47] []).2 = 0 ∧ (hereE (pushT (pushT t ref state).1 [47] []).1).url = (hereE (pushT t [47] []).1).url ∧ Right (pushT (pushT t ref state).1 [47] []).1 ∧ Right (pushT t [47] []).1 := by
  obtain ⟨hR, hp, he, ho⟩ := ask_push h
  have r1 := push_root hp
  have r2 := push_root hR
  have q1 := (ask_push (t := (pushT t ref state).1) (ref := [47]) (state := []) (by rw [r1])).2.1
  have q2 := (ask_push (t := t) (ref := [47]) (state := []) (by rw [r2])).2.1
  refine ⟨by rw [r1], by rw [r2], ?_, q1, q2⟩
  rw [r1, r2]
  simp only
  rw [behind_last hp, behind_last hR]
  simp only
  obtain ⟨_, _, _, h3, h4⟩ := own_ok ho
  have : hereE (pushT t ref state).1 = (ownT t ref state).1 := by rw [he, behind_last hR]
  rw [this, h4]
  simp only
  rw [h3]
def startT (s : Bs) : Tr × Int := if (resR s s).2 = 0 then (⟨[⟨(resR s s).1, [], 0⟩], 0⟩, 0) else (zT, (resR s s).2)
def liveT1 : Tr := ⟨[⟨[104, 116, 116, 112, 58, 47, 47, 97, 47, 120], [], 0⟩], 0⟩
def liveT2 : Tr := ⟨[⟨[104, 116, 116, 112, 58, 47, 47, 97, 47, 120], [], 0⟩, ⟨[104, 116, 116, 112, 58, 47, 47, 97, 47, 121], [], 1⟩], 1⟩
def liveT3 : Tr := ⟨[⟨[104, 116, 116, 112, 58, 47, 47, 97, 47, 120], [], 0⟩, ⟨[104, 116, 116, 112, 58, 47, 47, 97, 47, 121], [], 1⟩, ⟨[104, 116, 116, 112, 58, 47, 47, 97, 47, 121, 35, 122], [115], 1⟩], 2⟩
def liveT4 : Tr := ⟨[⟨[104, 116, 116, 112, 58, 47, 47, 97, 47, 120], [], 0⟩, ⟨[104, 116, 116, 112, 58, 47, 47, 97, 47, 121], [], 1⟩, ⟨[104, 116, 116, 112, 58, 47, 47, 97, 47, 121, 35, 122], [115], 1⟩], 0⟩
theorem live_t1 : startT [104, 116, 116, 112, 58, 47, 47, 65, 47, 120] = (liveT1, 0) := by kernel_rfl
theorem live_t2 : loadT liveT1 [121] = (liveT2, 0) := by kernel_rfl
theorem live_t3 : pushT liveT2 [35, 122] [115] = (liveT3, 0) := by kernel_rfl
theorem live_t4 : goT liveT3 (-2) = (liveT4, true, 0) := by kernel_rfl
end Go.Proofs.YtjcejijdeohkgaaGreatDoor
