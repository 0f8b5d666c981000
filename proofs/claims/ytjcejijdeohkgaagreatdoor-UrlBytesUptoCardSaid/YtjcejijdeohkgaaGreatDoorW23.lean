/- The contract of url.Origin. -/
import Derived.Test.YtjcejijdeohkgaaGreatDoorW22
namespace Go.Proofs.YtjcejijdeohkgaaGreatDoor
open Go.RowKit

theorem parse_path {s : Bs} {u : Ur} (h : parseP s = .ok u) : u.path.length ≤ 502 := by
  obtain ⟨hl, sch, r, h1, h2⟩ := parse_parts h
  obtain ⟨hr, hsc⟩ := sch_rest_len h1
  simp only [List.length_cons] at hr
  unfold parseB at h2
  split at h2
  · cases h2
  · split at h2
    · rename_i q f l hq hf hs
      injection h2 with h2
      subst h2
      have hre : (restP r).length ≤ 500 := by
        unfold restP
        have := (List.dropWhile_sublist (l := r) (fun b => !endSet.contains b)).length_le
        omega
      obtain ⟨t1, t2, t3, t4⟩ := tail_small hre hq hf hs
      obtain ⟨t5, t6⟩ := tidy_each t3
      simp only
      omega
    · cases h2
theorem parse_err {s : Bs} {x : Int} (h : parseP s = .error x) : x = 2 ∨ x = 3 := by
  unfold parseP at h
  split at h
  · injection h with h; exact .inl h.symm
  · split at h
    · injection h with h; exact .inr h.symm
    · split at h
      · unfold parseB at h
        split at h
        · injection h with h; exact .inr h.symm
        · split at h
          · cases h
          · injection h with h; exact .inr h.symm
      · injection h with h; exact .inr h.symm
def orgR (s : Bs) : Bs × Int := match originP s with
  | .ok o => (o, 0)
  | .error x => ([], x)
set_option maxRecDepth 100000 in
set_option maxHeartbeats 8000000 in
theorem org_any (l : Bs) (w : World) (hT : TB w) : Calls Tryz.prog 23 #[.string (bs l)] w fun e w' => e = .returned (.tuple #[.string (bs (orgR l).1), .int .i64 (orgR l).2]) ∧ Below w.heap.size w w' := by
  have p28 := call28
  have p60 := call60
  have HP := Lib.hid (parse_any l w hT)
  have HTB := Lib.hid hT
  obtain ⟨R, hR⟩ : ∃ R, orgR l = R := ⟨_, rfl⟩
  rw [hR]
  unfold orgR originP at hR
  have HR := Lib.hid hR
  clear hR hT
  go_enter Tryz.func23, Tryz.ntmps23
  go_wp2_with fail
  refine HP.out.mono ?_
  intro e w1 hp
  clear HP
  cases hpl : parseP l with
  | error x =>
    rw [hpl] at hp HR
    obtain ⟨rfl, hb⟩ := hp
    have X := Lib.hid hb
    have hx := parse_err hpl
    have hxb : (x == 0) = false := by rw [beq_eq_false_iff_ne]; omega
    have hxn : ¬ x = 0 := by omega
    have HV := Lib.hid (show R = ([], x) from HR.out.symm)
    clear hb hx hpl HR
    unfold zU
    go_wp2_with fail
    go_ret2
    rw [HV.out]
    exact ⟨rfl, X.out.alloc X.out.size _⟩
  | ok u =>
    rw [hpl] at hp HR
    obtain ⟨pv, rfl, hown, hb⟩ := hp
    have X := Lib.hid hb
    have S := Lib.hid (parse_small hpl)
    have HV := Lib.hid (show R = (origP u, 0) from HR.out.symm)
    obtain ⟨va, vc, rfl⟩ := own_shape hown
    have HO := Lib.hid (fun (w9 : World) (hb9 : Below w.heap.size w w9) => origin_any u (.slice va u.path.length vc) w9 (HTB.out.below hb9) (by have := S.out.s; omega) (by have := S.out.h; omega) S.out.p ⟨_, _, _, rfl⟩)
    have HB2 := Lib.hid (fun o => X.out.alloc X.out.size o)
    clear hb hpl HR hown
    obtain ⟨sch, host, port, path, query, asks, frag, points⟩ := u
    show _
    simp only [Ur.v] at HO ⊢
    go_wp2_with fail
    refine (HO.out _ (HB2.out _)).mono ?_
    rintro e w2 ⟨rfl, hb2⟩
    have Y := Lib.hid ((HB2.out (.cells #[.string (bs sch), .string (bs host), .int .i64 port, .slice va path.length vc, .string (bs query), .bool asks, .string (bs frag), .bool points] 47)).trans (Below.le hb2 (al_le X.out.size _)))
    clear hb2
    go_wp2_with fail
    go_ret2
    rw [HV.out]
    exact ⟨rfl, Y.out⟩
end Go.Proofs.YtjcejijdeohkgaaGreatDoor
