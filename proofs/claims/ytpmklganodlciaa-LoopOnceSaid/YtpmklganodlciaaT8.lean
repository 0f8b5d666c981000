/- slices.Delete of one item, over jobs (printed from the text over timers). -/
import Derived.Test.YtpmklganodlciaaT7
namespace Go.Proofs.Ytpmklganodlciaa
open Go.RowKit

def zJ : List Value := [.int .i64 0, .int .i64 0, .bool false, .string ⟨#[]⟩, .int .i64 0, .int .i64 0, .string ⟨#[]⟩]
theorem clear_job (w : World) (ty : TypeId) (b o c : Nat) (hc : ∀ j, j < 7 → (w.cell? ⟨b, o + j, none⟩).isSome = true) (hf : ∀ j, j < 7 → w.frozen? ⟨b, o + j, none⟩ = false) :
    (Builtin.clear_ #[23] ty #[.slice (some ⟨b, o, none⟩) 1 c]).run Try.prog w = .ok (.tuple #[]) (w.setCells b o zJ) := by
  have hst := run_storeCells_cells (P := Try.prog) b o zJ 0 w (by simpa [zJ] using hc) (by simpa [zJ] using hf) (by intro v hv; simp only [zJ, List.mem_cons, List.not_mem_nil, or_false] at hv; rcases hv with rfl | rfl | rfl | rfl | rfl | rfl | rfl <;> rfl)
  simp only [Nat.add_zero] at hst
  have hz : (Builtin.zeroCells zJob.cells 1).toList = zJ := by kernel_rfl
  have hv : ∀ w, (zeroValue 39).run Try.prog w = .ok zJob w := Try.zeroValue39
  simp [Builtin.clear_, run_underlying Try.underlying23, hv, hz, hst]
set_option maxRecDepth 100000 in
set_option maxHeartbeats 4000000 in
theorem delJ_any (g cap i B : Nat) (l : List Job) (w : World) (h : w.ownsRow B 39 7 (.slice (some ⟨g, 0, none⟩) l.length cap) l.length (l.flatMap Job.c)) (hi : i < l.length) (hl : l.length ≤ 1000) :
    Calls Try.prog 35 #[.slice (some ⟨g, 0, none⟩) l.length cap, .int .i64 (i : Int), .int .i64 ((i : Int) + 1)] w fun e w' => e = .returned (.slice (some ⟨g, 0, none⟩) (l.length - 1) cap) ∧ w'.ownsRow B 39 7 (.slice (some ⟨g, 0, none⟩) (l.length - 1) cap) (l.eraseIdx i).length ((l.eraseIdx i).flatMap Job.c) ∧ w.grownBy w' (some g) := by
  obtain ⟨i0, hi0, hz0, hz1, hz2⟩ := info_parts job_info
  have hcap : l.length ≤ cap ∧ cap ≤ 9223372036854775807 := by
    rcases h.2 with ⟨h2, _⟩ | ⟨g', cap', cur, e1, e2, e3, e4, e5, _⟩
    · cases h2
    · cases e1; exact ⟨e4, by simp only [maxLen] at e5; omega⟩
  obtain ⟨hc1, hc2⟩ := hcap
  have HO := Lib.hid h
  clear h
  have k1 : (i : Int) < (l.length : Int) := by omega
  have k2 : (l.length : Int) ≤ (cap : Int) := by omega
  have k3 : (l.length : Int) ≤ 1000 := by omega
  have k4 : (0 : Int) ≤ (i : Int) := by omega
  go_enter Try.func35, Try.ntmps35
  go_wp2_with fail
  have k5 : (i : Int) ≤ (cap : Int) := by omega
  have k6 : (i : Int) + 1 ≤ (l.length : Int) := by omega
  have k7 : i ≤ cap := by omega
  have k8 : i + 1 ≤ l.length := by omega
  have k9 : i + 1 ≤ cap := by omega
  have k10 : (0 : Int) ≤ (i : Int) + 1 := by omega
  have k11 : (i : Int) ≤ (i : Int) + 1 := by omega
  have HT := Lib.hid (own_take Job.len HO.out i (by omega))
  by_cases hce : cap = i + 1
  · subst hce
    have hle : l.length = i + 1 := by omega
    have HN0 : Hid (∀ j u, ([] : List Value)[j]? = some u → w.drew.cell? ((⟨g, 0, none⟩ : Addr).add j) = some u) := Lib.hid (by
      intro j u hj
      simp at hj)
    go_region_law ((refine step_append_fits (by rfl) (.tmp 22) (.tmp 25) 23 (by rfl) B 39 i0 7 Try.underlying23 hi0 hz1 g i (i + 1) ((l.take i).flatMap Job.c) (by rfl) (own_drew HT.out) ⟨g, 0, none⟩ 0 0 [] (by rfl) (by simp) HN0.out (by intro u hu; cases hu) (by omega) ?_; intro w1 hown1 hgrow1; have X1 := Lib.hid hown1; have G1 := Lib.hid hgrow1; clear hown1 hgrow1))
    all_goals
      have X2 : Hid (w1.ownsRow B 39 7 (.slice (some ⟨g, 0, none⟩) i (i + 1)) i ((l.take i).flatMap Job.c)) := Lib.hid (by have := X1.out; rwa [List.append_nil, Nat.add_zero] at this)
      have hcl : (Builtin.clear_ #[23] 0 #[.slice (some ⟨g, i * 7, none⟩) 1 1]).run Try.prog w1 = .ok (.tuple #[]) (w1.setCells g (i * 7) zJ) := by
        have hr : ∀ j, j < 7 → i * 7 + j < (i + 1) * 7 := fun j hj => by omega
        exact clear_job w1 0 g _ _ (fun j hj => (own_room X2.out _ (hr j hj)).1) (fun j hj => (own_room X2.out _ (hr j hj)).2)
      have XF : Hid ((w1.setCells g (i * 7) zJ).ownsRow B 39 7 (.slice (some ⟨g, 0, none⟩) (l.length - 1) (i + 1)) (l.eraseIdx i).length ((l.eraseIdx i).flatMap Job.c)) := Lib.hid (by
        rw [List.length_eraseIdx_of_lt hi, List.eraseIdx_eq_take_drop_succ, List.drop_eq_nil_of_le (by omega), List.append_nil, show l.length - 1 = i by omega]
        exact own_sets zJ _ w1 X2.out (Nat.le_refl _))
      have GF : Hid (w.grownBy (w1.setCells g (i * 7) zJ) (some g)) := Lib.hid (grown_sets zJ _ w1 ⟨G1.out.os, G1.out.tape, G1.out.output, G1.out.size, G1.out.block⟩)
      generalize w1.setCells g (i * 7) zJ = w2 at *
      go_wp2_with fail
      go_ret
      exact ⟨by rw [hle]; rfl, XF.out, GF.out⟩
  · have HNW := Lib.hid (own_news Job.len (own_drew HO.out) (i + 1))
    go_region_law ((refine step_append_fits (by rfl) (.tmp 22) (.tmp 25) 23 (by rfl) B 39 i0 7 Try.underlying23 hi0 hz1 g i cap ((l.take i).flatMap Job.c) (by rfl) (own_drew HT.out) ⟨g, (i + 1) * 7, none⟩ (l.length - (i + 1)) (cap - (i + 1)) ((l.drop (i + 1)).flatMap Job.c) (by rfl) (by rw [flat_len Job.c 7 Job.len, List.length_drop]) HNW.out (job_one _) (by omega) ?_; intro w1 hown1 hgrow1; have X1 := Lib.hid hown1; have G1 := Lib.hid hgrow1; clear hown1 hgrow1))
    all_goals
      have he : i + (l.length - (i + 1)) = l.length - 1 := by omega
      rw [he] at X1 ⊢
      have hcl : (Builtin.clear_ #[23] 0 #[.slice (some ⟨g, (l.length - 1) * 7, none⟩) (l.length - (l.length - 1)) (cap - (l.length - 1))]).run Try.prog w1 = .ok (.tuple #[]) (w1.setCells g ((l.length - 1) * 7) zJ) := by
        rw [show l.length - (l.length - 1) = 1 by omega]
        have hr : ∀ j, j < 7 → (l.length - 1) * 7 + j < cap * 7 := fun j hj => by omega
        exact clear_job w1 0 g _ _ (fun j hj => (own_room X1.out _ (hr j hj)).1) (fun j hj => (own_room X1.out _ (hr j hj)).2)
      have XF : Hid ((w1.setCells g ((l.length - 1) * 7) zJ).ownsRow B 39 7 (.slice (some ⟨g, 0, none⟩) (l.length - 1) cap) (l.eraseIdx i).length ((l.eraseIdx i).flatMap Job.c)) := Lib.hid (by
        rw [List.length_eraseIdx_of_lt hi, List.eraseIdx_eq_take_drop_succ, List.flatMap_append]
        exact own_sets zJ _ w1 X1.out (Nat.le_refl _))
      have GF : Hid (w.grownBy (w1.setCells g ((l.length - 1) * 7) zJ) (some g)) := Lib.hid (grown_sets zJ _ w1 ⟨G1.out.os, G1.out.tape, G1.out.output, G1.out.size, G1.out.block⟩)
      generalize w1.setCells g ((l.length - 1) * 7) zJ = w2 at *
      go_wp2_with fail
      go_ret
      exact ⟨rfl, XF.out, GF.out⟩
end Go.Proofs.Ytpmklganodlciaa
