import Derived.Test.YtmnjmeebadpgjaaBitsW
namespace Go.Proofs.Ytmnjmeebadpgjaa.Bits
open Go Go.Av
set_option linter.unusedSimpArgs false
set_option linter.unusedVariables false
theorem Wide_c (n low : Int) (hl : low ≤ 64) (g : GH) : PureC Try.prog 20 [I64 n, I64 low] g (I64 (imn (imx n low) 64)) := by
  refine CallC.body (fun _ => none) (fun _ => 0) Try.func20 rfl Try.results20 Try.ntmps20 ?_
  intro n0 hn0
  simp only [go_sem]
  (repeat' split) <;> (
    refine FnPost_end hn0 (by simp) rfl (only_lit _ _) ?_
    simp only [go_sem]
    refine leA_int ?_
    unfold imn imx
    (repeat' split) <;> omega)
theorem fits_c (n w : Int) (hn : -9223372036854775808 ≤ n) (hn1 : n ≤ 9223372036854775807) (g : GH) : PureC Try.prog 22 [I64 n, I64 w] g (BB (decide (cutF n (imn (imx w 1) 64).toNat = n))) := by
  refine CallC.body (fun _ => none) (fun _ => 0) Try.func22 rfl Try.results22 Try.ntmps22 ?_
  intro n0 hn0
  simp only [go_sem]
  refine WE_pure _ _ _ _ _ _ _ _ (cut_c n w hn hn1 _) ?_
  simp only [go_sem]
  refine FnPost_end hn0 (by simp) rfl (only_lit _ _) ?_
  simp only [go_sem]
  exact leA_refl _
theorem rfits_c (n m : Int) (hn : -9223372036854775808 ≤ n) (hn1 : n ≤ 9223372036854775807) (h0 : 1 ≤ m) (h1 : m ≤ 64) (g : GH) : PureC Try.prog 23 [I64 n, I64 m] g (BB (decide (cutF n m.toNat = n))) := by
  refine CallC.body (fun _ => none) (fun _ => 0) Try.func23 rfl Try.results23 Try.ntmps23 ?_
  intro n0 hn0
  simp only [go_sem]
  by_cases h64 : m = 64
  · rw [if_pos h64]
    refine FnPost_end hn0 (by simp) rfl (only_lit _ _) ?_
    simp only [go_sem]
    exact leA_bool (by rw [← cutF_64 n m hn hn1 h64]; simp)
  · rw [if_neg h64]
    have em : IntKind.i64.wrap (m - 1) = m - 1 := by rw [wrap_i64]; omega
    rw [em]
    refine WE_pure _ _ _ _ _ _ _ _ (power_c (m - 1) (by omega) (by omega) _) ?_
    simp only [go_sem]
    obtain ⟨p, e1, e2, e3, e4, k, e5, e6⟩ := cut_parts n m h0 (by omega)
    have hc : cutF n m.toNat = (n + p) % (2 * p) - p := by rw [cutF_eq n m h0, e1, e2]
    have x1 : IntKind.i64.wrap p = p := by rw [wrap_i64]; omega
    have x2 : IntKind.i64.wrap (0 - p) = -p := by rw [wrap_i64]; omega
    have y : (cutF n m.toNat = n) ↔ (-p ≤ n ∧ n < p) := by
      rw [hc]
      have a1 := Int.emod_nonneg (n + p) (show 2 * p ≠ 0 by omega)
      have a2 := Int.emod_lt_of_pos (n + p) (show 0 < 2 * p by omega)
      constructor
      · intro h; omega
      · intro h; rw [Int.emod_eq_of_lt (by omega) (by omega)]; omega
    rw [e1, x1, x2]
    refine WG_split _ _ _ _ _ _ _ _ _ (fun hc1 => ?_) (fun hc1 => ?_) <;> simp only [decide_eq_true_eq, decide_eq_false_iff_not, Int.not_le, Int.not_lt, Bool.not_eq_true, Bool.not_eq_false, Bool.not_eq_true', Bool.not_eq_false'] at hc1
    · simp only [go_sem, hc1]
      refine FnPost_end hn0 (by simp) rfl (only_lit _ _) ?_
      simp only [go_sem]
      exact leA_bool (by rw [decide_eq_decide, y]; simp [hc1])
    · simp only [go_sem, Int.not_le.2 hc1]
      refine FnPost_end hn0 (by simp) rfl (only_lit _ _) ?_
      simp only [go_sem]
      exact leA_bool (by rw [eq_comm, decide_eq_false_iff_not, y]; omega)
theorem cutF_range (n m : Int) (h0 : 1 ≤ m) (h1 : m ≤ 64) : -9223372036854775808 ≤ cutF n m.toNat ∧ cutF n m.toNat ≤ 9223372036854775807 := by
  by_cases h : m = 64
  · subst h
    show -9223372036854775808 ≤ (n + 9223372036854775808) % 18446744073709551616 - 9223372036854775808 ∧ (n + 9223372036854775808) % 18446744073709551616 - 9223372036854775808 ≤ 9223372036854775807
    omega
  · obtain ⟨p, e1, e2, e3, e4, k, e5, e6⟩ := cut_parts n m h0 (by omega)
    rw [cutF_eq n m h0, e1, e2]
    have a1 := Int.emod_nonneg (n + p) (show 2 * p ≠ 0 by omega)
    have a2 := Int.emod_lt_of_pos (n + p) (show 0 < 2 * p by omega)
    omega
theorem cutF_cutF (n : Int) (m : Nat) : cutF (cutF n m) m = cutF n m := by
  unfold cutF
  rw [Int.sub_add_cancel, Int.emod_emod]
theorem law_wide (n w : Int) (hn : -9223372036854775808 ≤ n) (hn1 : n ≤ 9223372036854775807) (g : GH) : PureC Try.prog 4 [I64 n, I64 w] g (BB true) := by
  have hr : 1 ≤ imn (imx w 1) 64 ∧ imn (imx w 1) 64 ≤ 64 := by unfold imn imx; (repeat' split) <;> omega
  refine CallC.body (fun _ => none) (fun _ => 0) Try.func4 rfl Try.results4 Try.ntmps4 ?_
  intro n0 hn0
  simp only [go_sem]
  refine WE_pure _ _ _ _ _ _ _ _ (Wide_c w 1 (by omega) _) ?_
  simp only [go_sem]
  refine WE_pure _ _ _ _ _ _ _ _ (Cut_c n w hn hn1 _) ?_
  simp only [go_sem]
  refine WE_pure _ _ _ _ _ _ _ _ (fits_c n w hn hn1 _) ?_
  simp only [go_sem]
  refine WE_pure _ _ _ _ _ _ _ _ (rfits_c n _ hn hn1 hr.1 hr.2 _) ?_
  simp only [go_sem]
  refine WE_pure _ _ _ _ _ _ _ _ (rcut_c n _ hn hn1 hr.1 hr.2 _) ?_
  simp only [go_sem]
  refine WE_pure _ _ _ _ _ _ _ _ (fits_c _ w (cutF_range n _ hr.1 hr.2).1 (cutF_range n _ hr.1 hr.2).2 _) ?_
  simp only [go_sem, cutF_cutF]
  refine WE_pure _ _ _ _ _ _ _ _ (fits_c n w hn hn1 _) ?_
  simp only [go_sem]
  refine WE_pure _ _ _ _ _ _ _ _ (lives_c _) ?_
  simp only [go_sem]
  refine FnPost_end hn0 (by simp) rfl (only_lit _ _) ?_
  simp only [go_sem]
  exact leA_refl _
theorem wide_row (a0 a1 : Int) (w0 : (Lit.int .i64 a0).wf = true) (w1 : (Lit.int .i64 a1).wf = true) (g : GH) : PureC Try.prog 4 [I64 a0, I64 a1] g (BB true) := by
  have h0 := wf_i64 w0
  exact law_wide a0 a1 (by omega) (by omega) g
end Go.Proofs.Ytmnjmeebadpgjaa.Bits
