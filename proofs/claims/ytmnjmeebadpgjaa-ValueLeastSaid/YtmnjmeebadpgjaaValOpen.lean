import Derived.Test.YtmnjmeebadpgjaaValTest
import Derived.Test.YtmnjmeebadpgjaaAvW
/- What values the laws are called with. -/
namespace Go.Proofs.Ytmnjmeebadpgjaa.Val
open Go Go.Av
set_option linter.unusedSimpArgs false
set_option linter.unusedVariables false
theorem wf_of {k : IntKind} {z : Int} (h : (Lit.int k z).wf = true) : (Lit.int k z).wf = true := h
theorem hasI {n : Nat} {x : AV} (h : HasA Try.prog (n + 1) 3 x) : ∃ z, x = I64 z ∧ (Lit.int .i64 z).wf = true := by
  obtain ⟨cs, hx, h⟩ := h
  unfold HasT at h
  rw [Try.underlying3] at h
  obtain ⟨z, rfl, hz⟩ := h
  refine ⟨z, ?_, hz⟩
  rw [hx]; unfold elA HasT.isAggT; rw [Try.underlying3]; rfl
theorem hasV_cells {n : Nat} {cs : List AV} (h : HasT Try.prog (n + 2) 45 cs) : ∃ k m t, cs = [I64 k, I64 m, SS t] ∧ (Lit.int .i64 k).wf = true ∧ (Lit.int .i64 m).wf = true ∧ t.size ≤ reachBytes := by
  unfold HasT at h
  rw [Try.underlying45] at h
  obtain ⟨hl, hf⟩ := h
  have c3 : Try.prog.cellsOf 3 = 1 := by kernel_rfl
  have c9 : Try.prog.cellsOf 9 = 1 := by kernel_rfl
  have c45 : Try.prog.cellsOf 45 = 3 := by kernel_rfl
  rw [c45] at hl
  simp only [List.mem_cons, List.not_mem_nil, or_false, forall_eq_or_imp, forall_eq, c3, c9] at hf
  obtain ⟨h0, h1, h2⟩ := hf
  match cs, hl with
  | [x, y, z], _ =>
    unfold HasT at h0 h1 h2
    rw [Try.underlying3] at h0 h1
    rw [Try.underlying9] at h2
    obtain ⟨k, hk, wk⟩ := h0
    obtain ⟨m, hm, wm⟩ := h1
    obtain ⟨t, ht, wt⟩ := h2
    simp at hk hm ht
    subst hk; subst hm; subst ht
    exact ⟨k, m, t, rfl, wk, wm, wt⟩
theorem hasV {n : Nat} {x : AV} (h : HasA Try.prog (n + 2) 45 x) : ∃ k m t, x = vlA k m t ∧ (Lit.int .i64 k).wf = true ∧ (Lit.int .i64 m).wf = true ∧ t.size ≤ reachBytes := by
  obtain ⟨cs, hx, h⟩ := h
  obtain ⟨k, m, t, rfl, h1, h2, h3⟩ := hasV_cells h
  refine ⟨k, m, t, ?_, h1, h2, h3⟩
  rw [hx]; unfold elA HasT.isAggT; rw [Try.underlying45]; rfl
theorem tests_row (x0 x1 x2 : AV) (h0 : HasA Try.prog 5 3 x0) (h1 : HasA Try.prog 5 45 x1) (h2 : HasA Try.prog 5 45 x2) (g : GH) : PureC Try.prog 14 [x0, x1, x2] g (BB true) := by
  obtain ⟨z, rfl, -⟩ := hasI h0
  obtain ⟨k, m, t, rfl, -, -, -⟩ := hasV h1
  obtain ⟨k', m', t', rfl, -, -, -⟩ := hasV h2
  exact law_tests z k m t k' m' t' g
end Go.Proofs.Ytmnjmeebadpgjaa.Val
