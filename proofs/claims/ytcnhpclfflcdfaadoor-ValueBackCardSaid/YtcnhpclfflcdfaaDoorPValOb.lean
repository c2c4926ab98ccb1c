import Derived.Test.YtcnhpclfflcdfaaDoorPValBack
import Derived.Test.YtcnhpclfflcdfaaDoorPAvW
import Derived.Test.YtcnhpclfflcdfaaDoorRows
import Derived.MakeChecks
import Derived.LaidLaws
/- What ValueBack is called with, and what the tables hold. -/
namespace Go.Proofs.YtcnhpclfflcdfaaDoorP.Val
open Go Go.Av
set_option linter.unusedSimpArgs false
set_option linter.unusedVariables false
theorem tab_is : (Go.Proofs.YtcnhpclfflcdfaaDoor.Rows.laid_internal_strconv_uint64pow10 : DataW Unit) = Lib.tabData .u64 Lib.pow10Tab := by kernel_rfl
theorem base_of_laid {W : World} (h : laidMetH Tryd.prog [("math/bits.deBruijn32tab", Go.Proofs.YtcnhpclfflcdfaaDoor.Rows.laid_math_bits_deBruijn32tab), ("math/bits.deBruijn64tab", Go.Proofs.YtcnhpclfflcdfaaDoor.Rows.laid_math_bits_deBruijn64tab), ("internal/strconv.uint64pow10", Go.Proofs.YtcnhpclfflcdfaaDoor.Rows.laid_internal_strconv_uint64pow10)] W) : BaseW W := by
  rw [MakeChecks.laidMetH_plain _ _ _ (by kernel_rfl)] at h
  obtain ⟨ps, ⟨g0, t0, cs0, f0, p0, q0, hg0, ht0, hv0, hd0, ⟨g2, t2, cs2, f2, p2, q2, hg2, ht2, hv2, hd2, ⟨g1, t1, cs1, f1, p1, q1, hg1, ht1, hv1, hd1, _, _⟩, _⟩, _⟩, _⟩ := h
  have hg : Tryd.prog.globalNamed "internal/strconv.uint64pow10" = some 2 := by kernel_rfl
  obtain rfl := Option.some.inj (hg.symm.trans hg1)
  have ht : (Tryd.prog.globals[2]?).map (·.type) = some 158 := by kernel_rfl
  obtain rfl := Option.some.inj (ht.symm.trans ht1)
  rw [tab_is] at hd1
  have hcs := Lib.cells_of_tab Tryd.underlying158 Tryd.underlying99 (by kernel_rfl) (by kernel_rfl) hd1
  intro p hp
  have hp := List.mem_singleton.1 hp
  subst hp
  unfold World.var? at hv1
  rw [hg, Option.bind_some] at hv1
  split at hv1
  · rename_i cs t fr hh
    cases hv1
    refine ⟨t, fr, ?_⟩
    rw [hh]
    have : cs1 = (Lib.pow10Tab.map fun z => Value.int .u64 z).toArray := by
      apply Array.ext'; rw [hcs]
    rw [this]
  · cases hv1
set_option maxRecDepth 100000
theorem hasS {n : Nat} {x : AV} (h : HasA Tryd.prog (n + 1) 9 x) : ∃ s, x = SS s ∧ s.size ≤ reachBytes := by
  obtain ⟨cs, hx, h⟩ := h
  unfold HasT at h
  rw [Tryd.underlying9] at h
  obtain ⟨s, rfl, hs⟩ := h
  refine ⟨s, ?_, hs⟩
  rw [hx]; unfold elA HasT.isAggT; rw [Tryd.underlying9]; rfl
theorem hasV_cells {n : Nat} {cs : List AV} (h : HasT Tryd.prog (n + 2) 23 cs) : ∃ k m t, cs = [I64 k, I64 m, SS t] ∧ (Lit.int .i64 k).wf = true ∧ (Lit.int .i64 m).wf = true ∧ t.size ≤ reachBytes := by
  unfold HasT at h
  rw [Tryd.underlying23] at h
  obtain ⟨hl, hf⟩ := h
  have c3 : Tryd.prog.cellsOf 3 = 1 := by kernel_rfl
  have c9 : Tryd.prog.cellsOf 9 = 1 := by kernel_rfl
  have c45 : Tryd.prog.cellsOf 23 = 3 := by kernel_rfl
  rw [c45] at hl
  simp only [List.mem_cons, List.not_mem_nil, or_false, forall_eq_or_imp, forall_eq, c3, c9] at hf
  obtain ⟨h0, h1, h2⟩ := hf
  match cs, hl with
  | [x, y, z], _ =>
    unfold HasT at h0 h1 h2
    rw [Tryd.underlying3] at h0 h1
    rw [Tryd.underlying9] at h2
    obtain ⟨k, hk, wk⟩ := h0
    obtain ⟨m, hm, wm⟩ := h1
    obtain ⟨t, ht, wt⟩ := h2
    simp at hk hm ht
    subst hk; subst hm; subst ht
    exact ⟨k, m, t, rfl, wk, wm, wt⟩
theorem hasV {n : Nat} {x : AV} (h : HasA Tryd.prog (n + 2) 23 x) : ∃ k m t, x = vlA k m t ∧ (Lit.int .i64 k).wf = true ∧ (Lit.int .i64 m).wf = true ∧ t.size ≤ reachBytes := by
  obtain ⟨cs, hx, h⟩ := h
  obtain ⟨k, m, t, rfl, h1, h2, h3⟩ := hasV_cells h
  refine ⟨k, m, t, ?_, h1, h2, h3⟩
  rw [hx]; unfold elA HasT.isAggT; rw [Tryd.underlying23]; rfl
theorem back_row (x0 x1 : AV) (h0 : HasA Tryd.prog 5 23 x0) (h1 : HasA Tryd.prog 5 9 x1) (g : GH) : PureC Tryd.prog 3 [x0, x1] g (BB true) := by
  obtain ⟨k, m, t, rfl, -, -, -⟩ := hasV h0
  obtain ⟨s, rfl, -⟩ := hasS h1
  exact law_back k m t s g
end Go.Proofs.YtcnhpclfflcdfaaDoorP.Val
