import Derived.Test.YtcnhpclfflcdfaaDoorRRegT
import Derived.Test.YtcnhpclfflcdfaaDoorRAvW
import Derived.Test.YtcnhpclfflcdfaaDoorRows
import Derived.MakeChecks
import Derived.LaidLaws
/- What the laws are called with, and what the tables hold. -/
namespace Go.Proofs.YtcnhpclfflcdfaaDoorR.Reg
open Go Go.Av Go.Proofs.YtcnhpclfflcdfaaDoorR.Val Go.Proofs.YtcnhpclfflcdfaaDoorR.Lex
set_option linter.unusedSimpArgs false
set_option linter.unusedVariables false
theorem tab_is : (Go.Proofs.YtcnhpclfflcdfaaDoor.Rows.laid_strings_asciiSpace : DataW Unit) = Lib.tabData .u8 Lib.asciiSpaceTab := by kernel_rfl
theorem base_of_laid {W : World} (h : laidMetH Tryd.prog [("unicode.White_Space", Go.Proofs.YtcnhpclfflcdfaaDoor.Rows.laid_unicode_White_Space), ("strings.asciiSpace", Go.Proofs.YtcnhpclfflcdfaaDoor.Rows.laid_strings_asciiSpace)] W) : BaseW W := by
  rw [MakeChecks.laidMetH_plain _ _ _ (by kernel_rfl)] at h
  obtain ⟨ps, ⟨g0, t0, cs0, f0, p0, q0, hg0, ht0, hv0, hd0, ⟨g1, t1, cs1, f1, p1, q1, hg1, ht1, hv1, hd1, _, _⟩, _⟩, _⟩ := h
  have hg : Tryd.prog.globalNamed "strings.asciiSpace" = some 1 := by kernel_rfl
  obtain rfl := Option.some.inj (hg.symm.trans hg1)
  have ht : (Tryd.prog.globals[1]?).map (·.type) = some 146 := by kernel_rfl
  obtain rfl := Option.some.inj (ht.symm.trans ht1)
  rw [tab_is] at hd1
  have hcs := Lib.cells_of_tab Tryd.underlying146 Tryd.underlying5 (by kernel_rfl) (by kernel_rfl) hd1
  intro p hp
  have hp := List.mem_singleton.1 hp
  subst hp
  unfold World.var? at hv1
  rw [hg, Option.bind_some] at hv1
  split at hv1
  · rename_i cs t fr hh
    cases hv1
    refine ⟨t, fr, ?_⟩
    rw [hh]
    have : cs1 = (Lib.asciiSpaceTab.map fun z => Value.int .u8 z).toArray := by
      apply Array.ext'; rw [hcs]
    rw [this]
  · cases hv1
set_option maxRecDepth 100000
theorem hasS {n : Nat} {x : AV} (h : HasA Tryd.prog (n + 1) 9 x) : ∃ s, x = SS s ∧ s.size ≤ reachBytes := by
  obtain ⟨cs, hx, h⟩ := h
  unfold HasT at h
  rw [Tryd.underlying9] at h
  obtain ⟨s, rfl, hs⟩ := h
  refine ⟨s, ?_, hs⟩
  rw [hx]; unfold elA HasT.isAggT; rw [Tryd.underlying9]; rfl
theorem reads_row (x0 : AV) (h0 : HasA Tryd.prog 5 9 x0) (g : GH) : PureC Tryd.prog 7 [x0] g (BB true) := by
  obtain ⟨s, rfl, -⟩ := hasS h0
  exact law_reads s g
end Go.Proofs.YtcnhpclfflcdfaaDoorR.Reg
