import Derived.Test.YtjinngfpbmkhaaaDoorLexL
import Derived.Test.YtjinngfpbmkhaaaDoorAvW
import Derived.Test.YtjinngfpbmkhaaaDoorRows
import Derived.MakeChecks
import Derived.LaidLaws
/- What the laws are called with, and what the tables hold. -/
namespace Go.Proofs.YtjinngfpbmkhaaaDoor.Lex
open Go Go.Av Go.Proofs.YtjinngfpbmkhaaaDoor.Val
set_option linter.unusedSimpArgs false
set_option linter.unusedVariables false
theorem tab_is : (Rows.laid_strings_asciiSpace : DataW Unit) = Lib.tabData .u8 Lib.asciiSpaceTab := by kernel_rfl
theorem base_of_laid {W : World} (h : laidMetH Tryd.prog [("unicode.White_Space", Rows.laid_unicode_White_Space), ("strings.asciiSpace", Rows.laid_strings_asciiSpace)] W) : BaseW W := by
  rw [MakeChecks.laidMetH_plain _ _ _ (by kernel_rfl)] at h
  obtain ⟨ps, ⟨g0, t0, cs0, f0, p0, q0, hg0, ht0, hv0, hd0, ⟨g1, t1, cs1, f1, p1, q1, hg1, ht1, hv1, hd1, _, _⟩, _⟩, _⟩ := h
  have hg : Tryd.prog.globalNamed "strings.asciiSpace" = some 0 := by kernel_rfl
  obtain rfl := Option.some.inj (hg.symm.trans hg1)
  have ht : (Tryd.prog.globals[0]?).map (·.type) = some 50 := by kernel_rfl
  obtain rfl := Option.some.inj (ht.symm.trans ht1)
  rw [tab_is] at hd1
  have hcs := Lib.cells_of_tab Tryd.underlying50 Tryd.underlying5 (by kernel_rfl) (by kernel_rfl) hd1
  intro p hp
  have hp := List.mem_singleton.1 hp
  subst hp
  unfold World.var? at hv1
  rw [hg, Option.bind_some] at hv1
  split at hv1
  · rename_i cs t fr hh
    cases hv1
    refine ⟨t, fr, ?_⟩
    rw [hh]
    have : cs1 = (Lib.asciiSpaceTab.map fun z => Value.int .u8 z).toArray := by
      apply Array.ext'; rw [hcs]
    rw [this]
  · cases hv1
theorem hasS {n : Nat} {x : AV} (h : HasA Tryd.prog (n + 1) 9 x) : ∃ s, x = SS s ∧ s.size ≤ reachBytes := by
  obtain ⟨cs, hx, h⟩ := h
  unfold HasT at h
  rw [Tryd.underlying9] at h
  obtain ⟨s, rfl, hs⟩ := h
  refine ⟨s, ?_, hs⟩
  rw [hx]; unfold elA HasT.isAggT; rw [Tryd.underlying9]; rfl
theorem words_row (x0 : AV) (h0 : HasA Tryd.prog 5 9 x0) (g : GH) : PureC Tryd.prog 3 [x0] g (BB true) := by
  obtain ⟨s, rfl, -⟩ := hasS h0
  exact law_words s g
theorem signs_row (x0 : AV) (h0 : HasA Tryd.prog 5 9 x0) (g : GH) : PureC Tryd.prog 5 [x0] g (BB true) := by
  obtain ⟨s, rfl, -⟩ := hasS h0
  exact law_signs s g
end Go.Proofs.YtjinngfpbmkhaaaDoor.Lex
