import Derived.Test.YtcnhpclfflcdfaaDoorQLexQ
import Derived.Test.YtcnhpclfflcdfaaDoorQAvW
import Derived.Test.YtcnhpclfflcdfaaDoorRows
import Derived.MakeChecks
import Derived.LaidLaws
/- What LexSame and LexBack are called with, and what the tables hold. -/
namespace Go.Proofs.YtcnhpclfflcdfaaDoorQ.Lex
open Go Go.Av Go.Proofs.YtcnhpclfflcdfaaDoorQ.Val
set_option linter.unusedSimpArgs false
set_option linter.unusedVariables false
theorem tab_is : (Go.Proofs.YtcnhpclfflcdfaaDoor.Rows.laid_internal_strconv_uint64pow10 : DataW Unit) = Lib.tabData .u64 Lib.pow10Tab := by kernel_rfl
theorem tab_is2 : (Go.Proofs.YtcnhpclfflcdfaaDoor.Rows.laid_strings_asciiSpace : DataW Unit) = Lib.tabData .u8 Lib.asciiSpaceTab := by kernel_rfl
theorem base_of_laid {W : World} (h : laidMetH Tryd.prog [("math/bits.deBruijn32tab", Go.Proofs.YtcnhpclfflcdfaaDoor.Rows.laid_math_bits_deBruijn32tab), ("math/bits.deBruijn64tab", Go.Proofs.YtcnhpclfflcdfaaDoor.Rows.laid_math_bits_deBruijn64tab), ("internal/strconv.uint64pow10", Go.Proofs.YtcnhpclfflcdfaaDoor.Rows.laid_internal_strconv_uint64pow10), ("unicode.White_Space", Go.Proofs.YtcnhpclfflcdfaaDoor.Rows.laid_unicode_White_Space), ("strings.asciiSpace", Go.Proofs.YtcnhpclfflcdfaaDoor.Rows.laid_strings_asciiSpace)] W) : BaseW W := by
  rw [MakeChecks.laidMetH_plain _ _ _ (by kernel_rfl)] at h
  obtain ⟨ps, ⟨g0, t0, cs0, f0, p0, q0, hg0, ht0, hv0, hd0, ⟨g2, t2, cs2, f2, p2, q2, hg2, ht2, hv2, hd2, ⟨g1, t1, cs1, f1, p1, q1, hg1, ht1, hv1, hd1, ⟨g3, t3, cs3, f3, p3, q3, hg3, ht3, hv3, hd3, ⟨g4, t4, cs4, f4, p4, q4, hg4, ht4, hv4, hd4, _, _⟩, _⟩, _⟩, _⟩, _⟩, _⟩ := h
  have hg : Tryd.prog.globalNamed "internal/strconv.uint64pow10" = some 2 := by kernel_rfl
  have hgs : Tryd.prog.globalNamed "strings.asciiSpace" = some 1 := by kernel_rfl
  obtain rfl := Option.some.inj (hg.symm.trans hg1)
  obtain rfl := Option.some.inj (hgs.symm.trans hg4)
  have ht : (Tryd.prog.globals[2]?).map (·.type) = some 158 := by kernel_rfl
  obtain rfl := Option.some.inj (ht.symm.trans ht1)
  have hts : (Tryd.prog.globals[1]?).map (·.type) = some 146 := by kernel_rfl
  obtain rfl := Option.some.inj (hts.symm.trans ht4)
  rw [tab_is] at hd1
  rw [tab_is2] at hd4
  have hcs := Lib.cells_of_tab Tryd.underlying158 Tryd.underlying99 (by kernel_rfl) (by kernel_rfl) hd1
  have hcs4 := Lib.cells_of_tab Tryd.underlying146 Tryd.underlying5 (by kernel_rfl) (by kernel_rfl) hd4
  intro p hp
  rcases List.mem_cons.1 hp with rfl | hp
  · unfold World.var? at hv4
    rw [hgs, Option.bind_some] at hv4
    split at hv4
    · rename_i cs t fr hh
      cases hv4
      refine ⟨t, fr, ?_⟩
      rw [hh]
      have : cs4 = (Lib.asciiSpaceTab.map fun z => Value.int .u8 z).toArray := by
        apply Array.ext'; rw [hcs4]
      rw [this]
    · cases hv4
  · have hp := List.mem_singleton.1 hp
    subst hp
    unfold World.var? at hv1
    rw [hg, Option.bind_some] at hv1
    split at hv1
    · rename_i cs t fr hh
      cases hv1
      refine ⟨t, fr, ?_⟩
      rw [hh]
      have : cs1 = (Lib.pow10Tab.map fun z => Value.int .u64 z).toArray := by
        apply Array.ext'; rw [hcs]
      rw [this]
    · cases hv1
set_option maxRecDepth 100000
theorem hasS {n : Nat} {x : AV} (h : HasA Tryd.prog (n + 1) 9 x) : ∃ s, x = SS s ∧ s.size ≤ reachBytes := by
  obtain ⟨cs, hx, h⟩ := h
  unfold HasT at h
  rw [Tryd.underlying9] at h
  obtain ⟨s, rfl, hs⟩ := h
  refine ⟨s, ?_, hs⟩
  rw [hx]; unfold elA HasT.isAggT; rw [Tryd.underlying9]; rfl
theorem hasV_cells {n : Nat} {cs : List AV} (h : HasT Tryd.prog (n + 2) 23 cs) : ∃ k m t, cs = [I64 k, I64 m, SS t] ∧ (Lit.int .i64 k).wf = true ∧ (Lit.int .i64 m).wf = true ∧ t.size ≤ reachBytes := by
  unfold HasT at h
  rw [Tryd.underlying23] at h
  obtain ⟨hl, hf⟩ := h
  have c3 : Tryd.prog.cellsOf 3 = 1 := by kernel_rfl
  have c9 : Tryd.prog.cellsOf 9 = 1 := by kernel_rfl
  have c45 : Tryd.prog.cellsOf 23 = 3 := by kernel_rfl
  rw [c45] at hl
  simp only [List.mem_cons, List.not_mem_nil, or_false, forall_eq_or_imp, forall_eq, c3, c9] at hf
  obtain ⟨h0, h1, h2⟩ := hf
  match cs, hl with
  | [x, y, z], _ =>
    unfold HasT at h0 h1 h2
    rw [Tryd.underlying3] at h0 h1
    rw [Tryd.underlying9] at h2
    obtain ⟨k, hk, wk⟩ := h0
    obtain ⟨m, hm, wm⟩ := h1
    obtain ⟨t, ht, wt⟩ := h2
    simp at hk hm ht
    subst hk; subst hm; subst ht
    exact ⟨k, m, t, rfl, wk, wm, wt⟩
theorem hasW_cells {n : Nat} {cs : List AV} (h : HasT Tryd.prog (n + 3) 70 cs) : ∃ w : Wd, cs = (wA w).cells := by
  unfold HasT at h
  rw [Tryd.underlying70] at h
  obtain ⟨hl, hf⟩ := h
  have c3 : Tryd.prog.cellsOf 3 = 1 := by kernel_rfl
  have c9 : Tryd.prog.cellsOf 9 = 1 := by kernel_rfl
  have cv : Tryd.prog.cellsOf 23 = 3 := by kernel_rfl
  have cw : Tryd.prog.cellsOf 70 = 6 := by kernel_rfl
  rw [cw] at hl
  simp only [List.mem_cons, List.not_mem_nil, or_false, forall_eq_or_imp, forall_eq, c3, c9, cv] at hf
  obtain ⟨h0, h1, h2, h3⟩ := hf
  match cs, hl with
  | [x, y, z1, z2, z3, u], _ =>
    obtain ⟨k, m, t, hv, -, -, -⟩ := hasV_cells h2
    unfold HasT at h0 h1 h3
    rw [Tryd.underlying3] at h0 h3
    rw [Tryd.underlying9] at h1
    obtain ⟨a, ha, -⟩ := h0
    obtain ⟨b, hb, -⟩ := h1
    obtain ⟨d, hd, -⟩ := h3
    simp at ha hb hd hv
    obtain ⟨rfl, rfl, rfl⟩ := hv
    subst ha; subst hb; subst hd
    exact ⟨(a, b, k, m, t, d), rfl⟩
theorem hasWs {n : Nat} {x : AV} (h : HasA Tryd.prog (n + 4) 36 x) : ∃ (b : Bool) (V : List Wd), x = .isl (some b) (Wds V) .no := by
  obtain ⟨cs, hx, h⟩ := h
  unfold HasT at h
  rw [Tryd.underlying36] at h
  obtain ⟨b, L, rfl, -, hl, hf⟩ := h
  have hag : HasT.isAggT Tryd.prog 70 = true := by unfold HasT.isAggT; rw [Tryd.underlying70]
  have key : ∀ (L : List (List AV)), (∀ x, x ∈ L → x.length = Tryd.prog.cellsOf 70 ∧ HasT Tryd.prog (n + 3) 70 x) → ∃ V : List Wd, L.map (elA true) = Wds V := by
    intro L
    induction L with
    | nil => exact fun _ => ⟨[], rfl⟩
    | cons y L ih =>
      intro hL
      obtain ⟨V, h1⟩ := ih fun x hx => hL x (by simp [hx])
      obtain ⟨-, hy⟩ := hL y List.mem_cons_self
      obtain ⟨w, rfl⟩ := hasW_cells hy
      exact ⟨w :: V, by rw [List.map_cons, h1]; rfl⟩
  obtain ⟨V, h1⟩ := key L hf
  refine ⟨b, V, ?_⟩
  rw [hx, hag, h1]; unfold elA HasT.isAggT; rw [Tryd.underlying36]; rfl
theorem same_row (x0 x1 : AV) (h0 : HasA Tryd.prog 5 36 x0) (h1 : HasA Tryd.prog 5 36 x1) (g : GH) : PureC Tryd.prog 5 [x0, x1] g (BB true) := by
  obtain ⟨b, V, rfl⟩ := hasWs h0
  obtain ⟨b2, V2, rfl⟩ := hasWs h1
  exact law_same V V2 (some b) (some b2) .no .no g
end Go.Proofs.YtcnhpclfflcdfaaDoorQ.Lex
