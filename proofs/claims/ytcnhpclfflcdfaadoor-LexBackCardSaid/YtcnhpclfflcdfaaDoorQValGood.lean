import Derived.Test.YtcnhpclfflcdfaaDoorQValReads
/- Which values are good; the small living call; the laws of names and of reading. -/
namespace Go.Proofs.YtcnhpclfflcdfaaDoorQ.Val
open Go Go.Av
set_option linter.unusedSimpArgs false
set_option linter.unusedVariables false
def isText (t : ByteArray) : Prop := t.size ≤ 100 ∧ ∀ i, i < t.size → plB (byteAt t i) = true
open Classical in
noncomputable def textB (t : ByteArray) : Bool := decide (isText t)
theorem textB_yes {t : ByteArray} (h : isText t) : textB t = true := by unfold textB; simp [h]
theorem textB_no {t : ByteArray} (h : ¬ isText t) : textB t = false := by unfold textB; simp [h]
theorem text5_c (s : ByteArray) (hs : s.size ≤ 140737488351232) (g : GH) : PureC Tryd.prog 89 [SS s] g (BB (textB s)) := by
  refine CallC.body (fun _ => none) (fun _ => 0) Tryd.func89 rfl Tryd.results89 Tryd.ntmps89 ?_
  intro n0 hn0
  simp only [go_sem]
  refine WC_loop (fun i : Nat => [SS s, .any, .any, .any, .any, I64 s.size, I64 i, .any, .any, .any, .any, .any, .any, .any, .any, .any, .any, .any]) (fun _ => ⟨g, []⟩) (fun i => i ≤ s.size ∧ ∀ j, j < i → plB (byteAt s j) = true) (fun i => s.size - i) 0 (by simp) ?_ ?_
  · refine imp_loc (by ((try simp only [cells_agg, cells_lit, leL_cons, leL_nil, leA_any, leA_lits, leA_isl, leA_self, and_self, true_and, and_true, or_true, true_or, Value.int.injEq, Value.bool.injEq, Value.string.injEq, AV.lit.injEq, Option.some.injEq, Blk.cells.injEq, Blk.tok.injEq, List.cons.injEq, Tk.at.injEq, subL_nil, subL_cons, look_nil, look_cons, ↓reduceIte, Nat.reduceEqDiff, Option.isSome_some, reduceCtorEq, or_false, false_or, if_true, if_false]); (try first | done | omega | (simp; done) | (simp; omega)))) (by ((try simp only [cells_agg, cells_lit, leL_cons, leL_nil, leA_any, leA_lits, leA_isl, leA_self, and_self, true_and, and_true, or_true, true_or, Value.int.injEq, Value.bool.injEq, Value.string.injEq, AV.lit.injEq, Option.some.injEq, Blk.cells.injEq, Blk.tok.injEq, List.cons.injEq, Tk.at.injEq, subL_nil, subL_cons, look_nil, look_cons, ↓reduceIte, Nat.reduceEqDiff, Option.isSome_some, reduceCtorEq, or_false, false_or, if_true, if_false]); (try first | done | omega | (simp; done) | (simp; omega)))) (by ((try simp only [cells_agg, cells_lit, List.mem_cons, List.not_mem_nil, or_false, forall_eq_or_imp, forall_eq, only_any, only_lit', only_iptr, only_no, only_full, only_at, only_ptr, only_osl, only_agg, only_tup, only_fn, and_self, implies_true, and_true, true_and, okL_nil, okL_cons, bonly_cells, bonly_tok, keepP_add, look_nil, look_cons, ↓reduceIte, Nat.reduceEqDiff, Option.isSome_some, reduceCtorEq, false_or, if_true, if_false, false_implies]); (try first | done | omega | ((repeat' refine And.intro ?_ ?_) <;> (intro _ hx; obtain ⟨_, -, rfl⟩ := List.mem_map.1 hx; exact .lit _))))) (by ((try simp only [cells_agg, cells_lit, List.mem_cons, List.not_mem_nil, or_false, forall_eq_or_imp, forall_eq, only_any, only_lit', only_iptr, only_no, only_full, only_at, only_ptr, only_osl, only_agg, only_tup, only_fn, and_self, implies_true, and_true, true_and, okL_nil, okL_cons, bonly_cells, bonly_tok, keepP_add, look_nil, look_cons, ↓reduceIte, Nat.reduceEqDiff, Option.isSome_some, reduceCtorEq, false_or, if_true, if_false, false_implies]); (try first | done | omega | ((repeat' refine And.intro ?_ ?_) <;> (intro _ hx; obtain ⟨_, -, rfl⟩ := List.mem_map.1 hx; exact .lit _)))))
  · rintro i ⟨hi, hok⟩
    simp only [go_sem]
    split
    · rename_i hlt
      have hlt : i < s.size := by omega
      have e1 : IntKind.i64.wrap ((i : Int) + 1) = ((i + 1 : Nat) : Int) := by rw [wrap_i64]; omega
      (repeat (refine ⟨by omega, ?_⟩))
      refine WE_pure _ _ _ _ _ _ _ _ (plain_c _ _) ?_
      simp only [go_sem]
      split
      · rename_i hp
        refine FnPost_end hn0 (by simp) rfl (only_lit _ _) ?_
        simp only [go_sem]
        exact leA_bool (textB_no fun h => by have := h.2 i hlt; rw [hp] at this; cases this).symm
      · rename_i hp
        refine LP_next (i + 1) ⟨by omega, fun j hj => by
          by_cases e : j = i
          · subst e; simpa using hp
          · exact hok j (by omega)⟩ (by omega) ?_
        rw [e1]
        refine imp_loc (by ((try simp only [cells_agg, cells_lit, leL_cons, leL_nil, leA_any, leA_lits, leA_isl, leA_self, and_self, true_and, and_true, or_true, true_or, Value.int.injEq, Value.bool.injEq, Value.string.injEq, AV.lit.injEq, Option.some.injEq, Blk.cells.injEq, Blk.tok.injEq, List.cons.injEq, Tk.at.injEq, subL_nil, subL_cons, look_nil, look_cons, ↓reduceIte, Nat.reduceEqDiff, Option.isSome_some, reduceCtorEq, or_false, false_or, if_true, if_false]); (try first | done | omega | (simp; done) | (simp; omega)))) (by ((try simp only [cells_agg, cells_lit, leL_cons, leL_nil, leA_any, leA_lits, leA_isl, leA_self, and_self, true_and, and_true, or_true, true_or, Value.int.injEq, Value.bool.injEq, Value.string.injEq, AV.lit.injEq, Option.some.injEq, Blk.cells.injEq, Blk.tok.injEq, List.cons.injEq, Tk.at.injEq, subL_nil, subL_cons, look_nil, look_cons, ↓reduceIte, Nat.reduceEqDiff, Option.isSome_some, reduceCtorEq, or_false, false_or, if_true, if_false]); (try first | done | omega | (simp; done) | (simp; omega)))) (by ((try simp only [cells_agg, cells_lit, List.mem_cons, List.not_mem_nil, or_false, forall_eq_or_imp, forall_eq, only_any, only_lit', only_iptr, only_no, only_full, only_at, only_ptr, only_osl, only_agg, only_tup, only_fn, and_self, implies_true, and_true, true_and, okL_nil, okL_cons, bonly_cells, bonly_tok, keepP_add, look_nil, look_cons, ↓reduceIte, Nat.reduceEqDiff, Option.isSome_some, reduceCtorEq, false_or, if_true, if_false, false_implies]); (try first | done | omega | ((repeat' refine And.intro ?_ ?_) <;> (intro _ hx; obtain ⟨_, -, rfl⟩ := List.mem_map.1 hx; exact .lit _))))) (by ((try simp only [cells_agg, cells_lit, List.mem_cons, List.not_mem_nil, or_false, forall_eq_or_imp, forall_eq, only_any, only_lit', only_iptr, only_no, only_full, only_at, only_ptr, only_osl, only_agg, only_tup, only_fn, and_self, implies_true, and_true, true_and, okL_nil, okL_cons, bonly_cells, bonly_tok, keepP_add, look_nil, look_cons, ↓reduceIte, Nat.reduceEqDiff, Option.isSome_some, reduceCtorEq, false_or, if_true, if_false, false_implies]); (try first | done | omega | ((repeat' refine And.intro ?_ ?_) <;> (intro _ hx; obtain ⟨_, -, rfl⟩ := List.mem_map.1 hx; exact .lit _)))))
    · have : i = s.size := by omega
      subst this
      refine FnPost_end hn0 (by simp) rfl (only_lit _ _) ?_
      simp only [go_sem]
      refine leA_bool ?_
      by_cases h : s.size ≤ 100
      · rw [textB_yes ⟨h, hok⟩]; simp; omega
      · rw [textB_no fun hn => h hn.1]; simp; omega
def goodF (k n : Int) (t : ByteArray) : Prop := (k = 0 ∧ n = 0 ∧ t.size = 0) ∨ goodV k n t
open Classical in
noncomputable def goodB (k n : Int) (t : ByteArray) : Bool := decide (goodF k n t)
theorem goodB_yes {k n : Int} {t : ByteArray} (h : goodF k n t) : goodB k n t = true := by unfold goodB; simp [h]
theorem goodB_no {k n : Int} {t : ByteArray} (h : ¬ goodF k n t) : goodB k n t = false := by unfold goodB; simp [h]
theorem good_c (k n : Int) (t : ByteArray) (hs : t.size ≤ 140737488351232) (g : GH) : PureC Tryd.prog 55 [vlA k n t] g (BB (goodB k n t)) := by
  refine CallC.body (fun _ => none) (fun _ => 0) Tryd.func55 rfl Tryd.results55 Tryd.ntmps55 ?_
  intro n0 hn0
  simp only [go_sem]
  split
  · rename_i hk
    subst hk
    refine FnPost_end hn0 (by simp) rfl (only_lit _ _) ?_
    simp only [go_sem]
    refine leA_bool ?_
    by_cases h : n = 0 ∧ t.size = 0
    · rw [goodB_yes (.inl ⟨rfl, h.1, h.2⟩)]; simp [h.1, h.2]
    · rw [goodB_no (by unfold goodF goodV; omega)]
      simp only [Bool.and_eq_false_iff, decide_eq_false_iff_not, Bool.true_and, decide_true]; omega
  · split
    · rename_i hk0 hk
      subst hk
      (repeat' (refine WG_split _ _ _ _ _ _ _ _ _ (fun hh => ?_) (fun hh => ?_) <;> (try simp only [decide_eq_true_eq, decide_eq_false_iff_not, Bool.not_eq_true', Bool.not_eq_false', Bool.not_eq_true, Bool.not_eq_false] at hh) <;> (first | simp only [go_sem, boolEqH hh] | simp only [go_sem, eq_false hh] | simp only [go_sem, eq_true hh])))
      all_goals
        refine FnPost_end hn0 (by simp) rfl (only_lit _ _) ?_
        simp only [go_sem]
        refine leA_bool ?_
        unfold goodB
        rw [Bool.eq_iff_iff]
        simp only [decide_eq_true_eq, Bool.false_eq_true, false_iff]
        unfold goodF goodV
        omega
    · split
      · rename_i hk0 hk1 hk
        subst hk
        (repeat' (refine WG_split _ _ _ _ _ _ _ _ _ (fun hh => ?_) (fun hh => ?_) <;> (try simp only [decide_eq_true_eq, decide_eq_false_iff_not, Bool.not_eq_true', Bool.not_eq_false', Bool.not_eq_true, Bool.not_eq_false] at hh) <;> (first | simp only [go_sem, boolEqH hh] | simp only [go_sem, eq_false hh] | simp only [go_sem, eq_true hh])))
        · refine WE_pure _ _ _ _ _ _ _ _ (text5_c t hs _) ?_
          simp only [go_sem]
          refine FnPost_end hn0 (by simp) rfl (only_lit _ _) ?_
          simp only [go_sem]
          refine leA_bool ?_
          unfold goodB textB
          rw [Bool.eq_iff_iff]
          simp only [decide_eq_true_eq]
          unfold goodF goodV isText
          constructor
          · rintro ⟨h1, h2⟩; exact .inr (.inr ⟨rfl, hh, h1, h2⟩)
          · rintro (h | h | h)
            · omega
            · omega
            · exact ⟨h.2.2.1, h.2.2.2⟩
        · refine FnPost_end hn0 (by simp) rfl (only_lit _ _) ?_
          simp only [go_sem]
          refine leA_bool ?_
          rw [goodB_no (by unfold goodF goodV; rintro (h | h | h) <;> omega)]
      · refine FnPost_end hn0 (by simp) rfl (only_lit _ _) ?_
        simp only [go_sem]
        refine leA_bool ?_
        rw [goodB_no (by unfold goodF goodV; rintro (h | h | h) <;> omega)]
theorem read_lives : readR ⟨#[39, 97, 92, 39, 98, 39, 120]⟩ = rdA 2 0 ⟨#[97, 39, 98]⟩ 6 0 := by kernel_rfl
theorem name_lives : nameB ⟨#[97, 95, 49]⟩ = true := nameB_yes (by unfold isName okAt; decide)
theorem name_dies : nameB ⟨#[49, 97]⟩ = false := nameB_no (by unfold isName okAt; decide)
theorem lives_c (g : GH) : PureC Tryd.prog 17 [] g (BB true) := by
  refine CallC.body (fun _ => none) (fun _ => 0) Tryd.func17 rfl Tryd.results17 Tryd.ntmps17 ?_
  intro n0 hn0
  simp only [go_sem]
  refine WE_pure _ _ _ _ _ _ _ _ (read_lives ▸ read_c ⟨#[39, 97, 92, 39, 98, 39, 120]⟩ (by decide) _) ?_
  simp only [go_sem]
  refine WE_pure _ _ _ _ _ _ _ _ (name_c _ (by decide) _) ?_
  simp only [go_sem, name_lives]
  refine WE_pure _ _ _ _ _ _ _ _ (name_c _ (by decide) _) ?_
  simp only [go_sem, name_dies]
  refine FnPost_end hn0 (by simp) rfl (only_lit _ _) ?_
  simp only [go_sem]
  exact leA_refl _
end Go.Proofs.YtcnhpclfflcdfaaDoorQ.Val
