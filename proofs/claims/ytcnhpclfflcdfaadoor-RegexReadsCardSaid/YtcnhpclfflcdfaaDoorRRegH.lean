import Derived.Test.YtcnhpclfflcdfaaDoorRRegG
/- Expressions: the document's judge. -/
namespace Go.Proofs.YtcnhpclfflcdfaaDoorR.Reg
open Go Go.Av Go.Proofs.YtcnhpclfflcdfaaDoorR.Val Go.Proofs.YtcnhpclfflcdfaaDoorR.Lex
set_option linter.unusedSimpArgs false
set_option linter.unusedVariables false
noncomputable def formD (d : Nat) (r : Rx) : Bool := decide (deepR r ≤ d) && formR nameB r
theorem formD_eq (d : Nat) (r : Rx) : formD (d + 1) r = (countB r.k r.ps.length && symB nameB r.k r.l r.b && (decide (deepL r.ps ≤ d) && formL nameB r.k r.ps)) := by
  unfold formD
  rw [formR_eq, deepR_eq]
  have : decide (deepL r.ps + 1 ≤ d + 1) = decide (deepL r.ps ≤ d) := by
    by_cases h : deepL r.ps ≤ d
    · rw [decide_eq_true h, decide_eq_true (by omega)]
    · rw [decide_eq_false h, decide_eq_false (by omega)]
  rw [this]
  cases decide (deepL r.ps ≤ d) <;> cases countB r.k r.ps.length <;> cases symB nameB r.k r.l r.b <;> simp
theorem formD_0 (r : Rx) : formD 0 r = false := by
  unfold formD
  rw [deepR_eq, decide_eq_false (by omega)]; rfl
theorem rFormed_0 (r : Rx) (g : GH) : PureC Tryd.prog 71 [rA r, I64 0] g (BB (formD 0 r)) := by
  rw [formD_0, rA_eq r]
  refine CallC.body (fun _ => none) (fun _ => 0) Tryd.func71 rfl Tryd.results71 Tryd.ntmps71 ?_
  intro n0 hn0
  simp only [go_sem]
  refine FnPost_end hn0 (by simp) rfl (only_lit _ _) ?_
  simp only [go_sem]
  exact leA_refl _
set_option maxHeartbeats 4000000 in
set_option maxRecDepth 100000 in
theorem rFormed_s (d : Nat) (hd : d ≤ 1000) (r : Rx) (hb : r.nodes ≤ 1000000) (hl : r.l.size ≤ 100000) (ih : ∀ p, p ∈ r.ps → ∀ g : GH, PureC Tryd.prog 71 [rA p, I64 d] g (BB (formD d p))) (g : GH) : PureC Tryd.prog 71 [rA r, I64 ((d + 1 : Nat) : Int)] g (BB (formD (d + 1) r)) := by
  have hlen := r.len_lt
  have hsz := formD_eq d r
  rw [rA_eq r, hsz]
  generalize r.k = k at *
  generalize r.l = l at *
  generalize r.b = b at *
  generalize r.ps = ps at *
  refine CallC.body (fun _ => none) (fun _ => 0) Tryd.func71 rfl Tryd.results71 Tryd.ntmps71 ?_
  intro n0 hn0
  simp only [go_sem]
  have cf : ∀ {x y : Bool}, countB k ps.length = false → false = (countB k ps.length && x && y) := fun h => by rw [h]; rfl
  have c0 : ¬ (((d + 1 : Nat) : Int) = 0) := by omega
  by_cases c1 : k < 1
  · simp only [go_sem, eq_false c0, eq_true c1, List.length_map]
    refine FnPost_end hn0 (by simp) rfl (only_lit _ _) ?_
    simp only [go_sem]
    exact leA_bool (cf (by unfold countB manyR; simp; omega))
  · by_cases c2 : 7 < k
    · simp only [go_sem, eq_false c0, eq_false c1, eq_true c2, List.length_map]
      refine FnPost_end hn0 (by simp) rfl (only_lit _ _) ?_
      simp only [go_sem]
      exact leA_bool (cf (by unfold countB manyR; simp; omega))
    · by_cases hlo : k < 3
      · have hk3 : ¬ k = 3 := by omega
        have hk4 : ¬ k = 4 := by omega
        have hhi : ¬ 4 < k := by omega
        have hmn : ¬ manyR k < 0 := by unfold manyR; rw [if_neg (by omega), if_neg (by omega)]; decide
        by_cases cn : (ps.length : Int) = 0
        · simp only [go_sem, eq_false c0, eq_false c1, eq_false c2, List.length_map, eq_true hlo, eq_true cn, eq_false hk3, eq_false hk4, eq_false hhi]
          have hcb : countB k ps.length = true := by unfold countB manyR; simp; omega
          rw [hcb]
          simp only [Bool.true_and]
          by_cases hk2 : k = 2
          · simp only [go_sem, eq_true hk2]
            cases hs : nameB l
            · refine WE_pure _ _ _ _ _ _ _ _ (rname_c l (by omega) _) ?_
              simp only [go_sem, hs, eq_true hk2]
              refine FnPost_end hn0 (by simp) rfl (only_lit _ _) ?_
              simp only [go_sem]
              exact leA_bool (by unfold symB; rw [if_pos hk2, hs]; rfl)
            · refine WE_pure _ _ _ _ _ _ _ _ (rname_c l (by omega) _) ?_
              simp only [go_sem, hs, eq_true hk2]
              have hsy : symB nameB k l b = true := by unfold symB; rw [if_pos hk2, hs]
              rw [hsy]
              simp only [Bool.true_and]
              refine WC_loop (fun i : Nat => [.any, I64 ((d + 1 : Nat) : Int), .ptr (n0 + 2) 0 0, .any, .any, I64 ps.length, I64 i, .any, .any, .any, .any, .any, .any, .any, .any, .any, .any, .any, .any, .any, .any, .any, .any, .any, .any, .any, .any, .any, .any, .any, .any, .any, .any, .any, .any, .any, .any, .any, .any, .any, .any, .any, .any, .any, .any, .any, .any, .any, .any, .any, .any, .any, .any, .any, .any, .any, .any, .any, .any, .any, .any, .any, .any, .any, .any, .any, .any, .any, .any, .any, .any, .any, .any, .any, .any, .any, .any, .any, .any, .any, .any, .any, .any, .any, .any, .any, .any, .any, .any, .any, .any, .any, .any, .any, .any, .any, .any, .any, .any, .any, .any, .any, .any, .any, .any, .any, .any, .any, .any, .any, .any, .any, .any, .any, .any]) (fun i => ⟨g, [(2, .cells 0 [I64 k, SS l, BB b, .isl none (ps.map rA) .no])]⟩) (fun i => i ≤ ps.length ∧ deepL (ps.take i) ≤ d ∧ formL nameB k (ps.take i) = true) (fun i => ps.length - i) 0 ⟨by simp, by rw [List.take_zero, deepL]; omega, by rw [List.take_zero, formL]⟩ ?_ ?_
              · refine imp_loc (by ((try simp only [cells_agg, cells_lit, leL_cons, leL_nil, leA_any, leA_lits, leA_isl, leA_self, and_self, true_and, and_true, or_true, true_or, Value.int.injEq, Value.bool.injEq, Value.string.injEq, AV.lit.injEq, Option.some.injEq, Blk.cells.injEq, Blk.tok.injEq, List.cons.injEq, Tk.at.injEq, subL_nil, subL_cons, look_nil, look_cons, ↓reduceIte, Nat.reduceEqDiff, Option.isSome_some, reduceCtorEq, or_false, false_or, if_true, if_false, List.length_map]); (try first | done | omega | (simp; done) | (simp; omega)))) (by ((try simp only [cells_agg, cells_lit, leL_cons, leL_nil, leA_any, leA_lits, leA_isl, leA_self, and_self, true_and, and_true, or_true, true_or, Value.int.injEq, Value.bool.injEq, Value.string.injEq, AV.lit.injEq, Option.some.injEq, Blk.cells.injEq, Blk.tok.injEq, List.cons.injEq, Tk.at.injEq, subL_nil, subL_cons, look_nil, look_cons, ↓reduceIte, Nat.reduceEqDiff, Option.isSome_some, reduceCtorEq, or_false, false_or, if_true, if_false, List.length_map]); (try first | done | omega | (simp; done) | (simp; omega)))) (by ((try simp only [cells_agg, cells_lit, List.mem_cons, List.not_mem_nil, or_false, forall_eq_or_imp, forall_eq, only_any, only_lit', only_iptr, only_no, only_full, only_at, only_ptr, only_osl, only_agg, only_tup, only_fn, only_bfn, and_self, implies_true, and_true, true_and, okL_nil, okL_cons, bonly_cells, bonly_tok, keepP_add, look_nil, look_cons, ↓reduceIte, Nat.reduceEqDiff, Option.isSome_some, reduceCtorEq, false_or, if_true, if_false, false_implies, List.length_map]); (try first | done | omega | ((repeat' refine And.intro ?_ ?_) <;> (intro _ hx; obtain ⟨_, -, rfl⟩ := List.mem_map.1 hx; exact .lit _))))) (by ((try simp only [cells_agg, cells_lit, List.mem_cons, List.not_mem_nil, or_false, forall_eq_or_imp, forall_eq, only_any, only_lit', only_iptr, only_no, only_full, only_at, only_ptr, only_osl, only_agg, only_tup, only_fn, only_bfn, and_self, implies_true, and_true, true_and, okL_nil, okL_cons, bonly_cells, bonly_tok, keepP_add, look_nil, look_cons, ↓reduceIte, Nat.reduceEqDiff, Option.isSome_some, reduceCtorEq, false_or, if_true, if_false, false_implies, List.length_map]); (try first | done | omega | ((repeat' refine And.intro ?_ ?_) <;> (intro _ hx; obtain ⟨_, -, rfl⟩ := List.mem_map.1 hx; exact .lit _)))))
              · rintro i ⟨hi, hi1, hi2⟩
                simp only [go_sem, List.length_map]
                split
                · rename_i hlt
                  have hlt : i < ps.length := by omega
                  have e1 : IntKind.i64.wrap ((i : Int) + 1) = ((i + 1 : Nat) : Int) := by rw [wrap_i64]; omega
                  have e2 : IntKind.i64.wrap (((d + 1 : Nat) : Int) - 1) = ((d : Nat) : Int) := by rw [wrap_i64]; omega
                  have hp := rx_getD_mem hlt
                  have ih' := ih _ hp
                  have hst := formL_take nameB k hlt
                  have hsd := deepL_take hlt
                  have hbd := formL_bad nameB k hlt
                  have hbe : ¬ deepR (ps.getD i rx0) ≤ d → ¬ deepL ps ≤ d := fun h h' => by
                    have e : ps = ps.take (i + 1) ++ ps.drop (i + 1) := (List.take_append_drop _ _).symm
                    rw [e, deepL_app, hsd] at h'; omega
                  have gp := rA_getD ps i hlt
                  generalize ps.getD i rx0 = p at *
                  rw [rA_eq p] at ih'
                  refine WC_draw Ty.mixed (by kernel_rfl) ?_
                  simp only [go_sem, List.length_map, gp, rA_cells, e2]
                  (repeat (refine ⟨by omega, ?_⟩))
                  cases hf : formD d p
                  · refine DE_pure _ _ _ _ _ _ _ _ _ [] (fun g' _ => ih' _) ?_
                    simp only [go_sem, hf, List.length_map, gp, rA_cells]
                    refine FnPost_end hn0 (by simp) rfl (only_lit _ _) ?_
                    simp only [go_sem]
                    refine leA_bool ?_
                    unfold formD at hf
                    by_cases hd : deepR p ≤ d
                    · rw [decide_eq_true hd, Bool.true_and] at hf
                      rw [hbd (by rw [hf]; rfl)]; simp
                    · rw [decide_eq_false (hbe hd)]; rfl
                  · have hf2 := hf
                    unfold formD at hf2
                    rw [Bool.and_eq_true, decide_eq_true_eq] at hf2
                    refine DE_pure _ _ _ _ _ _ _ _ _ [] (fun g' _ => ih' _) ?_
                    simp only [go_sem, hf, List.length_map, gp, rA_cells, eq_false hk3, eq_false hk4]
                    refine LP_next (i + 1) ⟨by omega, by rw [hsd]; omega, by rw [hst, hi2, hf2.2, decide_eq_false (fun h => hmn h.1)]; rfl⟩ (by omega) ?_
                    rw [e1]
                    refine imp_loc (by ((try simp only [cells_agg, cells_lit, leL_cons, leL_nil, leA_any, leA_lits, leA_isl, leA_self, and_self, true_and, and_true, or_true, true_or, Value.int.injEq, Value.bool.injEq, Value.string.injEq, AV.lit.injEq, Option.some.injEq, Blk.cells.injEq, Blk.tok.injEq, List.cons.injEq, Tk.at.injEq, subL_nil, subL_cons, look_nil, look_cons, ↓reduceIte, Nat.reduceEqDiff, Option.isSome_some, reduceCtorEq, or_false, false_or, if_true, if_false]); (try first | done | omega | (simp; done) | (simp; omega)))) (by ((try simp only [cells_agg, cells_lit, leL_cons, leL_nil, leA_any, leA_lits, leA_isl, leA_self, and_self, true_and, and_true, or_true, true_or, Value.int.injEq, Value.bool.injEq, Value.string.injEq, AV.lit.injEq, Option.some.injEq, Blk.cells.injEq, Blk.tok.injEq, List.cons.injEq, Tk.at.injEq, subL_nil, subL_cons, look_nil, look_cons, ↓reduceIte, Nat.reduceEqDiff, Option.isSome_some, reduceCtorEq, or_false, false_or, if_true, if_false]); (try first | done | omega | (simp; done) | (simp; omega)))) (by ((try simp only [cells_agg, cells_lit, List.mem_cons, List.not_mem_nil, or_false, forall_eq_or_imp, forall_eq, only_any, only_lit', only_iptr, only_no, only_full, only_at, only_ptr, only_osl, only_agg, only_tup, only_fn, only_bfn, and_self, implies_true, and_true, true_and, okL_nil, okL_cons, bonly_cells, bonly_tok, keepP_add, look_nil, look_cons, ↓reduceIte, Nat.reduceEqDiff, Option.isSome_some, reduceCtorEq, false_or, if_true, if_false, false_implies]); (try first | done | omega | ((repeat' refine And.intro ?_ ?_) <;> (intro _ hx; obtain ⟨_, -, rfl⟩ := List.mem_map.1 hx; exact .lit _))))) (by ((try simp only [cells_agg, cells_lit, List.mem_cons, List.not_mem_nil, or_false, forall_eq_or_imp, forall_eq, only_any, only_lit', only_iptr, only_no, only_full, only_at, only_ptr, only_osl, only_agg, only_tup, only_fn, only_bfn, and_self, implies_true, and_true, true_and, okL_nil, okL_cons, bonly_cells, bonly_tok, keepP_add, look_nil, look_cons, ↓reduceIte, Nat.reduceEqDiff, Option.isSome_some, reduceCtorEq, false_or, if_true, if_false, false_implies]); (try first | done | omega | ((repeat' refine And.intro ?_ ?_) <;> (intro _ hx; obtain ⟨_, -, rfl⟩ := List.mem_map.1 hx; exact .lit _)))))
                · have : i = ps.length := by omega
                  subst this
                  rw [List.take_length] at hi1 hi2
                  refine FnPost_end hn0 (by simp) rfl (only_lit _ _) ?_
                  simp only [go_sem]
                  exact leA_bool (by rw [hi2, decide_eq_true hi1]; rfl)
          · simp only [go_sem, eq_false hk2]
            by_cases hl0 : l.size = 0
            · cases b
              · simp only [go_sem, eq_false hk2, str_eq, eq_true hl0]
                have hsy : symB nameB k l false = true := by unfold symB; rw [if_neg hk2, decide_eq_true hl0]; rfl
                rw [hsy]
                simp only [Bool.true_and]
                refine WC_loop (fun i : Nat => [.any, I64 ((d + 1 : Nat) : Int), .ptr (n0 + 2) 0 0, .any, .any, I64 ps.length, I64 i, .any, .any, .any, .any, .any, .any, .any, .any, .any, .any, .any, .any, .any, .any, .any, .any, .any, .any, .any, .any, .any, .any, .any, .any, .any, .any, .any, .any, .any, .any, .any, .any, .any, .any, .any, .any, .any, .any, .any, .any, .any, .any, .any, .any, .any, .any, .any, .any, .any, .any, .any, .any, .any, .any, .any, .any, .any, .any, .any, .any, .any, .any, .any, .any, .any, .any, .any, .any, .any, .any, .any, .any, .any, .any, .any, .any, .any, .any, .any, .any, .any, .any, .any, .any, .any, .any, .any, .any, .any, .any, .any, .any, .any, .any, .any, .any, .any, .any, .any, .any, .any, .any, .any, .any, .any, .any, .any, .any]) (fun i => ⟨g, [(2, .cells 0 [I64 k, SS l, BB false, .isl none (ps.map rA) .no])]⟩) (fun i => i ≤ ps.length ∧ deepL (ps.take i) ≤ d ∧ formL nameB k (ps.take i) = true) (fun i => ps.length - i) 0 ⟨by simp, by rw [List.take_zero, deepL]; omega, by rw [List.take_zero, formL]⟩ ?_ ?_
                · refine imp_loc (by ((try simp only [cells_agg, cells_lit, leL_cons, leL_nil, leA_any, leA_lits, leA_isl, leA_self, and_self, true_and, and_true, or_true, true_or, Value.int.injEq, Value.bool.injEq, Value.string.injEq, AV.lit.injEq, Option.some.injEq, Blk.cells.injEq, Blk.tok.injEq, List.cons.injEq, Tk.at.injEq, subL_nil, subL_cons, look_nil, look_cons, ↓reduceIte, Nat.reduceEqDiff, Option.isSome_some, reduceCtorEq, or_false, false_or, if_true, if_false, List.length_map]); (try first | done | omega | (simp; done) | (simp; omega)))) (by ((try simp only [cells_agg, cells_lit, leL_cons, leL_nil, leA_any, leA_lits, leA_isl, leA_self, and_self, true_and, and_true, or_true, true_or, Value.int.injEq, Value.bool.injEq, Value.string.injEq, AV.lit.injEq, Option.some.injEq, Blk.cells.injEq, Blk.tok.injEq, List.cons.injEq, Tk.at.injEq, subL_nil, subL_cons, look_nil, look_cons, ↓reduceIte, Nat.reduceEqDiff, Option.isSome_some, reduceCtorEq, or_false, false_or, if_true, if_false, List.length_map]); (try first | done | omega | (simp; done) | (simp; omega)))) (by ((try simp only [cells_agg, cells_lit, List.mem_cons, List.not_mem_nil, or_false, forall_eq_or_imp, forall_eq, only_any, only_lit', only_iptr, only_no, only_full, only_at, only_ptr, only_osl, only_agg, only_tup, only_fn, only_bfn, and_self, implies_true, and_true, true_and, okL_nil, okL_cons, bonly_cells, bonly_tok, keepP_add, look_nil, look_cons, ↓reduceIte, Nat.reduceEqDiff, Option.isSome_some, reduceCtorEq, false_or, if_true, if_false, false_implies, List.length_map]); (try first | done | omega | ((repeat' refine And.intro ?_ ?_) <;> (intro _ hx; obtain ⟨_, -, rfl⟩ := List.mem_map.1 hx; exact .lit _))))) (by ((try simp only [cells_agg, cells_lit, List.mem_cons, List.not_mem_nil, or_false, forall_eq_or_imp, forall_eq, only_any, only_lit', only_iptr, only_no, only_full, only_at, only_ptr, only_osl, only_agg, only_tup, only_fn, only_bfn, and_self, implies_true, and_true, true_and, okL_nil, okL_cons, bonly_cells, bonly_tok, keepP_add, look_nil, look_cons, ↓reduceIte, Nat.reduceEqDiff, Option.isSome_some, reduceCtorEq, false_or, if_true, if_false, false_implies, List.length_map]); (try first | done | omega | ((repeat' refine And.intro ?_ ?_) <;> (intro _ hx; obtain ⟨_, -, rfl⟩ := List.mem_map.1 hx; exact .lit _)))))
                · rintro i ⟨hi, hi1, hi2⟩
                  simp only [go_sem, List.length_map]
                  split
                  · rename_i hlt
                    have hlt : i < ps.length := by omega
                    have e1 : IntKind.i64.wrap ((i : Int) + 1) = ((i + 1 : Nat) : Int) := by rw [wrap_i64]; omega
                    have e2 : IntKind.i64.wrap (((d + 1 : Nat) : Int) - 1) = ((d : Nat) : Int) := by rw [wrap_i64]; omega
                    have hp := rx_getD_mem hlt
                    have ih' := ih _ hp
                    have hst := formL_take nameB k hlt
                    have hsd := deepL_take hlt
                    have hbd := formL_bad nameB k hlt
                    have hbe : ¬ deepR (ps.getD i rx0) ≤ d → ¬ deepL ps ≤ d := fun h h' => by
                      have e : ps = ps.take (i + 1) ++ ps.drop (i + 1) := (List.take_append_drop _ _).symm
                      rw [e, deepL_app, hsd] at h'; omega
                    have gp := rA_getD ps i hlt
                    generalize ps.getD i rx0 = p at *
                    rw [rA_eq p] at ih'
                    refine WC_draw Ty.mixed (by kernel_rfl) ?_
                    simp only [go_sem, List.length_map, gp, rA_cells, e2]
                    (repeat (refine ⟨by omega, ?_⟩))
                    cases hf : formD d p
                    · refine DE_pure _ _ _ _ _ _ _ _ _ [] (fun g' _ => ih' _) ?_
                      simp only [go_sem, hf, List.length_map, gp, rA_cells]
                      refine FnPost_end hn0 (by simp) rfl (only_lit _ _) ?_
                      simp only [go_sem]
                      refine leA_bool ?_
                      unfold formD at hf
                      by_cases hd : deepR p ≤ d
                      · rw [decide_eq_true hd, Bool.true_and] at hf
                        rw [hbd (by rw [hf]; rfl)]; simp
                      · rw [decide_eq_false (hbe hd)]; rfl
                    · have hf2 := hf
                      unfold formD at hf2
                      rw [Bool.and_eq_true, decide_eq_true_eq] at hf2
                      refine DE_pure _ _ _ _ _ _ _ _ _ [] (fun g' _ => ih' _) ?_
                      simp only [go_sem, hf, List.length_map, gp, rA_cells, eq_false hk3, eq_false hk4]
                      refine LP_next (i + 1) ⟨by omega, by rw [hsd]; omega, by rw [hst, hi2, hf2.2, decide_eq_false (fun h => hmn h.1)]; rfl⟩ (by omega) ?_
                      rw [e1]
                      refine imp_loc (by ((try simp only [cells_agg, cells_lit, leL_cons, leL_nil, leA_any, leA_lits, leA_isl, leA_self, and_self, true_and, and_true, or_true, true_or, Value.int.injEq, Value.bool.injEq, Value.string.injEq, AV.lit.injEq, Option.some.injEq, Blk.cells.injEq, Blk.tok.injEq, List.cons.injEq, Tk.at.injEq, subL_nil, subL_cons, look_nil, look_cons, ↓reduceIte, Nat.reduceEqDiff, Option.isSome_some, reduceCtorEq, or_false, false_or, if_true, if_false]); (try first | done | omega | (simp; done) | (simp; omega)))) (by ((try simp only [cells_agg, cells_lit, leL_cons, leL_nil, leA_any, leA_lits, leA_isl, leA_self, and_self, true_and, and_true, or_true, true_or, Value.int.injEq, Value.bool.injEq, Value.string.injEq, AV.lit.injEq, Option.some.injEq, Blk.cells.injEq, Blk.tok.injEq, List.cons.injEq, Tk.at.injEq, subL_nil, subL_cons, look_nil, look_cons, ↓reduceIte, Nat.reduceEqDiff, Option.isSome_some, reduceCtorEq, or_false, false_or, if_true, if_false]); (try first | done | omega | (simp; done) | (simp; omega)))) (by ((try simp only [cells_agg, cells_lit, List.mem_cons, List.not_mem_nil, or_false, forall_eq_or_imp, forall_eq, only_any, only_lit', only_iptr, only_no, only_full, only_at, only_ptr, only_osl, only_agg, only_tup, only_fn, only_bfn, and_self, implies_true, and_true, true_and, okL_nil, okL_cons, bonly_cells, bonly_tok, keepP_add, look_nil, look_cons, ↓reduceIte, Nat.reduceEqDiff, Option.isSome_some, reduceCtorEq, false_or, if_true, if_false, false_implies]); (try first | done | omega | ((repeat' refine And.intro ?_ ?_) <;> (intro _ hx; obtain ⟨_, -, rfl⟩ := List.mem_map.1 hx; exact .lit _))))) (by ((try simp only [cells_agg, cells_lit, List.mem_cons, List.not_mem_nil, or_false, forall_eq_or_imp, forall_eq, only_any, only_lit', only_iptr, only_no, only_full, only_at, only_ptr, only_osl, only_agg, only_tup, only_fn, only_bfn, and_self, implies_true, and_true, true_and, okL_nil, okL_cons, bonly_cells, bonly_tok, keepP_add, look_nil, look_cons, ↓reduceIte, Nat.reduceEqDiff, Option.isSome_some, reduceCtorEq, false_or, if_true, if_false, false_implies]); (try first | done | omega | ((repeat' refine And.intro ?_ ?_) <;> (intro _ hx; obtain ⟨_, -, rfl⟩ := List.mem_map.1 hx; exact .lit _)))))
                  · have : i = ps.length := by omega
                    subst this
                    rw [List.take_length] at hi1 hi2
                    refine FnPost_end hn0 (by simp) rfl (only_lit _ _) ?_
                    simp only [go_sem]
                    exact leA_bool (by rw [hi2, decide_eq_true hi1]; rfl)
              · simp only [go_sem, eq_false hk2, str_eq, eq_true hl0]
                refine FnPost_end hn0 (by simp) rfl (only_lit _ _) ?_
                simp only [go_sem]
                exact leA_bool (by unfold symB; rw [if_neg hk2, decide_eq_true hl0]; rfl)
            · simp only [go_sem, eq_false hk2, str_eq, eq_false hl0]
              refine FnPost_end hn0 (by simp) rfl (only_lit _ _) ?_
              simp only [go_sem]
              exact leA_bool (by unfold symB; rw [if_neg hk2, decide_eq_false hl0]; rfl)
        · simp only [go_sem, eq_false c0, eq_false c1, eq_false c2, List.length_map, eq_true hlo, eq_false cn, eq_false hk3, eq_false hk4, eq_false hhi]
          refine FnPost_end hn0 (by simp) rfl (only_lit _ _) ?_
          simp only [go_sem]
          exact leA_bool (cf (by unfold countB manyR; simp; omega))
      · have hk2 : ¬ k = 2 := by omega
        by_cases hk3 : k = 3
        · have hk4 : ¬ k = 4 := by omega
          have hhi : ¬ 4 < k := by omega
          have hmn : manyR k < 0 := by unfold manyR; rw [if_pos (by omega)]; decide
          by_cases cn : (ps.length : Int) < 2
          · simp only [go_sem, eq_false c0, eq_false c1, eq_false c2, List.length_map, eq_false hlo, eq_true hk3, eq_true cn, eq_false hhi]
            refine FnPost_end hn0 (by simp) rfl (only_lit _ _) ?_
            simp only [go_sem]
            exact leA_bool (cf (by unfold countB manyR; simp; omega))
          · simp only [go_sem, eq_false c0, eq_false c1, eq_false c2, List.length_map, eq_false hlo, eq_true hk3, eq_false cn, eq_false hhi]
            have hcb : countB k ps.length = true := by unfold countB manyR; simp; omega
            rw [hcb]
            simp only [Bool.true_and]
            by_cases hl0 : l.size = 0
            · cases b
              · simp only [go_sem, eq_false hk2, str_eq, eq_true hl0]
                have hsy : symB nameB k l false = true := by unfold symB; rw [if_neg hk2, decide_eq_true hl0]; rfl
                rw [hsy]
                simp only [Bool.true_and]
                refine WC_loop (fun i : Nat => [.any, I64 ((d + 1 : Nat) : Int), .ptr (n0 + 2) 0 0, .any, .any, I64 ps.length, I64 i, .any, .any, .any, .any, .any, .any, .any, .any, .any, .any, .any, .any, .any, .any, .any, .any, .any, .any, .any, .any, .any, .any, .any, .any, .any, .any, .any, .any, .any, .any, .any, .any, .any, .any, .any, .any, .any, .any, .any, .any, .any, .any, .any, .any, .any, .any, .any, .any, .any, .any, .any, .any, .any, .any, .any, .any, .any, .any, .any, .any, .any, .any, .any, .any, .any, .any, .any, .any, .any, .any, .any, .any, .any, .any, .any, .any, .any, .any, .any, .any, .any, .any, .any, .any, .any, .any, .any, .any, .any, .any, .any, .any, .any, .any, .any, .any, .any, .any, .any, .any, .any, .any, .any, .any, .any, .any, .any, .any]) (fun i => ⟨g, [(2, .cells 0 [I64 k, SS l, BB false, .isl none (ps.map rA) .no])]⟩) (fun i => i ≤ ps.length ∧ deepL (ps.take i) ≤ d ∧ formL nameB k (ps.take i) = true) (fun i => ps.length - i) 0 ⟨by simp, by rw [List.take_zero, deepL]; omega, by rw [List.take_zero, formL]⟩ ?_ ?_
                · refine imp_loc (by ((try simp only [cells_agg, cells_lit, leL_cons, leL_nil, leA_any, leA_lits, leA_isl, leA_self, and_self, true_and, and_true, or_true, true_or, Value.int.injEq, Value.bool.injEq, Value.string.injEq, AV.lit.injEq, Option.some.injEq, Blk.cells.injEq, Blk.tok.injEq, List.cons.injEq, Tk.at.injEq, subL_nil, subL_cons, look_nil, look_cons, ↓reduceIte, Nat.reduceEqDiff, Option.isSome_some, reduceCtorEq, or_false, false_or, if_true, if_false, List.length_map]); (try first | done | omega | (simp; done) | (simp; omega)))) (by ((try simp only [cells_agg, cells_lit, leL_cons, leL_nil, leA_any, leA_lits, leA_isl, leA_self, and_self, true_and, and_true, or_true, true_or, Value.int.injEq, Value.bool.injEq, Value.string.injEq, AV.lit.injEq, Option.some.injEq, Blk.cells.injEq, Blk.tok.injEq, List.cons.injEq, Tk.at.injEq, subL_nil, subL_cons, look_nil, look_cons, ↓reduceIte, Nat.reduceEqDiff, Option.isSome_some, reduceCtorEq, or_false, false_or, if_true, if_false, List.length_map]); (try first | done | omega | (simp; done) | (simp; omega)))) (by ((try simp only [cells_agg, cells_lit, List.mem_cons, List.not_mem_nil, or_false, forall_eq_or_imp, forall_eq, only_any, only_lit', only_iptr, only_no, only_full, only_at, only_ptr, only_osl, only_agg, only_tup, only_fn, only_bfn, and_self, implies_true, and_true, true_and, okL_nil, okL_cons, bonly_cells, bonly_tok, keepP_add, look_nil, look_cons, ↓reduceIte, Nat.reduceEqDiff, Option.isSome_some, reduceCtorEq, false_or, if_true, if_false, false_implies, List.length_map]); (try first | done | omega | ((repeat' refine And.intro ?_ ?_) <;> (intro _ hx; obtain ⟨_, -, rfl⟩ := List.mem_map.1 hx; exact .lit _))))) (by ((try simp only [cells_agg, cells_lit, List.mem_cons, List.not_mem_nil, or_false, forall_eq_or_imp, forall_eq, only_any, only_lit', only_iptr, only_no, only_full, only_at, only_ptr, only_osl, only_agg, only_tup, only_fn, only_bfn, and_self, implies_true, and_true, true_and, okL_nil, okL_cons, bonly_cells, bonly_tok, keepP_add, look_nil, look_cons, ↓reduceIte, Nat.reduceEqDiff, Option.isSome_some, reduceCtorEq, false_or, if_true, if_false, false_implies, List.length_map]); (try first | done | omega | ((repeat' refine And.intro ?_ ?_) <;> (intro _ hx; obtain ⟨_, -, rfl⟩ := List.mem_map.1 hx; exact .lit _)))))
                · rintro i ⟨hi, hi1, hi2⟩
                  simp only [go_sem, List.length_map]
                  split
                  · rename_i hlt
                    have hlt : i < ps.length := by omega
                    have e1 : IntKind.i64.wrap ((i : Int) + 1) = ((i + 1 : Nat) : Int) := by rw [wrap_i64]; omega
                    have e2 : IntKind.i64.wrap (((d + 1 : Nat) : Int) - 1) = ((d : Nat) : Int) := by rw [wrap_i64]; omega
                    have hp := rx_getD_mem hlt
                    have ih' := ih _ hp
                    have hst := formL_take nameB k hlt
                    have hsd := deepL_take hlt
                    have hbd := formL_bad nameB k hlt
                    have hbe : ¬ deepR (ps.getD i rx0) ≤ d → ¬ deepL ps ≤ d := fun h h' => by
                      have e : ps = ps.take (i + 1) ++ ps.drop (i + 1) := (List.take_append_drop _ _).symm
                      rw [e, deepL_app, hsd] at h'; omega
                    have gp := rA_getD ps i hlt
                    generalize ps.getD i rx0 = p at *
                    rw [rA_eq p] at ih'
                    refine WC_draw Ty.mixed (by kernel_rfl) ?_
                    simp only [go_sem, List.length_map, gp, rA_cells, e2]
                    (repeat (refine ⟨by omega, ?_⟩))
                    cases hf : formD d p
                    · refine DE_pure _ _ _ _ _ _ _ _ _ [] (fun g' _ => ih' _) ?_
                      simp only [go_sem, hf, List.length_map, gp, rA_cells]
                      refine FnPost_end hn0 (by simp) rfl (only_lit _ _) ?_
                      simp only [go_sem]
                      refine leA_bool ?_
                      unfold formD at hf
                      by_cases hd : deepR p ≤ d
                      · rw [decide_eq_true hd, Bool.true_and] at hf
                        rw [hbd (by rw [hf]; rfl)]; simp
                      · rw [decide_eq_false (hbe hd)]; rfl
                    · have hf2 := hf
                      unfold formD at hf2
                      rw [Bool.and_eq_true, decide_eq_true_eq] at hf2
                      by_cases hpk : p.k = k
                      · refine DE_pure _ _ _ _ _ _ _ _ _ [] (fun g' _ => ih' _) ?_
                        simp only [go_sem, hf, List.length_map, gp, rA_cells, eq_true hk3, eq_true hpk]
                        (repeat (refine ⟨by omega, ?_⟩))
                        refine FnPost_end hn0 (by simp) rfl (only_lit _ _) ?_
                        simp only [go_sem]
                        refine leA_bool ?_
                        rw [hbd (by rw [hf2.2, decide_eq_true ⟨hmn, hpk⟩]; rfl)]; simp
                      · refine DE_pure _ _ _ _ _ _ _ _ _ [] (fun g' _ => ih' _) ?_
                        simp only [go_sem, hf, List.length_map, gp, rA_cells, eq_true hk3, eq_false hpk]
                        (repeat (refine ⟨by omega, ?_⟩))
                        refine LP_next (i + 1) ⟨by omega, by rw [hsd]; omega, by rw [hst, hi2, hf2.2, decide_eq_false (fun h => hpk h.2)]; rfl⟩ (by omega) ?_
                        rw [e1]
                        refine imp_loc (by ((try simp only [cells_agg, cells_lit, leL_cons, leL_nil, leA_any, leA_lits, leA_isl, leA_self, and_self, true_and, and_true, or_true, true_or, Value.int.injEq, Value.bool.injEq, Value.string.injEq, AV.lit.injEq, Option.some.injEq, Blk.cells.injEq, Blk.tok.injEq, List.cons.injEq, Tk.at.injEq, subL_nil, subL_cons, look_nil, look_cons, ↓reduceIte, Nat.reduceEqDiff, Option.isSome_some, reduceCtorEq, or_false, false_or, if_true, if_false]); (try first | done | omega | (simp; done) | (simp; omega)))) (by ((try simp only [cells_agg, cells_lit, leL_cons, leL_nil, leA_any, leA_lits, leA_isl, leA_self, and_self, true_and, and_true, or_true, true_or, Value.int.injEq, Value.bool.injEq, Value.string.injEq, AV.lit.injEq, Option.some.injEq, Blk.cells.injEq, Blk.tok.injEq, List.cons.injEq, Tk.at.injEq, subL_nil, subL_cons, look_nil, look_cons, ↓reduceIte, Nat.reduceEqDiff, Option.isSome_some, reduceCtorEq, or_false, false_or, if_true, if_false]); (try first | done | omega | (simp; done) | (simp; omega)))) (by ((try simp only [cells_agg, cells_lit, List.mem_cons, List.not_mem_nil, or_false, forall_eq_or_imp, forall_eq, only_any, only_lit', only_iptr, only_no, only_full, only_at, only_ptr, only_osl, only_agg, only_tup, only_fn, only_bfn, and_self, implies_true, and_true, true_and, okL_nil, okL_cons, bonly_cells, bonly_tok, keepP_add, look_nil, look_cons, ↓reduceIte, Nat.reduceEqDiff, Option.isSome_some, reduceCtorEq, false_or, if_true, if_false, false_implies]); (try first | done | omega | ((repeat' refine And.intro ?_ ?_) <;> (intro _ hx; obtain ⟨_, -, rfl⟩ := List.mem_map.1 hx; exact .lit _))))) (by ((try simp only [cells_agg, cells_lit, List.mem_cons, List.not_mem_nil, or_false, forall_eq_or_imp, forall_eq, only_any, only_lit', only_iptr, only_no, only_full, only_at, only_ptr, only_osl, only_agg, only_tup, only_fn, only_bfn, and_self, implies_true, and_true, true_and, okL_nil, okL_cons, bonly_cells, bonly_tok, keepP_add, look_nil, look_cons, ↓reduceIte, Nat.reduceEqDiff, Option.isSome_some, reduceCtorEq, false_or, if_true, if_false, false_implies]); (try first | done | omega | ((repeat' refine And.intro ?_ ?_) <;> (intro _ hx; obtain ⟨_, -, rfl⟩ := List.mem_map.1 hx; exact .lit _)))))
                  · have : i = ps.length := by omega
                    subst this
                    rw [List.take_length] at hi1 hi2
                    refine FnPost_end hn0 (by simp) rfl (only_lit _ _) ?_
                    simp only [go_sem]
                    exact leA_bool (by rw [hi2, decide_eq_true hi1]; rfl)
              · simp only [go_sem, eq_false hk2, str_eq, eq_true hl0]
                refine FnPost_end hn0 (by simp) rfl (only_lit _ _) ?_
                simp only [go_sem]
                exact leA_bool (by unfold symB; rw [if_neg hk2, decide_eq_true hl0]; rfl)
            · simp only [go_sem, eq_false hk2, str_eq, eq_false hl0]
              refine FnPost_end hn0 (by simp) rfl (only_lit _ _) ?_
              simp only [go_sem]
              exact leA_bool (by unfold symB; rw [if_neg hk2, decide_eq_false hl0]; rfl)
        · by_cases hk4 : k = 4
          · have hhi : ¬ 4 < k := by omega
            have hmn : manyR k < 0 := by unfold manyR; rw [if_pos (by omega)]; decide
            by_cases cn : (ps.length : Int) < 2
            · simp only [go_sem, eq_false c0, eq_false c1, eq_false c2, List.length_map, eq_false hlo, eq_false hk3, eq_true hk4, eq_true cn, eq_false hhi]
              refine FnPost_end hn0 (by simp) rfl (only_lit _ _) ?_
              simp only [go_sem]
              exact leA_bool (cf (by unfold countB manyR; simp; omega))
            · simp only [go_sem, eq_false c0, eq_false c1, eq_false c2, List.length_map, eq_false hlo, eq_false hk3, eq_true hk4, eq_false cn, eq_false hhi]
              have hcb : countB k ps.length = true := by unfold countB manyR; simp; omega
              rw [hcb]
              simp only [Bool.true_and]
              by_cases hl0 : l.size = 0
              · cases b
                · simp only [go_sem, eq_false hk2, str_eq, eq_true hl0]
                  have hsy : symB nameB k l false = true := by unfold symB; rw [if_neg hk2, decide_eq_true hl0]; rfl
                  rw [hsy]
                  simp only [Bool.true_and]
                  refine WC_loop (fun i : Nat => [.any, I64 ((d + 1 : Nat) : Int), .ptr (n0 + 2) 0 0, .any, .any, I64 ps.length, I64 i, .any, .any, .any, .any, .any, .any, .any, .any, .any, .any, .any, .any, .any, .any, .any, .any, .any, .any, .any, .any, .any, .any, .any, .any, .any, .any, .any, .any, .any, .any, .any, .any, .any, .any, .any, .any, .any, .any, .any, .any, .any, .any, .any, .any, .any, .any, .any, .any, .any, .any, .any, .any, .any, .any, .any, .any, .any, .any, .any, .any, .any, .any, .any, .any, .any, .any, .any, .any, .any, .any, .any, .any, .any, .any, .any, .any, .any, .any, .any, .any, .any, .any, .any, .any, .any, .any, .any, .any, .any, .any, .any, .any, .any, .any, .any, .any, .any, .any, .any, .any, .any, .any, .any, .any, .any, .any, .any, .any]) (fun i => ⟨g, [(2, .cells 0 [I64 k, SS l, BB false, .isl none (ps.map rA) .no])]⟩) (fun i => i ≤ ps.length ∧ deepL (ps.take i) ≤ d ∧ formL nameB k (ps.take i) = true) (fun i => ps.length - i) 0 ⟨by simp, by rw [List.take_zero, deepL]; omega, by rw [List.take_zero, formL]⟩ ?_ ?_
                  · refine imp_loc (by ((try simp only [cells_agg, cells_lit, leL_cons, leL_nil, leA_any, leA_lits, leA_isl, leA_self, and_self, true_and, and_true, or_true, true_or, Value.int.injEq, Value.bool.injEq, Value.string.injEq, AV.lit.injEq, Option.some.injEq, Blk.cells.injEq, Blk.tok.injEq, List.cons.injEq, Tk.at.injEq, subL_nil, subL_cons, look_nil, look_cons, ↓reduceIte, Nat.reduceEqDiff, Option.isSome_some, reduceCtorEq, or_false, false_or, if_true, if_false, List.length_map]); (try first | done | omega | (simp; done) | (simp; omega)))) (by ((try simp only [cells_agg, cells_lit, leL_cons, leL_nil, leA_any, leA_lits, leA_isl, leA_self, and_self, true_and, and_true, or_true, true_or, Value.int.injEq, Value.bool.injEq, Value.string.injEq, AV.lit.injEq, Option.some.injEq, Blk.cells.injEq, Blk.tok.injEq, List.cons.injEq, Tk.at.injEq, subL_nil, subL_cons, look_nil, look_cons, ↓reduceIte, Nat.reduceEqDiff, Option.isSome_some, reduceCtorEq, or_false, false_or, if_true, if_false, List.length_map]); (try first | done | omega | (simp; done) | (simp; omega)))) (by ((try simp only [cells_agg, cells_lit, List.mem_cons, List.not_mem_nil, or_false, forall_eq_or_imp, forall_eq, only_any, only_lit', only_iptr, only_no, only_full, only_at, only_ptr, only_osl, only_agg, only_tup, only_fn, only_bfn, and_self, implies_true, and_true, true_and, okL_nil, okL_cons, bonly_cells, bonly_tok, keepP_add, look_nil, look_cons, ↓reduceIte, Nat.reduceEqDiff, Option.isSome_some, reduceCtorEq, false_or, if_true, if_false, false_implies, List.length_map]); (try first | done | omega | ((repeat' refine And.intro ?_ ?_) <;> (intro _ hx; obtain ⟨_, -, rfl⟩ := List.mem_map.1 hx; exact .lit _))))) (by ((try simp only [cells_agg, cells_lit, List.mem_cons, List.not_mem_nil, or_false, forall_eq_or_imp, forall_eq, only_any, only_lit', only_iptr, only_no, only_full, only_at, only_ptr, only_osl, only_agg, only_tup, only_fn, only_bfn, and_self, implies_true, and_true, true_and, okL_nil, okL_cons, bonly_cells, bonly_tok, keepP_add, look_nil, look_cons, ↓reduceIte, Nat.reduceEqDiff, Option.isSome_some, reduceCtorEq, false_or, if_true, if_false, false_implies, List.length_map]); (try first | done | omega | ((repeat' refine And.intro ?_ ?_) <;> (intro _ hx; obtain ⟨_, -, rfl⟩ := List.mem_map.1 hx; exact .lit _)))))
                  · rintro i ⟨hi, hi1, hi2⟩
                    simp only [go_sem, List.length_map]
                    split
                    · rename_i hlt
                      have hlt : i < ps.length := by omega
                      have e1 : IntKind.i64.wrap ((i : Int) + 1) = ((i + 1 : Nat) : Int) := by rw [wrap_i64]; omega
                      have e2 : IntKind.i64.wrap (((d + 1 : Nat) : Int) - 1) = ((d : Nat) : Int) := by rw [wrap_i64]; omega
                      have hp := rx_getD_mem hlt
                      have ih' := ih _ hp
                      have hst := formL_take nameB k hlt
                      have hsd := deepL_take hlt
                      have hbd := formL_bad nameB k hlt
                      have hbe : ¬ deepR (ps.getD i rx0) ≤ d → ¬ deepL ps ≤ d := fun h h' => by
                        have e : ps = ps.take (i + 1) ++ ps.drop (i + 1) := (List.take_append_drop _ _).symm
                        rw [e, deepL_app, hsd] at h'; omega
                      have gp := rA_getD ps i hlt
                      generalize ps.getD i rx0 = p at *
                      rw [rA_eq p] at ih'
                      refine WC_draw Ty.mixed (by kernel_rfl) ?_
                      simp only [go_sem, List.length_map, gp, rA_cells, e2]
                      (repeat (refine ⟨by omega, ?_⟩))
                      cases hf : formD d p
                      · refine DE_pure _ _ _ _ _ _ _ _ _ [] (fun g' _ => ih' _) ?_
                        simp only [go_sem, hf, List.length_map, gp, rA_cells]
                        refine FnPost_end hn0 (by simp) rfl (only_lit _ _) ?_
                        simp only [go_sem]
                        refine leA_bool ?_
                        unfold formD at hf
                        by_cases hd : deepR p ≤ d
                        · rw [decide_eq_true hd, Bool.true_and] at hf
                          rw [hbd (by rw [hf]; rfl)]; simp
                        · rw [decide_eq_false (hbe hd)]; rfl
                      · have hf2 := hf
                        unfold formD at hf2
                        rw [Bool.and_eq_true, decide_eq_true_eq] at hf2
                        by_cases hpk : p.k = k
                        · refine DE_pure _ _ _ _ _ _ _ _ _ [] (fun g' _ => ih' _) ?_
                          simp only [go_sem, hf, List.length_map, gp, rA_cells, eq_false hk3, eq_true hk4, eq_true hpk]
                          (repeat (refine ⟨by omega, ?_⟩))
                          refine FnPost_end hn0 (by simp) rfl (only_lit _ _) ?_
                          simp only [go_sem]
                          refine leA_bool ?_
                          rw [hbd (by rw [hf2.2, decide_eq_true ⟨hmn, hpk⟩]; rfl)]; simp
                        · refine DE_pure _ _ _ _ _ _ _ _ _ [] (fun g' _ => ih' _) ?_
                          simp only [go_sem, hf, List.length_map, gp, rA_cells, eq_false hk3, eq_true hk4, eq_false hpk]
                          (repeat (refine ⟨by omega, ?_⟩))
                          refine LP_next (i + 1) ⟨by omega, by rw [hsd]; omega, by rw [hst, hi2, hf2.2, decide_eq_false (fun h => hpk h.2)]; rfl⟩ (by omega) ?_
                          rw [e1]
                          refine imp_loc (by ((try simp only [cells_agg, cells_lit, leL_cons, leL_nil, leA_any, leA_lits, leA_isl, leA_self, and_self, true_and, and_true, or_true, true_or, Value.int.injEq, Value.bool.injEq, Value.string.injEq, AV.lit.injEq, Option.some.injEq, Blk.cells.injEq, Blk.tok.injEq, List.cons.injEq, Tk.at.injEq, subL_nil, subL_cons, look_nil, look_cons, ↓reduceIte, Nat.reduceEqDiff, Option.isSome_some, reduceCtorEq, or_false, false_or, if_true, if_false]); (try first | done | omega | (simp; done) | (simp; omega)))) (by ((try simp only [cells_agg, cells_lit, leL_cons, leL_nil, leA_any, leA_lits, leA_isl, leA_self, and_self, true_and, and_true, or_true, true_or, Value.int.injEq, Value.bool.injEq, Value.string.injEq, AV.lit.injEq, Option.some.injEq, Blk.cells.injEq, Blk.tok.injEq, List.cons.injEq, Tk.at.injEq, subL_nil, subL_cons, look_nil, look_cons, ↓reduceIte, Nat.reduceEqDiff, Option.isSome_some, reduceCtorEq, or_false, false_or, if_true, if_false]); (try first | done | omega | (simp; done) | (simp; omega)))) (by ((try simp only [cells_agg, cells_lit, List.mem_cons, List.not_mem_nil, or_false, forall_eq_or_imp, forall_eq, only_any, only_lit', only_iptr, only_no, only_full, only_at, only_ptr, only_osl, only_agg, only_tup, only_fn, only_bfn, and_self, implies_true, and_true, true_and, okL_nil, okL_cons, bonly_cells, bonly_tok, keepP_add, look_nil, look_cons, ↓reduceIte, Nat.reduceEqDiff, Option.isSome_some, reduceCtorEq, false_or, if_true, if_false, false_implies]); (try first | done | omega | ((repeat' refine And.intro ?_ ?_) <;> (intro _ hx; obtain ⟨_, -, rfl⟩ := List.mem_map.1 hx; exact .lit _))))) (by ((try simp only [cells_agg, cells_lit, List.mem_cons, List.not_mem_nil, or_false, forall_eq_or_imp, forall_eq, only_any, only_lit', only_iptr, only_no, only_full, only_at, only_ptr, only_osl, only_agg, only_tup, only_fn, only_bfn, and_self, implies_true, and_true, true_and, okL_nil, okL_cons, bonly_cells, bonly_tok, keepP_add, look_nil, look_cons, ↓reduceIte, Nat.reduceEqDiff, Option.isSome_some, reduceCtorEq, false_or, if_true, if_false, false_implies]); (try first | done | omega | ((repeat' refine And.intro ?_ ?_) <;> (intro _ hx; obtain ⟨_, -, rfl⟩ := List.mem_map.1 hx; exact .lit _)))))
                    · have : i = ps.length := by omega
                      subst this
                      rw [List.take_length] at hi1 hi2
                      refine FnPost_end hn0 (by simp) rfl (only_lit _ _) ?_
                      simp only [go_sem]
                      exact leA_bool (by rw [hi2, decide_eq_true hi1]; rfl)
                · simp only [go_sem, eq_false hk2, str_eq, eq_true hl0]
                  refine FnPost_end hn0 (by simp) rfl (only_lit _ _) ?_
                  simp only [go_sem]
                  exact leA_bool (by unfold symB; rw [if_neg hk2, decide_eq_true hl0]; rfl)
              · simp only [go_sem, eq_false hk2, str_eq, eq_false hl0]
                refine FnPost_end hn0 (by simp) rfl (only_lit _ _) ?_
                simp only [go_sem]
                exact leA_bool (by unfold symB; rw [if_neg hk2, decide_eq_false hl0]; rfl)
          · have hhi : 4 < k := by omega
            have hmn : ¬ manyR k < 0 := by unfold manyR; rw [if_neg (by omega), if_pos (by omega)]; decide
            by_cases cn : (ps.length : Int) = 1
            · simp only [go_sem, eq_false c0, eq_false c1, eq_false c2, List.length_map, eq_false hlo, eq_false hk3, eq_false hk4, eq_true cn, eq_true hhi]
              have hcb : countB k ps.length = true := by unfold countB manyR; simp; omega
              rw [hcb]
              simp only [Bool.true_and]
              by_cases hl0 : l.size = 0
              · cases b
                · simp only [go_sem, eq_false hk2, str_eq, eq_true hl0]
                  have hsy : symB nameB k l false = true := by unfold symB; rw [if_neg hk2, decide_eq_true hl0]; rfl
                  rw [hsy]
                  simp only [Bool.true_and]
                  refine WC_loop (fun i : Nat => [.any, I64 ((d + 1 : Nat) : Int), .ptr (n0 + 2) 0 0, .any, .any, I64 ps.length, I64 i, .any, .any, .any, .any, .any, .any, .any, .any, .any, .any, .any, .any, .any, .any, .any, .any, .any, .any, .any, .any, .any, .any, .any, .any, .any, .any, .any, .any, .any, .any, .any, .any, .any, .any, .any, .any, .any, .any, .any, .any, .any, .any, .any, .any, .any, .any, .any, .any, .any, .any, .any, .any, .any, .any, .any, .any, .any, .any, .any, .any, .any, .any, .any, .any, .any, .any, .any, .any, .any, .any, .any, .any, .any, .any, .any, .any, .any, .any, .any, .any, .any, .any, .any, .any, .any, .any, .any, .any, .any, .any, .any, .any, .any, .any, .any, .any, .any, .any, .any, .any, .any, .any, .any, .any, .any, .any, .any, .any]) (fun i => ⟨g, [(2, .cells 0 [I64 k, SS l, BB false, .isl none (ps.map rA) .no])]⟩) (fun i => i ≤ ps.length ∧ deepL (ps.take i) ≤ d ∧ formL nameB k (ps.take i) = true) (fun i => ps.length - i) 0 ⟨by simp, by rw [List.take_zero, deepL]; omega, by rw [List.take_zero, formL]⟩ ?_ ?_
                  · refine imp_loc (by ((try simp only [cells_agg, cells_lit, leL_cons, leL_nil, leA_any, leA_lits, leA_isl, leA_self, and_self, true_and, and_true, or_true, true_or, Value.int.injEq, Value.bool.injEq, Value.string.injEq, AV.lit.injEq, Option.some.injEq, Blk.cells.injEq, Blk.tok.injEq, List.cons.injEq, Tk.at.injEq, subL_nil, subL_cons, look_nil, look_cons, ↓reduceIte, Nat.reduceEqDiff, Option.isSome_some, reduceCtorEq, or_false, false_or, if_true, if_false, List.length_map]); (try first | done | omega | (simp; done) | (simp; omega)))) (by ((try simp only [cells_agg, cells_lit, leL_cons, leL_nil, leA_any, leA_lits, leA_isl, leA_self, and_self, true_and, and_true, or_true, true_or, Value.int.injEq, Value.bool.injEq, Value.string.injEq, AV.lit.injEq, Option.some.injEq, Blk.cells.injEq, Blk.tok.injEq, List.cons.injEq, Tk.at.injEq, subL_nil, subL_cons, look_nil, look_cons, ↓reduceIte, Nat.reduceEqDiff, Option.isSome_some, reduceCtorEq, or_false, false_or, if_true, if_false, List.length_map]); (try first | done | omega | (simp; done) | (simp; omega)))) (by ((try simp only [cells_agg, cells_lit, List.mem_cons, List.not_mem_nil, or_false, forall_eq_or_imp, forall_eq, only_any, only_lit', only_iptr, only_no, only_full, only_at, only_ptr, only_osl, only_agg, only_tup, only_fn, only_bfn, and_self, implies_true, and_true, true_and, okL_nil, okL_cons, bonly_cells, bonly_tok, keepP_add, look_nil, look_cons, ↓reduceIte, Nat.reduceEqDiff, Option.isSome_some, reduceCtorEq, false_or, if_true, if_false, false_implies, List.length_map]); (try first | done | omega | ((repeat' refine And.intro ?_ ?_) <;> (intro _ hx; obtain ⟨_, -, rfl⟩ := List.mem_map.1 hx; exact .lit _))))) (by ((try simp only [cells_agg, cells_lit, List.mem_cons, List.not_mem_nil, or_false, forall_eq_or_imp, forall_eq, only_any, only_lit', only_iptr, only_no, only_full, only_at, only_ptr, only_osl, only_agg, only_tup, only_fn, only_bfn, and_self, implies_true, and_true, true_and, okL_nil, okL_cons, bonly_cells, bonly_tok, keepP_add, look_nil, look_cons, ↓reduceIte, Nat.reduceEqDiff, Option.isSome_some, reduceCtorEq, false_or, if_true, if_false, false_implies, List.length_map]); (try first | done | omega | ((repeat' refine And.intro ?_ ?_) <;> (intro _ hx; obtain ⟨_, -, rfl⟩ := List.mem_map.1 hx; exact .lit _)))))
                  · rintro i ⟨hi, hi1, hi2⟩
                    simp only [go_sem, List.length_map]
                    split
                    · rename_i hlt
                      have hlt : i < ps.length := by omega
                      have e1 : IntKind.i64.wrap ((i : Int) + 1) = ((i + 1 : Nat) : Int) := by rw [wrap_i64]; omega
                      have e2 : IntKind.i64.wrap (((d + 1 : Nat) : Int) - 1) = ((d : Nat) : Int) := by rw [wrap_i64]; omega
                      have hp := rx_getD_mem hlt
                      have ih' := ih _ hp
                      have hst := formL_take nameB k hlt
                      have hsd := deepL_take hlt
                      have hbd := formL_bad nameB k hlt
                      have hbe : ¬ deepR (ps.getD i rx0) ≤ d → ¬ deepL ps ≤ d := fun h h' => by
                        have e : ps = ps.take (i + 1) ++ ps.drop (i + 1) := (List.take_append_drop _ _).symm
                        rw [e, deepL_app, hsd] at h'; omega
                      have gp := rA_getD ps i hlt
                      generalize ps.getD i rx0 = p at *
                      rw [rA_eq p] at ih'
                      refine WC_draw Ty.mixed (by kernel_rfl) ?_
                      simp only [go_sem, List.length_map, gp, rA_cells, e2]
                      (repeat (refine ⟨by omega, ?_⟩))
                      cases hf : formD d p
                      · refine DE_pure _ _ _ _ _ _ _ _ _ [] (fun g' _ => ih' _) ?_
                        simp only [go_sem, hf, List.length_map, gp, rA_cells]
                        refine FnPost_end hn0 (by simp) rfl (only_lit _ _) ?_
                        simp only [go_sem]
                        refine leA_bool ?_
                        unfold formD at hf
                        by_cases hd : deepR p ≤ d
                        · rw [decide_eq_true hd, Bool.true_and] at hf
                          rw [hbd (by rw [hf]; rfl)]; simp
                        · rw [decide_eq_false (hbe hd)]; rfl
                      · have hf2 := hf
                        unfold formD at hf2
                        rw [Bool.and_eq_true, decide_eq_true_eq] at hf2
                        refine DE_pure _ _ _ _ _ _ _ _ _ [] (fun g' _ => ih' _) ?_
                        simp only [go_sem, hf, List.length_map, gp, rA_cells, eq_false hk3, eq_false hk4]
                        refine LP_next (i + 1) ⟨by omega, by rw [hsd]; omega, by rw [hst, hi2, hf2.2, decide_eq_false (fun h => hmn h.1)]; rfl⟩ (by omega) ?_
                        rw [e1]
                        refine imp_loc (by ((try simp only [cells_agg, cells_lit, leL_cons, leL_nil, leA_any, leA_lits, leA_isl, leA_self, and_self, true_and, and_true, or_true, true_or, Value.int.injEq, Value.bool.injEq, Value.string.injEq, AV.lit.injEq, Option.some.injEq, Blk.cells.injEq, Blk.tok.injEq, List.cons.injEq, Tk.at.injEq, subL_nil, subL_cons, look_nil, look_cons, ↓reduceIte, Nat.reduceEqDiff, Option.isSome_some, reduceCtorEq, or_false, false_or, if_true, if_false]); (try first | done | omega | (simp; done) | (simp; omega)))) (by ((try simp only [cells_agg, cells_lit, leL_cons, leL_nil, leA_any, leA_lits, leA_isl, leA_self, and_self, true_and, and_true, or_true, true_or, Value.int.injEq, Value.bool.injEq, Value.string.injEq, AV.lit.injEq, Option.some.injEq, Blk.cells.injEq, Blk.tok.injEq, List.cons.injEq, Tk.at.injEq, subL_nil, subL_cons, look_nil, look_cons, ↓reduceIte, Nat.reduceEqDiff, Option.isSome_some, reduceCtorEq, or_false, false_or, if_true, if_false]); (try first | done | omega | (simp; done) | (simp; omega)))) (by ((try simp only [cells_agg, cells_lit, List.mem_cons, List.not_mem_nil, or_false, forall_eq_or_imp, forall_eq, only_any, only_lit', only_iptr, only_no, only_full, only_at, only_ptr, only_osl, only_agg, only_tup, only_fn, only_bfn, and_self, implies_true, and_true, true_and, okL_nil, okL_cons, bonly_cells, bonly_tok, keepP_add, look_nil, look_cons, ↓reduceIte, Nat.reduceEqDiff, Option.isSome_some, reduceCtorEq, false_or, if_true, if_false, false_implies]); (try first | done | omega | ((repeat' refine And.intro ?_ ?_) <;> (intro _ hx; obtain ⟨_, -, rfl⟩ := List.mem_map.1 hx; exact .lit _))))) (by ((try simp only [cells_agg, cells_lit, List.mem_cons, List.not_mem_nil, or_false, forall_eq_or_imp, forall_eq, only_any, only_lit', only_iptr, only_no, only_full, only_at, only_ptr, only_osl, only_agg, only_tup, only_fn, only_bfn, and_self, implies_true, and_true, true_and, okL_nil, okL_cons, bonly_cells, bonly_tok, keepP_add, look_nil, look_cons, ↓reduceIte, Nat.reduceEqDiff, Option.isSome_some, reduceCtorEq, false_or, if_true, if_false, false_implies]); (try first | done | omega | ((repeat' refine And.intro ?_ ?_) <;> (intro _ hx; obtain ⟨_, -, rfl⟩ := List.mem_map.1 hx; exact .lit _)))))
                    · have : i = ps.length := by omega
                      subst this
                      rw [List.take_length] at hi1 hi2
                      refine FnPost_end hn0 (by simp) rfl (only_lit _ _) ?_
                      simp only [go_sem]
                      exact leA_bool (by rw [hi2, decide_eq_true hi1]; rfl)
                · simp only [go_sem, eq_false hk2, str_eq, eq_true hl0]
                  refine FnPost_end hn0 (by simp) rfl (only_lit _ _) ?_
                  simp only [go_sem]
                  exact leA_bool (by unfold symB; rw [if_neg hk2, decide_eq_true hl0]; rfl)
              · simp only [go_sem, eq_false hk2, str_eq, eq_false hl0]
                refine FnPost_end hn0 (by simp) rfl (only_lit _ _) ?_
                simp only [go_sem]
                exact leA_bool (by unfold symB; rw [if_neg hk2, decide_eq_false hl0]; rfl)
            · simp only [go_sem, eq_false c0, eq_false c1, eq_false c2, List.length_map, eq_false hlo, eq_false hk3, eq_false hk4, eq_false cn, eq_true hhi]
              refine FnPost_end hn0 (by simp) rfl (only_lit _ _) ?_
              simp only [go_sem]
              exact leA_bool (cf (by unfold countB manyR; simp; omega))
theorem rFormed_c : ∀ (d : Nat), d ≤ 1000 → ∀ r : Rx, r.nodes ≤ 1000000 → smallR r → ∀ g : GH, PureC Tryd.prog 71 [rA r, I64 d] g (BB (formD d r))
  | 0, hd, r, hb, hs, g => rFormed_0 r g
  | d + 1, hd, r, hb, hs, g => rFormed_s d (by omega) r hb ((smallR_eq r).1 hs).1 (fun p hp => rFormed_c d (by omega) p (by have := Rx.nodes_lt hp; omega) (smallL_mem ((smallR_eq r).1 hs).2 hp)) g
theorem rSize_s (r : Rx) (hb : r.nodes ≤ 1000000) (ih : ∀ p, p ∈ r.ps → ∀ g : GH, PureC Tryd.prog 48 [rA p] g (I64 (sizeR p))) (g : GH) : PureC Tryd.prog 48 [rA r] g (I64 (sizeR r)) := by
  have hlen := r.len_lt
  have hsz := sizeR_eq r
  have hnd := nodes_ps r
  rw [rA_eq r]
  generalize r.k = k at *
  generalize r.l = l at *
  generalize r.b = b at *
  generalize r.ps = ps at *
  refine CallC.body (fun _ => none) (fun _ => 0) Tryd.func48 rfl Tryd.results48 Tryd.ntmps48 ?_
  intro n0 hn0
  simp only [go_sem]
  split
  · rename_i hk
    rw [if_pos hk] at hsz
    refine WC_loop (fun i : Nat => [.any, .ptr (n0 + 1) 0 0, .any, I64 ((1 + sizeL (ps.take i) : Nat) : Int), I64 i, .any, .any, .any, .any, .any, .any, .any, .any, .any, .any, .any, .any, .any, .any, .any, .any, .any, .any, .any]) (fun i => ⟨g, [(1, .cells 0 [I64 k, SS l, BB b, .isl none (ps.map rA) .no])]⟩) (fun i => i ≤ ps.length) (fun i => ps.length - i) 0 (by simp) ?_ ?_
    · refine imp_loc (by ((try simp only [cells_agg, cells_lit, leL_cons, leL_nil, leA_any, leA_lits, leA_isl, leA_self, and_self, true_and, and_true, or_true, true_or, Value.int.injEq, Value.bool.injEq, Value.string.injEq, AV.lit.injEq, Option.some.injEq, Blk.cells.injEq, Blk.tok.injEq, List.cons.injEq, Tk.at.injEq, subL_nil, subL_cons, look_nil, look_cons, ↓reduceIte, Nat.reduceEqDiff, Option.isSome_some, reduceCtorEq, or_false, false_or, if_true, if_false, List.take_zero, sizeL, List.length_map]); (try first | done | omega | (simp; done) | (simp; omega)))) (by ((try simp only [cells_agg, cells_lit, leL_cons, leL_nil, leA_any, leA_lits, leA_isl, leA_self, and_self, true_and, and_true, or_true, true_or, Value.int.injEq, Value.bool.injEq, Value.string.injEq, AV.lit.injEq, Option.some.injEq, Blk.cells.injEq, Blk.tok.injEq, List.cons.injEq, Tk.at.injEq, subL_nil, subL_cons, look_nil, look_cons, ↓reduceIte, Nat.reduceEqDiff, Option.isSome_some, reduceCtorEq, or_false, false_or, if_true, if_false, List.take_zero, sizeL, List.length_map]); (try first | done | omega | (simp; done) | (simp; omega)))) (by ((try simp only [cells_agg, cells_lit, List.mem_cons, List.not_mem_nil, or_false, forall_eq_or_imp, forall_eq, only_any, only_lit', only_iptr, only_no, only_full, only_at, only_ptr, only_osl, only_agg, only_tup, only_fn, only_bfn, and_self, implies_true, and_true, true_and, okL_nil, okL_cons, bonly_cells, bonly_tok, keepP_add, look_nil, look_cons, ↓reduceIte, Nat.reduceEqDiff, Option.isSome_some, reduceCtorEq, false_or, if_true, if_false, false_implies, List.take_zero, sizeL, List.length_map]); (try first | done | omega | ((repeat' refine And.intro ?_ ?_) <;> (intro _ hx; obtain ⟨_, -, rfl⟩ := List.mem_map.1 hx; exact .lit _))))) (by ((try simp only [cells_agg, cells_lit, List.mem_cons, List.not_mem_nil, or_false, forall_eq_or_imp, forall_eq, only_any, only_lit', only_iptr, only_no, only_full, only_at, only_ptr, only_osl, only_agg, only_tup, only_fn, only_bfn, and_self, implies_true, and_true, true_and, okL_nil, okL_cons, bonly_cells, bonly_tok, keepP_add, look_nil, look_cons, ↓reduceIte, Nat.reduceEqDiff, Option.isSome_some, reduceCtorEq, false_or, if_true, if_false, false_implies, List.take_zero, sizeL, List.length_map]); (try first | done | omega | ((repeat' refine And.intro ?_ ?_) <;> (intro _ hx; obtain ⟨_, -, rfl⟩ := List.mem_map.1 hx; exact .lit _)))))
    · intro i hi
      simp only [go_sem, List.length_map]
      split
      · rename_i hlt
        have hlt : i < ps.length := by omega
        have e1 : IntKind.i64.wrap ((i : Int) + 1) = ((i + 1 : Nat) : Int) := by rw [wrap_i64]; omega
        have hp := rx_getD_mem hlt
        have ih' := ih _ hp
        have hst := sizeL_take hlt
        have hnt := sizeL_nodes (ps.take (i + 1))
        have hnl := nodesL_take ps (i + 1)
        have gp := rA_getD ps i hlt
        generalize ps.getD i rx0 = p at *
        rw [rA_eq p] at ih'
        simp only [go_sem, List.length_map, gp, rA_cells]
        (repeat (refine ⟨by omega, ?_⟩))
        refine WE_pure _ _ _ _ _ _ _ _ (ih' _) ?_
        simp only [go_sem]
        refine LP_next (i + 1) (by omega) (by omega) ?_
        have e2 : IntKind.i64.wrap (((1 + sizeL (ps.take i) : Nat) : Int) + (sizeR p : Int)) = ((1 + sizeL (ps.take (i + 1)) : Nat) : Int) := by rw [wrap_i64, hst]; omega
        rw [e1, e2]
        refine imp_loc (by ((try simp only [cells_agg, cells_lit, leL_cons, leL_nil, leA_any, leA_lits, leA_isl, leA_self, and_self, true_and, and_true, or_true, true_or, Value.int.injEq, Value.bool.injEq, Value.string.injEq, AV.lit.injEq, Option.some.injEq, Blk.cells.injEq, Blk.tok.injEq, List.cons.injEq, Tk.at.injEq, subL_nil, subL_cons, look_nil, look_cons, ↓reduceIte, Nat.reduceEqDiff, Option.isSome_some, reduceCtorEq, or_false, false_or, if_true, if_false]); (try first | done | omega | (simp; done) | (simp; omega)))) (by ((try simp only [cells_agg, cells_lit, leL_cons, leL_nil, leA_any, leA_lits, leA_isl, leA_self, and_self, true_and, and_true, or_true, true_or, Value.int.injEq, Value.bool.injEq, Value.string.injEq, AV.lit.injEq, Option.some.injEq, Blk.cells.injEq, Blk.tok.injEq, List.cons.injEq, Tk.at.injEq, subL_nil, subL_cons, look_nil, look_cons, ↓reduceIte, Nat.reduceEqDiff, Option.isSome_some, reduceCtorEq, or_false, false_or, if_true, if_false]); (try first | done | omega | (simp; done) | (simp; omega)))) (by ((try simp only [cells_agg, cells_lit, List.mem_cons, List.not_mem_nil, or_false, forall_eq_or_imp, forall_eq, only_any, only_lit', only_iptr, only_no, only_full, only_at, only_ptr, only_osl, only_agg, only_tup, only_fn, only_bfn, and_self, implies_true, and_true, true_and, okL_nil, okL_cons, bonly_cells, bonly_tok, keepP_add, look_nil, look_cons, ↓reduceIte, Nat.reduceEqDiff, Option.isSome_some, reduceCtorEq, false_or, if_true, if_false, false_implies]); (try first | done | omega | ((repeat' refine And.intro ?_ ?_) <;> (intro _ hx; obtain ⟨_, -, rfl⟩ := List.mem_map.1 hx; exact .lit _))))) (by ((try simp only [cells_agg, cells_lit, List.mem_cons, List.not_mem_nil, or_false, forall_eq_or_imp, forall_eq, only_any, only_lit', only_iptr, only_no, only_full, only_at, only_ptr, only_osl, only_agg, only_tup, only_fn, only_bfn, and_self, implies_true, and_true, true_and, okL_nil, okL_cons, bonly_cells, bonly_tok, keepP_add, look_nil, look_cons, ↓reduceIte, Nat.reduceEqDiff, Option.isSome_some, reduceCtorEq, false_or, if_true, if_false, false_implies]); (try first | done | omega | ((repeat' refine And.intro ?_ ?_) <;> (intro _ hx; obtain ⟨_, -, rfl⟩ := List.mem_map.1 hx; exact .lit _)))))
      · have : i = ps.length := by omega
        subst this
        rw [List.take_length]
        refine FnPost_end hn0 (by simp) rfl (only_lit _ _) ?_
        simp only [go_sem]
        exact leA_int (by first | (rw [hsz]; done) | (rw [hsz]; simp))
  · rename_i hk
    rw [if_neg hk] at hsz
    refine WC_loop (fun i : Nat => [.any, .ptr (n0 + 1) 0 0, .any, I64 (sizeL (ps.take i) : Int), I64 i, .any, .any, .any, .any, .any, .any, .any, .any, .any, .any, .any, .any, .any, .any, .any, .any, .any, .any, .any]) (fun i => ⟨g, [(1, .cells 0 [I64 k, SS l, BB b, .isl none (ps.map rA) .no])]⟩) (fun i => i ≤ ps.length) (fun i => ps.length - i) 0 (by simp) ?_ ?_
    · refine imp_loc (by ((try simp only [cells_agg, cells_lit, leL_cons, leL_nil, leA_any, leA_lits, leA_isl, leA_self, and_self, true_and, and_true, or_true, true_or, Value.int.injEq, Value.bool.injEq, Value.string.injEq, AV.lit.injEq, Option.some.injEq, Blk.cells.injEq, Blk.tok.injEq, List.cons.injEq, Tk.at.injEq, subL_nil, subL_cons, look_nil, look_cons, ↓reduceIte, Nat.reduceEqDiff, Option.isSome_some, reduceCtorEq, or_false, false_or, if_true, if_false, List.take_zero, sizeL, List.length_map]); (try first | done | omega | (simp; done) | (simp; omega)))) (by ((try simp only [cells_agg, cells_lit, leL_cons, leL_nil, leA_any, leA_lits, leA_isl, leA_self, and_self, true_and, and_true, or_true, true_or, Value.int.injEq, Value.bool.injEq, Value.string.injEq, AV.lit.injEq, Option.some.injEq, Blk.cells.injEq, Blk.tok.injEq, List.cons.injEq, Tk.at.injEq, subL_nil, subL_cons, look_nil, look_cons, ↓reduceIte, Nat.reduceEqDiff, Option.isSome_some, reduceCtorEq, or_false, false_or, if_true, if_false, List.take_zero, sizeL, List.length_map]); (try first | done | omega | (simp; done) | (simp; omega)))) (by ((try simp only [cells_agg, cells_lit, List.mem_cons, List.not_mem_nil, or_false, forall_eq_or_imp, forall_eq, only_any, only_lit', only_iptr, only_no, only_full, only_at, only_ptr, only_osl, only_agg, only_tup, only_fn, only_bfn, and_self, implies_true, and_true, true_and, okL_nil, okL_cons, bonly_cells, bonly_tok, keepP_add, look_nil, look_cons, ↓reduceIte, Nat.reduceEqDiff, Option.isSome_some, reduceCtorEq, false_or, if_true, if_false, false_implies, List.take_zero, sizeL, List.length_map]); (try first | done | omega | ((repeat' refine And.intro ?_ ?_) <;> (intro _ hx; obtain ⟨_, -, rfl⟩ := List.mem_map.1 hx; exact .lit _))))) (by ((try simp only [cells_agg, cells_lit, List.mem_cons, List.not_mem_nil, or_false, forall_eq_or_imp, forall_eq, only_any, only_lit', only_iptr, only_no, only_full, only_at, only_ptr, only_osl, only_agg, only_tup, only_fn, only_bfn, and_self, implies_true, and_true, true_and, okL_nil, okL_cons, bonly_cells, bonly_tok, keepP_add, look_nil, look_cons, ↓reduceIte, Nat.reduceEqDiff, Option.isSome_some, reduceCtorEq, false_or, if_true, if_false, false_implies, List.take_zero, sizeL, List.length_map]); (try first | done | omega | ((repeat' refine And.intro ?_ ?_) <;> (intro _ hx; obtain ⟨_, -, rfl⟩ := List.mem_map.1 hx; exact .lit _)))))
    · intro i hi
      simp only [go_sem, List.length_map]
      split
      · rename_i hlt
        have hlt : i < ps.length := by omega
        have e1 : IntKind.i64.wrap ((i : Int) + 1) = ((i + 1 : Nat) : Int) := by rw [wrap_i64]; omega
        have hp := rx_getD_mem hlt
        have ih' := ih _ hp
        have hst := sizeL_take hlt
        have hnt := sizeL_nodes (ps.take (i + 1))
        have hnl := nodesL_take ps (i + 1)
        have gp := rA_getD ps i hlt
        generalize ps.getD i rx0 = p at *
        rw [rA_eq p] at ih'
        simp only [go_sem, List.length_map, gp, rA_cells]
        (repeat (refine ⟨by omega, ?_⟩))
        refine WE_pure _ _ _ _ _ _ _ _ (ih' _) ?_
        simp only [go_sem]
        refine LP_next (i + 1) (by omega) (by omega) ?_
        have e2 : IntKind.i64.wrap ((sizeL (ps.take i) : Int) + (sizeR p : Int)) = (sizeL (ps.take (i + 1)) : Int) := by rw [wrap_i64, hst]; omega
        rw [e1, e2]
        refine imp_loc (by ((try simp only [cells_agg, cells_lit, leL_cons, leL_nil, leA_any, leA_lits, leA_isl, leA_self, and_self, true_and, and_true, or_true, true_or, Value.int.injEq, Value.bool.injEq, Value.string.injEq, AV.lit.injEq, Option.some.injEq, Blk.cells.injEq, Blk.tok.injEq, List.cons.injEq, Tk.at.injEq, subL_nil, subL_cons, look_nil, look_cons, ↓reduceIte, Nat.reduceEqDiff, Option.isSome_some, reduceCtorEq, or_false, false_or, if_true, if_false]); (try first | done | omega | (simp; done) | (simp; omega)))) (by ((try simp only [cells_agg, cells_lit, leL_cons, leL_nil, leA_any, leA_lits, leA_isl, leA_self, and_self, true_and, and_true, or_true, true_or, Value.int.injEq, Value.bool.injEq, Value.string.injEq, AV.lit.injEq, Option.some.injEq, Blk.cells.injEq, Blk.tok.injEq, List.cons.injEq, Tk.at.injEq, subL_nil, subL_cons, look_nil, look_cons, ↓reduceIte, Nat.reduceEqDiff, Option.isSome_some, reduceCtorEq, or_false, false_or, if_true, if_false]); (try first | done | omega | (simp; done) | (simp; omega)))) (by ((try simp only [cells_agg, cells_lit, List.mem_cons, List.not_mem_nil, or_false, forall_eq_or_imp, forall_eq, only_any, only_lit', only_iptr, only_no, only_full, only_at, only_ptr, only_osl, only_agg, only_tup, only_fn, only_bfn, and_self, implies_true, and_true, true_and, okL_nil, okL_cons, bonly_cells, bonly_tok, keepP_add, look_nil, look_cons, ↓reduceIte, Nat.reduceEqDiff, Option.isSome_some, reduceCtorEq, false_or, if_true, if_false, false_implies]); (try first | done | omega | ((repeat' refine And.intro ?_ ?_) <;> (intro _ hx; obtain ⟨_, -, rfl⟩ := List.mem_map.1 hx; exact .lit _))))) (by ((try simp only [cells_agg, cells_lit, List.mem_cons, List.not_mem_nil, or_false, forall_eq_or_imp, forall_eq, only_any, only_lit', only_iptr, only_no, only_full, only_at, only_ptr, only_osl, only_agg, only_tup, only_fn, only_bfn, and_self, implies_true, and_true, true_and, okL_nil, okL_cons, bonly_cells, bonly_tok, keepP_add, look_nil, look_cons, ↓reduceIte, Nat.reduceEqDiff, Option.isSome_some, reduceCtorEq, false_or, if_true, if_false, false_implies]); (try first | done | omega | ((repeat' refine And.intro ?_ ?_) <;> (intro _ hx; obtain ⟨_, -, rfl⟩ := List.mem_map.1 hx; exact .lit _)))))
      · have : i = ps.length := by omega
        subst this
        rw [List.take_length]
        refine FnPost_end hn0 (by simp) rfl (only_lit _ _) ?_
        simp only [go_sem]
        exact leA_int (by first | (rw [hsz]; done) | (rw [hsz]; simp))
theorem rSize_c : ∀ (N : Nat) (r : Rx), r.nodes < N → r.nodes ≤ 1000000 → ∀ g : GH, PureC Tryd.prog 48 [rA r] g (I64 (sizeR r))
  | 0, r, hN, hb, g => by omega
  | N + 1, r, hN, hb, g => rSize_s r hb (fun p hp => rSize_c N p (by have := Rx.nodes_lt hp; omega) (by have := Rx.nodes_lt hp; omega)) g
theorem rGood_c (r : Rx) (hb : r.nodes ≤ 1000000) (hs : smallR r) (g : GH) : PureC Tryd.prog 31 [rA r] g (BB (goodR nameB r)) := by
  have h2 := fun g => rFormed_c 32 (by omega) r hb hs g
  have h3 := fun g => rSize_c _ r (Nat.lt_succ_self _) hb g
  have e : goodR nameB r = (formD 32 r && decide (sizeR r ≤ 200)) := by unfold goodR formD; rw [Bool.and_assoc]
  rw [e]
  rw [rA_eq r] at *
  refine CallC.body (fun _ => none) (fun _ => 0) Tryd.func31 rfl Tryd.results31 Tryd.ntmps31 ?_
  intro n0 hn0
  simp only [go_sem]
  cases hf : formD 32 r
  · refine WE_pure _ _ _ _ _ _ _ _ (h2 _) ?_
    simp only [go_sem, hf]
    refine FnPost_end hn0 (by simp) rfl (only_lit _ _) ?_
    simp only [go_sem]
    exact leA_refl _
  · refine WE_pure _ _ _ _ _ _ _ _ (h2 _) ?_
    simp only [go_sem, hf]
    refine WE_pure _ _ _ _ _ _ _ _ (h3 _) ?_
    simp only [go_sem]
    refine FnPost_end hn0 (by simp) rfl (only_lit _ _) ?_
    simp only [go_sem]
    refine leA_bool ?_
    by_cases h : sizeR r ≤ 200
    · rw [decide_eq_true h, decide_eq_true (by omega)]
    · rw [decide_eq_false h, decide_eq_false (by omega)]
end Go.Proofs.YtcnhpclfflcdfaaDoorR.Reg
