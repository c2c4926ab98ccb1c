import Derived.Test.YtcnhpclfflcdfaaDoorRRegB
import Derived.Test.YtcnhpclfflcdfaaDoorRRegQ
/- Expressions: how many steps, how deep, and whether formed right. -/
namespace Go.Proofs.YtcnhpclfflcdfaaDoorR.Reg
open Go Go.Av Go.Proofs.YtcnhpclfflcdfaaDoorR.Val Go.Proofs.YtcnhpclfflcdfaaDoorR.Lex
set_option linter.unusedSimpArgs false
set_option linter.unusedVariables false
theorem size_s (r : Rx) (hb : r.nodes ≤ 1000000) (ih : ∀ p, p ∈ r.ps → ∀ g : GH, PureC Tryd.prog 78 [rA p] g (I64 (sizeR p))) (g : GH) : PureC Tryd.prog 78 [rA r] g (I64 (sizeR r)) := by
  have hlen := r.len_lt
  have hsz := sizeR_eq r
  have hnd := nodes_ps r
  rw [rA_eq r]
  generalize r.k = k at *
  generalize r.ps = ps at *
  refine CallC.body (fun _ => none) (fun _ => 0) Tryd.func78 rfl Tryd.results78 Tryd.ntmps78 ?_
  intro n0 hn0
  simp only [go_sem]
  by_cases hk : k = 2
  · simp only [go_sem, hk]
    rw [if_pos hk] at hsz
    refine WC_loop (fun i : Nat => [.any, .any, .any, I64 ((1 + sizeL (ps.take i) : Nat) : Int), .any, .any, .any, .any, .any, .any, .isl none (ps.map rA) .no, I64 ps.length, I64 i, .any, .any, .any, .any, .any, .any, .any, .any, .any]) (fun i => ⟨g, []⟩) (fun i => i ≤ ps.length) (fun i => ps.length - i) 0 (by simp) ?_ ?_
    · refine imp_loc (by ((try simp only [cells_agg, cells_lit, leL_cons, leL_nil, leA_any, leA_lits, leA_isl, leA_self, and_self, true_and, and_true, or_true, true_or, Value.int.injEq, Value.bool.injEq, Value.string.injEq, AV.lit.injEq, Option.some.injEq, Blk.cells.injEq, Blk.tok.injEq, List.cons.injEq, Tk.at.injEq, subL_nil, subL_cons, look_nil, look_cons, ↓reduceIte, Nat.reduceEqDiff, Option.isSome_some, reduceCtorEq, or_false, false_or, if_true, if_false, List.take_zero, sizeL, List.length_map]); (try first | done | omega | (simp; done) | (simp; omega)))) (by ((try simp only [cells_agg, cells_lit, leL_cons, leL_nil, leA_any, leA_lits, leA_isl, leA_self, and_self, true_and, and_true, or_true, true_or, Value.int.injEq, Value.bool.injEq, Value.string.injEq, AV.lit.injEq, Option.some.injEq, Blk.cells.injEq, Blk.tok.injEq, List.cons.injEq, Tk.at.injEq, subL_nil, subL_cons, look_nil, look_cons, ↓reduceIte, Nat.reduceEqDiff, Option.isSome_some, reduceCtorEq, or_false, false_or, if_true, if_false, List.take_zero, sizeL, List.length_map]); (try first | done | omega | (simp; done) | (simp; omega)))) (by ((try simp only [cells_agg, cells_lit, List.mem_cons, List.not_mem_nil, or_false, forall_eq_or_imp, forall_eq, only_any, only_lit', only_iptr, only_no, only_full, only_at, only_ptr, only_osl, only_agg, only_tup, only_fn, only_bfn, and_self, implies_true, and_true, true_and, okL_nil, okL_cons, bonly_cells, bonly_tok, keepP_add, look_nil, look_cons, ↓reduceIte, Nat.reduceEqDiff, Option.isSome_some, reduceCtorEq, false_or, if_true, if_false, false_implies, List.take_zero, sizeL, List.length_map]); (try first | done | omega | ((repeat' refine And.intro ?_ ?_) <;> (intro _ hx; obtain ⟨_, -, rfl⟩ := List.mem_map.1 hx; exact .lit _))))) (by ((try simp only [cells_agg, cells_lit, List.mem_cons, List.not_mem_nil, or_false, forall_eq_or_imp, forall_eq, only_any, only_lit', only_iptr, only_no, only_full, only_at, only_ptr, only_osl, only_agg, only_tup, only_fn, only_bfn, and_self, implies_true, and_true, true_and, okL_nil, okL_cons, bonly_cells, bonly_tok, keepP_add, look_nil, look_cons, ↓reduceIte, Nat.reduceEqDiff, Option.isSome_some, reduceCtorEq, false_or, if_true, if_false, false_implies, List.take_zero, sizeL, List.length_map]); (try first | done | omega | ((repeat' refine And.intro ?_ ?_) <;> (intro _ hx; obtain ⟨_, -, rfl⟩ := List.mem_map.1 hx; exact .lit _)))))
    · intro i hi
      simp only [go_sem, List.length_map]
      split
      · rename_i hlt
        have hlt : i < ps.length := by omega
        have e1 : IntKind.i64.wrap ((i : Int) + 1) = ((i + 1 : Nat) : Int) := by rw [wrap_i64]; omega
        have hp := rx_getD_mem hlt
        have ih' := ih _ hp
        have hst := sizeL_take hlt
        have hnt := sizeL_nodes (ps.take (i + 1))
        have hnl := nodesL_take ps (i + 1)
        simp only [go_sem, rA_getD ps i hlt, rA_cells]
        generalize ps.getD i rx0 = p at *
        (repeat (refine ⟨by omega, ?_⟩))
        rw [← rA_eq]
        refine WE_pure _ _ _ _ _ _ _ _ (ih' _) ?_
        simp only [go_sem]
        refine LP_next (i + 1) (by omega) (by omega) ?_
        have e2 : IntKind.i64.wrap (((1 + sizeL (ps.take i) : Nat) : Int) + (sizeR p : Int)) = ((1 + sizeL (ps.take (i + 1)) : Nat) : Int) := by rw [wrap_i64, hst]; omega
        rw [e1, e2]
        refine imp_loc (by ((try simp only [cells_agg, cells_lit, leL_cons, leL_nil, leA_any, leA_lits, leA_isl, leA_self, and_self, true_and, and_true, or_true, true_or, Value.int.injEq, Value.bool.injEq, Value.string.injEq, AV.lit.injEq, Option.some.injEq, Blk.cells.injEq, Blk.tok.injEq, List.cons.injEq, Tk.at.injEq, subL_nil, subL_cons, look_nil, look_cons, ↓reduceIte, Nat.reduceEqDiff, Option.isSome_some, reduceCtorEq, or_false, false_or, if_true, if_false]); (try first | done | omega | (simp; done) | (simp; omega)))) (by ((try simp only [cells_agg, cells_lit, leL_cons, leL_nil, leA_any, leA_lits, leA_isl, leA_self, and_self, true_and, and_true, or_true, true_or, Value.int.injEq, Value.bool.injEq, Value.string.injEq, AV.lit.injEq, Option.some.injEq, Blk.cells.injEq, Blk.tok.injEq, List.cons.injEq, Tk.at.injEq, subL_nil, subL_cons, look_nil, look_cons, ↓reduceIte, Nat.reduceEqDiff, Option.isSome_some, reduceCtorEq, or_false, false_or, if_true, if_false]); (try first | done | omega | (simp; done) | (simp; omega)))) (by ((try simp only [cells_agg, cells_lit, List.mem_cons, List.not_mem_nil, or_false, forall_eq_or_imp, forall_eq, only_any, only_lit', only_iptr, only_no, only_full, only_at, only_ptr, only_osl, only_agg, only_tup, only_fn, only_bfn, and_self, implies_true, and_true, true_and, okL_nil, okL_cons, bonly_cells, bonly_tok, keepP_add, look_nil, look_cons, ↓reduceIte, Nat.reduceEqDiff, Option.isSome_some, reduceCtorEq, false_or, if_true, if_false, false_implies]); (try first | done | omega | ((repeat' refine And.intro ?_ ?_) <;> (intro _ hx; obtain ⟨_, -, rfl⟩ := List.mem_map.1 hx; exact .lit _))))) (by ((try simp only [cells_agg, cells_lit, List.mem_cons, List.not_mem_nil, or_false, forall_eq_or_imp, forall_eq, only_any, only_lit', only_iptr, only_no, only_full, only_at, only_ptr, only_osl, only_agg, only_tup, only_fn, only_bfn, and_self, implies_true, and_true, true_and, okL_nil, okL_cons, bonly_cells, bonly_tok, keepP_add, look_nil, look_cons, ↓reduceIte, Nat.reduceEqDiff, Option.isSome_some, reduceCtorEq, false_or, if_true, if_false, false_implies]); (try first | done | omega | ((repeat' refine And.intro ?_ ?_) <;> (intro _ hx; obtain ⟨_, -, rfl⟩ := List.mem_map.1 hx; exact .lit _)))))
      · have : i = ps.length := by omega
        subst this
        rw [List.take_length]
        refine FnPost_end hn0 (by simp) rfl (only_lit _ _) ?_
        simp only [go_sem]
        exact leA_int (by first | (rw [hsz]; done) | (rw [hsz]; simp))
  · simp only [go_sem, eq_false hk]
    rw [if_neg hk] at hsz
    refine WC_loop (fun i : Nat => [.any, .any, .any, I64 (sizeL (ps.take i) : Int), .any, .any, .any, .any, .any, .any, .isl none (ps.map rA) .no, I64 ps.length, I64 i, .any, .any, .any, .any, .any, .any, .any, .any, .any]) (fun i => ⟨g, []⟩) (fun i => i ≤ ps.length) (fun i => ps.length - i) 0 (by simp) ?_ ?_
    · refine imp_loc (by ((try simp only [cells_agg, cells_lit, leL_cons, leL_nil, leA_any, leA_lits, leA_isl, leA_self, and_self, true_and, and_true, or_true, true_or, Value.int.injEq, Value.bool.injEq, Value.string.injEq, AV.lit.injEq, Option.some.injEq, Blk.cells.injEq, Blk.tok.injEq, List.cons.injEq, Tk.at.injEq, subL_nil, subL_cons, look_nil, look_cons, ↓reduceIte, Nat.reduceEqDiff, Option.isSome_some, reduceCtorEq, or_false, false_or, if_true, if_false, List.take_zero, sizeL, List.length_map]); (try first | done | omega | (simp; done) | (simp; omega)))) (by ((try simp only [cells_agg, cells_lit, leL_cons, leL_nil, leA_any, leA_lits, leA_isl, leA_self, and_self, true_and, and_true, or_true, true_or, Value.int.injEq, Value.bool.injEq, Value.string.injEq, AV.lit.injEq, Option.some.injEq, Blk.cells.injEq, Blk.tok.injEq, List.cons.injEq, Tk.at.injEq, subL_nil, subL_cons, look_nil, look_cons, ↓reduceIte, Nat.reduceEqDiff, Option.isSome_some, reduceCtorEq, or_false, false_or, if_true, if_false, List.take_zero, sizeL, List.length_map]); (try first | done | omega | (simp; done) | (simp; omega)))) (by ((try simp only [cells_agg, cells_lit, List.mem_cons, List.not_mem_nil, or_false, forall_eq_or_imp, forall_eq, only_any, only_lit', only_iptr, only_no, only_full, only_at, only_ptr, only_osl, only_agg, only_tup, only_fn, only_bfn, and_self, implies_true, and_true, true_and, okL_nil, okL_cons, bonly_cells, bonly_tok, keepP_add, look_nil, look_cons, ↓reduceIte, Nat.reduceEqDiff, Option.isSome_some, reduceCtorEq, false_or, if_true, if_false, false_implies, List.take_zero, sizeL, List.length_map]); (try first | done | omega | ((repeat' refine And.intro ?_ ?_) <;> (intro _ hx; obtain ⟨_, -, rfl⟩ := List.mem_map.1 hx; exact .lit _))))) (by ((try simp only [cells_agg, cells_lit, List.mem_cons, List.not_mem_nil, or_false, forall_eq_or_imp, forall_eq, only_any, only_lit', only_iptr, only_no, only_full, only_at, only_ptr, only_osl, only_agg, only_tup, only_fn, only_bfn, and_self, implies_true, and_true, true_and, okL_nil, okL_cons, bonly_cells, bonly_tok, keepP_add, look_nil, look_cons, ↓reduceIte, Nat.reduceEqDiff, Option.isSome_some, reduceCtorEq, false_or, if_true, if_false, false_implies, List.take_zero, sizeL, List.length_map]); (try first | done | omega | ((repeat' refine And.intro ?_ ?_) <;> (intro _ hx; obtain ⟨_, -, rfl⟩ := List.mem_map.1 hx; exact .lit _)))))
    · intro i hi
      simp only [go_sem, List.length_map]
      split
      · rename_i hlt
        have hlt : i < ps.length := by omega
        have e1 : IntKind.i64.wrap ((i : Int) + 1) = ((i + 1 : Nat) : Int) := by rw [wrap_i64]; omega
        have hp := rx_getD_mem hlt
        have ih' := ih _ hp
        have hst := sizeL_take hlt
        have hnt := sizeL_nodes (ps.take (i + 1))
        have hnl := nodesL_take ps (i + 1)
        simp only [go_sem, rA_getD ps i hlt, rA_cells]
        generalize ps.getD i rx0 = p at *
        (repeat (refine ⟨by omega, ?_⟩))
        rw [← rA_eq]
        refine WE_pure _ _ _ _ _ _ _ _ (ih' _) ?_
        simp only [go_sem]
        refine LP_next (i + 1) (by omega) (by omega) ?_
        have e2 : IntKind.i64.wrap ((sizeL (ps.take i) : Int) + (sizeR p : Int)) = (sizeL (ps.take (i + 1)) : Int) := by rw [wrap_i64, hst]; omega
        rw [e1, e2]
        refine imp_loc (by ((try simp only [cells_agg, cells_lit, leL_cons, leL_nil, leA_any, leA_lits, leA_isl, leA_self, and_self, true_and, and_true, or_true, true_or, Value.int.injEq, Value.bool.injEq, Value.string.injEq, AV.lit.injEq, Option.some.injEq, Blk.cells.injEq, Blk.tok.injEq, List.cons.injEq, Tk.at.injEq, subL_nil, subL_cons, look_nil, look_cons, ↓reduceIte, Nat.reduceEqDiff, Option.isSome_some, reduceCtorEq, or_false, false_or, if_true, if_false]); (try first | done | omega | (simp; done) | (simp; omega)))) (by ((try simp only [cells_agg, cells_lit, leL_cons, leL_nil, leA_any, leA_lits, leA_isl, leA_self, and_self, true_and, and_true, or_true, true_or, Value.int.injEq, Value.bool.injEq, Value.string.injEq, AV.lit.injEq, Option.some.injEq, Blk.cells.injEq, Blk.tok.injEq, List.cons.injEq, Tk.at.injEq, subL_nil, subL_cons, look_nil, look_cons, ↓reduceIte, Nat.reduceEqDiff, Option.isSome_some, reduceCtorEq, or_false, false_or, if_true, if_false]); (try first | done | omega | (simp; done) | (simp; omega)))) (by ((try simp only [cells_agg, cells_lit, List.mem_cons, List.not_mem_nil, or_false, forall_eq_or_imp, forall_eq, only_any, only_lit', only_iptr, only_no, only_full, only_at, only_ptr, only_osl, only_agg, only_tup, only_fn, only_bfn, and_self, implies_true, and_true, true_and, okL_nil, okL_cons, bonly_cells, bonly_tok, keepP_add, look_nil, look_cons, ↓reduceIte, Nat.reduceEqDiff, Option.isSome_some, reduceCtorEq, false_or, if_true, if_false, false_implies]); (try first | done | omega | ((repeat' refine And.intro ?_ ?_) <;> (intro _ hx; obtain ⟨_, -, rfl⟩ := List.mem_map.1 hx; exact .lit _))))) (by ((try simp only [cells_agg, cells_lit, List.mem_cons, List.not_mem_nil, or_false, forall_eq_or_imp, forall_eq, only_any, only_lit', only_iptr, only_no, only_full, only_at, only_ptr, only_osl, only_agg, only_tup, only_fn, only_bfn, and_self, implies_true, and_true, true_and, okL_nil, okL_cons, bonly_cells, bonly_tok, keepP_add, look_nil, look_cons, ↓reduceIte, Nat.reduceEqDiff, Option.isSome_some, reduceCtorEq, false_or, if_true, if_false, false_implies]); (try first | done | omega | ((repeat' refine And.intro ?_ ?_) <;> (intro _ hx; obtain ⟨_, -, rfl⟩ := List.mem_map.1 hx; exact .lit _)))))
      · have : i = ps.length := by omega
        subst this
        rw [List.take_length]
        refine FnPost_end hn0 (by simp) rfl (only_lit _ _) ?_
        simp only [go_sem]
        exact leA_int (by first | (rw [hsz]; done) | (rw [hsz]; simp))
theorem size_c : ∀ (N : Nat) (r : Rx), r.nodes < N → r.nodes ≤ 1000000 → ∀ g : GH, PureC Tryd.prog 78 [rA r] g (I64 (sizeR r))
  | 0, r, hN, hb, g => by omega
  | N + 1, r, hN, hb, g => size_s r hb (fun p hp => size_c N p (by have := Rx.nodes_lt hp; omega) (by have := Rx.nodes_lt hp; omega)) g
theorem deep_s (r : Rx) (hb : r.nodes ≤ 1000000) (ih : ∀ p, p ∈ r.ps → ∀ g : GH, PureC Tryd.prog 106 [rA p] g (I64 (deepR p))) (g : GH) : PureC Tryd.prog 106 [rA r] g (I64 (deepR r)) := by
  have hlen := r.len_lt
  have hsz := deepR_eq r
  have hnd := nodes_ps r
  rw [rA_eq r]
  generalize r.ps = ps at *
  refine CallC.body (fun _ => none) (fun _ => 0) Tryd.func106 rfl Tryd.results106 Tryd.ntmps106 ?_
  intro n0 hn0
  simp only [go_sem]
  refine WC_loop (fun i : Nat => [.any, .any, .any, I64 (deepL (ps.take i) : Int), .any, .any, .any, .isl none (ps.map rA) .no, I64 ps.length, I64 i, .any, .any, .any, .any, .any, .any, .any, .any, .any, .any]) (fun i => ⟨g, []⟩) (fun i => i ≤ ps.length) (fun i => ps.length - i) 0 (by simp) ?_ ?_
  · refine imp_loc (by ((try simp only [cells_agg, cells_lit, leL_cons, leL_nil, leA_any, leA_lits, leA_isl, leA_self, and_self, true_and, and_true, or_true, true_or, Value.int.injEq, Value.bool.injEq, Value.string.injEq, AV.lit.injEq, Option.some.injEq, Blk.cells.injEq, Blk.tok.injEq, List.cons.injEq, Tk.at.injEq, subL_nil, subL_cons, look_nil, look_cons, ↓reduceIte, Nat.reduceEqDiff, Option.isSome_some, reduceCtorEq, or_false, false_or, if_true, if_false, List.take_zero, deepL, List.length_map]); (try first | done | omega | (simp; done) | (simp; omega)))) (by ((try simp only [cells_agg, cells_lit, leL_cons, leL_nil, leA_any, leA_lits, leA_isl, leA_self, and_self, true_and, and_true, or_true, true_or, Value.int.injEq, Value.bool.injEq, Value.string.injEq, AV.lit.injEq, Option.some.injEq, Blk.cells.injEq, Blk.tok.injEq, List.cons.injEq, Tk.at.injEq, subL_nil, subL_cons, look_nil, look_cons, ↓reduceIte, Nat.reduceEqDiff, Option.isSome_some, reduceCtorEq, or_false, false_or, if_true, if_false, List.take_zero, deepL, List.length_map]); (try first | done | omega | (simp; done) | (simp; omega)))) (by ((try simp only [cells_agg, cells_lit, List.mem_cons, List.not_mem_nil, or_false, forall_eq_or_imp, forall_eq, only_any, only_lit', only_iptr, only_no, only_full, only_at, only_ptr, only_osl, only_agg, only_tup, only_fn, only_bfn, and_self, implies_true, and_true, true_and, okL_nil, okL_cons, bonly_cells, bonly_tok, keepP_add, look_nil, look_cons, ↓reduceIte, Nat.reduceEqDiff, Option.isSome_some, reduceCtorEq, false_or, if_true, if_false, false_implies, List.take_zero, deepL, List.length_map]); (try first | done | omega | ((repeat' refine And.intro ?_ ?_) <;> (intro _ hx; obtain ⟨_, -, rfl⟩ := List.mem_map.1 hx; exact .lit _))))) (by ((try simp only [cells_agg, cells_lit, List.mem_cons, List.not_mem_nil, or_false, forall_eq_or_imp, forall_eq, only_any, only_lit', only_iptr, only_no, only_full, only_at, only_ptr, only_osl, only_agg, only_tup, only_fn, only_bfn, and_self, implies_true, and_true, true_and, okL_nil, okL_cons, bonly_cells, bonly_tok, keepP_add, look_nil, look_cons, ↓reduceIte, Nat.reduceEqDiff, Option.isSome_some, reduceCtorEq, false_or, if_true, if_false, false_implies, List.take_zero, deepL, List.length_map]); (try first | done | omega | ((repeat' refine And.intro ?_ ?_) <;> (intro _ hx; obtain ⟨_, -, rfl⟩ := List.mem_map.1 hx; exact .lit _)))))
  · intro i hi
    simp only [go_sem, List.length_map]
    have hnt := deepL_nodes (ps.take i)
    have hnl := nodesL_take ps i
    split
    · rename_i hlt
      have hlt : i < ps.length := by omega
      have e1 : IntKind.i64.wrap ((i : Int) + 1) = ((i + 1 : Nat) : Int) := by rw [wrap_i64]; omega
      have hp := rx_getD_mem hlt
      have ih' := ih _ hp
      have hst := deepL_take hlt
      simp only [go_sem, rA_getD ps i hlt, rA_cells]
      generalize ps.getD i rx0 = p at *
      (repeat (refine ⟨by omega, ?_⟩))
      rw [← rA_eq]
      refine WE_pure _ _ _ _ _ _ _ _ (ih' _) ?_
      simp only [go_sem]
      refine LP_next (i + 1) (by omega) (by omega) ?_
      have e2 : imx (deepL (ps.take i) : Int) (deepR p : Int) = ((max (deepL (ps.take i)) (deepR p) : Nat) : Int) := by unfold imx; split <;> omega
      rw [e1, e2, hst]
      refine imp_loc (by ((try simp only [cells_agg, cells_lit, leL_cons, leL_nil, leA_any, leA_lits, leA_isl, leA_self, and_self, true_and, and_true, or_true, true_or, Value.int.injEq, Value.bool.injEq, Value.string.injEq, AV.lit.injEq, Option.some.injEq, Blk.cells.injEq, Blk.tok.injEq, List.cons.injEq, Tk.at.injEq, subL_nil, subL_cons, look_nil, look_cons, ↓reduceIte, Nat.reduceEqDiff, Option.isSome_some, reduceCtorEq, or_false, false_or, if_true, if_false]); (try first | done | omega | (simp; done) | (simp; omega)))) (by ((try simp only [cells_agg, cells_lit, leL_cons, leL_nil, leA_any, leA_lits, leA_isl, leA_self, and_self, true_and, and_true, or_true, true_or, Value.int.injEq, Value.bool.injEq, Value.string.injEq, AV.lit.injEq, Option.some.injEq, Blk.cells.injEq, Blk.tok.injEq, List.cons.injEq, Tk.at.injEq, subL_nil, subL_cons, look_nil, look_cons, ↓reduceIte, Nat.reduceEqDiff, Option.isSome_some, reduceCtorEq, or_false, false_or, if_true, if_false]); (try first | done | omega | (simp; done) | (simp; omega)))) (by ((try simp only [cells_agg, cells_lit, List.mem_cons, List.not_mem_nil, or_false, forall_eq_or_imp, forall_eq, only_any, only_lit', only_iptr, only_no, only_full, only_at, only_ptr, only_osl, only_agg, only_tup, only_fn, only_bfn, and_self, implies_true, and_true, true_and, okL_nil, okL_cons, bonly_cells, bonly_tok, keepP_add, look_nil, look_cons, ↓reduceIte, Nat.reduceEqDiff, Option.isSome_some, reduceCtorEq, false_or, if_true, if_false, false_implies]); (try first | done | omega | ((repeat' refine And.intro ?_ ?_) <;> (intro _ hx; obtain ⟨_, -, rfl⟩ := List.mem_map.1 hx; exact .lit _))))) (by ((try simp only [cells_agg, cells_lit, List.mem_cons, List.not_mem_nil, or_false, forall_eq_or_imp, forall_eq, only_any, only_lit', only_iptr, only_no, only_full, only_at, only_ptr, only_osl, only_agg, only_tup, only_fn, only_bfn, and_self, implies_true, and_true, true_and, okL_nil, okL_cons, bonly_cells, bonly_tok, keepP_add, look_nil, look_cons, ↓reduceIte, Nat.reduceEqDiff, Option.isSome_some, reduceCtorEq, false_or, if_true, if_false, false_implies]); (try first | done | omega | ((repeat' refine And.intro ?_ ?_) <;> (intro _ hx; obtain ⟨_, -, rfl⟩ := List.mem_map.1 hx; exact .lit _)))))
    · have : i = ps.length := by omega
      subst this
      rw [List.take_length] at *
      refine FnPost_end hn0 (by simp) rfl (only_lit _ _) ?_
      simp only [go_sem]
      exact leA_int (by rw [wrap_i64]; omega)
theorem deep_c : ∀ (N : Nat) (r : Rx), r.nodes < N → r.nodes ≤ 1000000 → ∀ g : GH, PureC Tryd.prog 106 [rA r] g (I64 (deepR r))
  | 0, r, hN, hb, g => by omega
  | N + 1, r, hN, hb, g => deep_s r hb (fun p hp => deep_c N p (by have := Rx.nodes_lt hp; omega) (by have := Rx.nodes_lt hp; omega)) g
theorem many_c (k : Int) (g : GH) : PureC Tryd.prog 113 [I64 k] g (I64 (manyR k)) := by
  refine CallC.body (fun _ => none) (fun _ => 0) Tryd.func113 rfl Tryd.results113 Tryd.ntmps113 ?_
  intro n0 hn0
  simp only [go_sem]
  unfold manyR
  by_cases h3 : k = 3
  · simp only [go_sem, h3]
    refine FnPost_end hn0 (by simp) rfl (only_lit _ _) ?_
    simp only [go_sem]
    exact leA_refl _
  · by_cases h4 : k = 4
    · simp only [go_sem, h4]
      refine FnPost_end hn0 (by simp) rfl (only_lit _ _) ?_
      simp only [go_sem]
      exact leA_refl _
    · by_cases h5 : k = 5
      · simp only [go_sem, h5]
        refine FnPost_end hn0 (by simp) rfl (only_lit _ _) ?_
        simp only [go_sem]
        exact leA_refl _
      · by_cases h6 : k = 6
        · simp only [go_sem, h6]
          refine FnPost_end hn0 (by simp) rfl (only_lit _ _) ?_
          simp only [go_sem]
          exact leA_refl _
        · by_cases h7 : k = 7
          · simp only [go_sem, h7]
            refine FnPost_end hn0 (by simp) rfl (only_lit _ _) ?_
            simp only [go_sem]
            exact leA_refl _
          · simp only [go_sem, eq_false h3, eq_false h4, eq_false h5, eq_false h6, eq_false h7]
            refine FnPost_end hn0 (by simp) rfl (only_lit _ _) ?_
            simp only [go_sem]
            exact leA_int (by simp)
theorem formed_s (r : Rx) (hb : r.nodes ≤ 1000000) (hl : r.l.size ≤ 100000) (ih : ∀ p, p ∈ r.ps → ∀ g : GH, PureC Tryd.prog 107 [rA p] g (BB (formR nameB p))) (g : GH) : PureC Tryd.prog 107 [rA r] g (BB (formR nameB r)) := by
  have hlen := r.len_lt
  have hsz := formR_eq nameB r
  rw [rA_eq r, hsz]
  generalize r.k = k at *
  generalize r.l = l at *
  generalize r.b = b at *
  generalize r.ps = ps at *
  refine CallC.body (fun _ => none) (fun _ => 0) Tryd.func107 rfl Tryd.results107 Tryd.ntmps107 ?_
  intro n0 hn0
  simp only [go_sem]
  have cf : ∀ {x y : Bool}, countB k ps.length = false → false = (countB k ps.length && x && y) := fun h => by rw [h]; rfl
  by_cases c1 : k < 1
  · refine WE_pure _ _ _ _ _ _ _ _ (many_c k _) ?_
    simp only [go_sem, eq_true c1]
    refine FnPost_end hn0 (by simp) rfl (only_lit _ _) ?_
    simp only [go_sem]
    exact leA_bool (cf (by unfold countB; simp; omega))
  · by_cases c2 : 7 < k
    · refine WE_pure _ _ _ _ _ _ _ _ (many_c k _) ?_
      simp only [go_sem, eq_false c1, eq_true c2]
      refine FnPost_end hn0 (by simp) rfl (only_lit _ _) ?_
      simp only [go_sem]
      exact leA_bool (cf (by unfold countB; simp; omega))
    · by_cases c3 : manyR k < 0
      · have c5 : ¬ 0 ≤ manyR k := by omega
        by_cases c4 : (ps.length : Int) < 2
        · refine WE_pure _ _ _ _ _ _ _ _ (many_c k _) ?_
          simp only [go_sem, eq_false c1, eq_false c2, eq_true c3, eq_true c4, List.length_map]
          refine FnPost_end hn0 (by simp) rfl (only_lit _ _) ?_
          simp only [go_sem]
          exact leA_bool (cf (by unfold countB; simp; omega))
        · refine WE_pure _ _ _ _ _ _ _ _ (many_c k _) ?_
          simp only [go_sem, eq_false c1, eq_false c2, eq_true c3, eq_false c4, eq_false c5, List.length_map]
          have hcb : countB k ps.length = true := by unfold countB; simp; omega
          have hk2 : ¬ k = 2 := by intro e; subst e; revert c3; decide
          rw [hcb]
          simp only [go_sem, eq_false hk2, str_eq]
          cases hs : (decide (l.size = 0) && (b == false))
          · simp only [go_sem, hs]
            refine FnPost_end hn0 (by simp) rfl (only_lit _ _) ?_
            simp only [go_sem]
            exact leA_bool (by unfold symB; rw [if_neg hk2, hs]; rfl)
          · simp only [go_sem, hs]
            have hsy : symB nameB k l b = true := by unfold symB; rw [if_neg hk2, hs]
            rw [hsy]
            simp only [Bool.true_and]
            refine WC_loop (fun i : Nat => [.any, .ptr (n0 + 1) 0 0, .any, I64 (manyR k), .any, .any, .any, .any, .any, .any, .any, .any, .any, .any, .any, .any, .any, .any, .any, .any, .any, .any, .any, .any, .any, .any, .any, .any, .any, .any, .any, .any, .any, .any, .any, .any, .any, .any, .any, .any, .any, .any, .any, .any, .any, .any, .any, .any, .any, .any, .any, .any, .any, .any, .any, .any, .any, .any, .any, .any, .any, .isl none (ps.map rA) .no, I64 ps.length, I64 i, .any, .any, .any, .any, .any, .any, .any, .any, .any, .any, .any, .any, .any, .any, .any, .any, .any, .any]) (fun i => ⟨g, [(1, .cells 0 [I64 k, SS l, BB b, .isl none (ps.map rA) .no])]⟩) (fun i => i ≤ ps.length ∧ formL nameB k (ps.take i) = true) (fun i => ps.length - i) 0 ⟨by simp, by rw [List.take_zero, formL]⟩ ?_ ?_
            · refine imp_loc (by ((try simp only [cells_agg, cells_lit, leL_cons, leL_nil, leA_any, leA_lits, leA_isl, leA_self, and_self, true_and, and_true, or_true, true_or, Value.int.injEq, Value.bool.injEq, Value.string.injEq, AV.lit.injEq, Option.some.injEq, Blk.cells.injEq, Blk.tok.injEq, List.cons.injEq, Tk.at.injEq, subL_nil, subL_cons, look_nil, look_cons, ↓reduceIte, Nat.reduceEqDiff, Option.isSome_some, reduceCtorEq, or_false, false_or, if_true, if_false, List.length_map]); (try first | done | omega | (simp; done) | (simp; omega)))) (by ((try simp only [cells_agg, cells_lit, leL_cons, leL_nil, leA_any, leA_lits, leA_isl, leA_self, and_self, true_and, and_true, or_true, true_or, Value.int.injEq, Value.bool.injEq, Value.string.injEq, AV.lit.injEq, Option.some.injEq, Blk.cells.injEq, Blk.tok.injEq, List.cons.injEq, Tk.at.injEq, subL_nil, subL_cons, look_nil, look_cons, ↓reduceIte, Nat.reduceEqDiff, Option.isSome_some, reduceCtorEq, or_false, false_or, if_true, if_false, List.length_map]); (try first | done | omega | (simp; done) | (simp; omega)))) (by ((try simp only [cells_agg, cells_lit, List.mem_cons, List.not_mem_nil, or_false, forall_eq_or_imp, forall_eq, only_any, only_lit', only_iptr, only_no, only_full, only_at, only_ptr, only_osl, only_agg, only_tup, only_fn, only_bfn, and_self, implies_true, and_true, true_and, okL_nil, okL_cons, bonly_cells, bonly_tok, keepP_add, look_nil, look_cons, ↓reduceIte, Nat.reduceEqDiff, Option.isSome_some, reduceCtorEq, false_or, if_true, if_false, false_implies, List.length_map]); (try first | done | omega | ((repeat' refine And.intro ?_ ?_) <;> (intro _ hx; obtain ⟨_, -, rfl⟩ := List.mem_map.1 hx; exact .lit _))))) (by ((try simp only [cells_agg, cells_lit, List.mem_cons, List.not_mem_nil, or_false, forall_eq_or_imp, forall_eq, only_any, only_lit', only_iptr, only_no, only_full, only_at, only_ptr, only_osl, only_agg, only_tup, only_fn, only_bfn, and_self, implies_true, and_true, true_and, okL_nil, okL_cons, bonly_cells, bonly_tok, keepP_add, look_nil, look_cons, ↓reduceIte, Nat.reduceEqDiff, Option.isSome_some, reduceCtorEq, false_or, if_true, if_false, false_implies, List.length_map]); (try first | done | omega | ((repeat' refine And.intro ?_ ?_) <;> (intro _ hx; obtain ⟨_, -, rfl⟩ := List.mem_map.1 hx; exact .lit _)))))
            · rintro i ⟨hi, hi2⟩
              simp only [go_sem, List.length_map]
              split
              · rename_i hlt
                have hlt : i < ps.length := by omega
                have e1 : IntKind.i64.wrap ((i : Int) + 1) = ((i + 1 : Nat) : Int) := by rw [wrap_i64]; omega
                have hp := rx_getD_mem hlt
                have ih' := ih _ hp
                have hst := formL_take nameB k hlt
                have hbd := formL_bad nameB k hlt
                simp only [go_sem, rA_getD ps i hlt, rA_cells]
                generalize ps.getD i rx0 = p at *
                (repeat (refine ⟨by omega, ?_⟩))
                rw [← rA_eq]
                cases hf : formR nameB p
                · refine WE_pure _ _ _ _ _ _ _ _ (ih' _) ?_
                  simp only [go_sem, hf]
                  refine FnPost_end hn0 (by simp) rfl (only_lit _ _) ?_
                  simp only [go_sem]
                  exact leA_bool (hbd (by rw [hf]; rfl)).symm
                · by_cases hpk : p.k = k
                  · refine WE_pure _ _ _ _ _ _ _ _ (ih' _) ?_
                    simp only [go_sem, hf, eq_true c3, eq_true hpk]
                    refine FnPost_end hn0 (by simp) rfl (only_lit _ _) ?_
                    simp only [go_sem]
                    exact leA_bool (hbd (by rw [hf, decide_eq_true ⟨c3, hpk⟩]; rfl)).symm
                  · refine WE_pure _ _ _ _ _ _ _ _ (ih' _) ?_
                    simp only [go_sem, hf, eq_true c3, eq_false hpk]
                    refine LP_next (i + 1) ⟨by omega, by rw [hst, hi2, hf, decide_eq_false (fun h => hpk h.2)]; rfl⟩ (by omega) ?_
                    rw [e1]
                    refine imp_loc (by ((try simp only [cells_agg, cells_lit, leL_cons, leL_nil, leA_any, leA_lits, leA_isl, leA_self, and_self, true_and, and_true, or_true, true_or, Value.int.injEq, Value.bool.injEq, Value.string.injEq, AV.lit.injEq, Option.some.injEq, Blk.cells.injEq, Blk.tok.injEq, List.cons.injEq, Tk.at.injEq, subL_nil, subL_cons, look_nil, look_cons, ↓reduceIte, Nat.reduceEqDiff, Option.isSome_some, reduceCtorEq, or_false, false_or, if_true, if_false]); (try first | done | omega | (simp; done) | (simp; omega)))) (by ((try simp only [cells_agg, cells_lit, leL_cons, leL_nil, leA_any, leA_lits, leA_isl, leA_self, and_self, true_and, and_true, or_true, true_or, Value.int.injEq, Value.bool.injEq, Value.string.injEq, AV.lit.injEq, Option.some.injEq, Blk.cells.injEq, Blk.tok.injEq, List.cons.injEq, Tk.at.injEq, subL_nil, subL_cons, look_nil, look_cons, ↓reduceIte, Nat.reduceEqDiff, Option.isSome_some, reduceCtorEq, or_false, false_or, if_true, if_false]); (try first | done | omega | (simp; done) | (simp; omega)))) (by ((try simp only [cells_agg, cells_lit, List.mem_cons, List.not_mem_nil, or_false, forall_eq_or_imp, forall_eq, only_any, only_lit', only_iptr, only_no, only_full, only_at, only_ptr, only_osl, only_agg, only_tup, only_fn, only_bfn, and_self, implies_true, and_true, true_and, okL_nil, okL_cons, bonly_cells, bonly_tok, keepP_add, look_nil, look_cons, ↓reduceIte, Nat.reduceEqDiff, Option.isSome_some, reduceCtorEq, false_or, if_true, if_false, false_implies]); (try first | done | omega | ((repeat' refine And.intro ?_ ?_) <;> (intro _ hx; obtain ⟨_, -, rfl⟩ := List.mem_map.1 hx; exact .lit _))))) (by ((try simp only [cells_agg, cells_lit, List.mem_cons, List.not_mem_nil, or_false, forall_eq_or_imp, forall_eq, only_any, only_lit', only_iptr, only_no, only_full, only_at, only_ptr, only_osl, only_agg, only_tup, only_fn, only_bfn, and_self, implies_true, and_true, true_and, okL_nil, okL_cons, bonly_cells, bonly_tok, keepP_add, look_nil, look_cons, ↓reduceIte, Nat.reduceEqDiff, Option.isSome_some, reduceCtorEq, false_or, if_true, if_false, false_implies]); (try first | done | omega | ((repeat' refine And.intro ?_ ?_) <;> (intro _ hx; obtain ⟨_, -, rfl⟩ := List.mem_map.1 hx; exact .lit _)))))
              · have : i = ps.length := by omega
                subst this
                rw [List.take_length] at hi2
                refine FnPost_end hn0 (by simp) rfl (only_lit _ _) ?_
                simp only [go_sem]
                exact leA_bool hi2.symm
      · have c5 : 0 ≤ manyR k := by omega
        by_cases c6 : (ps.length : Int) = manyR k
        · refine WE_pure _ _ _ _ _ _ _ _ (many_c k _) ?_
          simp only [go_sem, eq_false c1, eq_false c2, eq_false c3, eq_true c5, eq_true c6, List.length_map]
          have hcb : countB k ps.length = true := by unfold countB; simp; omega
          rw [hcb]
          by_cases hk2 : k = 2
          · simp only [go_sem, eq_true hk2]
            cases hs : nameB l
            · refine WE_pure _ _ _ _ _ _ _ _ (name_c l (by omega) _) ?_
              simp only [go_sem, hs, eq_true hk2]
              refine FnPost_end hn0 (by simp) rfl (only_lit _ _) ?_
              simp only [go_sem]
              exact leA_bool (by unfold symB; rw [if_pos hk2, hs]; rfl)
            · refine WE_pure _ _ _ _ _ _ _ _ (name_c l (by omega) _) ?_
              simp only [go_sem, hs, eq_true hk2]
              have hsy : symB nameB k l b = true := by unfold symB; rw [if_pos hk2, hs]
              rw [hsy]
              simp only [Bool.true_and]
              refine WC_loop (fun i : Nat => [.any, .ptr (n0 + 1) 0 0, .any, I64 (manyR k), .any, .any, .any, .any, .any, .any, .any, .any, .any, .any, .any, .any, .any, .any, .any, .any, .any, .any, .any, .any, .any, .any, .any, .any, .any, .any, .any, .any, .any, .any, .any, .any, .any, .any, .any, .any, .any, .any, .any, .any, .any, .any, .any, .any, .any, .any, .any, .any, .any, .any, .any, .any, .any, .any, .any, .any, .any, .isl none (ps.map rA) .no, I64 ps.length, I64 i, .any, .any, .any, .any, .any, .any, .any, .any, .any, .any, .any, .any, .any, .any, .any, .any, .any, .any]) (fun i => ⟨g, [(1, .cells 0 [I64 k, SS l, BB b, .isl none (ps.map rA) .no])]⟩) (fun i => i ≤ ps.length ∧ formL nameB k (ps.take i) = true) (fun i => ps.length - i) 0 ⟨by simp, by rw [List.take_zero, formL]⟩ ?_ ?_
              · refine imp_loc (by ((try simp only [cells_agg, cells_lit, leL_cons, leL_nil, leA_any, leA_lits, leA_isl, leA_self, and_self, true_and, and_true, or_true, true_or, Value.int.injEq, Value.bool.injEq, Value.string.injEq, AV.lit.injEq, Option.some.injEq, Blk.cells.injEq, Blk.tok.injEq, List.cons.injEq, Tk.at.injEq, subL_nil, subL_cons, look_nil, look_cons, ↓reduceIte, Nat.reduceEqDiff, Option.isSome_some, reduceCtorEq, or_false, false_or, if_true, if_false, List.length_map]); (try first | done | omega | (simp; done) | (simp; omega)))) (by ((try simp only [cells_agg, cells_lit, leL_cons, leL_nil, leA_any, leA_lits, leA_isl, leA_self, and_self, true_and, and_true, or_true, true_or, Value.int.injEq, Value.bool.injEq, Value.string.injEq, AV.lit.injEq, Option.some.injEq, Blk.cells.injEq, Blk.tok.injEq, List.cons.injEq, Tk.at.injEq, subL_nil, subL_cons, look_nil, look_cons, ↓reduceIte, Nat.reduceEqDiff, Option.isSome_some, reduceCtorEq, or_false, false_or, if_true, if_false, List.length_map]); (try first | done | omega | (simp; done) | (simp; omega)))) (by ((try simp only [cells_agg, cells_lit, List.mem_cons, List.not_mem_nil, or_false, forall_eq_or_imp, forall_eq, only_any, only_lit', only_iptr, only_no, only_full, only_at, only_ptr, only_osl, only_agg, only_tup, only_fn, only_bfn, and_self, implies_true, and_true, true_and, okL_nil, okL_cons, bonly_cells, bonly_tok, keepP_add, look_nil, look_cons, ↓reduceIte, Nat.reduceEqDiff, Option.isSome_some, reduceCtorEq, false_or, if_true, if_false, false_implies, List.length_map]); (try first | done | omega | ((repeat' refine And.intro ?_ ?_) <;> (intro _ hx; obtain ⟨_, -, rfl⟩ := List.mem_map.1 hx; exact .lit _))))) (by ((try simp only [cells_agg, cells_lit, List.mem_cons, List.not_mem_nil, or_false, forall_eq_or_imp, forall_eq, only_any, only_lit', only_iptr, only_no, only_full, only_at, only_ptr, only_osl, only_agg, only_tup, only_fn, only_bfn, and_self, implies_true, and_true, true_and, okL_nil, okL_cons, bonly_cells, bonly_tok, keepP_add, look_nil, look_cons, ↓reduceIte, Nat.reduceEqDiff, Option.isSome_some, reduceCtorEq, false_or, if_true, if_false, false_implies, List.length_map]); (try first | done | omega | ((repeat' refine And.intro ?_ ?_) <;> (intro _ hx; obtain ⟨_, -, rfl⟩ := List.mem_map.1 hx; exact .lit _)))))
              · rintro i ⟨hi, hi2⟩
                simp only [go_sem, List.length_map]
                split
                · rename_i hlt
                  have hlt : i < ps.length := by omega
                  have e1 : IntKind.i64.wrap ((i : Int) + 1) = ((i + 1 : Nat) : Int) := by rw [wrap_i64]; omega
                  have hp := rx_getD_mem hlt
                  have ih' := ih _ hp
                  have hst := formL_take nameB k hlt
                  have hbd := formL_bad nameB k hlt
                  simp only [go_sem, rA_getD ps i hlt, rA_cells]
                  generalize ps.getD i rx0 = p at *
                  (repeat (refine ⟨by omega, ?_⟩))
                  rw [← rA_eq]
                  cases hf : formR nameB p
                  · refine WE_pure _ _ _ _ _ _ _ _ (ih' _) ?_
                    simp only [go_sem, hf]
                    refine FnPost_end hn0 (by simp) rfl (only_lit _ _) ?_
                    simp only [go_sem]
                    exact leA_bool (hbd (by rw [hf]; rfl)).symm
                  · refine WE_pure _ _ _ _ _ _ _ _ (ih' _) ?_
                    simp only [go_sem, hf, eq_false c3]
                    refine LP_next (i + 1) ⟨by omega, by rw [hst, hi2, hf, decide_eq_false (fun h => c3 h.1)]; rfl⟩ (by omega) ?_
                    rw [e1]
                    refine imp_loc (by ((try simp only [cells_agg, cells_lit, leL_cons, leL_nil, leA_any, leA_lits, leA_isl, leA_self, and_self, true_and, and_true, or_true, true_or, Value.int.injEq, Value.bool.injEq, Value.string.injEq, AV.lit.injEq, Option.some.injEq, Blk.cells.injEq, Blk.tok.injEq, List.cons.injEq, Tk.at.injEq, subL_nil, subL_cons, look_nil, look_cons, ↓reduceIte, Nat.reduceEqDiff, Option.isSome_some, reduceCtorEq, or_false, false_or, if_true, if_false]); (try first | done | omega | (simp; done) | (simp; omega)))) (by ((try simp only [cells_agg, cells_lit, leL_cons, leL_nil, leA_any, leA_lits, leA_isl, leA_self, and_self, true_and, and_true, or_true, true_or, Value.int.injEq, Value.bool.injEq, Value.string.injEq, AV.lit.injEq, Option.some.injEq, Blk.cells.injEq, Blk.tok.injEq, List.cons.injEq, Tk.at.injEq, subL_nil, subL_cons, look_nil, look_cons, ↓reduceIte, Nat.reduceEqDiff, Option.isSome_some, reduceCtorEq, or_false, false_or, if_true, if_false]); (try first | done | omega | (simp; done) | (simp; omega)))) (by ((try simp only [cells_agg, cells_lit, List.mem_cons, List.not_mem_nil, or_false, forall_eq_or_imp, forall_eq, only_any, only_lit', only_iptr, only_no, only_full, only_at, only_ptr, only_osl, only_agg, only_tup, only_fn, only_bfn, and_self, implies_true, and_true, true_and, okL_nil, okL_cons, bonly_cells, bonly_tok, keepP_add, look_nil, look_cons, ↓reduceIte, Nat.reduceEqDiff, Option.isSome_some, reduceCtorEq, false_or, if_true, if_false, false_implies]); (try first | done | omega | ((repeat' refine And.intro ?_ ?_) <;> (intro _ hx; obtain ⟨_, -, rfl⟩ := List.mem_map.1 hx; exact .lit _))))) (by ((try simp only [cells_agg, cells_lit, List.mem_cons, List.not_mem_nil, or_false, forall_eq_or_imp, forall_eq, only_any, only_lit', only_iptr, only_no, only_full, only_at, only_ptr, only_osl, only_agg, only_tup, only_fn, only_bfn, and_self, implies_true, and_true, true_and, okL_nil, okL_cons, bonly_cells, bonly_tok, keepP_add, look_nil, look_cons, ↓reduceIte, Nat.reduceEqDiff, Option.isSome_some, reduceCtorEq, false_or, if_true, if_false, false_implies]); (try first | done | omega | ((repeat' refine And.intro ?_ ?_) <;> (intro _ hx; obtain ⟨_, -, rfl⟩ := List.mem_map.1 hx; exact .lit _)))))
                · have : i = ps.length := by omega
                  subst this
                  rw [List.take_length] at hi2
                  refine FnPost_end hn0 (by simp) rfl (only_lit _ _) ?_
                  simp only [go_sem]
                  exact leA_bool hi2.symm
          · simp only [go_sem, eq_false hk2, str_eq]
            cases hs : (decide (l.size = 0) && (b == false))
            · simp only [go_sem, hs]
              refine FnPost_end hn0 (by simp) rfl (only_lit _ _) ?_
              simp only [go_sem]
              exact leA_bool (by unfold symB; rw [if_neg hk2, hs]; rfl)
            · simp only [go_sem, hs]
              have hsy : symB nameB k l b = true := by unfold symB; rw [if_neg hk2, hs]
              rw [hsy]
              simp only [Bool.true_and]
              refine WC_loop (fun i : Nat => [.any, .ptr (n0 + 1) 0 0, .any, I64 (manyR k), .any, .any, .any, .any, .any, .any, .any, .any, .any, .any, .any, .any, .any, .any, .any, .any, .any, .any, .any, .any, .any, .any, .any, .any, .any, .any, .any, .any, .any, .any, .any, .any, .any, .any, .any, .any, .any, .any, .any, .any, .any, .any, .any, .any, .any, .any, .any, .any, .any, .any, .any, .any, .any, .any, .any, .any, .any, .isl none (ps.map rA) .no, I64 ps.length, I64 i, .any, .any, .any, .any, .any, .any, .any, .any, .any, .any, .any, .any, .any, .any, .any, .any, .any, .any]) (fun i => ⟨g, [(1, .cells 0 [I64 k, SS l, BB b, .isl none (ps.map rA) .no])]⟩) (fun i => i ≤ ps.length ∧ formL nameB k (ps.take i) = true) (fun i => ps.length - i) 0 ⟨by simp, by rw [List.take_zero, formL]⟩ ?_ ?_
              · refine imp_loc (by ((try simp only [cells_agg, cells_lit, leL_cons, leL_nil, leA_any, leA_lits, leA_isl, leA_self, and_self, true_and, and_true, or_true, true_or, Value.int.injEq, Value.bool.injEq, Value.string.injEq, AV.lit.injEq, Option.some.injEq, Blk.cells.injEq, Blk.tok.injEq, List.cons.injEq, Tk.at.injEq, subL_nil, subL_cons, look_nil, look_cons, ↓reduceIte, Nat.reduceEqDiff, Option.isSome_some, reduceCtorEq, or_false, false_or, if_true, if_false, List.length_map]); (try first | done | omega | (simp; done) | (simp; omega)))) (by ((try simp only [cells_agg, cells_lit, leL_cons, leL_nil, leA_any, leA_lits, leA_isl, leA_self, and_self, true_and, and_true, or_true, true_or, Value.int.injEq, Value.bool.injEq, Value.string.injEq, AV.lit.injEq, Option.some.injEq, Blk.cells.injEq, Blk.tok.injEq, List.cons.injEq, Tk.at.injEq, subL_nil, subL_cons, look_nil, look_cons, ↓reduceIte, Nat.reduceEqDiff, Option.isSome_some, reduceCtorEq, or_false, false_or, if_true, if_false, List.length_map]); (try first | done | omega | (simp; done) | (simp; omega)))) (by ((try simp only [cells_agg, cells_lit, List.mem_cons, List.not_mem_nil, or_false, forall_eq_or_imp, forall_eq, only_any, only_lit', only_iptr, only_no, only_full, only_at, only_ptr, only_osl, only_agg, only_tup, only_fn, only_bfn, and_self, implies_true, and_true, true_and, okL_nil, okL_cons, bonly_cells, bonly_tok, keepP_add, look_nil, look_cons, ↓reduceIte, Nat.reduceEqDiff, Option.isSome_some, reduceCtorEq, false_or, if_true, if_false, false_implies, List.length_map]); (try first | done | omega | ((repeat' refine And.intro ?_ ?_) <;> (intro _ hx; obtain ⟨_, -, rfl⟩ := List.mem_map.1 hx; exact .lit _))))) (by ((try simp only [cells_agg, cells_lit, List.mem_cons, List.not_mem_nil, or_false, forall_eq_or_imp, forall_eq, only_any, only_lit', only_iptr, only_no, only_full, only_at, only_ptr, only_osl, only_agg, only_tup, only_fn, only_bfn, and_self, implies_true, and_true, true_and, okL_nil, okL_cons, bonly_cells, bonly_tok, keepP_add, look_nil, look_cons, ↓reduceIte, Nat.reduceEqDiff, Option.isSome_some, reduceCtorEq, false_or, if_true, if_false, false_implies, List.length_map]); (try first | done | omega | ((repeat' refine And.intro ?_ ?_) <;> (intro _ hx; obtain ⟨_, -, rfl⟩ := List.mem_map.1 hx; exact .lit _)))))
              · rintro i ⟨hi, hi2⟩
                simp only [go_sem, List.length_map]
                split
                · rename_i hlt
                  have hlt : i < ps.length := by omega
                  have e1 : IntKind.i64.wrap ((i : Int) + 1) = ((i + 1 : Nat) : Int) := by rw [wrap_i64]; omega
                  have hp := rx_getD_mem hlt
                  have ih' := ih _ hp
                  have hst := formL_take nameB k hlt
                  have hbd := formL_bad nameB k hlt
                  simp only [go_sem, rA_getD ps i hlt, rA_cells]
                  generalize ps.getD i rx0 = p at *
                  (repeat (refine ⟨by omega, ?_⟩))
                  rw [← rA_eq]
                  cases hf : formR nameB p
                  · refine WE_pure _ _ _ _ _ _ _ _ (ih' _) ?_
                    simp only [go_sem, hf]
                    refine FnPost_end hn0 (by simp) rfl (only_lit _ _) ?_
                    simp only [go_sem]
                    exact leA_bool (hbd (by rw [hf]; rfl)).symm
                  · refine WE_pure _ _ _ _ _ _ _ _ (ih' _) ?_
                    simp only [go_sem, hf, eq_false c3]
                    refine LP_next (i + 1) ⟨by omega, by rw [hst, hi2, hf, decide_eq_false (fun h => c3 h.1)]; rfl⟩ (by omega) ?_
                    rw [e1]
                    refine imp_loc (by ((try simp only [cells_agg, cells_lit, leL_cons, leL_nil, leA_any, leA_lits, leA_isl, leA_self, and_self, true_and, and_true, or_true, true_or, Value.int.injEq, Value.bool.injEq, Value.string.injEq, AV.lit.injEq, Option.some.injEq, Blk.cells.injEq, Blk.tok.injEq, List.cons.injEq, Tk.at.injEq, subL_nil, subL_cons, look_nil, look_cons, ↓reduceIte, Nat.reduceEqDiff, Option.isSome_some, reduceCtorEq, or_false, false_or, if_true, if_false]); (try first | done | omega | (simp; done) | (simp; omega)))) (by ((try simp only [cells_agg, cells_lit, leL_cons, leL_nil, leA_any, leA_lits, leA_isl, leA_self, and_self, true_and, and_true, or_true, true_or, Value.int.injEq, Value.bool.injEq, Value.string.injEq, AV.lit.injEq, Option.some.injEq, Blk.cells.injEq, Blk.tok.injEq, List.cons.injEq, Tk.at.injEq, subL_nil, subL_cons, look_nil, look_cons, ↓reduceIte, Nat.reduceEqDiff, Option.isSome_some, reduceCtorEq, or_false, false_or, if_true, if_false]); (try first | done | omega | (simp; done) | (simp; omega)))) (by ((try simp only [cells_agg, cells_lit, List.mem_cons, List.not_mem_nil, or_false, forall_eq_or_imp, forall_eq, only_any, only_lit', only_iptr, only_no, only_full, only_at, only_ptr, only_osl, only_agg, only_tup, only_fn, only_bfn, and_self, implies_true, and_true, true_and, okL_nil, okL_cons, bonly_cells, bonly_tok, keepP_add, look_nil, look_cons, ↓reduceIte, Nat.reduceEqDiff, Option.isSome_some, reduceCtorEq, false_or, if_true, if_false, false_implies]); (try first | done | omega | ((repeat' refine And.intro ?_ ?_) <;> (intro _ hx; obtain ⟨_, -, rfl⟩ := List.mem_map.1 hx; exact .lit _))))) (by ((try simp only [cells_agg, cells_lit, List.mem_cons, List.not_mem_nil, or_false, forall_eq_or_imp, forall_eq, only_any, only_lit', only_iptr, only_no, only_full, only_at, only_ptr, only_osl, only_agg, only_tup, only_fn, only_bfn, and_self, implies_true, and_true, true_and, okL_nil, okL_cons, bonly_cells, bonly_tok, keepP_add, look_nil, look_cons, ↓reduceIte, Nat.reduceEqDiff, Option.isSome_some, reduceCtorEq, false_or, if_true, if_false, false_implies]); (try first | done | omega | ((repeat' refine And.intro ?_ ?_) <;> (intro _ hx; obtain ⟨_, -, rfl⟩ := List.mem_map.1 hx; exact .lit _)))))
                · have : i = ps.length := by omega
                  subst this
                  rw [List.take_length] at hi2
                  refine FnPost_end hn0 (by simp) rfl (only_lit _ _) ?_
                  simp only [go_sem]
                  exact leA_bool hi2.symm
        · refine WE_pure _ _ _ _ _ _ _ _ (many_c k _) ?_
          simp only [go_sem, eq_false c1, eq_false c2, eq_false c3, eq_true c5, eq_false c6, List.length_map]
          refine FnPost_end hn0 (by simp) rfl (only_lit _ _) ?_
          simp only [go_sem]
          exact leA_bool (cf (by unfold countB; simp; omega))
theorem formed_c : ∀ (N : Nat) (r : Rx), r.nodes < N → r.nodes ≤ 1000000 → smallR r → ∀ g : GH, PureC Tryd.prog 107 [rA r] g (BB (formR nameB r))
  | 0, r, hN, hb, hs, g => by omega
  | N + 1, r, hN, hb, hs, g => formed_s r hb ((smallR_eq r).1 hs).1 (fun p hp => formed_c N p (by have := Rx.nodes_lt hp; omega) (by have := Rx.nodes_lt hp; omega) (smallL_mem ((smallR_eq r).1 hs).2 hp)) g
theorem good_c (r : Rx) (hb : r.nodes ≤ 1000000) (hs : smallR r) (g : GH) : PureC Tryd.prog 74 [rA r] g (BB (goodR nameB r)) := by
  have h1 := fun g => deep_c _ r (Nat.lt_succ_self _) hb g
  have h2 := fun g => formed_c _ r (Nat.lt_succ_self _) hb hs g
  have h3 := fun g => size_c _ r (Nat.lt_succ_self _) hb g
  unfold goodR
  rw [rA_eq r] at *
  refine CallC.body (fun _ => none) (fun _ => 0) Tryd.func74 rfl Tryd.results74 Tryd.ntmps74 ?_
  intro n0 hn0
  simp only [go_sem]
  by_cases c1 : (deepR r : Int) ≤ 32
  · have c1' : decide (deepR r ≤ 32) = true := decide_eq_true (by omega)
    rw [c1', Bool.true_and]
    cases hf : formR nameB r
    · refine WE_pure _ _ _ _ _ _ _ _ (h1 _) ?_
      simp only [go_sem, eq_true c1]
      refine WE_pure _ _ _ _ _ _ _ _ (h2 _) ?_
      simp only [go_sem, hf]
      refine FnPost_end hn0 (by simp) rfl (only_lit _ _) ?_
      simp only [go_sem]
      exact leA_refl _
    · rw [Bool.true_and]
      have e : decide ((sizeR r : Int) ≤ 200) = decide (sizeR r ≤ 200) := by
        by_cases h : sizeR r ≤ 200
        · rw [decide_eq_true h, decide_eq_true (by omega)]
        · rw [decide_eq_false h, decide_eq_false (by omega)]
      refine WE_pure _ _ _ _ _ _ _ _ (h1 _) ?_
      simp only [go_sem, eq_true c1]
      refine WE_pure _ _ _ _ _ _ _ _ (h2 _) ?_
      simp only [go_sem, hf]
      refine WE_pure _ _ _ _ _ _ _ _ (h3 _) ?_
      simp only [go_sem]
      refine FnPost_end hn0 (by simp) rfl (only_lit _ _) ?_
      simp only [go_sem]
      exact leA_bool e
  · have c1' : decide (deepR r ≤ 32) = false := decide_eq_false (by omega)
    rw [c1', Bool.false_and]
    refine WE_pure _ _ _ _ _ _ _ _ (h1 _) ?_
    simp only [go_sem, eq_false c1]
    refine FnPost_end hn0 (by simp) rfl (only_lit _ _) ?_
    simp only [go_sem]
    exact leA_refl _
theorem Good_c (r : Rx) (hb : r.nodes ≤ 1000000) (hs : smallR r) (g : GH) : PureC Tryd.prog 39 [rA r] g (BB (goodR nameB r)) := by
  have h1 := good_c r hb hs
  rw [rA_eq r] at *
  refine CallC.body (fun _ => none) (fun _ => 0) Tryd.func39 rfl Tryd.results39 Tryd.ntmps39 ?_
  intro n0 hn0
  simp only [go_sem]
  refine WE_pure _ _ _ _ _ _ _ _ (h1 _) ?_
  simp only [go_sem]
  refine FnPost_end hn0 (by simp) rfl (only_lit _ _) ?_
  simp only [go_sem]
  exact leA_refl _
theorem Size_c (r : Rx) (hb : r.nodes ≤ 1000000) (g : GH) : PureC Tryd.prog 47 [rA r] g (I64 (sizeR r)) := by
  have h1 := fun g => size_c _ r (Nat.lt_succ_self _) hb g
  rw [rA_eq r] at *
  refine CallC.body (fun _ => none) (fun _ => 0) Tryd.func47 rfl Tryd.results47 Tryd.ntmps47 ?_
  intro n0 hn0
  simp only [go_sem]
  refine WE_pure _ _ _ _ _ _ _ _ (h1 _) ?_
  simp only [go_sem]
  refine FnPost_end hn0 (by simp) rfl (only_lit _ _) ?_
  simp only [go_sem]
  exact leA_refl _
end Go.Proofs.YtcnhpclfflcdfaaDoorR.Reg
