import Derived.Test.YtmnjmeebadpgjaaBitsZig
namespace Go.Proofs.Ytmnjmeebadpgjaa.Bits
open Go Go.Av
set_option linter.unusedSimpArgs false
set_option linter.unusedVariables false
theorem power_c (k : Int) (h0 : 0 ≤ k) (h1 : k < 64) (g : GH) : PureC Try.prog 85 [I64 k] g (U64 (2 ^ k.toNat)) := by
  refine CallC.body (fun _ => none) (fun _ => 0) Try.func85 rfl Try.results85 Try.ntmps85 ?_
  intro n0 hn0
  simp only [go_sem]
  refine WC_loop (fun i : Nat => [I64 k, .any, U64 0, U64 (2 ^ i), I64 i, .any, .any, .any, .any, .any, .any, .any, .any]) (fun _ => ⟨g, []⟩) (fun i => i ≤ k.toNat) (fun i => k.toNat - i) 0 (Nat.zero_le _) ?_ ?_
  · refine imp_loc (by ((try simp only [cells_agg, cells_lit, leL_cons, leL_nil, leA_any, leA_lits, leA_isl, leA_self, and_self, true_and, and_true, or_true, true_or, Value.int.injEq, Value.bool.injEq, Value.string.injEq, AV.lit.injEq, Option.some.injEq, Blk.cells.injEq, Blk.tok.injEq, List.cons.injEq, Tk.at.injEq, subL_nil, subL_cons, look_nil, look_cons, ↓reduceIte, Nat.reduceEqDiff, Option.isSome_some, reduceCtorEq, or_false, false_or, if_true, if_false]); (try first | done | omega | (simp; done) | (simp; omega)))) (by ((try simp only [cells_agg, cells_lit, leL_cons, leL_nil, leA_any, leA_lits, leA_isl, leA_self, and_self, true_and, and_true, or_true, true_or, Value.int.injEq, Value.bool.injEq, Value.string.injEq, AV.lit.injEq, Option.some.injEq, Blk.cells.injEq, Blk.tok.injEq, List.cons.injEq, Tk.at.injEq, subL_nil, subL_cons, look_nil, look_cons, ↓reduceIte, Nat.reduceEqDiff, Option.isSome_some, reduceCtorEq, or_false, false_or, if_true, if_false]); (try first | done | omega | (simp; done) | (simp; omega)))) (by ((try simp only [cells_agg, cells_lit, List.mem_cons, List.not_mem_nil, or_false, forall_eq_or_imp, forall_eq, only_any, only_lit', only_iptr, only_no, only_full, only_at, only_ptr, only_osl, only_agg, only_tup, only_fn, and_self, implies_true, and_true, true_and, okL_nil, okL_cons, bonly_cells, bonly_tok, keepP_add, look_nil, look_cons, ↓reduceIte, Nat.reduceEqDiff, Option.isSome_some, reduceCtorEq, false_or, if_true, if_false, false_implies]); (try first | done | omega | (intro _ hx; obtain ⟨_, -, rfl⟩ := List.mem_map.1 hx; exact .lit _)))) (by ((try simp only [cells_agg, cells_lit, List.mem_cons, List.not_mem_nil, or_false, forall_eq_or_imp, forall_eq, only_any, only_lit', only_iptr, only_no, only_full, only_at, only_ptr, only_osl, only_agg, only_tup, only_fn, and_self, implies_true, and_true, true_and, okL_nil, okL_cons, bonly_cells, bonly_tok, keepP_add, look_nil, look_cons, ↓reduceIte, Nat.reduceEqDiff, Option.isSome_some, reduceCtorEq, false_or, if_true, if_false, false_implies]); (try first | done | omega | (intro _ hx; obtain ⟨_, -, rfl⟩ := List.mem_map.1 hx; exact .lit _))))
  · intro i hi
    simp only [go_sem]
    split
    · rename_i hlt
      have hp := pow_lt (i := i) (by omega)
      have e1 : IntKind.u64.wrap (2 * 2 ^ i) = 2 ^ (i + 1) := by rw [wrap_u64, Int.pow_succ]; omega
      have e2 : IntKind.i64.wrap ((i : Int) + 1) = ((i + 1 : Nat) : Int) := by rw [wrap_i64]; omega
      refine LP_next (i + 1) (by omega) (by omega) ?_
      rw [e1, e2]
      refine imp_loc (by ((try simp only [cells_agg, cells_lit, leL_cons, leL_nil, leA_any, leA_lits, leA_isl, leA_self, and_self, true_and, and_true, or_true, true_or, Value.int.injEq, Value.bool.injEq, Value.string.injEq, AV.lit.injEq, Option.some.injEq, Blk.cells.injEq, Blk.tok.injEq, List.cons.injEq, Tk.at.injEq, subL_nil, subL_cons, look_nil, look_cons, ↓reduceIte, Nat.reduceEqDiff, Option.isSome_some, reduceCtorEq, or_false, false_or, if_true, if_false]); (try first | done | omega | (simp; done) | (simp; omega)))) (by ((try simp only [cells_agg, cells_lit, leL_cons, leL_nil, leA_any, leA_lits, leA_isl, leA_self, and_self, true_and, and_true, or_true, true_or, Value.int.injEq, Value.bool.injEq, Value.string.injEq, AV.lit.injEq, Option.some.injEq, Blk.cells.injEq, Blk.tok.injEq, List.cons.injEq, Tk.at.injEq, subL_nil, subL_cons, look_nil, look_cons, ↓reduceIte, Nat.reduceEqDiff, Option.isSome_some, reduceCtorEq, or_false, false_or, if_true, if_false]); (try first | done | omega | (simp; done) | (simp; omega)))) (by ((try simp only [cells_agg, cells_lit, List.mem_cons, List.not_mem_nil, or_false, forall_eq_or_imp, forall_eq, only_any, only_lit', only_iptr, only_no, only_full, only_at, only_ptr, only_osl, only_agg, only_tup, only_fn, and_self, implies_true, and_true, true_and, okL_nil, okL_cons, bonly_cells, bonly_tok, keepP_add, look_nil, look_cons, ↓reduceIte, Nat.reduceEqDiff, Option.isSome_some, reduceCtorEq, false_or, if_true, if_false, false_implies]); (try first | done | omega | (intro _ hx; obtain ⟨_, -, rfl⟩ := List.mem_map.1 hx; exact .lit _)))) (by ((try simp only [cells_agg, cells_lit, List.mem_cons, List.not_mem_nil, or_false, forall_eq_or_imp, forall_eq, only_any, only_lit', only_iptr, only_no, only_full, only_at, only_ptr, only_osl, only_agg, only_tup, only_fn, and_self, implies_true, and_true, true_and, okL_nil, okL_cons, bonly_cells, bonly_tok, keepP_add, look_nil, look_cons, ↓reduceIte, Nat.reduceEqDiff, Option.isSome_some, reduceCtorEq, false_or, if_true, if_false, false_implies]); (try first | done | omega | (intro _ hx; obtain ⟨_, -, rfl⟩ := List.mem_map.1 hx; exact .lit _))))
    · rename_i hlt
      have : i = k.toNat := by omega
      subst this
      refine FnPost_end hn0 (by simp) rfl (only_lit _ _) ?_
      simp only [go_sem]
      exact leA_refl _
theorem rcut_c (n m : Int) (hn : -9223372036854775808 ≤ n) (hn1 : n ≤ 9223372036854775807) (h0 : 1 ≤ m) (h1 : m ≤ 64) (g : GH) : PureC Try.prog 24 [I64 n, I64 m] g (I64 (cutF n m.toNat)) := by
  refine CallC.body (fun _ => none) (fun _ => 0) Try.func24 rfl Try.results24 Try.ntmps24 ?_
  intro n0 hn0
  simp only [go_sem]
  by_cases h64 : m = 64
  · rw [if_pos h64]
    refine FnPost_end hn0 (by simp) rfl (only_lit _ _) ?_
    simp only [go_sem]
    exact leA_int (cutF_64 n m hn hn1 h64)
  · rw [if_neg h64]
    have hP := pow_lt (i := (m - 1).toNat) (by omega)
    have hpw : (2 : Int) ^ m.toNat = 2 * 2 ^ (m - 1).toNat := by rw [show m.toNat = (m - 1).toNat + 1 by omega, Int.pow_succ]; omega
    have em : IntKind.i64.wrap (m - 1) = m - 1 := by rw [wrap_i64]; omega
    refine WE_pure _ _ _ _ _ _ _ _ (power_c m (by omega) (by omega) _) ?_
    simp only [go_sem]
    refine ⟨by omega, ?_⟩
    rw [em]
    refine WE_pure _ _ _ _ _ _ _ _ (power_c (m - 1) (by omega) (by omega) _) ?_
    simp only [go_sem]
    split
    · rw [em]
      refine WE_pure _ _ _ _ _ _ _ _ (power_c (m - 1) (by omega) (by omega) _) ?_
      simp only [go_sem]
      rw [em]
      refine WE_pure _ _ _ _ _ _ _ _ (power_c (m - 1) (by omega) (by omega) _) ?_
      simp only [go_sem]
      refine FnPost_end hn0 (by simp) rfl (only_lit _ _) ?_
      simp only [go_sem]
      exact leA_int (cutF_hi n m hn hn1 h0 (by omega) ‹_›)
    · refine FnPost_end hn0 (by simp) rfl (only_lit _ _) ?_
      simp only [go_sem]
      exact leA_int (cutF_lo n m hn hn1 h0 (by omega) ‹_›)
theorem cut_c (n w : Int) (hn : -9223372036854775808 ≤ n) (hn1 : n ≤ 9223372036854775807) (g : GH) : PureC Try.prog 84 [I64 n, I64 w] g (I64 (cutF n (imn (imx w 1) 64).toNat)) := by
  refine CallC.body (fun _ => none) (fun _ => 0) Try.func84 rfl Try.results84 Try.ntmps84 ?_
  intro n0 hn0
  simp only [go_sem]
  have hr : 1 ≤ imn (imx w 1) 64 ∧ imn (imx w 1) 64 ≤ 64 := by unfold imn imx; (repeat' split) <;> omega
  generalize imn (imx w 1) 64 = m at hr
  have e1 : IntKind.u64.wrap (IntKind.i64.wrap (64 - m)) = 64 - m := by rw [wrap_i64, wrap_u64]; omega
  rw [e1]
  refine ⟨by omega, by omega, ?_⟩
  refine FnPost_end hn0 (by simp) rfl (only_lit _ _) ?_
  rw [if_pos (by omega)]
  simp only [go_sem]
  exact leA_int (cutF_sh n m hn hn1 hr.1 hr.2)
theorem Cut_c (n w : Int) (hn : -9223372036854775808 ≤ n) (hn1 : n ≤ 9223372036854775807) (g : GH) : PureC Try.prog 21 [I64 n, I64 w] g (I64 (cutF n (imn (imx w 1) 64).toNat)) := by
  refine CallC.body (fun _ => none) (fun _ => 0) Try.func21 rfl Try.results21 Try.ntmps21 ?_
  intro n0 hn0
  simp only [go_sem]
  refine WE_pure _ _ _ _ _ _ _ _ (cut_c n w hn hn1 _) ?_
  simp only [go_sem]
  refine FnPost_end hn0 (by simp) rfl (only_lit _ _) ?_
  simp only [go_sem]
  exact leA_refl _
theorem lives_c (g : GH) : PureC Try.prog 19 [] g (BB true) := by
  refine CallC.body (fun _ => none) (fun _ => 0) Try.func19 rfl Try.results19 Try.ntmps19 ?_
  intro n0 hn0
  simp only [go_sem]
  refine WE_pure _ _ _ _ _ _ _ _ (zig_c (-1) (by omega) (by omega) _) ?_
  simp only [go_sem, show zigF (-1) = 1 from rfl]
  refine WE_pure _ _ _ _ _ _ _ _ (zig_c 1 (by omega) (by omega) _) ?_
  simp only [go_sem, show zigF 1 = 2 from rfl]
  refine WE_pure _ _ _ _ _ _ _ _ (Cut_c 200 8 (by omega) (by omega) _) ?_
  simp only [go_sem, show cutF 200 (imn (imx 8 1) 64).toNat = -56 from by decide]
  refine FnPost_end hn0 (by simp) rfl (only_lit _ _) ?_
  simp only [go_sem]
  exact leA_refl _
theorem law_zig (n u : Int) (hn : -9223372036854775808 ≤ n) (hn1 : n ≤ 9223372036854775807) (hu : 0 ≤ u) (hu1 : u < 18446744073709551616) (g : GH) : PureC Try.prog 3 [I64 n, U64 u] g (BB true) := by
  have hz := zigF_range n hn hn1
  have hz2 := zagF_range u hu hu1
  refine CallC.body (fun _ => none) (fun _ => 0) Try.func3 rfl Try.results3 Try.ntmps3 ?_
  intro n0 hn0
  simp only [go_sem]
  refine WE_pure _ _ _ _ _ _ _ _ (zig_c n hn hn1 _) ?_
  simp only [go_sem]
  refine WE_pure _ _ _ _ _ _ _ _ (rzig_c n hn hn1 _) ?_
  simp only [go_sem]
  refine WE_pure _ _ _ _ _ _ _ _ (rzig_c n hn hn1 _) ?_
  simp only [go_sem]
  refine WE_pure _ _ _ _ _ _ _ _ (zag_c _ hz.1 hz.2 _) ?_
  simp only [go_sem, zag_zig]
  refine WE_pure _ _ _ _ _ _ _ _ (zag_c _ hu hu1 _) ?_
  simp only [go_sem]
  refine WE_pure _ _ _ _ _ _ _ _ (rzag_c _ hu hu1 _) ?_
  simp only [go_sem]
  refine WE_pure _ _ _ _ _ _ _ _ (zag_c _ hu hu1 _) ?_
  simp only [go_sem]
  refine WE_pure _ _ _ _ _ _ _ _ (zig_c _ hz2.1 hz2.2 _) ?_
  simp only [go_sem, zig_zag u hu]
  refine WE_pure _ _ _ _ _ _ _ _ (lives_c _) ?_
  simp only [go_sem]
  refine FnPost_end hn0 (by simp) rfl (only_lit _ _) ?_
  simp only [go_sem]
  exact leA_refl _
theorem zig_row (a0 a1 : Int) (w0 : (Lit.int .i64 a0).wf = true) (w1 : (Lit.int .u64 a1).wf = true) (g : GH) : PureC Try.prog 3 [I64 a0, U64 a1] g (BB true) := by
  have h0 := wf_i64 w0
  have h1 := wf_u64 w1
  exact law_zig a0 a1 (by omega) (by omega) (by omega) (by omega) g
end Go.Proofs.Ytmnjmeebadpgjaa.Bits
