import Derived.Test.YtjinngfpbmkhaaaSetB
/- Sets of small numbers: rising lists, as the document has them. -/
namespace Go.Proofs.Ytjinngfpbmkhaaa.Set
open Go Go.Av
set_option linter.unusedSimpArgs false
set_option linter.unusedVariables false
theorem szOk_Il (l : List Int) : szOk 1 (Il l) ↔ True := by
  refine ⟨fun _ => trivial, fun _ y hy => ?_⟩
  obtain ⟨_, -, rfl⟩ := List.mem_map.1 hy; rfl
theorem Il_take (l : List Int) (k : Nat) : (Il l).take k = Il (l.take k) := by simp [Il]
theorem Il_drop (l : List Int) (k : Nat) : (Il l).drop k = Il (l.drop k) := by simp [Il]
theorem Il_len (l : List Int) : (Il l).length = l.length := by simp
theorem Il_append (l m : List Int) : Il l ++ Il m = Il (l ++ m) := by simp
theorem good_c (n : Int) (g : GH) : PureC Try.prog 110 [I64 n] g (BB (goodN n)) := by
  refine CallC.body (fun _ => none) (fun _ => 0) Try.func110 rfl Try.results110 Try.ntmps110 ?_
  intro n0 hn0
  simp only [go_sem]
  (repeat' (refine WG_split _ _ _ _ _ _ _ _ _ (fun hh => ?_) (fun hh => ?_) <;> (try simp only [decide_eq_true_eq, decide_eq_false_iff_not, Bool.not_eq_true', Bool.not_eq_false', Bool.not_eq_true, Bool.not_eq_false] at hh) <;> (first | simp only [go_sem, boolEqH hh] | simp only [go_sem, eq_false hh] | simp only [go_sem, eq_true hh])))
  all_goals
    refine FnPost_end hn0 (by simp) rfl (only_lit _ _) ?_
    simp only [go_sem]
    refine leA_bool ?_
    unfold goodN
    simp [*]
theorem rAt_c (nl : Option Bool) (l : List Int) (tok : Tk) (n : Int) (hl : l.length ≤ 1000000000) (g : GH) : PureC Try.prog 72 [.isl nl (Il l) tok, I64 n] g (.tup [I64 (atN l n), BB (isN l n)]) := by
  refine CallC.body (fun _ => none) (fun _ => 0) Try.func72 rfl Try.results72 Try.ntmps72 ?_
  intro n0 hn0
  simp only [go_sem]
  refine WC_loop (fun i : Nat => [.isl nl (Il l) .no, I64 n, .any, .any, .any, .any, I64 i, .any, .any, .any, .any, .any, .any, .any, .any, .any, .any, .any, .any, .any, .any, .any, .any, .any, .any, .any, .any, .any, .any, .any, .any, .any, .any, .any]) (fun i => ⟨g, []⟩) (fun i => i ≤ l.length ∧ ∀ j, j < i → l.getD j 0 < n) (fun i => l.length - i) 0 ⟨by simp, fun j hj => by omega⟩ ?_ ?_
  · refine imp_loc (by ((try simp only [cells_agg, cells_lit, leL_cons, leL_nil, leA_any, leA_lits, leA_isl, leA_self, and_self, true_and, and_true, or_true, true_or, Value.int.injEq, Value.bool.injEq, Value.string.injEq, AV.lit.injEq, Option.some.injEq, Blk.cells.injEq, Blk.tok.injEq, List.cons.injEq, Tk.at.injEq, subL_nil, subL_cons, look_nil, look_cons, ↓reduceIte, Nat.reduceEqDiff, Option.isSome_some, reduceCtorEq, or_false, false_or, if_true, if_false]); (try first | done | omega | (simp; done) | (simp; omega)))) (by ((try simp only [cells_agg, cells_lit, leL_cons, leL_nil, leA_any, leA_lits, leA_isl, leA_self, and_self, true_and, and_true, or_true, true_or, Value.int.injEq, Value.bool.injEq, Value.string.injEq, AV.lit.injEq, Option.some.injEq, Blk.cells.injEq, Blk.tok.injEq, List.cons.injEq, Tk.at.injEq, subL_nil, subL_cons, look_nil, look_cons, ↓reduceIte, Nat.reduceEqDiff, Option.isSome_some, reduceCtorEq, or_false, false_or, if_true, if_false]); (try first | done | omega | (simp; done) | (simp; omega)))) (by ((try simp only [cells_agg, cells_lit, List.mem_cons, List.not_mem_nil, or_false, forall_eq_or_imp, forall_eq, only_any, only_lit', only_iptr, only_no, only_full, only_at, only_ptr, only_osl, only_agg, only_tup, only_fn, and_self, implies_true, and_true, true_and, okL_nil, okL_cons, bonly_cells, bonly_tok, keepP_add, look_nil, look_cons, ↓reduceIte, Nat.reduceEqDiff, Option.isSome_some, reduceCtorEq, false_or, if_true, if_false, false_implies]); (try first | done | omega | ((repeat' refine And.intro ?_ ?_) <;> (intro _ hx; obtain ⟨_, -, rfl⟩ := List.mem_map.1 hx; exact .lit _))))) (by ((try simp only [cells_agg, cells_lit, List.mem_cons, List.not_mem_nil, or_false, forall_eq_or_imp, forall_eq, only_any, only_lit', only_iptr, only_no, only_full, only_at, only_ptr, only_osl, only_agg, only_tup, only_fn, and_self, implies_true, and_true, true_and, okL_nil, okL_cons, bonly_cells, bonly_tok, keepP_add, look_nil, look_cons, ↓reduceIte, Nat.reduceEqDiff, Option.isSome_some, reduceCtorEq, false_or, if_true, if_false, false_implies]); (try first | done | omega | ((repeat' refine And.intro ?_ ?_) <;> (intro _ hx; obtain ⟨_, -, rfl⟩ := List.mem_map.1 hx; exact .lit _)))))
  · rintro i ⟨hi, hi2⟩
    simp only [go_sem, List.length_map]
    have e1 : IntKind.i64.wrap ((i : Int) + 1) = ((i + 1 : Nat) : Int) := by rw [wrap_i64]; omega
    by_cases hlt : i < l.length
    · have hlt2 : (i : Int) < (l.length : Int) := by omega
      simp only [go_sem, hlt2, List.length_map, Il_get l i hlt]
      (repeat (refine ⟨by omega, ?_⟩))
      split
      · rename_i hx
        refine LP_next (i + 1) ⟨by omega, fun j hj => by
          by_cases e : j = i
          · rw [e]; exact hx
          · exact hi2 j (by omega)⟩ (by omega) ?_
        rw [e1]
        refine imp_loc (by ((try simp only [cells_agg, cells_lit, leL_cons, leL_nil, leA_any, leA_lits, leA_isl, leA_self, and_self, true_and, and_true, or_true, true_or, Value.int.injEq, Value.bool.injEq, Value.string.injEq, AV.lit.injEq, Option.some.injEq, Blk.cells.injEq, Blk.tok.injEq, List.cons.injEq, Tk.at.injEq, subL_nil, subL_cons, look_nil, look_cons, ↓reduceIte, Nat.reduceEqDiff, Option.isSome_some, reduceCtorEq, or_false, false_or, if_true, if_false]); (try first | done | omega | (simp; done) | (simp; omega)))) (by ((try simp only [cells_agg, cells_lit, leL_cons, leL_nil, leA_any, leA_lits, leA_isl, leA_self, and_self, true_and, and_true, or_true, true_or, Value.int.injEq, Value.bool.injEq, Value.string.injEq, AV.lit.injEq, Option.some.injEq, Blk.cells.injEq, Blk.tok.injEq, List.cons.injEq, Tk.at.injEq, subL_nil, subL_cons, look_nil, look_cons, ↓reduceIte, Nat.reduceEqDiff, Option.isSome_some, reduceCtorEq, or_false, false_or, if_true, if_false]); (try first | done | omega | (simp; done) | (simp; omega)))) (by ((try simp only [cells_agg, cells_lit, List.mem_cons, List.not_mem_nil, or_false, forall_eq_or_imp, forall_eq, only_any, only_lit', only_iptr, only_no, only_full, only_at, only_ptr, only_osl, only_agg, only_tup, only_fn, and_self, implies_true, and_true, true_and, okL_nil, okL_cons, bonly_cells, bonly_tok, keepP_add, look_nil, look_cons, ↓reduceIte, Nat.reduceEqDiff, Option.isSome_some, reduceCtorEq, false_or, if_true, if_false, false_implies]); (try first | done | omega | ((repeat' refine And.intro ?_ ?_) <;> (intro _ hx; obtain ⟨_, -, rfl⟩ := List.mem_map.1 hx; exact .lit _))))) (by ((try simp only [cells_agg, cells_lit, List.mem_cons, List.not_mem_nil, or_false, forall_eq_or_imp, forall_eq, only_any, only_lit', only_iptr, only_no, only_full, only_at, only_ptr, only_osl, only_agg, only_tup, only_fn, and_self, implies_true, and_true, true_and, okL_nil, okL_cons, bonly_cells, bonly_tok, keepP_add, look_nil, look_cons, ↓reduceIte, Nat.reduceEqDiff, Option.isSome_some, reduceCtorEq, false_or, if_true, if_false, false_implies]); (try first | done | omega | ((repeat' refine And.intro ?_ ?_) <;> (intro _ hx; obtain ⟨_, -, rfl⟩ := List.mem_map.1 hx; exact .lit _)))))
      · rename_i hx
        have ha : atN l n = i := atN_eq l n i hi hi2 (.inr hx)
        refine WC_draw Ty.mixed (by kernel_rfl) ?_
        simp only [go_sem, hlt2, List.length_map, Il_get l i hlt]
        (repeat (refine ⟨by omega, ?_⟩))
        refine FnPost_end hn0 (by simp) rfl (by simp only [only_tup, List.mem_cons, List.not_mem_nil, or_false, forall_eq_or_imp, forall_eq, only_any, only_lit', only_full, only_no, only_iptr, only_agg, and_self, and_true, true_and, implies_true, or_false]) ?_
        simp only [go_sem]
        unfold isN
        rw [ha]
        simp [leA, hlt]
    · have : i = l.length := by omega
      subst this
      have ha : atN l n = l.length := atN_eq l n _ hi hi2 (.inl rfl)
      have hlt2 : ¬ (l.length : Int) < (l.length : Int) := by omega
      simp only [go_sem, hlt2]
      refine WC_draw Ty.mixed (by kernel_rfl) ?_
      simp only [go_sem, hlt2, List.length_map]
      refine FnPost_end hn0 (by simp) rfl (by simp only [only_tup, List.mem_cons, List.not_mem_nil, or_false, forall_eq_or_imp, forall_eq, only_any, only_lit', only_full, only_no, only_iptr, only_agg, and_self, and_true, true_and, implies_true, or_false]) ?_
      simp only [go_sem]
      unfold isN
      rw [ha]
      simp [leA]
theorem rAdd_c (nl : Option Bool) (l : List Int) (tok : Tk) (n : Int) (hl : l.length ≤ 1000000) (g : GH) : PureC Try.prog 74 [.isl nl (Il l) tok, I64 n] g (.isl none (Il (addL l n)) .no) := by
  refine CallC.body (fun _ => none) (fun d => if d = 20 then 1 else 0) Try.func74 rfl Try.results74 Try.ntmps74 ?_
  intro n0 hn0
  simp only [go_sem]
  refine WE_pure _ _ _ _ _ _ _ _ (rAt_c nl l tok n (by omega) _) ?_
  simp only [go_sem]
  have hle := atN_le l n
  cases h1 : isN l n with
  | true =>
    simp only [go_sem, h1]
    refine FnPost_end hn0 (by simp) rfl (by simp only [only_tup, List.mem_cons, List.not_mem_nil, or_false, forall_eq_or_imp, forall_eq, only_any, only_lit', only_full, only_no, only_iptr, only_agg, and_self, and_true, true_and, implies_true, or_false]) ?_
    simp only [go_sem]
    unfold addL
    simp [h1, leA]
  | false =>
    simp only [go_sem, h1]
    refine WE_pure _ _ _ _ _ _ _ _ (good_c n _) ?_
    simp only [go_sem]
    cases h2 : goodN n with
    | false =>
      simp only [go_sem, h2]
      refine FnPost_end hn0 (by simp) rfl (by simp only [only_tup, List.mem_cons, List.not_mem_nil, or_false, forall_eq_or_imp, forall_eq, only_any, only_lit', only_full, only_no, only_iptr, only_agg, and_self, and_true, true_and, implies_true, or_false]) ?_
      simp only [go_sem]
      unfold addL
      simp [h1, h2, leA]
    | true =>
      simp only [go_sem, h2]
      have hd0 : (Il l).take (Il l).length = Il l := List.take_length
      refine WC_draw Ty.mixed (by kernel_rfl) ?_
      simp only [go_sem, szOk_Il, Il_take, Il_drop, Il_len, elsOk_Il, List.length_map, Il_app, Il_append, List.take_length]
      have t1 : (l.take (atN l n)).length ≤ l.length := by simp; omega
      have t2 : (l.drop (atN l n)).length ≤ l.length := by simp
      have t3 : (l.take (atN l n) ++ [n]).length ≤ l.length + 1 := by simp; omega
      (repeat (refine ⟨by omega, ?_⟩))
      refine WD_end (by (simp only [POL, PO1, List.take_succ_cons, List.take_zero, List.take_nil, and_true, true_and]; (repeat' apply And.intro) <;> first | exact trivial | (right; unfold HA; simp; done) | (left; kernel_rfl))) ?_
      simp only [go_sem]
      refine FnPost_end hn0 (by simp) rfl (by simp only [only_tup, List.mem_cons, List.not_mem_nil, or_false, forall_eq_or_imp, forall_eq, only_any, only_lit', only_full, only_no, only_iptr, only_agg, and_self, and_true, true_and, implies_true, or_false]) ?_
      simp only [go_sem]
      unfold addL
      rw [h1, h2, if_neg (by simp)]
      simp [leA]
theorem rCut_c (nl : Option Bool) (l : List Int) (tok : Tk) (n : Int) (hl : l.length ≤ 1000000) (g : GH) : PureC Try.prog 63 [.isl nl (Il l) tok, I64 n] g (.isl none (Il (cutL l n)) .no) := by
  refine CallC.body (fun _ => none) (fun d => if d = 16 then 1 else 0) Try.func63 rfl Try.results63 Try.ntmps63 ?_
  intro n0 hn0
  simp only [go_sem]
  refine WE_pure _ _ _ _ _ _ _ _ (rAt_c nl l tok n (by omega) _) ?_
  simp only [go_sem]
  have hle := atN_le l n
  cases h1 : isN l n with
  | false =>
    simp only [go_sem, h1]
    refine FnPost_end hn0 (by simp) rfl (by simp only [only_tup, List.mem_cons, List.not_mem_nil, or_false, forall_eq_or_imp, forall_eq, only_any, only_lit', only_full, only_no, only_iptr, only_agg, and_self, and_true, true_and, implies_true, or_false]) ?_
    simp only [go_sem]
    unfold cutL
    simp [h1, leA]
  | true =>
    simp only [go_sem, h1]
    have hlt : atN l n < l.length := by unfold isN at h1; exact (of_decide_eq_true h1).1
    have e1 : IntKind.i64.wrap (((atN l n : Nat) : Int) + 1) = ((atN l n + 1 : Nat) : Int) := by rw [wrap_i64]; omega
    refine WC_draw Ty.mixed (by kernel_rfl) ?_
    simp only [go_sem, szOk_Il, Il_take, Il_drop, Il_len, elsOk_Il, List.length_map, Il_app, Il_append, List.take_length, e1]
    have t1 : (l.take (atN l n)).length ≤ l.length := by simp; omega
    have t2 : (l.drop (atN l n + 1)).length ≤ l.length := by simp
    (repeat (refine ⟨by omega, ?_⟩))
    refine WD_end (by (simp only [POL, PO1, List.take_succ_cons, List.take_zero, List.take_nil, and_true, true_and]; (repeat' apply And.intro) <;> first | exact trivial | (right; unfold HA; simp; done) | (left; kernel_rfl))) ?_
    simp only [go_sem]
    refine FnPost_end hn0 (by simp) rfl (by simp only [only_tup, List.mem_cons, List.not_mem_nil, or_false, forall_eq_or_imp, forall_eq, only_any, only_lit', only_full, only_no, only_iptr, only_agg, and_self, and_true, true_and, implies_true, or_false]) ?_
    simp only [go_sem]
    unfold cutL
    rw [h1, if_pos rfl]
    simp [leA]
theorem addL_len (l : List Int) (n : Int) : (addL l n).length ≤ l.length + 1 := by
  unfold addL; split <;> simp; omega
theorem foldl_len : ∀ (b a : List Int), (b.foldl addL a).length ≤ a.length + b.length
  | [], a => by simp
  | x :: b, a => by have h1 := foldl_len b (addL a x); have h2 := addL_len a x; simp at h1 ⊢; omega
theorem foldl_take (a l : List Int) (i : Nat) (h : i < l.length) : (l.take (i + 1)).foldl addL a = addL ((l.take i).foldl addL a) (l.getD i 0) := by
  rw [List.take_succ_eq_append_getElem h, List.foldl_append]
  simp [List.getD_eq_getElem?_getD, h]
theorem rOf_c (nl : Option Bool) (l : List Int) (tok : Tk) (hl : l.length ≤ 500000) (g : GH) : PureC Try.prog 107 [.isl nl (Il l) tok] g (.isl none (Il (ofL l)) .no) := by
  refine CallC.body (fun _ => none) (fun _ => 0) Try.func107 rfl Try.results107 Try.ntmps107 ?_
  intro n0 hn0
  simp only [go_sem]
  refine WC_loop (fun i : Nat => [.isl nl (Il l) .no, .any, .any, .isl none (Il (ofL (l.take i))) .no, I64 i, .any, .any, .any, .any, .any, .any, .any, .any, .any, .any, .any, .any, .any, .any]) (fun i => ⟨g, []⟩) (fun i => i ≤ l.length) (fun i => l.length - i) 0 (by simp) ?_ ?_
  · have e0 : Il (ofL []) = [] := rfl
    refine imp_loc (by ((try simp only [cells_agg, cells_lit, leL_cons, leL_nil, leA_any, leA_lits, leA_isl, leA_self, and_self, true_and, and_true, or_true, true_or, Value.int.injEq, Value.bool.injEq, Value.string.injEq, AV.lit.injEq, Option.some.injEq, Blk.cells.injEq, Blk.tok.injEq, List.cons.injEq, Tk.at.injEq, subL_nil, subL_cons, look_nil, look_cons, ↓reduceIte, Nat.reduceEqDiff, Option.isSome_some, reduceCtorEq, or_false, false_or, if_true, if_false, e0, List.take_zero]); (try first | done | omega | (simp; done) | (simp; omega)))) (by ((try simp only [cells_agg, cells_lit, leL_cons, leL_nil, leA_any, leA_lits, leA_isl, leA_self, and_self, true_and, and_true, or_true, true_or, Value.int.injEq, Value.bool.injEq, Value.string.injEq, AV.lit.injEq, Option.some.injEq, Blk.cells.injEq, Blk.tok.injEq, List.cons.injEq, Tk.at.injEq, subL_nil, subL_cons, look_nil, look_cons, ↓reduceIte, Nat.reduceEqDiff, Option.isSome_some, reduceCtorEq, or_false, false_or, if_true, if_false, e0, List.take_zero]); (try first | done | omega | (simp; done) | (simp; omega)))) (by ((try simp only [cells_agg, cells_lit, List.mem_cons, List.not_mem_nil, or_false, forall_eq_or_imp, forall_eq, only_any, only_lit', only_iptr, only_no, only_full, only_at, only_ptr, only_osl, only_agg, only_tup, only_fn, and_self, implies_true, and_true, true_and, okL_nil, okL_cons, bonly_cells, bonly_tok, keepP_add, look_nil, look_cons, ↓reduceIte, Nat.reduceEqDiff, Option.isSome_some, reduceCtorEq, false_or, if_true, if_false, false_implies, e0, List.take_zero]); (try first | done | omega | ((repeat' refine And.intro ?_ ?_) <;> (intro _ hx; obtain ⟨_, -, rfl⟩ := List.mem_map.1 hx; exact .lit _))))) (by ((try simp only [cells_agg, cells_lit, List.mem_cons, List.not_mem_nil, or_false, forall_eq_or_imp, forall_eq, only_any, only_lit', only_iptr, only_no, only_full, only_at, only_ptr, only_osl, only_agg, only_tup, only_fn, and_self, implies_true, and_true, true_and, okL_nil, okL_cons, bonly_cells, bonly_tok, keepP_add, look_nil, look_cons, ↓reduceIte, Nat.reduceEqDiff, Option.isSome_some, reduceCtorEq, false_or, if_true, if_false, false_implies, e0, List.take_zero]); (try first | done | omega | ((repeat' refine And.intro ?_ ?_) <;> (intro _ hx; obtain ⟨_, -, rfl⟩ := List.mem_map.1 hx; exact .lit _)))))
  · intro i hi
    simp only [go_sem, List.length_map]
    split
    · rename_i hlt
      have hlt : i < l.length := by omega
      have e1 : IntKind.i64.wrap ((i : Int) + 1) = ((i + 1 : Nat) : Int) := by rw [wrap_i64]; omega
      simp only [go_sem, List.length_map, Il_get l i hlt]
      (repeat (refine ⟨by omega, ?_⟩))
      have h1 := foldl_len (l.take i) []
      refine WE_pure _ _ _ _ _ _ _ _ (rAdd_c _ _ _ _ (by unfold ofL; simp at h1; omega) _) ?_
      simp only [go_sem]
      refine LP_next (i + 1) (by omega) (by omega) ?_
      have h2 : ofL (l.take (i + 1)) = addL (ofL (l.take i)) (l.getD i 0) := foldl_take [] l i hlt
      rw [e1, h2]
      refine imp_loc (by ((try simp only [cells_agg, cells_lit, leL_cons, leL_nil, leA_any, leA_lits, leA_isl, leA_self, and_self, true_and, and_true, or_true, true_or, Value.int.injEq, Value.bool.injEq, Value.string.injEq, AV.lit.injEq, Option.some.injEq, Blk.cells.injEq, Blk.tok.injEq, List.cons.injEq, Tk.at.injEq, subL_nil, subL_cons, look_nil, look_cons, ↓reduceIte, Nat.reduceEqDiff, Option.isSome_some, reduceCtorEq, or_false, false_or, if_true, if_false]); (try first | done | omega | (simp; done) | (simp; omega)))) (by ((try simp only [cells_agg, cells_lit, leL_cons, leL_nil, leA_any, leA_lits, leA_isl, leA_self, and_self, true_and, and_true, or_true, true_or, Value.int.injEq, Value.bool.injEq, Value.string.injEq, AV.lit.injEq, Option.some.injEq, Blk.cells.injEq, Blk.tok.injEq, List.cons.injEq, Tk.at.injEq, subL_nil, subL_cons, look_nil, look_cons, ↓reduceIte, Nat.reduceEqDiff, Option.isSome_some, reduceCtorEq, or_false, false_or, if_true, if_false]); (try first | done | omega | (simp; done) | (simp; omega)))) (by ((try simp only [cells_agg, cells_lit, List.mem_cons, List.not_mem_nil, or_false, forall_eq_or_imp, forall_eq, only_any, only_lit', only_iptr, only_no, only_full, only_at, only_ptr, only_osl, only_agg, only_tup, only_fn, and_self, implies_true, and_true, true_and, okL_nil, okL_cons, bonly_cells, bonly_tok, keepP_add, look_nil, look_cons, ↓reduceIte, Nat.reduceEqDiff, Option.isSome_some, reduceCtorEq, false_or, if_true, if_false, false_implies]); (try first | done | omega | ((repeat' refine And.intro ?_ ?_) <;> (intro _ hx; obtain ⟨_, -, rfl⟩ := List.mem_map.1 hx; exact .lit _))))) (by ((try simp only [cells_agg, cells_lit, List.mem_cons, List.not_mem_nil, or_false, forall_eq_or_imp, forall_eq, only_any, only_lit', only_iptr, only_no, only_full, only_at, only_ptr, only_osl, only_agg, only_tup, only_fn, and_self, implies_true, and_true, true_and, okL_nil, okL_cons, bonly_cells, bonly_tok, keepP_add, look_nil, look_cons, ↓reduceIte, Nat.reduceEqDiff, Option.isSome_some, reduceCtorEq, false_or, if_true, if_false, false_implies]); (try first | done | omega | ((repeat' refine And.intro ?_ ?_) <;> (intro _ hx; obtain ⟨_, -, rfl⟩ := List.mem_map.1 hx; exact .lit _)))))
    · have : i = l.length := by omega
      subst this
      rw [List.take_length]
      refine FnPost_end hn0 (by simp) rfl (by simp only [only_tup, List.mem_cons, List.not_mem_nil, or_false, forall_eq_or_imp, forall_eq, only_any, only_lit', only_full, only_no, only_iptr, only_agg, and_self, and_true, true_and, implies_true, or_false]) ?_
      simp only [go_sem]
      exact leA_refl _
theorem rOr_c (nl nl2 : Option Bool) (a b : List Int) (tok tok2 : Tk) (hl : a.length ≤ 500000) (hl2 : b.length ≤ 500000) (g : GH) : PureC Try.prog 67 [.isl nl (Il a) tok, .isl nl2 (Il b) tok2] g (.isl none (Il (orL a b)) .no) := by
  refine CallC.body (fun _ => none) (fun _ => 0) Try.func67 rfl Try.results67 Try.ntmps67 ?_
  intro n0 hn0
  simp only [go_sem]
  refine WC_loop (fun i : Nat => [.isl none (Il (orL a (b.take i))) .no, .isl nl2 (Il b) .no, .any, .any, .any, I64 i, .any, .any, .any, .any, .any, .any, .any, .any, .any, .any, .any, .any, .any]) (fun i => ⟨g, []⟩) (fun i => i ≤ b.length) (fun i => b.length - i) 0 (by simp) ?_ ?_
  · have e0 : orL a [] = a := rfl
    refine imp_loc (by ((try simp only [cells_agg, cells_lit, leL_cons, leL_nil, leA_any, leA_lits, leA_isl, leA_self, and_self, true_and, and_true, or_true, true_or, Value.int.injEq, Value.bool.injEq, Value.string.injEq, AV.lit.injEq, Option.some.injEq, Blk.cells.injEq, Blk.tok.injEq, List.cons.injEq, Tk.at.injEq, subL_nil, subL_cons, look_nil, look_cons, ↓reduceIte, Nat.reduceEqDiff, Option.isSome_some, reduceCtorEq, or_false, false_or, if_true, if_false, e0, List.take_zero]); (try first | done | omega | (simp; done) | (simp; omega)))) (by ((try simp only [cells_agg, cells_lit, leL_cons, leL_nil, leA_any, leA_lits, leA_isl, leA_self, and_self, true_and, and_true, or_true, true_or, Value.int.injEq, Value.bool.injEq, Value.string.injEq, AV.lit.injEq, Option.some.injEq, Blk.cells.injEq, Blk.tok.injEq, List.cons.injEq, Tk.at.injEq, subL_nil, subL_cons, look_nil, look_cons, ↓reduceIte, Nat.reduceEqDiff, Option.isSome_some, reduceCtorEq, or_false, false_or, if_true, if_false, e0, List.take_zero]); (try first | done | omega | (simp; done) | (simp; omega)))) (by ((try simp only [cells_agg, cells_lit, List.mem_cons, List.not_mem_nil, or_false, forall_eq_or_imp, forall_eq, only_any, only_lit', only_iptr, only_no, only_full, only_at, only_ptr, only_osl, only_agg, only_tup, only_fn, and_self, implies_true, and_true, true_and, okL_nil, okL_cons, bonly_cells, bonly_tok, keepP_add, look_nil, look_cons, ↓reduceIte, Nat.reduceEqDiff, Option.isSome_some, reduceCtorEq, false_or, if_true, if_false, false_implies, e0, List.take_zero]); (try first | done | omega | ((repeat' refine And.intro ?_ ?_) <;> (intro _ hx; obtain ⟨_, -, rfl⟩ := List.mem_map.1 hx; exact .lit _))))) (by ((try simp only [cells_agg, cells_lit, List.mem_cons, List.not_mem_nil, or_false, forall_eq_or_imp, forall_eq, only_any, only_lit', only_iptr, only_no, only_full, only_at, only_ptr, only_osl, only_agg, only_tup, only_fn, and_self, implies_true, and_true, true_and, okL_nil, okL_cons, bonly_cells, bonly_tok, keepP_add, look_nil, look_cons, ↓reduceIte, Nat.reduceEqDiff, Option.isSome_some, reduceCtorEq, false_or, if_true, if_false, false_implies, e0, List.take_zero]); (try first | done | omega | ((repeat' refine And.intro ?_ ?_) <;> (intro _ hx; obtain ⟨_, -, rfl⟩ := List.mem_map.1 hx; exact .lit _)))))
  · intro i hi
    simp only [go_sem, List.length_map]
    split
    · rename_i hlt
      have hlt : i < b.length := by omega
      have e1 : IntKind.i64.wrap ((i : Int) + 1) = ((i + 1 : Nat) : Int) := by rw [wrap_i64]; omega
      simp only [go_sem, List.length_map, Il_get b i hlt]
      (repeat (refine ⟨by omega, ?_⟩))
      have h1 := foldl_len (b.take i) a
      refine WE_pure _ _ _ _ _ _ _ _ (rAdd_c _ _ _ _ (by unfold orL; simp at h1; omega) _) ?_
      simp only [go_sem]
      refine LP_next (i + 1) (by omega) (by omega) ?_
      have h2 : orL a (b.take (i + 1)) = addL (orL a (b.take i)) (b.getD i 0) := foldl_take a b i hlt
      rw [e1, h2]
      refine imp_loc (by ((try simp only [cells_agg, cells_lit, leL_cons, leL_nil, leA_any, leA_lits, leA_isl, leA_self, and_self, true_and, and_true, or_true, true_or, Value.int.injEq, Value.bool.injEq, Value.string.injEq, AV.lit.injEq, Option.some.injEq, Blk.cells.injEq, Blk.tok.injEq, List.cons.injEq, Tk.at.injEq, subL_nil, subL_cons, look_nil, look_cons, ↓reduceIte, Nat.reduceEqDiff, Option.isSome_some, reduceCtorEq, or_false, false_or, if_true, if_false]); (try first | done | omega | (simp; done) | (simp; omega)))) (by ((try simp only [cells_agg, cells_lit, leL_cons, leL_nil, leA_any, leA_lits, leA_isl, leA_self, and_self, true_and, and_true, or_true, true_or, Value.int.injEq, Value.bool.injEq, Value.string.injEq, AV.lit.injEq, Option.some.injEq, Blk.cells.injEq, Blk.tok.injEq, List.cons.injEq, Tk.at.injEq, subL_nil, subL_cons, look_nil, look_cons, ↓reduceIte, Nat.reduceEqDiff, Option.isSome_some, reduceCtorEq, or_false, false_or, if_true, if_false]); (try first | done | omega | (simp; done) | (simp; omega)))) (by ((try simp only [cells_agg, cells_lit, List.mem_cons, List.not_mem_nil, or_false, forall_eq_or_imp, forall_eq, only_any, only_lit', only_iptr, only_no, only_full, only_at, only_ptr, only_osl, only_agg, only_tup, only_fn, and_self, implies_true, and_true, true_and, okL_nil, okL_cons, bonly_cells, bonly_tok, keepP_add, look_nil, look_cons, ↓reduceIte, Nat.reduceEqDiff, Option.isSome_some, reduceCtorEq, false_or, if_true, if_false, false_implies]); (try first | done | omega | ((repeat' refine And.intro ?_ ?_) <;> (intro _ hx; obtain ⟨_, -, rfl⟩ := List.mem_map.1 hx; exact .lit _))))) (by ((try simp only [cells_agg, cells_lit, List.mem_cons, List.not_mem_nil, or_false, forall_eq_or_imp, forall_eq, only_any, only_lit', only_iptr, only_no, only_full, only_at, only_ptr, only_osl, only_agg, only_tup, only_fn, and_self, implies_true, and_true, true_and, okL_nil, okL_cons, bonly_cells, bonly_tok, keepP_add, look_nil, look_cons, ↓reduceIte, Nat.reduceEqDiff, Option.isSome_some, reduceCtorEq, false_or, if_true, if_false, false_implies]); (try first | done | omega | ((repeat' refine And.intro ?_ ?_) <;> (intro _ hx; obtain ⟨_, -, rfl⟩ := List.mem_map.1 hx; exact .lit _)))))
    · have : i = b.length := by omega
      subst this
      rw [List.take_length]
      refine FnPost_end hn0 (by simp) rfl (by simp only [only_tup, List.mem_cons, List.not_mem_nil, or_false, forall_eq_or_imp, forall_eq, only_any, only_lit', only_full, only_no, only_iptr, only_agg, and_self, and_true, true_and, implies_true, or_false]) ?_
      simp only [go_sem]
      exact leA_refl _
theorem pick_succ (a b : List Int) (is : Bool) (i : Nat) (h : i < a.length) : pickL (a.take (i + 1)) b is = if (isN b (a.getD i 0) == is) = true then pickL (a.take i) b is ++ [a.getD i 0] else pickL (a.take i) b is := by
  unfold pickL
  rw [List.take_succ_eq_append_getElem h, List.filter_append]
  have : a.getD i 0 = a[i] := by simp [List.getD_eq_getElem?_getD, h]
  rw [this]
  by_cases h1 : (isN b a[i] == is) = true
  · rw [if_pos h1, List.filter_cons_of_pos (by simpa using h1)]; rfl
  · rw [if_neg h1, List.filter_cons_of_neg (by simpa using h1)]; simp
theorem rPick_c (nl nl2 : Option Bool) (a b : List Int) (tok tok2 : Tk) (is : Bool) (hl : a.length ≤ 500000) (hl2 : b.length ≤ 500000) (g : GH) : PureC Try.prog 65 [.isl nl (Il a) tok, .isl nl2 (Il b) tok2, BB is] g (.isl none (Il (pickL a b is)) .no) := by
  refine CallC.body (fun _ => none) (fun d => if d = 11 then 1 else 0) Try.func65 rfl Try.results65 Try.ntmps65 ?_
  intro n0 hn0
  simp only [go_sem]
  refine WC_loop (fun p : Nat × Nat => [.isl nl (Il a) .no, .isl nl2 (Il b) .no, BB is, .any, .any, .any, .any, .isl (some false) (Il (pickL (a.take p.1) b is)) (.at (n0 + 11) p.2), I64 p.1, .any, .any, .any, .any, .any, .any, .any, .any, .any, .any, .any, .any, .any, .any, .any, .any, .any, .any, .any, .any, .any, .any, .any, .any, .any, .any, .any, .any, .any]) (fun p => ⟨g, [(11, .tok p.2)]⟩) (fun p => p.1 ≤ a.length) (fun p => a.length - p.1) (0, 0) (by simp) ?_ ?_
  · have e0 : Il (pickL [] b is) = [] := rfl
    refine imp_loc (by ((try simp only [cells_agg, cells_lit, leL_cons, leL_nil, leA_any, leA_lits, leA_isl, leA_self, and_self, true_and, and_true, or_true, true_or, Value.int.injEq, Value.bool.injEq, Value.string.injEq, AV.lit.injEq, Option.some.injEq, Blk.cells.injEq, Blk.tok.injEq, List.cons.injEq, Tk.at.injEq, subL_nil, subL_cons, look_nil, look_cons, ↓reduceIte, Nat.reduceEqDiff, Option.isSome_some, reduceCtorEq, or_false, false_or, if_true, if_false, e0, List.take_zero]); (try first | done | omega | (simp; done) | (simp; omega)))) (by ((try simp only [cells_agg, cells_lit, leL_cons, leL_nil, leA_any, leA_lits, leA_isl, leA_self, and_self, true_and, and_true, or_true, true_or, Value.int.injEq, Value.bool.injEq, Value.string.injEq, AV.lit.injEq, Option.some.injEq, Blk.cells.injEq, Blk.tok.injEq, List.cons.injEq, Tk.at.injEq, subL_nil, subL_cons, look_nil, look_cons, ↓reduceIte, Nat.reduceEqDiff, Option.isSome_some, reduceCtorEq, or_false, false_or, if_true, if_false, e0, List.take_zero]); (try first | done | omega | (simp; done) | (simp; omega)))) (by ((try simp only [cells_agg, cells_lit, List.mem_cons, List.not_mem_nil, or_false, forall_eq_or_imp, forall_eq, only_any, only_lit', only_iptr, only_no, only_full, only_at, only_ptr, only_osl, only_agg, only_tup, only_fn, and_self, implies_true, and_true, true_and, okL_nil, okL_cons, bonly_cells, bonly_tok, keepP_add, look_nil, look_cons, ↓reduceIte, Nat.reduceEqDiff, Option.isSome_some, reduceCtorEq, false_or, if_true, if_false, false_implies, e0, List.take_zero]); (try first | done | omega | ((repeat' refine And.intro ?_ ?_) <;> (intro _ hx; obtain ⟨_, -, rfl⟩ := List.mem_map.1 hx; exact .lit _))))) (by ((try simp only [cells_agg, cells_lit, List.mem_cons, List.not_mem_nil, or_false, forall_eq_or_imp, forall_eq, only_any, only_lit', only_iptr, only_no, only_full, only_at, only_ptr, only_osl, only_agg, only_tup, only_fn, and_self, implies_true, and_true, true_and, okL_nil, okL_cons, bonly_cells, bonly_tok, keepP_add, look_nil, look_cons, ↓reduceIte, Nat.reduceEqDiff, Option.isSome_some, reduceCtorEq, false_or, if_true, if_false, false_implies, e0, List.take_zero]); (try first | done | omega | ((repeat' refine And.intro ?_ ?_) <;> (intro _ hx; obtain ⟨_, -, rfl⟩ := List.mem_map.1 hx; exact .lit _)))))
  · rintro ⟨i, v⟩ hi
    simp only at hi
    simp only [go_sem, List.length_map]
    split
    · rename_i hlt
      have hlt : i < a.length := by omega
      have e1 : IntKind.i64.wrap ((i : Int) + 1) = ((i + 1 : Nat) : Int) := by rw [wrap_i64]; omega
      have h1 : (pickL (a.take i) b is).length ≤ a.length := Nat.le_trans (List.length_filter_le _ _) (by simp; omega)
      simp only [go_sem, List.length_map, Il_get a i hlt]
      (repeat (refine ⟨by omega, ?_⟩))
      refine WE_pure _ _ _ _ _ _ _ _ (rAt_c _ _ _ _ (by omega) _) ?_
      simp only [go_sem]
      simp only [go_sem, elsOk_Il, Il_app, List.length_map, Il_get a i hlt]
      split
      · rename_i hc
        (repeat (refine ⟨by omega, ?_⟩))
        refine LP_next (i + 1, v + 1) (by simp only; omega) (by simp only; omega) ?_
        rw [e1, pick_succ a b is i hlt, if_pos (by rw [hc]; exact beq_self_eq_true _)]
        refine imp_loc (by ((try simp only [cells_agg, cells_lit, leL_cons, leL_nil, leA_any, leA_lits, leA_isl, leA_self, and_self, true_and, and_true, or_true, true_or, Value.int.injEq, Value.bool.injEq, Value.string.injEq, AV.lit.injEq, Option.some.injEq, Blk.cells.injEq, Blk.tok.injEq, List.cons.injEq, Tk.at.injEq, subL_nil, subL_cons, look_nil, look_cons, ↓reduceIte, Nat.reduceEqDiff, Option.isSome_some, reduceCtorEq, or_false, false_or, if_true, if_false]); (try first | done | omega | (simp; done) | (simp; omega)))) (by ((try simp only [cells_agg, cells_lit, leL_cons, leL_nil, leA_any, leA_lits, leA_isl, leA_self, and_self, true_and, and_true, or_true, true_or, Value.int.injEq, Value.bool.injEq, Value.string.injEq, AV.lit.injEq, Option.some.injEq, Blk.cells.injEq, Blk.tok.injEq, List.cons.injEq, Tk.at.injEq, subL_nil, subL_cons, look_nil, look_cons, ↓reduceIte, Nat.reduceEqDiff, Option.isSome_some, reduceCtorEq, or_false, false_or, if_true, if_false]); (try first | done | omega | (simp; done) | (simp; omega)))) (by ((try simp only [cells_agg, cells_lit, List.mem_cons, List.not_mem_nil, or_false, forall_eq_or_imp, forall_eq, only_any, only_lit', only_iptr, only_no, only_full, only_at, only_ptr, only_osl, only_agg, only_tup, only_fn, and_self, implies_true, and_true, true_and, okL_nil, okL_cons, bonly_cells, bonly_tok, keepP_add, look_nil, look_cons, ↓reduceIte, Nat.reduceEqDiff, Option.isSome_some, reduceCtorEq, false_or, if_true, if_false, false_implies]); (try first | done | omega | ((repeat' refine And.intro ?_ ?_) <;> (intro _ hx; obtain ⟨_, -, rfl⟩ := List.mem_map.1 hx; exact .lit _))))) (by ((try simp only [cells_agg, cells_lit, List.mem_cons, List.not_mem_nil, or_false, forall_eq_or_imp, forall_eq, only_any, only_lit', only_iptr, only_no, only_full, only_at, only_ptr, only_osl, only_agg, only_tup, only_fn, and_self, implies_true, and_true, true_and, okL_nil, okL_cons, bonly_cells, bonly_tok, keepP_add, look_nil, look_cons, ↓reduceIte, Nat.reduceEqDiff, Option.isSome_some, reduceCtorEq, false_or, if_true, if_false, false_implies]); (try first | done | omega | ((repeat' refine And.intro ?_ ?_) <;> (intro _ hx; obtain ⟨_, -, rfl⟩ := List.mem_map.1 hx; exact .lit _)))))
      · rename_i hc
        refine LP_next (i + 1, v) (by simp only; omega) (by simp only; omega) ?_
        rw [e1, pick_succ a b is i hlt, if_neg (by simpa using hc)]
        refine imp_loc (by ((try simp only [cells_agg, cells_lit, leL_cons, leL_nil, leA_any, leA_lits, leA_isl, leA_self, and_self, true_and, and_true, or_true, true_or, Value.int.injEq, Value.bool.injEq, Value.string.injEq, AV.lit.injEq, Option.some.injEq, Blk.cells.injEq, Blk.tok.injEq, List.cons.injEq, Tk.at.injEq, subL_nil, subL_cons, look_nil, look_cons, ↓reduceIte, Nat.reduceEqDiff, Option.isSome_some, reduceCtorEq, or_false, false_or, if_true, if_false]); (try first | done | omega | (simp; done) | (simp; omega)))) (by ((try simp only [cells_agg, cells_lit, leL_cons, leL_nil, leA_any, leA_lits, leA_isl, leA_self, and_self, true_and, and_true, or_true, true_or, Value.int.injEq, Value.bool.injEq, Value.string.injEq, AV.lit.injEq, Option.some.injEq, Blk.cells.injEq, Blk.tok.injEq, List.cons.injEq, Tk.at.injEq, subL_nil, subL_cons, look_nil, look_cons, ↓reduceIte, Nat.reduceEqDiff, Option.isSome_some, reduceCtorEq, or_false, false_or, if_true, if_false]); (try first | done | omega | (simp; done) | (simp; omega)))) (by ((try simp only [cells_agg, cells_lit, List.mem_cons, List.not_mem_nil, or_false, forall_eq_or_imp, forall_eq, only_any, only_lit', only_iptr, only_no, only_full, only_at, only_ptr, only_osl, only_agg, only_tup, only_fn, and_self, implies_true, and_true, true_and, okL_nil, okL_cons, bonly_cells, bonly_tok, keepP_add, look_nil, look_cons, ↓reduceIte, Nat.reduceEqDiff, Option.isSome_some, reduceCtorEq, false_or, if_true, if_false, false_implies]); (try first | done | omega | ((repeat' refine And.intro ?_ ?_) <;> (intro _ hx; obtain ⟨_, -, rfl⟩ := List.mem_map.1 hx; exact .lit _))))) (by ((try simp only [cells_agg, cells_lit, List.mem_cons, List.not_mem_nil, or_false, forall_eq_or_imp, forall_eq, only_any, only_lit', only_iptr, only_no, only_full, only_at, only_ptr, only_osl, only_agg, only_tup, only_fn, and_self, implies_true, and_true, true_and, okL_nil, okL_cons, bonly_cells, bonly_tok, keepP_add, look_nil, look_cons, ↓reduceIte, Nat.reduceEqDiff, Option.isSome_some, reduceCtorEq, false_or, if_true, if_false, false_implies]); (try first | done | omega | ((repeat' refine And.intro ?_ ?_) <;> (intro _ hx; obtain ⟨_, -, rfl⟩ := List.mem_map.1 hx; exact .lit _)))))
    · have : i = a.length := by omega
      subst this
      rw [List.take_length]
      refine FnPost_end hn0 (by simp) rfl (by simp only [only_tup, List.mem_cons, List.not_mem_nil, or_false, forall_eq_or_imp, forall_eq, only_any, only_lit', only_full, only_no, only_iptr, only_agg, and_self, and_true, true_and, implies_true, or_false]) ?_
      simp only [go_sem]
      exact ⟨.inl rfl, rfl, .inl rfl⟩
theorem few_c (nl : Option Bool) (l : List Int) (tok : Tk) (m : Nat) (hm : m ≤ 1000) (hl : l.length ≤ 9000000000000000000) (g : GH) : PureC Try.prog 21 [.isl nl (Il l) tok, I64 m] g (.isl none (Il (l.take m)) .no) := by
  refine CallC.body (fun _ => none) (fun d => if d = 7 then 1 else 0) Try.func21 rfl Try.results21 Try.ntmps21 ?_
  intro n0 hn0
  simp only [go_sem]
  refine WC_loop (fun i : Nat => [.isl nl (Il l) .no, I64 m, .any, .any, .any, .isl (some false) (Il (l.take i)) (.at (n0 + 7) i), I64 i, .any, .any, .any, .any, .any, .any, .any, .any, .any, .any, .any, .any, .any, .any, .any, .any, .any, .any, .any, .any]) (fun i => ⟨g, [(7, .tok i)]⟩) (fun i => i ≤ l.length ∧ i ≤ m) (fun i => m - i) 0 (by simp) ?_ ?_
  · have e0 : Il ([] : List Int) = [] := rfl
    refine imp_loc (by ((try simp only [cells_agg, cells_lit, leL_cons, leL_nil, leA_any, leA_lits, leA_isl, leA_self, and_self, true_and, and_true, or_true, true_or, Value.int.injEq, Value.bool.injEq, Value.string.injEq, AV.lit.injEq, Option.some.injEq, Blk.cells.injEq, Blk.tok.injEq, List.cons.injEq, Tk.at.injEq, subL_nil, subL_cons, look_nil, look_cons, ↓reduceIte, Nat.reduceEqDiff, Option.isSome_some, reduceCtorEq, or_false, false_or, if_true, if_false, e0, List.take_zero]); (try first | done | omega | (simp; done) | (simp; omega)))) (by ((try simp only [cells_agg, cells_lit, leL_cons, leL_nil, leA_any, leA_lits, leA_isl, leA_self, and_self, true_and, and_true, or_true, true_or, Value.int.injEq, Value.bool.injEq, Value.string.injEq, AV.lit.injEq, Option.some.injEq, Blk.cells.injEq, Blk.tok.injEq, List.cons.injEq, Tk.at.injEq, subL_nil, subL_cons, look_nil, look_cons, ↓reduceIte, Nat.reduceEqDiff, Option.isSome_some, reduceCtorEq, or_false, false_or, if_true, if_false, e0, List.take_zero]); (try first | done | omega | (simp; done) | (simp; omega)))) (by ((try simp only [cells_agg, cells_lit, List.mem_cons, List.not_mem_nil, or_false, forall_eq_or_imp, forall_eq, only_any, only_lit', only_iptr, only_no, only_full, only_at, only_ptr, only_osl, only_agg, only_tup, only_fn, and_self, implies_true, and_true, true_and, okL_nil, okL_cons, bonly_cells, bonly_tok, keepP_add, look_nil, look_cons, ↓reduceIte, Nat.reduceEqDiff, Option.isSome_some, reduceCtorEq, false_or, if_true, if_false, false_implies, e0, List.take_zero]); (try first | done | omega | ((repeat' refine And.intro ?_ ?_) <;> (intro _ hx; obtain ⟨_, -, rfl⟩ := List.mem_map.1 hx; exact .lit _))))) (by ((try simp only [cells_agg, cells_lit, List.mem_cons, List.not_mem_nil, or_false, forall_eq_or_imp, forall_eq, only_any, only_lit', only_iptr, only_no, only_full, only_at, only_ptr, only_osl, only_agg, only_tup, only_fn, and_self, implies_true, and_true, true_and, okL_nil, okL_cons, bonly_cells, bonly_tok, keepP_add, look_nil, look_cons, ↓reduceIte, Nat.reduceEqDiff, Option.isSome_some, reduceCtorEq, false_or, if_true, if_false, false_implies, e0, List.take_zero]); (try first | done | omega | ((repeat' refine And.intro ?_ ?_) <;> (intro _ hx; obtain ⟨_, -, rfl⟩ := List.mem_map.1 hx; exact .lit _)))))
  · rintro i ⟨hi, hi2⟩
    simp only [go_sem, List.length_map]
    by_cases hlt : i < l.length
    · have hlt2 : (i : Int) < (l.length : Int) := by omega
      by_cases hlm : i < m
      · have hlm2 : (i : Int) < (m : Int) := by omega
        have e1 : IntKind.i64.wrap ((i : Int) + 1) = ((i + 1 : Nat) : Int) := by rw [wrap_i64]; omega
        have e2 : l.take i ++ [l.getD i 0] = l.take (i + 1) := by
          rw [List.take_succ_eq_append_getElem hlt]; simp [List.getD_eq_getElem?_getD, hlt]
        have e3 : (l.take i).length = i := by simp; omega
        simp only [go_sem, hlt2, hlm2, List.length_map, Il_get l i hlt, elsOk_Il, Il_app, e2, e3]
        (repeat (refine ⟨by omega, ?_⟩))
        refine LP_next (i + 1) (by omega) (by omega) ?_
        rw [e1]
        refine imp_loc (by ((try simp only [cells_agg, cells_lit, leL_cons, leL_nil, leA_any, leA_lits, leA_isl, leA_self, and_self, true_and, and_true, or_true, true_or, Value.int.injEq, Value.bool.injEq, Value.string.injEq, AV.lit.injEq, Option.some.injEq, Blk.cells.injEq, Blk.tok.injEq, List.cons.injEq, Tk.at.injEq, subL_nil, subL_cons, look_nil, look_cons, ↓reduceIte, Nat.reduceEqDiff, Option.isSome_some, reduceCtorEq, or_false, false_or, if_true, if_false]); (try first | done | omega | (simp; done) | (simp; omega)))) (by ((try simp only [cells_agg, cells_lit, leL_cons, leL_nil, leA_any, leA_lits, leA_isl, leA_self, and_self, true_and, and_true, or_true, true_or, Value.int.injEq, Value.bool.injEq, Value.string.injEq, AV.lit.injEq, Option.some.injEq, Blk.cells.injEq, Blk.tok.injEq, List.cons.injEq, Tk.at.injEq, subL_nil, subL_cons, look_nil, look_cons, ↓reduceIte, Nat.reduceEqDiff, Option.isSome_some, reduceCtorEq, or_false, false_or, if_true, if_false]); (try first | done | omega | (simp; done) | (simp; omega)))) (by ((try simp only [cells_agg, cells_lit, List.mem_cons, List.not_mem_nil, or_false, forall_eq_or_imp, forall_eq, only_any, only_lit', only_iptr, only_no, only_full, only_at, only_ptr, only_osl, only_agg, only_tup, only_fn, and_self, implies_true, and_true, true_and, okL_nil, okL_cons, bonly_cells, bonly_tok, keepP_add, look_nil, look_cons, ↓reduceIte, Nat.reduceEqDiff, Option.isSome_some, reduceCtorEq, false_or, if_true, if_false, false_implies]); (try first | done | omega | ((repeat' refine And.intro ?_ ?_) <;> (intro _ hx; obtain ⟨_, -, rfl⟩ := List.mem_map.1 hx; exact .lit _))))) (by ((try simp only [cells_agg, cells_lit, List.mem_cons, List.not_mem_nil, or_false, forall_eq_or_imp, forall_eq, only_any, only_lit', only_iptr, only_no, only_full, only_at, only_ptr, only_osl, only_agg, only_tup, only_fn, and_self, implies_true, and_true, true_and, okL_nil, okL_cons, bonly_cells, bonly_tok, keepP_add, look_nil, look_cons, ↓reduceIte, Nat.reduceEqDiff, Option.isSome_some, reduceCtorEq, false_or, if_true, if_false, false_implies]); (try first | done | omega | ((repeat' refine And.intro ?_ ?_) <;> (intro _ hx; obtain ⟨_, -, rfl⟩ := List.mem_map.1 hx; exact .lit _)))))
      · have hlm2 : ¬ (i : Int) < (m : Int) := by omega
        have : i = m := by omega
        subst this
        simp only [go_sem, hlt2, hlm2]
        refine FnPost_end hn0 (by simp) rfl (by simp only [only_tup, List.mem_cons, List.not_mem_nil, or_false, forall_eq_or_imp, forall_eq, only_any, only_lit', only_full, only_no, only_iptr, only_agg, and_self, and_true, true_and, implies_true, or_false]) ?_
        simp only [go_sem]
        exact ⟨.inl rfl, rfl, .inl rfl⟩
    · have hlt2 : ¬ (i : Int) < (l.length : Int) := by omega
      have : i = l.length := by omega
      subst this
      simp only [go_sem, hlt2]
      refine FnPost_end hn0 (by simp) rfl (by simp only [only_tup, List.mem_cons, List.not_mem_nil, or_false, forall_eq_or_imp, forall_eq, only_any, only_lit', only_full, only_no, only_iptr, only_agg, and_self, and_true, true_and, implies_true, or_false]) ?_
      simp only [go_sem]
      exact ⟨.inl rfl, by rw [List.take_length, List.take_of_length_le hi2], .inl rfl⟩
theorem rSame_c (nl nl2 : Option Bool) (a b : List Int) (tok tok2 : Tk) (hl : a.length ≤ 9000000000000000000) (g : GH) : PureC Try.prog 20 [.isl nl (Il a) tok, .isl nl2 (Il b) tok2] g (BB (decide (a = b))) := by
  refine CallC.body (fun _ => none) (fun _ => 0) Try.func20 rfl Try.results20 Try.ntmps20 ?_
  intro n0 hn0
  simp only [go_sem]
  simp only [go_sem, List.length_map]
  split
  · rename_i hne
    refine FnPost_end hn0 (by simp) rfl (only_lit _ _) ?_
    simp only [go_sem]
    refine leA_bool ?_
    rw [eq_comm, decide_eq_false_iff_not]
    rintro rfl; exact hne rfl
  · rename_i heq
    have heq : a.length = b.length := by omega
    refine WC_loop (fun i : Nat => [.isl nl (Il a) .no, .isl nl2 (Il b) .no, .any, .any, .any, I64 i, .any, .any, .any, .any, .any, .any, .any, .any, .any, .any, .any, .any, .any, .any, .any, .any, .any, .any, .any, .any]) (fun i => ⟨g, []⟩) (fun i => i ≤ a.length ∧ ∀ j, j < i → a.getD j 0 = b.getD j 0) (fun i => a.length - i) 0 ⟨by simp, fun j hj => by omega⟩ ?_ ?_
    · refine imp_loc (by ((try simp only [cells_agg, cells_lit, leL_cons, leL_nil, leA_any, leA_lits, leA_isl, leA_self, and_self, true_and, and_true, or_true, true_or, Value.int.injEq, Value.bool.injEq, Value.string.injEq, AV.lit.injEq, Option.some.injEq, Blk.cells.injEq, Blk.tok.injEq, List.cons.injEq, Tk.at.injEq, subL_nil, subL_cons, look_nil, look_cons, ↓reduceIte, Nat.reduceEqDiff, Option.isSome_some, reduceCtorEq, or_false, false_or, if_true, if_false]); (try first | done | omega | (simp; done) | (simp; omega)))) (by ((try simp only [cells_agg, cells_lit, leL_cons, leL_nil, leA_any, leA_lits, leA_isl, leA_self, and_self, true_and, and_true, or_true, true_or, Value.int.injEq, Value.bool.injEq, Value.string.injEq, AV.lit.injEq, Option.some.injEq, Blk.cells.injEq, Blk.tok.injEq, List.cons.injEq, Tk.at.injEq, subL_nil, subL_cons, look_nil, look_cons, ↓reduceIte, Nat.reduceEqDiff, Option.isSome_some, reduceCtorEq, or_false, false_or, if_true, if_false]); (try first | done | omega | (simp; done) | (simp; omega)))) (by ((try simp only [cells_agg, cells_lit, List.mem_cons, List.not_mem_nil, or_false, forall_eq_or_imp, forall_eq, only_any, only_lit', only_iptr, only_no, only_full, only_at, only_ptr, only_osl, only_agg, only_tup, only_fn, and_self, implies_true, and_true, true_and, okL_nil, okL_cons, bonly_cells, bonly_tok, keepP_add, look_nil, look_cons, ↓reduceIte, Nat.reduceEqDiff, Option.isSome_some, reduceCtorEq, false_or, if_true, if_false, false_implies]); (try first | done | omega | ((repeat' refine And.intro ?_ ?_) <;> (intro _ hx; obtain ⟨_, -, rfl⟩ := List.mem_map.1 hx; exact .lit _))))) (by ((try simp only [cells_agg, cells_lit, List.mem_cons, List.not_mem_nil, or_false, forall_eq_or_imp, forall_eq, only_any, only_lit', only_iptr, only_no, only_full, only_at, only_ptr, only_osl, only_agg, only_tup, only_fn, and_self, implies_true, and_true, true_and, okL_nil, okL_cons, bonly_cells, bonly_tok, keepP_add, look_nil, look_cons, ↓reduceIte, Nat.reduceEqDiff, Option.isSome_some, reduceCtorEq, false_or, if_true, if_false, false_implies]); (try first | done | omega | ((repeat' refine And.intro ?_ ?_) <;> (intro _ hx; obtain ⟨_, -, rfl⟩ := List.mem_map.1 hx; exact .lit _)))))
    · rintro i ⟨hi, hi2⟩
      simp only [go_sem, List.length_map]
      split
      · rename_i hlt
        have hlt : i < a.length := by omega
        have e1 : IntKind.i64.wrap ((i : Int) + 1) = ((i + 1 : Nat) : Int) := by rw [wrap_i64]; omega
        refine WC_draw Ty.mixed (by kernel_rfl) ?_
        simp only [go_sem, List.length_map, Il_get a i hlt, Il_get b i (by omega)]
        (repeat (refine ⟨by omega, ?_⟩))
        split
        · rename_i hne
          refine FnPost_end hn0 (by simp) rfl (only_lit _ _) ?_
          simp only [go_sem]
          refine leA_bool ?_
          rw [eq_comm, decide_eq_false_iff_not]
          rintro rfl; exact hne rfl
        · rename_i hne
          have hne : a.getD i 0 = b.getD i 0 := Classical.not_not.1 hne
          refine LP_next (i + 1) ⟨by omega, fun j hj => by
            by_cases e : j = i
            · rw [e]; exact hne
            · exact hi2 j (by omega)⟩ (by omega) ?_
          rw [e1]
          refine imp_loc (by ((try simp only [cells_agg, cells_lit, leL_cons, leL_nil, leA_any, leA_lits, leA_isl, leA_self, and_self, true_and, and_true, or_true, true_or, Value.int.injEq, Value.bool.injEq, Value.string.injEq, AV.lit.injEq, Option.some.injEq, Blk.cells.injEq, Blk.tok.injEq, List.cons.injEq, Tk.at.injEq, subL_nil, subL_cons, look_nil, look_cons, ↓reduceIte, Nat.reduceEqDiff, Option.isSome_some, reduceCtorEq, or_false, false_or, if_true, if_false]); (try first | done | omega | (simp; done) | (simp; omega)))) (by ((try simp only [cells_agg, cells_lit, leL_cons, leL_nil, leA_any, leA_lits, leA_isl, leA_self, and_self, true_and, and_true, or_true, true_or, Value.int.injEq, Value.bool.injEq, Value.string.injEq, AV.lit.injEq, Option.some.injEq, Blk.cells.injEq, Blk.tok.injEq, List.cons.injEq, Tk.at.injEq, subL_nil, subL_cons, look_nil, look_cons, ↓reduceIte, Nat.reduceEqDiff, Option.isSome_some, reduceCtorEq, or_false, false_or, if_true, if_false]); (try first | done | omega | (simp; done) | (simp; omega)))) (by ((try simp only [cells_agg, cells_lit, List.mem_cons, List.not_mem_nil, or_false, forall_eq_or_imp, forall_eq, only_any, only_lit', only_iptr, only_no, only_full, only_at, only_ptr, only_osl, only_agg, only_tup, only_fn, and_self, implies_true, and_true, true_and, okL_nil, okL_cons, bonly_cells, bonly_tok, keepP_add, look_nil, look_cons, ↓reduceIte, Nat.reduceEqDiff, Option.isSome_some, reduceCtorEq, false_or, if_true, if_false, false_implies]); (try first | done | omega | ((repeat' refine And.intro ?_ ?_) <;> (intro _ hx; obtain ⟨_, -, rfl⟩ := List.mem_map.1 hx; exact .lit _))))) (by ((try simp only [cells_agg, cells_lit, List.mem_cons, List.not_mem_nil, or_false, forall_eq_or_imp, forall_eq, only_any, only_lit', only_iptr, only_no, only_full, only_at, only_ptr, only_osl, only_agg, only_tup, only_fn, and_self, implies_true, and_true, true_and, okL_nil, okL_cons, bonly_cells, bonly_tok, keepP_add, look_nil, look_cons, ↓reduceIte, Nat.reduceEqDiff, Option.isSome_some, reduceCtorEq, false_or, if_true, if_false, false_implies]); (try first | done | omega | ((repeat' refine And.intro ?_ ?_) <;> (intro _ hx; obtain ⟨_, -, rfl⟩ := List.mem_map.1 hx; exact .lit _)))))
      · have : i = a.length := by omega
        subst this
        refine FnPost_end hn0 (by simp) rfl (only_lit _ _) ?_
        simp only [go_sem]
        refine leA_bool ?_
        rw [eq_comm, decide_eq_true_eq]
        apply List.ext_getElem heq
        intro j h1 h2
        have := hi2 j h1
        rw [List.getD_eq_getElem?_getD, List.getD_eq_getElem?_getD] at this
        simpa [h1, h2] using this
theorem wordsL_succ (l : List Int) (i : Nat) (h : i < l.length) : wordsL (l.take (i + 1)) = addN (wordsL (l.take i)) (l.getD i 0).toNat := by
  unfold wordsL
  rw [List.take_succ_eq_append_getElem h, List.foldl_append]
  simp [List.getD_eq_getElem?_getD, h]
theorem NB_bitW (k : Nat) : (2 : Int) ^ (k % 64) = NB (bitW k) := by
  unfold NB bitW
  rw [BitVec.toNat_twoPow, Nat.mod_eq_of_lt (Nat.pow_lt_pow_right (by omega) (Nat.mod_lt k (by omega))), Int.natCast_pow]; rfl
theorem addB (x : W64) (k : Nat) : IntKind.u64.wrap (NB x + (2 : Int) ^ (k % 64)) = NB (x + bitW k) := by rw [NB_bitW, NB_add]
theorem pow_step (q : Nat) (h : q < 63) : IntKind.u64.wrap (2 * 2 ^ q) = 2 ^ (q + 1) := by
  have h1 : (2 : Nat) ^ (q + 1) < 2 ^ 64 := Nat.pow_lt_pow_right (by omega) (by omega)
  have h2 : ((2 ^ (q + 1) : Nat) : Int) = (2 : Int) ^ (q + 1) := by rw [Int.natCast_pow]; rfl
  have h3 : (2 : Int) ^ (q + 1) = 2 * 2 ^ q := Int.pow_succ' ..
  rw [wrap_u64, h3]
  rw [h3] at h2
  generalize (2 : Nat) ^ (q + 1) = N at h1 h2
  generalize (2 : Int) ^ q = p at *
  omega
def padK (ws : List W64) (j : Nat) : List W64 := ws ++ List.replicate j 0#64
theorem padK_zero (ws : List W64) : padK ws 0 = ws := by simp [padK]
theorem padK_len (ws : List W64) (j : Nat) : (padK ws j).length = ws.length + j := by simp [padK]
theorem padK_succ (ws : List W64) (j : Nat) : Wl (padK ws j) ++ [U64 0] = Wl (padK ws (j + 1)) := by
  unfold padK; rw [List.replicate_succ']; simp; rfl
end Go.Proofs.Ytjinngfpbmkhaaa.Set
