import Derived.Test.YtjinngfpbmkhaaaHypD
/- Hypergraphs: Join, Left, Acyclic; the document's Good, Edge and fits. -/
namespace Go.Proofs.Ytjinngfpbmkhaaa.Hyp
open Go Go.Av Go.Proofs.Ytjinngfpbmkhaaa.Set
set_option linter.unusedSimpArgs false
set_option linter.unusedVariables false
theorem acyclic_c (N : Int) (nl : Option Bool) (E : Edges) (t : Bool) (hE : szH E) (hR : rgH E) (g : GH) :
    PureC Try.prog 60 [HA' N nl E t] g (BB (goodH N E && decide ((joinH E).2.length ≤ 1))) := by
  refine CallC.body (fun _ => none) (fun _ => 0) Try.func60 rfl Try.results60 Try.ntmps60 ?_
  intro n0 hn0
  simp only [go_sem]
  refine WE_pure _ _ _ _ _ _ _ _ (join_c N nl E t hE hR _) ?_
  simp only [go_sem]
  refine WE_pure _ _ _ _ _ _ _ _ (good_c N nl E t hE _) ?_
  simp only [go_sem]
  cases hg : goodH N E with
  | true =>
    simp only [go_sem, hg, List.length_map]
    refine FnPost_end hn0 (by simp) rfl (only_lit _ _) ?_
    simp only [go_sem]
    exact leA_bool (by rw [Bool.eq_iff_iff]; simp; omega)
  | false =>
    simp only [go_sem, hg]
    refine FnPost_end hn0 (by simp) rfl (only_lit _ _) ?_
    simp only [go_sem]
    exact leA_bool rfl
theorem Acyclic_c (N : Int) (nl : Option Bool) (E : Edges) (t : Bool) (hE : szH E) (hR : rgH E) (g : GH) :
    PureC Try.prog 17 [HA' N nl E t] g (BB (goodH N E && decide ((joinH E).2.length ≤ 1))) := by
  refine CallC.body (fun _ => none) (fun _ => 0) Try.func17 rfl Try.results17 Try.ntmps17 ?_
  intro n0 hn0
  simp only [go_sem]
  refine WE_pure _ _ _ _ _ _ _ _ (acyclic_c N nl E t hE hR _) ?_
  simp only [go_sem]
  refine FnPost_end hn0 (by simp) rfl (only_lit _ _) ?_
  simp only [go_sem]
  exact leA_bool rfl
def joinR (N : Int) (E : Edges) : List Int × Int := if goodH N E = true then (if 1 < (joinH E).2.length then ([], 9) else ((joinH E).1, 0)) else ([], 1)
theorem Join_c (N : Int) (nl : Option Bool) (E : Edges) (t : Bool) (hE : szH E) (hR : rgH E) (g : GH) :
    PureC Try.prog 13 [HA' N nl E t] g (.tup [.isl none (Il (joinR N E).1) .no, I64 (joinR N E).2]) := by
  refine CallC.body (fun _ => none) (fun _ => 0) Try.func13 rfl Try.results13 Try.ntmps13 ?_
  intro n0 hn0
  simp only [go_sem]
  refine WE_pure _ _ _ _ _ _ _ _ (good_c N nl E t hE _) ?_
  simp only [go_sem]
  unfold joinR
  cases hg : goodH N E with
  | false =>
    simp only [go_sem, hg]
    refine FnPost_imp (fr' := [.any, .any, .isl none [] .no, I64 1, .any, .any, .any, .any, .any, .any, .any, .any, .any, .any, .any, .any, .any, .any]) (h' := ⟨g, []⟩) (by refine imp_loc (by ((try simp only [cells_agg, cells_lit, leL_cons, leL_nil, leA_any, leA_lits, leA_isl, leA_self, and_self, true_and, and_true, or_true, true_or, Value.int.injEq, Value.bool.injEq, Value.string.injEq, AV.lit.injEq, Option.some.injEq, Blk.cells.injEq, Blk.tok.injEq, List.cons.injEq, Tk.at.injEq, subL_nil, subL_cons, look_nil, look_cons, ↓reduceIte, Nat.reduceEqDiff, Option.isSome_some, reduceCtorEq, or_false, false_or, if_true, if_false]); (try first | done | omega | (simp; done) | (simp; omega)))) (by ((try simp only [cells_agg, cells_lit, leL_cons, leL_nil, leA_any, leA_lits, leA_isl, leA_self, and_self, true_and, and_true, or_true, true_or, Value.int.injEq, Value.bool.injEq, Value.string.injEq, AV.lit.injEq, Option.some.injEq, Blk.cells.injEq, Blk.tok.injEq, List.cons.injEq, Tk.at.injEq, subL_nil, subL_cons, look_nil, look_cons, ↓reduceIte, Nat.reduceEqDiff, Option.isSome_some, reduceCtorEq, or_false, false_or, if_true, if_false]); (try first | done | omega | (simp; done) | (simp; omega)))) (by ((try simp only [cells_agg, cells_lit, List.mem_cons, List.not_mem_nil, or_false, forall_eq_or_imp, forall_eq, only_any, only_lit', only_iptr, only_no, only_full, only_at, only_ptr, only_osl, only_agg, only_tup, only_fn, and_self, implies_true, and_true, true_and, okL_nil, okL_cons, bonly_cells, bonly_tok, keepP_add, look_nil, look_cons, ↓reduceIte, Nat.reduceEqDiff, Option.isSome_some, reduceCtorEq, false_or, if_true, if_false, false_implies]); (try first | done | omega | ((repeat' refine And.intro ?_ ?_) <;> (intro _ hx; obtain ⟨_, -, rfl⟩ := List.mem_map.1 hx; exact .lit _))))) (by ((try simp only [cells_agg, cells_lit, List.mem_cons, List.not_mem_nil, or_false, forall_eq_or_imp, forall_eq, only_any, only_lit', only_iptr, only_no, only_full, only_at, only_ptr, only_osl, only_agg, only_tup, only_fn, and_self, implies_true, and_true, true_and, okL_nil, okL_cons, bonly_cells, bonly_tok, keepP_add, look_nil, look_cons, ↓reduceIte, Nat.reduceEqDiff, Option.isSome_some, reduceCtorEq, false_or, if_true, if_false, false_implies]); (try first | done | omega | ((repeat' refine And.intro ?_ ?_) <;> (intro _ hx; obtain ⟨_, -, rfl⟩ := List.mem_map.1 hx; exact .lit _)))))) ?_
    refine FnPost_end hn0 (by simp) rfl (by simp only [only_tup, List.mem_cons, List.not_mem_nil, or_false, forall_eq_or_imp, forall_eq, only_any, only_lit', only_full, only_no, only_iptr, only_agg, and_self, and_true, true_and, implies_true, or_false]) ?_
    simp only [go_sem]
    exact leA_refl _
  | true =>
    simp only [go_sem, hg]
    refine WE_pure _ _ _ _ _ _ _ _ (join_c N nl E t hE hR _) ?_
    simp only [go_sem]
    by_cases h1 : 1 < (joinH E).2.length
    · have c1 : (1 : Int) < ((joinH E).2.length : Int) := by omega
      simp only [go_sem, c1, List.length_map]
      refine FnPost_imp (fr' := [.any, .any, .isl none [] .no, I64 9, .any, .any, .any, .any, .any, .any, .any, .any, .any, .any, .any, .any, .any, .any]) (h' := ⟨g, []⟩) (by refine imp_loc (by ((try simp only [cells_agg, cells_lit, leL_cons, leL_nil, leA_any, leA_lits, leA_isl, leA_self, and_self, true_and, and_true, or_true, true_or, Value.int.injEq, Value.bool.injEq, Value.string.injEq, AV.lit.injEq, Option.some.injEq, Blk.cells.injEq, Blk.tok.injEq, List.cons.injEq, Tk.at.injEq, subL_nil, subL_cons, look_nil, look_cons, ↓reduceIte, Nat.reduceEqDiff, Option.isSome_some, reduceCtorEq, or_false, false_or, if_true, if_false]); (try first | done | omega | (simp; done) | (simp; omega)))) (by ((try simp only [cells_agg, cells_lit, leL_cons, leL_nil, leA_any, leA_lits, leA_isl, leA_self, and_self, true_and, and_true, or_true, true_or, Value.int.injEq, Value.bool.injEq, Value.string.injEq, AV.lit.injEq, Option.some.injEq, Blk.cells.injEq, Blk.tok.injEq, List.cons.injEq, Tk.at.injEq, subL_nil, subL_cons, look_nil, look_cons, ↓reduceIte, Nat.reduceEqDiff, Option.isSome_some, reduceCtorEq, or_false, false_or, if_true, if_false]); (try first | done | omega | (simp; done) | (simp; omega)))) (by ((try simp only [cells_agg, cells_lit, List.mem_cons, List.not_mem_nil, or_false, forall_eq_or_imp, forall_eq, only_any, only_lit', only_iptr, only_no, only_full, only_at, only_ptr, only_osl, only_agg, only_tup, only_fn, and_self, implies_true, and_true, true_and, okL_nil, okL_cons, bonly_cells, bonly_tok, keepP_add, look_nil, look_cons, ↓reduceIte, Nat.reduceEqDiff, Option.isSome_some, reduceCtorEq, false_or, if_true, if_false, false_implies]); (try first | done | omega | ((repeat' refine And.intro ?_ ?_) <;> (intro _ hx; obtain ⟨_, -, rfl⟩ := List.mem_map.1 hx; exact .lit _))))) (by ((try simp only [cells_agg, cells_lit, List.mem_cons, List.not_mem_nil, or_false, forall_eq_or_imp, forall_eq, only_any, only_lit', only_iptr, only_no, only_full, only_at, only_ptr, only_osl, only_agg, only_tup, only_fn, and_self, implies_true, and_true, true_and, okL_nil, okL_cons, bonly_cells, bonly_tok, keepP_add, look_nil, look_cons, ↓reduceIte, Nat.reduceEqDiff, Option.isSome_some, reduceCtorEq, false_or, if_true, if_false, false_implies]); (try first | done | omega | ((repeat' refine And.intro ?_ ?_) <;> (intro _ hx; obtain ⟨_, -, rfl⟩ := List.mem_map.1 hx; exact .lit _)))))) ?_
      refine FnPost_end hn0 (by simp) rfl (by simp only [only_tup, List.mem_cons, List.not_mem_nil, or_false, forall_eq_or_imp, forall_eq, only_any, only_lit', only_full, only_no, only_iptr, only_agg, and_self, and_true, true_and, implies_true, or_false]) ?_
      simp only [go_sem]
      simp only [if_true, if_pos h1]
      exact leA_refl _
    · have c1 : ¬ (1 : Int) < ((joinH E).2.length : Int) := by omega
      simp only [go_sem, c1, List.length_map]
      refine FnPost_end hn0 (by simp) rfl (by simp only [only_tup, List.mem_cons, List.not_mem_nil, or_false, forall_eq_or_imp, forall_eq, only_any, only_lit', only_full, only_no, only_iptr, only_agg, and_self, and_true, true_and, implies_true, or_false]) ?_
      simp only [go_sem]
      simp only [if_true, if_neg h1]
      exact leA_refl _
def leftR (N : Int) (E : Edges) : List Int := if goodH N E = true then (joinH E).2 else []
theorem Left_c (N : Int) (nl : Option Bool) (E : Edges) (t : Bool) (hE : szH E) (hR : rgH E) (g : GH) :
    PureC Try.prog 14 [HA' N nl E t] g (.isl none (Il (leftR N E)) .no) := by
  refine CallC.body (fun _ => none) (fun _ => 0) Try.func14 rfl Try.results14 Try.ntmps14 ?_
  intro n0 hn0
  simp only [go_sem]
  refine WE_pure _ _ _ _ _ _ _ _ (good_c N nl E t hE _) ?_
  simp only [go_sem]
  unfold leftR
  cases hg : goodH N E with
  | false =>
    simp only [go_sem, hg]
    refine FnPost_end hn0 (by simp) rfl (by simp only [only_tup, List.mem_cons, List.not_mem_nil, or_false, forall_eq_or_imp, forall_eq, only_any, only_lit', only_full, only_no, only_iptr, only_agg, and_self, and_true, true_and, implies_true, or_false]) ?_
    simp only [go_sem]
    exact ⟨.inl rfl, rfl, .inl rfl⟩
  | true =>
    simp only [go_sem, hg]
    refine WE_pure _ _ _ _ _ _ _ _ (join_c N nl E t hE hR _) ?_
    simp only [go_sem]
    refine FnPost_end hn0 (by simp) rfl (by simp only [only_tup, List.mem_cons, List.not_mem_nil, or_false, forall_eq_or_imp, forall_eq, only_any, only_lit', only_full, only_no, only_iptr, only_agg, and_self, and_true, true_and, implies_true, or_false]) ?_
    simp only [go_sem]
    exact leA_refl _
theorem rEdge_c (N : Int) (nl : Option Bool) (E : Edges) (t : Bool) (hE : szH E) (hs : ∀ j, j < E.length → (eG E j).2.2.length ≤ 500000) (i : Int) (hi : 0 ≤ i ∧ i < E.length) (g : GH) :
    PureC Try.prog 66 [HA' N nl E t, I64 i] g (.isl none (Il (setE E i.toNat)) .no) := by
  refine CallC.body (fun _ => none) (fun _ => 0) Try.func66 rfl Try.results66 Try.ntmps66 ?_
  intro n0 hn0
  simp only [go_sem]
  have hin : i.toNat < E.length := by omega
  simp only [go_sem, El_get E _ hin, List.length_map]
  (repeat (refine ⟨by omega, ?_⟩))
  refine WE_pure _ _ _ _ _ _ _ _ (rOf_c _ _ _ (hs _ hin) _) ?_
  simp only [go_sem]
  refine FnPost_end hn0 (by simp) rfl (by simp only [only_tup, List.mem_cons, List.not_mem_nil, or_false, forall_eq_or_imp, forall_eq, only_any, only_lit', only_full, only_no, only_iptr, only_agg, and_self, and_true, true_and, implies_true, or_false]) ?_
  simp only [go_sem]
  exact leA_refl _
theorem rGood_c (N : Int) (nl : Option Bool) (E : Edges) (t : Bool) (hE : szH E) (g : GH) :
    PureC Try.prog 16 [HA' N nl E t] g (BB (goodH N E)) := by
  refine CallC.body (fun _ => none) (fun _ => 0) Try.func16 rfl Try.results16 Try.ntmps16 ?_
  intro n0 hn0
  simp only [go_sem]
  have hl := hE.1
  have he := hE.2
  by_cases h1 : N < 0
  · simp only [go_sem, h1]
    refine FnPost_end hn0 (by simp) rfl (only_lit _ _) ?_
    simp only [go_sem]
    refine leA_bool ?_
    have : decide (0 ≤ N) = false := decide_eq_false (by omega)
    unfold goodH; rw [this]; simp
  by_cases h2 : 64 < N
  · simp only [go_sem, h1, h2]
    refine FnPost_end hn0 (by simp) rfl (only_lit _ _) ?_
    simp only [go_sem]
    refine leA_bool ?_
    have : decide (N ≤ 64) = false := decide_eq_false (by omega)
    unfold goodH; rw [this]; simp
  by_cases h3 : (64 : Int) < (E.length : Int)
  · simp only [go_sem, h1, h2, h3, List.length_map]
    refine FnPost_end hn0 (by simp) rfl (only_lit _ _) ?_
    simp only [go_sem]
    refine leA_bool ?_
    have : decide (E.length ≤ 64) = false := decide_eq_false (by omega)
    unfold goodH; rw [this]; simp
  simp only [go_sem, h1, h2, h3, List.length_map]
  refine WC_loop (fun i : Nat => [.any, .ptr (n0 + 1) 0 0, .any, I64 i, .any, .any, .any, .any, .any, .any, .any, .any, .any, .any, .any, .any, .any, .any, .any, .any, .any, .any, .any, .any, .any, .any, .any, .any, .any, .any, .any, .any, .any, .any, .any, .any, .any, .any, .any, .any, .any, .any, .any, .any, .any, .any, .any, .any, .any, .any, .any, .any, .any, .any, .any, .any, .any, .any]) (fun i => ⟨g, [(1, .cells 0 [I64 N, .isl nl (El E) (tkb t)])]⟩) (fun i => i ≤ E.length ∧ goodL N E i) (fun i => E.length - i) 0 ⟨by simp, fun j hj => by omega⟩ ?_ ?_
  · refine imp_loc (by ((try simp only [cells_agg, cells_lit, leL_cons, leL_nil, leA_any, leA_lits, leA_isl, leA_self, and_self, true_and, and_true, or_true, true_or, Value.int.injEq, Value.bool.injEq, Value.string.injEq, AV.lit.injEq, Option.some.injEq, Blk.cells.injEq, Blk.tok.injEq, List.cons.injEq, Tk.at.injEq, subL_nil, subL_cons, look_nil, look_cons, ↓reduceIte, Nat.reduceEqDiff, Option.isSome_some, reduceCtorEq, or_false, false_or, if_true, if_false, only_tkb]); (try first | done | omega | (simp; done) | (simp; omega)))) (by ((try simp only [cells_agg, cells_lit, leL_cons, leL_nil, leA_any, leA_lits, leA_isl, leA_self, and_self, true_and, and_true, or_true, true_or, Value.int.injEq, Value.bool.injEq, Value.string.injEq, AV.lit.injEq, Option.some.injEq, Blk.cells.injEq, Blk.tok.injEq, List.cons.injEq, Tk.at.injEq, subL_nil, subL_cons, look_nil, look_cons, ↓reduceIte, Nat.reduceEqDiff, Option.isSome_some, reduceCtorEq, or_false, false_or, if_true, if_false, only_tkb]); (try first | done | omega | (simp; done) | (simp; omega)))) (by ((try simp only [cells_agg, cells_lit, List.mem_cons, List.not_mem_nil, or_false, forall_eq_or_imp, forall_eq, only_any, only_lit', only_iptr, only_no, only_full, only_at, only_ptr, only_osl, only_agg, only_tup, only_fn, and_self, implies_true, and_true, true_and, okL_nil, okL_cons, bonly_cells, bonly_tok, keepP_add, look_nil, look_cons, ↓reduceIte, Nat.reduceEqDiff, Option.isSome_some, reduceCtorEq, false_or, if_true, if_false, false_implies, only_tkb]); (try first | done | omega | ((repeat' refine And.intro ?_ ?_) <;> (intro _ hx; obtain ⟨_, -, rfl⟩ := List.mem_map.1 hx; exact .lit _))))) (by ((try simp only [cells_agg, cells_lit, List.mem_cons, List.not_mem_nil, or_false, forall_eq_or_imp, forall_eq, only_any, only_lit', only_iptr, only_no, only_full, only_at, only_ptr, only_osl, only_agg, only_tup, only_fn, and_self, implies_true, and_true, true_and, okL_nil, okL_cons, bonly_cells, bonly_tok, keepP_add, look_nil, look_cons, ↓reduceIte, Nat.reduceEqDiff, Option.isSome_some, reduceCtorEq, false_or, if_true, if_false, false_implies, only_tkb]); (try first | done | omega | ((repeat' refine And.intro ?_ ?_) <;> (intro _ hx; obtain ⟨_, -, rfl⟩ := List.mem_map.1 hx; exact .lit _)))))
  · rintro i ⟨hi, hi2⟩
    simp only [go_sem, List.length_map]
    split
    · rename_i hlt
      have hlt : i < E.length := by omega
      have e1 : IntKind.i64.wrap ((i : Int) + 1) = ((i + 1 : Nat) : Int) := by rw [wrap_i64]; omega
      have h6 := he i hlt
      refine WC_loop (fun k : Nat => [.any, .ptr (n0 + 1) 0 0, .any, I64 i, I64 k, .any, .any, .any, .any, .any, .any, .any, .any, .any, .any, .any, .any, .any, .any, .any, .any, .any, .any, .any, .any, .any, .any, .any, .any, .any, .any, .any, .any, .any, .any, .any, .any, .any, .any, .any, .any, .any, .any, .any, .any, .any, .any, .any, .any, .any, .any, .any, .any, .any, .any, .any, .any, .any]) (fun k => ⟨g, [(1, .cells 0 [I64 N, .isl nl (El E) (tkb t)])]⟩) (fun k => k ≤ (eG E i).2.2.length ∧ ∀ j, j < k → inN N ((eG E i).2.2.getD j 0) = true) (fun k => (eG E i).2.2.length - k) 0 ⟨by simp, fun j hj => by omega⟩ ?_ ?_
      · refine imp_loc (by ((try simp only [cells_agg, cells_lit, leL_cons, leL_nil, leA_any, leA_lits, leA_isl, leA_self, and_self, true_and, and_true, or_true, true_or, Value.int.injEq, Value.bool.injEq, Value.string.injEq, AV.lit.injEq, Option.some.injEq, Blk.cells.injEq, Blk.tok.injEq, List.cons.injEq, Tk.at.injEq, subL_nil, subL_cons, look_nil, look_cons, ↓reduceIte, Nat.reduceEqDiff, Option.isSome_some, reduceCtorEq, or_false, false_or, if_true, if_false, only_tkb]); (try first | done | omega | (simp; done) | (simp; omega)))) (by ((try simp only [cells_agg, cells_lit, leL_cons, leL_nil, leA_any, leA_lits, leA_isl, leA_self, and_self, true_and, and_true, or_true, true_or, Value.int.injEq, Value.bool.injEq, Value.string.injEq, AV.lit.injEq, Option.some.injEq, Blk.cells.injEq, Blk.tok.injEq, List.cons.injEq, Tk.at.injEq, subL_nil, subL_cons, look_nil, look_cons, ↓reduceIte, Nat.reduceEqDiff, Option.isSome_some, reduceCtorEq, or_false, false_or, if_true, if_false, only_tkb]); (try first | done | omega | (simp; done) | (simp; omega)))) (by ((try simp only [cells_agg, cells_lit, List.mem_cons, List.not_mem_nil, or_false, forall_eq_or_imp, forall_eq, only_any, only_lit', only_iptr, only_no, only_full, only_at, only_ptr, only_osl, only_agg, only_tup, only_fn, and_self, implies_true, and_true, true_and, okL_nil, okL_cons, bonly_cells, bonly_tok, keepP_add, look_nil, look_cons, ↓reduceIte, Nat.reduceEqDiff, Option.isSome_some, reduceCtorEq, false_or, if_true, if_false, false_implies, only_tkb]); (try first | done | omega | ((repeat' refine And.intro ?_ ?_) <;> (intro _ hx; obtain ⟨_, -, rfl⟩ := List.mem_map.1 hx; exact .lit _))))) (by ((try simp only [cells_agg, cells_lit, List.mem_cons, List.not_mem_nil, or_false, forall_eq_or_imp, forall_eq, only_any, only_lit', only_iptr, only_no, only_full, only_at, only_ptr, only_osl, only_agg, only_tup, only_fn, and_self, implies_true, and_true, true_and, okL_nil, okL_cons, bonly_cells, bonly_tok, keepP_add, look_nil, look_cons, ↓reduceIte, Nat.reduceEqDiff, Option.isSome_some, reduceCtorEq, false_or, if_true, if_false, false_implies, only_tkb]); (try first | done | omega | ((repeat' refine And.intro ?_ ?_) <;> (intro _ hx; obtain ⟨_, -, rfl⟩ := List.mem_map.1 hx; exact .lit _)))))
      · rintro k ⟨hk, hk2⟩
        simp only [go_sem, List.length_map, El_get E i hlt]
        (repeat (refine ⟨by omega, ?_⟩))
        split
        · rename_i hltk
          have hltk : k < (eG E i).2.2.length := by omega
          have e2 : IntKind.i64.wrap ((k : Int) + 1) = ((k + 1 : Nat) : Int) := by rw [wrap_i64]; omega
          have bad : inN N ((eG E i).2.2.getD k 0) = false → goodH N E = false := by
            intro hb
            refine goodH_bad N E i hlt ?_
            cases hh : (eG E i).2.2.all (inN N) with
            | false => rfl
            | true => rw [List.all_eq_true.1 hh _ (getD_mem hltk)] at hb; cases hb
          by_cases c1 : (eG E i).2.2.getD k 0 < 0
          · refine WC_draw Ty.mixed (by kernel_rfl) ?_
            simp only [go_sem, c1, List.length_map, El_get E i hlt, Il_get _ k hltk]
            (repeat (refine ⟨by omega, ?_⟩))
            refine FnPost_end hn0 (by simp) rfl (only_lit _ _) ?_
            simp only [go_sem]
            refine leA_bool (bad ?_).symm
            unfold inN; rw [decide_eq_false (by omega : ¬ 0 ≤ (eG E i).2.2.getD k 0)]; rfl
          · by_cases c2 : N ≤ (eG E i).2.2.getD k 0
            · refine WC_draw Ty.mixed (by kernel_rfl) ?_
              simp only [go_sem, c1, c2, List.length_map, El_get E i hlt, Il_get _ k hltk]
              (repeat (refine ⟨by omega, ?_⟩))
              refine FnPost_end hn0 (by simp) rfl (only_lit _ _) ?_
              simp only [go_sem]
              refine leA_bool (bad ?_).symm
              unfold inN; rw [decide_eq_false (by omega : ¬ (eG E i).2.2.getD k 0 < N)]; simp
            · refine WC_draw Ty.mixed (by kernel_rfl) ?_
              simp only [go_sem, c1, c2, List.length_map, El_get E i hlt, Il_get _ k hltk]
              (repeat (refine ⟨by omega, ?_⟩))
              refine LP_next (k + 1) ⟨by omega, fun j hj => by
                by_cases e : j = k
                · rw [e]; unfold inN; rw [decide_eq_true (by omega : 0 ≤ (eG E i).2.2.getD k 0), decide_eq_true (by omega : (eG E i).2.2.getD k 0 < N)]; rfl
                · exact hk2 j (by omega)⟩ (by omega) ?_
              rw [e2]
              refine imp_loc (by ((try simp only [cells_agg, cells_lit, leL_cons, leL_nil, leA_any, leA_lits, leA_isl, leA_self, and_self, true_and, and_true, or_true, true_or, Value.int.injEq, Value.bool.injEq, Value.string.injEq, AV.lit.injEq, Option.some.injEq, Blk.cells.injEq, Blk.tok.injEq, List.cons.injEq, Tk.at.injEq, subL_nil, subL_cons, look_nil, look_cons, ↓reduceIte, Nat.reduceEqDiff, Option.isSome_some, reduceCtorEq, or_false, false_or, if_true, if_false, only_tkb]); (try first | done | omega | (simp; done) | (simp; omega)))) (by ((try simp only [cells_agg, cells_lit, leL_cons, leL_nil, leA_any, leA_lits, leA_isl, leA_self, and_self, true_and, and_true, or_true, true_or, Value.int.injEq, Value.bool.injEq, Value.string.injEq, AV.lit.injEq, Option.some.injEq, Blk.cells.injEq, Blk.tok.injEq, List.cons.injEq, Tk.at.injEq, subL_nil, subL_cons, look_nil, look_cons, ↓reduceIte, Nat.reduceEqDiff, Option.isSome_some, reduceCtorEq, or_false, false_or, if_true, if_false, only_tkb]); (try first | done | omega | (simp; done) | (simp; omega)))) (by ((try simp only [cells_agg, cells_lit, List.mem_cons, List.not_mem_nil, or_false, forall_eq_or_imp, forall_eq, only_any, only_lit', only_iptr, only_no, only_full, only_at, only_ptr, only_osl, only_agg, only_tup, only_fn, and_self, implies_true, and_true, true_and, okL_nil, okL_cons, bonly_cells, bonly_tok, keepP_add, look_nil, look_cons, ↓reduceIte, Nat.reduceEqDiff, Option.isSome_some, reduceCtorEq, false_or, if_true, if_false, false_implies, only_tkb]); (try first | done | omega | ((repeat' refine And.intro ?_ ?_) <;> (intro _ hx; obtain ⟨_, -, rfl⟩ := List.mem_map.1 hx; exact .lit _))))) (by ((try simp only [cells_agg, cells_lit, List.mem_cons, List.not_mem_nil, or_false, forall_eq_or_imp, forall_eq, only_any, only_lit', only_iptr, only_no, only_full, only_at, only_ptr, only_osl, only_agg, only_tup, only_fn, and_self, implies_true, and_true, true_and, okL_nil, okL_cons, bonly_cells, bonly_tok, keepP_add, look_nil, look_cons, ↓reduceIte, Nat.reduceEqDiff, Option.isSome_some, reduceCtorEq, false_or, if_true, if_false, false_implies, only_tkb]); (try first | done | omega | ((repeat' refine And.intro ?_ ?_) <;> (intro _ hx; obtain ⟨_, -, rfl⟩ := List.mem_map.1 hx; exact .lit _)))))
        · have : k = (eG E i).2.2.length := by omega
          subst this
          refine LP_next (i + 1) ⟨by omega, fun j hj => by
            by_cases e : j = i
            · rw [e, List.all_eq_true]
              intro x hx
              obtain ⟨q, hq, rfl⟩ := mem_getD hx
              exact hk2 q hq
            · exact hi2 j (by omega)⟩ (by omega) ?_
          rw [e1]
          refine imp_loc (by ((try simp only [cells_agg, cells_lit, leL_cons, leL_nil, leA_any, leA_lits, leA_isl, leA_self, and_self, true_and, and_true, or_true, true_or, Value.int.injEq, Value.bool.injEq, Value.string.injEq, AV.lit.injEq, Option.some.injEq, Blk.cells.injEq, Blk.tok.injEq, List.cons.injEq, Tk.at.injEq, subL_nil, subL_cons, look_nil, look_cons, ↓reduceIte, Nat.reduceEqDiff, Option.isSome_some, reduceCtorEq, or_false, false_or, if_true, if_false, only_tkb]); (try first | done | omega | (simp; done) | (simp; omega)))) (by ((try simp only [cells_agg, cells_lit, leL_cons, leL_nil, leA_any, leA_lits, leA_isl, leA_self, and_self, true_and, and_true, or_true, true_or, Value.int.injEq, Value.bool.injEq, Value.string.injEq, AV.lit.injEq, Option.some.injEq, Blk.cells.injEq, Blk.tok.injEq, List.cons.injEq, Tk.at.injEq, subL_nil, subL_cons, look_nil, look_cons, ↓reduceIte, Nat.reduceEqDiff, Option.isSome_some, reduceCtorEq, or_false, false_or, if_true, if_false, only_tkb]); (try first | done | omega | (simp; done) | (simp; omega)))) (by ((try simp only [cells_agg, cells_lit, List.mem_cons, List.not_mem_nil, or_false, forall_eq_or_imp, forall_eq, only_any, only_lit', only_iptr, only_no, only_full, only_at, only_ptr, only_osl, only_agg, only_tup, only_fn, and_self, implies_true, and_true, true_and, okL_nil, okL_cons, bonly_cells, bonly_tok, keepP_add, look_nil, look_cons, ↓reduceIte, Nat.reduceEqDiff, Option.isSome_some, reduceCtorEq, false_or, if_true, if_false, false_implies, only_tkb]); (try first | done | omega | ((repeat' refine And.intro ?_ ?_) <;> (intro _ hx; obtain ⟨_, -, rfl⟩ := List.mem_map.1 hx; exact .lit _))))) (by ((try simp only [cells_agg, cells_lit, List.mem_cons, List.not_mem_nil, or_false, forall_eq_or_imp, forall_eq, only_any, only_lit', only_iptr, only_no, only_full, only_at, only_ptr, only_osl, only_agg, only_tup, only_fn, and_self, implies_true, and_true, true_and, okL_nil, okL_cons, bonly_cells, bonly_tok, keepP_add, look_nil, look_cons, ↓reduceIte, Nat.reduceEqDiff, Option.isSome_some, reduceCtorEq, false_or, if_true, if_false, false_implies, only_tkb]); (try first | done | omega | ((repeat' refine And.intro ?_ ?_) <;> (intro _ hx; obtain ⟨_, -, rfl⟩ := List.mem_map.1 hx; exact .lit _)))))
    · have : i = E.length := by omega
      subst this
      refine FnPost_end hn0 (by simp) rfl (only_lit _ _) ?_
      simp only [go_sem]
      refine leA_bool ?_
      unfold goodH
      rw [(goodL_all N E).2 hi2, decide_eq_true (by omega : 0 ≤ N), decide_eq_true (by omega : N ≤ 64), decide_eq_true (by omega : E.length ≤ 64)]; rfl
/-- one vertex of what may be taken away -/
def fitV (E : Edges) (left : List Int) (i j v : Int) : Bool := !(left.any fun k => decide (k ≠ i) && isN (setE E k.toNat) v) || isN (setE E j.toNat) v
theorem ofL_len (l : List Int) : (ofL l).length ≤ l.length := by have := foldl_len l []; unfold ofL; simpa using this
theorem fits_c (N : Int) (nl : Option Bool) (E : Edges) (t : Bool) (hE : szH E) (hs : ∀ j, j < E.length → (eG E j).2.2.length ≤ 500000) (left : List Int) (nl2 : Option Bool) (tok2 : Tk) (hl : ∀ k, k ∈ left → 0 ≤ k ∧ k < E.length) (hll : left.length ≤ 1000000) (i j : Int) (hi : 0 ≤ i ∧ i < E.length) (hj : 0 ≤ j ∧ j < E.length) (g : GH) :
    PureC Try.prog 62 [HA' N nl E t, .isl nl2 (Il left) tok2, I64 i, I64 j] g (BB (fitsF E left i j)) := by
  refine CallC.body (fun _ => none) (fun _ => 0) Try.func62 rfl Try.results62 Try.ntmps62 ?_
  intro n0 hn0
  simp only [go_sem]
  refine WE_pure _ _ _ _ _ _ _ _ (rEdge_c N nl E t hE hs i hi _) ?_
  simp only [go_sem]
  have hei : (setE E i.toNat).length ≤ 500000 := Nat.le_trans (ofL_len _) (hs _ (by omega))
  refine WC_loop (fun a : Nat => [.any, .isl nl2 (Il left) .no, I64 i, I64 j, .ptr (n0 + 4) 0 0, .any, .any, .any, .any, .isl none (Il (setE E i.toNat)) .no, I64 a, .any, .any, .any, .any, .any, .any, .any, .any, .any, .any, .any, .any, .any, .any, .any, .any, .any, .any, .any, .any, .any, .any, .any, .any, .any, .any, .any, .any, .any, .any, .any, .any, .any, .any, .any, .any, .any, .any, .any, .any, .any, .any, .any, .any, .any, .any, .any, .any, .any, .any, .any, .any, .any, .any, .any, .any, .any, .any, .any, .any, .any, .any, .any]) (fun a => ⟨g, [(4, .cells 0 [I64 N, .isl nl (El E) (tkb t)])]⟩) (fun a => a ≤ (setE E i.toNat).length ∧ ∀ b, b < a → fitV E left i j ((setE E i.toNat).getD b 0) = true) (fun a => (setE E i.toNat).length - a) 0 ⟨by simp, fun j hj => by omega⟩ ?_ ?_
  · refine imp_loc (by ((try simp only [cells_agg, cells_lit, leL_cons, leL_nil, leA_any, leA_lits, leA_isl, leA_self, and_self, true_and, and_true, or_true, true_or, Value.int.injEq, Value.bool.injEq, Value.string.injEq, AV.lit.injEq, Option.some.injEq, Blk.cells.injEq, Blk.tok.injEq, List.cons.injEq, Tk.at.injEq, subL_nil, subL_cons, look_nil, look_cons, ↓reduceIte, Nat.reduceEqDiff, Option.isSome_some, reduceCtorEq, or_false, false_or, if_true, if_false, only_tkb]); (try first | done | omega | (simp; done) | (simp; omega)))) (by ((try simp only [cells_agg, cells_lit, leL_cons, leL_nil, leA_any, leA_lits, leA_isl, leA_self, and_self, true_and, and_true, or_true, true_or, Value.int.injEq, Value.bool.injEq, Value.string.injEq, AV.lit.injEq, Option.some.injEq, Blk.cells.injEq, Blk.tok.injEq, List.cons.injEq, Tk.at.injEq, subL_nil, subL_cons, look_nil, look_cons, ↓reduceIte, Nat.reduceEqDiff, Option.isSome_some, reduceCtorEq, or_false, false_or, if_true, if_false, only_tkb]); (try first | done | omega | (simp; done) | (simp; omega)))) (by ((try simp only [cells_agg, cells_lit, List.mem_cons, List.not_mem_nil, or_false, forall_eq_or_imp, forall_eq, only_any, only_lit', only_iptr, only_no, only_full, only_at, only_ptr, only_osl, only_agg, only_tup, only_fn, and_self, implies_true, and_true, true_and, okL_nil, okL_cons, bonly_cells, bonly_tok, keepP_add, look_nil, look_cons, ↓reduceIte, Nat.reduceEqDiff, Option.isSome_some, reduceCtorEq, false_or, if_true, if_false, false_implies, only_tkb]); (try first | done | omega | ((repeat' refine And.intro ?_ ?_) <;> (intro _ hx; obtain ⟨_, -, rfl⟩ := List.mem_map.1 hx; exact .lit _))))) (by ((try simp only [cells_agg, cells_lit, List.mem_cons, List.not_mem_nil, or_false, forall_eq_or_imp, forall_eq, only_any, only_lit', only_iptr, only_no, only_full, only_at, only_ptr, only_osl, only_agg, only_tup, only_fn, and_self, implies_true, and_true, true_and, okL_nil, okL_cons, bonly_cells, bonly_tok, keepP_add, look_nil, look_cons, ↓reduceIte, Nat.reduceEqDiff, Option.isSome_some, reduceCtorEq, false_or, if_true, if_false, false_implies, only_tkb]); (try first | done | omega | ((repeat' refine And.intro ?_ ?_) <;> (intro _ hx; obtain ⟨_, -, rfl⟩ := List.mem_map.1 hx; exact .lit _)))))
  · rintro a ⟨ha, ha2⟩
    simp only [go_sem, List.length_map]
    split
    · rename_i hlt
      have hlt : a < (setE E i.toNat).length := by omega
      have e1 : IntKind.i64.wrap ((a : Int) + 1) = ((a + 1 : Nat) : Int) := by rw [wrap_i64]; omega
      refine WC_loop (fun k : Nat => [.any, .isl nl2 (Il left) .no, I64 i, I64 j, .ptr (n0 + 4) 0 0, .any, .any, .any, .any, .isl none (Il (setE E i.toNat)) .no, I64 a, BB ((left.take k).any fun k => decide (k ≠ i) && isN (setE E k.toNat) ((setE E i.toNat).getD a 0)), I64 k, .any, .any, .any, .any, .any, .any, .any, .any, .any, .any, .any, .any, .any, .any, .any, .any, .any, .any, .any, .any, .any, .any, .any, .any, .any, .any, .any, .any, .any, .any, .any, .any, .any, .any, .any, .any, .any, .any, .any, .any, .any, .any, .any, .any, .any, .any, .any, .any, .any, .any, .any, .any, .any, .any, .any, .any, .any, .any, .any, .any, .any]) (fun k => ⟨g, [(4, .cells 0 [I64 N, .isl nl (El E) (tkb t)])]⟩) (fun k => k ≤ left.length) (fun k => left.length - k) 0 (by simp) ?_ ?_
      · refine imp_loc (by ((try simp only [cells_agg, cells_lit, leL_cons, leL_nil, leA_any, leA_lits, leA_isl, leA_self, and_self, true_and, and_true, or_true, true_or, Value.int.injEq, Value.bool.injEq, Value.string.injEq, AV.lit.injEq, Option.some.injEq, Blk.cells.injEq, Blk.tok.injEq, List.cons.injEq, Tk.at.injEq, subL_nil, subL_cons, look_nil, look_cons, ↓reduceIte, Nat.reduceEqDiff, Option.isSome_some, reduceCtorEq, or_false, false_or, if_true, if_false, only_tkb, List.take_zero, List.any_nil]); (try first | done | omega | (simp; done) | (simp; omega)))) (by ((try simp only [cells_agg, cells_lit, leL_cons, leL_nil, leA_any, leA_lits, leA_isl, leA_self, and_self, true_and, and_true, or_true, true_or, Value.int.injEq, Value.bool.injEq, Value.string.injEq, AV.lit.injEq, Option.some.injEq, Blk.cells.injEq, Blk.tok.injEq, List.cons.injEq, Tk.at.injEq, subL_nil, subL_cons, look_nil, look_cons, ↓reduceIte, Nat.reduceEqDiff, Option.isSome_some, reduceCtorEq, or_false, false_or, if_true, if_false, only_tkb, List.take_zero, List.any_nil]); (try first | done | omega | (simp; done) | (simp; omega)))) (by ((try simp only [cells_agg, cells_lit, List.mem_cons, List.not_mem_nil, or_false, forall_eq_or_imp, forall_eq, only_any, only_lit', only_iptr, only_no, only_full, only_at, only_ptr, only_osl, only_agg, only_tup, only_fn, and_self, implies_true, and_true, true_and, okL_nil, okL_cons, bonly_cells, bonly_tok, keepP_add, look_nil, look_cons, ↓reduceIte, Nat.reduceEqDiff, Option.isSome_some, reduceCtorEq, false_or, if_true, if_false, false_implies, only_tkb, List.take_zero, List.any_nil]); (try first | done | omega | ((repeat' refine And.intro ?_ ?_) <;> (intro _ hx; obtain ⟨_, -, rfl⟩ := List.mem_map.1 hx; exact .lit _))))) (by ((try simp only [cells_agg, cells_lit, List.mem_cons, List.not_mem_nil, or_false, forall_eq_or_imp, forall_eq, only_any, only_lit', only_iptr, only_no, only_full, only_at, only_ptr, only_osl, only_agg, only_tup, only_fn, and_self, implies_true, and_true, true_and, okL_nil, okL_cons, bonly_cells, bonly_tok, keepP_add, look_nil, look_cons, ↓reduceIte, Nat.reduceEqDiff, Option.isSome_some, reduceCtorEq, false_or, if_true, if_false, false_implies, only_tkb, List.take_zero, List.any_nil]); (try first | done | omega | ((repeat' refine And.intro ?_ ?_) <;> (intro _ hx; obtain ⟨_, -, rfl⟩ := List.mem_map.1 hx; exact .lit _)))))
      · intro k hk
        simp only [go_sem, List.length_map]
        split
        · rename_i hltk
          have hltk : k < left.length := by omega
          have e2 : IntKind.i64.wrap ((k : Int) + 1) = ((k + 1 : Nat) : Int) := by rw [wrap_i64]; omega
          have hkr := hl _ (getD_mem hltk)
          have hek : (setE E (left.getD k 0).toNat).length ≤ 500000 := Nat.le_trans (ofL_len _) (hs _ (by omega))
          refine WC_draw Ty.mixed (by kernel_rfl) ?_
          simp only [go_sem, List.length_map, Il_get left k hltk]
          (repeat (refine ⟨by omega, ?_⟩))
          refine DE_pure _ _ _ _ _ _ _ _ _ [] (fun g' _ => rEdge_c N nl E t hE hs (left.getD k 0) hkr _) ?_
          simp only [go_sem, List.length_map, Il_get (setE E i.toNat) a hlt]
          (repeat (refine ⟨by omega, ?_⟩))
          refine DE_pure _ _ _ _ _ _ _ _ _ [] (fun g' _ => rAt_c _ _ _ _ (by omega) _) ?_
          simp only [go_sem]
          have hs1 : ((left.take (k + 1)).any fun k => decide (k ≠ i) && isN (setE E k.toNat) ((setE E i.toNat).getD a 0)) = (((left.take k).any fun k => decide (k ≠ i) && isN (setE E k.toNat) ((setE E i.toNat).getD a 0)) || (decide (left.getD k 0 ≠ i) && isN (setE E (left.getD k 0).toNat) ((setE E i.toNat).getD a 0))) := by
            rw [List.take_succ_eq_append_getElem hltk, List.any_append]
            simp [List.getD_eq_getElem?_getD, hltk]
          cases hb : isN (setE E (left.getD k 0).toNat) ((setE E i.toNat).getD a 0) with
          | true =>
            rw [hb] at hs1
            simp only [go_sem, hb, List.length_map, Il_get left k hltk]
            (repeat (refine ⟨by omega, ?_⟩))
            split
            · rename_i hne
              rw [decide_eq_true hne, Bool.and_true, Bool.or_true] at hs1
              refine LP_next (k + 1) (by omega) (by omega) ?_
              rw [e2, hs1]
              refine imp_loc (by ((try simp only [cells_agg, cells_lit, leL_cons, leL_nil, leA_any, leA_lits, leA_isl, leA_self, and_self, true_and, and_true, or_true, true_or, Value.int.injEq, Value.bool.injEq, Value.string.injEq, AV.lit.injEq, Option.some.injEq, Blk.cells.injEq, Blk.tok.injEq, List.cons.injEq, Tk.at.injEq, subL_nil, subL_cons, look_nil, look_cons, ↓reduceIte, Nat.reduceEqDiff, Option.isSome_some, reduceCtorEq, or_false, false_or, if_true, if_false, only_tkb]); (try first | done | omega | (simp; done) | (simp; omega)))) (by ((try simp only [cells_agg, cells_lit, leL_cons, leL_nil, leA_any, leA_lits, leA_isl, leA_self, and_self, true_and, and_true, or_true, true_or, Value.int.injEq, Value.bool.injEq, Value.string.injEq, AV.lit.injEq, Option.some.injEq, Blk.cells.injEq, Blk.tok.injEq, List.cons.injEq, Tk.at.injEq, subL_nil, subL_cons, look_nil, look_cons, ↓reduceIte, Nat.reduceEqDiff, Option.isSome_some, reduceCtorEq, or_false, false_or, if_true, if_false, only_tkb]); (try first | done | omega | (simp; done) | (simp; omega)))) (by ((try simp only [cells_agg, cells_lit, List.mem_cons, List.not_mem_nil, or_false, forall_eq_or_imp, forall_eq, only_any, only_lit', only_iptr, only_no, only_full, only_at, only_ptr, only_osl, only_agg, only_tup, only_fn, and_self, implies_true, and_true, true_and, okL_nil, okL_cons, bonly_cells, bonly_tok, keepP_add, look_nil, look_cons, ↓reduceIte, Nat.reduceEqDiff, Option.isSome_some, reduceCtorEq, false_or, if_true, if_false, false_implies, only_tkb]); (try first | done | omega | ((repeat' refine And.intro ?_ ?_) <;> (intro _ hx; obtain ⟨_, -, rfl⟩ := List.mem_map.1 hx; exact .lit _))))) (by ((try simp only [cells_agg, cells_lit, List.mem_cons, List.not_mem_nil, or_false, forall_eq_or_imp, forall_eq, only_any, only_lit', only_iptr, only_no, only_full, only_at, only_ptr, only_osl, only_agg, only_tup, only_fn, and_self, implies_true, and_true, true_and, okL_nil, okL_cons, bonly_cells, bonly_tok, keepP_add, look_nil, look_cons, ↓reduceIte, Nat.reduceEqDiff, Option.isSome_some, reduceCtorEq, false_or, if_true, if_false, false_implies, only_tkb]); (try first | done | omega | ((repeat' refine And.intro ?_ ?_) <;> (intro _ hx; obtain ⟨_, -, rfl⟩ := List.mem_map.1 hx; exact .lit _)))))
            · rename_i hne
              rw [decide_eq_false hne, Bool.false_and, Bool.or_false] at hs1
              refine LP_next (k + 1) (by omega) (by omega) ?_
              rw [e2, hs1]
              refine imp_loc (by ((try simp only [cells_agg, cells_lit, leL_cons, leL_nil, leA_any, leA_lits, leA_isl, leA_self, and_self, true_and, and_true, or_true, true_or, Value.int.injEq, Value.bool.injEq, Value.string.injEq, AV.lit.injEq, Option.some.injEq, Blk.cells.injEq, Blk.tok.injEq, List.cons.injEq, Tk.at.injEq, subL_nil, subL_cons, look_nil, look_cons, ↓reduceIte, Nat.reduceEqDiff, Option.isSome_some, reduceCtorEq, or_false, false_or, if_true, if_false, only_tkb]); (try first | done | omega | (simp; done) | (simp; omega)))) (by ((try simp only [cells_agg, cells_lit, leL_cons, leL_nil, leA_any, leA_lits, leA_isl, leA_self, and_self, true_and, and_true, or_true, true_or, Value.int.injEq, Value.bool.injEq, Value.string.injEq, AV.lit.injEq, Option.some.injEq, Blk.cells.injEq, Blk.tok.injEq, List.cons.injEq, Tk.at.injEq, subL_nil, subL_cons, look_nil, look_cons, ↓reduceIte, Nat.reduceEqDiff, Option.isSome_some, reduceCtorEq, or_false, false_or, if_true, if_false, only_tkb]); (try first | done | omega | (simp; done) | (simp; omega)))) (by ((try simp only [cells_agg, cells_lit, List.mem_cons, List.not_mem_nil, or_false, forall_eq_or_imp, forall_eq, only_any, only_lit', only_iptr, only_no, only_full, only_at, only_ptr, only_osl, only_agg, only_tup, only_fn, and_self, implies_true, and_true, true_and, okL_nil, okL_cons, bonly_cells, bonly_tok, keepP_add, look_nil, look_cons, ↓reduceIte, Nat.reduceEqDiff, Option.isSome_some, reduceCtorEq, false_or, if_true, if_false, false_implies, only_tkb]); (try first | done | omega | ((repeat' refine And.intro ?_ ?_) <;> (intro _ hx; obtain ⟨_, -, rfl⟩ := List.mem_map.1 hx; exact .lit _))))) (by ((try simp only [cells_agg, cells_lit, List.mem_cons, List.not_mem_nil, or_false, forall_eq_or_imp, forall_eq, only_any, only_lit', only_iptr, only_no, only_full, only_at, only_ptr, only_osl, only_agg, only_tup, only_fn, and_self, implies_true, and_true, true_and, okL_nil, okL_cons, bonly_cells, bonly_tok, keepP_add, look_nil, look_cons, ↓reduceIte, Nat.reduceEqDiff, Option.isSome_some, reduceCtorEq, false_or, if_true, if_false, false_implies, only_tkb]); (try first | done | omega | ((repeat' refine And.intro ?_ ?_) <;> (intro _ hx; obtain ⟨_, -, rfl⟩ := List.mem_map.1 hx; exact .lit _)))))
          | false =>
            rw [hb, Bool.and_false, Bool.or_false] at hs1
            simp only [go_sem, hb]
            refine LP_next (k + 1) (by omega) (by omega) ?_
            rw [e2, hs1]
            refine imp_loc (by ((try simp only [cells_agg, cells_lit, leL_cons, leL_nil, leA_any, leA_lits, leA_isl, leA_self, and_self, true_and, and_true, or_true, true_or, Value.int.injEq, Value.bool.injEq, Value.string.injEq, AV.lit.injEq, Option.some.injEq, Blk.cells.injEq, Blk.tok.injEq, List.cons.injEq, Tk.at.injEq, subL_nil, subL_cons, look_nil, look_cons, ↓reduceIte, Nat.reduceEqDiff, Option.isSome_some, reduceCtorEq, or_false, false_or, if_true, if_false, only_tkb]); (try first | done | omega | (simp; done) | (simp; omega)))) (by ((try simp only [cells_agg, cells_lit, leL_cons, leL_nil, leA_any, leA_lits, leA_isl, leA_self, and_self, true_and, and_true, or_true, true_or, Value.int.injEq, Value.bool.injEq, Value.string.injEq, AV.lit.injEq, Option.some.injEq, Blk.cells.injEq, Blk.tok.injEq, List.cons.injEq, Tk.at.injEq, subL_nil, subL_cons, look_nil, look_cons, ↓reduceIte, Nat.reduceEqDiff, Option.isSome_some, reduceCtorEq, or_false, false_or, if_true, if_false, only_tkb]); (try first | done | omega | (simp; done) | (simp; omega)))) (by ((try simp only [cells_agg, cells_lit, List.mem_cons, List.not_mem_nil, or_false, forall_eq_or_imp, forall_eq, only_any, only_lit', only_iptr, only_no, only_full, only_at, only_ptr, only_osl, only_agg, only_tup, only_fn, and_self, implies_true, and_true, true_and, okL_nil, okL_cons, bonly_cells, bonly_tok, keepP_add, look_nil, look_cons, ↓reduceIte, Nat.reduceEqDiff, Option.isSome_some, reduceCtorEq, false_or, if_true, if_false, false_implies, only_tkb]); (try first | done | omega | ((repeat' refine And.intro ?_ ?_) <;> (intro _ hx; obtain ⟨_, -, rfl⟩ := List.mem_map.1 hx; exact .lit _))))) (by ((try simp only [cells_agg, cells_lit, List.mem_cons, List.not_mem_nil, or_false, forall_eq_or_imp, forall_eq, only_any, only_lit', only_iptr, only_no, only_full, only_at, only_ptr, only_osl, only_agg, only_tup, only_fn, and_self, implies_true, and_true, true_and, okL_nil, okL_cons, bonly_cells, bonly_tok, keepP_add, look_nil, look_cons, ↓reduceIte, Nat.reduceEqDiff, Option.isSome_some, reduceCtorEq, false_or, if_true, if_false, false_implies, only_tkb]); (try first | done | omega | ((repeat' refine And.intro ?_ ?_) <;> (intro _ hx; obtain ⟨_, -, rfl⟩ := List.mem_map.1 hx; exact .lit _)))))
        · have : k = left.length := by omega
          subst this
          rw [List.take_length]
          have hejl : (setE E j.toNat).length ≤ 500000 := Nat.le_trans (ofL_len _) (hs _ (by omega))
          refine WC_draw Ty.mixed (by kernel_rfl) ?_
          simp only [go_sem, List.length_map, Il_get (setE E i.toNat) a hlt]
          (repeat (refine ⟨by omega, ?_⟩))
          refine DE_pure _ _ _ _ _ _ _ _ _ [] (fun g' _ => rEdge_c N nl E t hE hs j hj _) ?_
          simp only [go_sem, List.length_map, Il_get (setE E i.toNat) a hlt]
          (repeat (refine ⟨by omega, ?_⟩))
          refine DE_pure _ _ _ _ _ _ _ _ _ [] (fun g' _ => rAt_c _ _ _ _ (by omega) _) ?_
          simp only [go_sem]
          have hP : fitV E left i j ((setE E i.toNat).getD a 0) = (!(left.any fun k => decide (¬ k = i) && isN (setE E k.toNat) ((setE E i.toNat).getD a 0)) || isN (setE E j.toNat) ((setE E i.toNat).getD a 0)) := rfl
          have next : fitV E left i j ((setE E i.toNat).getD a 0) = true → ∀ b, b < a + 1 → fitV E left i j ((setE E i.toNat).getD b 0) = true := by
            intro h b hb
            by_cases e : b = a
            · rw [e]; exact h
            · exact ha2 b (by omega)
          cases hX : (left.any fun k => decide (¬ k = i) && isN (setE E k.toNat) ((setE E i.toNat).getD a 0)) with
          | false =>
            rw [hX, Bool.not_false, Bool.true_or] at hP
            simp only [go_sem, hX]
            refine LP_next (a + 1) ⟨by omega, next hP⟩ (by omega) ?_
            rw [e1]
            refine imp_loc (by ((try simp only [cells_agg, cells_lit, leL_cons, leL_nil, leA_any, leA_lits, leA_isl, leA_self, and_self, true_and, and_true, or_true, true_or, Value.int.injEq, Value.bool.injEq, Value.string.injEq, AV.lit.injEq, Option.some.injEq, Blk.cells.injEq, Blk.tok.injEq, List.cons.injEq, Tk.at.injEq, subL_nil, subL_cons, look_nil, look_cons, ↓reduceIte, Nat.reduceEqDiff, Option.isSome_some, reduceCtorEq, or_false, false_or, if_true, if_false, only_tkb]); (try first | done | omega | (simp; done) | (simp; omega)))) (by ((try simp only [cells_agg, cells_lit, leL_cons, leL_nil, leA_any, leA_lits, leA_isl, leA_self, and_self, true_and, and_true, or_true, true_or, Value.int.injEq, Value.bool.injEq, Value.string.injEq, AV.lit.injEq, Option.some.injEq, Blk.cells.injEq, Blk.tok.injEq, List.cons.injEq, Tk.at.injEq, subL_nil, subL_cons, look_nil, look_cons, ↓reduceIte, Nat.reduceEqDiff, Option.isSome_some, reduceCtorEq, or_false, false_or, if_true, if_false, only_tkb]); (try first | done | omega | (simp; done) | (simp; omega)))) (by ((try simp only [cells_agg, cells_lit, List.mem_cons, List.not_mem_nil, or_false, forall_eq_or_imp, forall_eq, only_any, only_lit', only_iptr, only_no, only_full, only_at, only_ptr, only_osl, only_agg, only_tup, only_fn, and_self, implies_true, and_true, true_and, okL_nil, okL_cons, bonly_cells, bonly_tok, keepP_add, look_nil, look_cons, ↓reduceIte, Nat.reduceEqDiff, Option.isSome_some, reduceCtorEq, false_or, if_true, if_false, false_implies, only_tkb]); (try first | done | omega | ((repeat' refine And.intro ?_ ?_) <;> (intro _ hx; obtain ⟨_, -, rfl⟩ := List.mem_map.1 hx; exact .lit _))))) (by ((try simp only [cells_agg, cells_lit, List.mem_cons, List.not_mem_nil, or_false, forall_eq_or_imp, forall_eq, only_any, only_lit', only_iptr, only_no, only_full, only_at, only_ptr, only_osl, only_agg, only_tup, only_fn, and_self, implies_true, and_true, true_and, okL_nil, okL_cons, bonly_cells, bonly_tok, keepP_add, look_nil, look_cons, ↓reduceIte, Nat.reduceEqDiff, Option.isSome_some, reduceCtorEq, false_or, if_true, if_false, false_implies, only_tkb]); (try first | done | omega | ((repeat' refine And.intro ?_ ?_) <;> (intro _ hx; obtain ⟨_, -, rfl⟩ := List.mem_map.1 hx; exact .lit _)))))
          | true =>
            rw [hX, Bool.not_true, Bool.false_or] at hP
            cases hY : isN (setE E j.toNat) ((setE E i.toNat).getD a 0) with
            | true =>
              rw [hY] at hP
              simp only [go_sem, hX, hY]
              refine LP_next (a + 1) ⟨by omega, next hP⟩ (by omega) ?_
              rw [e1]
              refine imp_loc (by ((try simp only [cells_agg, cells_lit, leL_cons, leL_nil, leA_any, leA_lits, leA_isl, leA_self, and_self, true_and, and_true, or_true, true_or, Value.int.injEq, Value.bool.injEq, Value.string.injEq, AV.lit.injEq, Option.some.injEq, Blk.cells.injEq, Blk.tok.injEq, List.cons.injEq, Tk.at.injEq, subL_nil, subL_cons, look_nil, look_cons, ↓reduceIte, Nat.reduceEqDiff, Option.isSome_some, reduceCtorEq, or_false, false_or, if_true, if_false, only_tkb]); (try first | done | omega | (simp; done) | (simp; omega)))) (by ((try simp only [cells_agg, cells_lit, leL_cons, leL_nil, leA_any, leA_lits, leA_isl, leA_self, and_self, true_and, and_true, or_true, true_or, Value.int.injEq, Value.bool.injEq, Value.string.injEq, AV.lit.injEq, Option.some.injEq, Blk.cells.injEq, Blk.tok.injEq, List.cons.injEq, Tk.at.injEq, subL_nil, subL_cons, look_nil, look_cons, ↓reduceIte, Nat.reduceEqDiff, Option.isSome_some, reduceCtorEq, or_false, false_or, if_true, if_false, only_tkb]); (try first | done | omega | (simp; done) | (simp; omega)))) (by ((try simp only [cells_agg, cells_lit, List.mem_cons, List.not_mem_nil, or_false, forall_eq_or_imp, forall_eq, only_any, only_lit', only_iptr, only_no, only_full, only_at, only_ptr, only_osl, only_agg, only_tup, only_fn, and_self, implies_true, and_true, true_and, okL_nil, okL_cons, bonly_cells, bonly_tok, keepP_add, look_nil, look_cons, ↓reduceIte, Nat.reduceEqDiff, Option.isSome_some, reduceCtorEq, false_or, if_true, if_false, false_implies, only_tkb]); (try first | done | omega | ((repeat' refine And.intro ?_ ?_) <;> (intro _ hx; obtain ⟨_, -, rfl⟩ := List.mem_map.1 hx; exact .lit _))))) (by ((try simp only [cells_agg, cells_lit, List.mem_cons, List.not_mem_nil, or_false, forall_eq_or_imp, forall_eq, only_any, only_lit', only_iptr, only_no, only_full, only_at, only_ptr, only_osl, only_agg, only_tup, only_fn, and_self, implies_true, and_true, true_and, okL_nil, okL_cons, bonly_cells, bonly_tok, keepP_add, look_nil, look_cons, ↓reduceIte, Nat.reduceEqDiff, Option.isSome_some, reduceCtorEq, false_or, if_true, if_false, false_implies, only_tkb]); (try first | done | omega | ((repeat' refine And.intro ?_ ?_) <;> (intro _ hx; obtain ⟨_, -, rfl⟩ := List.mem_map.1 hx; exact .lit _)))))
            | false =>
              rw [hY] at hP
              simp only [go_sem, hX, hY]
              refine FnPost_end hn0 (by simp) rfl (only_lit _ _) ?_
              simp only [go_sem]
              refine leA_bool ?_
              have : (setE E i.toNat).all (fitV E left i j) = false := by
                cases hh : (setE E i.toNat).all (fitV E left i j) with
                | false => rfl
                | true => rw [List.all_eq_true.1 hh _ (getD_mem hlt)] at hP; cases hP
              show false = ((setE E i.toNat).all (fitV E left i j) && decide (i ≠ j))
              rw [this]; rfl
    · have : a = (setE E i.toNat).length := by omega
      subst this
      refine FnPost_end hn0 (by simp) rfl (only_lit _ _) ?_
      simp only [go_sem]
      refine leA_bool ?_
      have : (setE E i.toNat).all (fitV E left i j) = true := by
        rw [List.all_eq_true]
        intro x hx
        obtain ⟨q, hq, rfl⟩ := mem_getD hx
        exact ha2 q hq
      show (!decide (i = j)) = ((setE E i.toNat).all (fitV E left i j) && decide (i ≠ j))
      rw [this, Bool.true_and]
      by_cases h : i = j <;> simp [h]
end Go.Proofs.Ytjinngfpbmkhaaa.Hyp
