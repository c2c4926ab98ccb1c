import Derived.Test.YtjinngfpbmkhaaaDoorLexE
/- A query's words: the laws. -/
namespace Go.Proofs.YtjinngfpbmkhaaaDoor.Lex
open Go Go.Av Go.Proofs.YtjinngfpbmkhaaaDoor.Val
set_option linter.unusedSimpArgs false
set_option linter.unusedVariables false
theorem words_few (s : ByteArray) : ∀ (f a : Nat) (out : List Wd), (wordsG s f a out).1.length ≤ 1000
  | 0, a, out => by
    rw [wordsG]; split
    · simp
    · simp only; omega
  | f + 1, a, out => by
    rw [wordsG]
    split
    · split
      · exact words_few s f _ _
      · split
        · exact words_few s f _ _
        · simp
    · split
      · simp
      · simp only; omega
/-- (x)-[a]->(y) -/
def liveS : ByteArray := ⟨#[40, 120, 41, 45, 91, 97, 93, 45, 62, 40, 121, 41]⟩
def liveL : List Wd := [(4, ⟨#[40]⟩, 0, 0, ⟨#[]⟩, 0), (1, ⟨#[120]⟩, 0, 0, ⟨#[]⟩, 1), (4, ⟨#[41]⟩, 0, 0, ⟨#[]⟩, 2), (4, ⟨#[45, 91]⟩, 0, 0, ⟨#[]⟩, 3), (1, ⟨#[97]⟩, 0, 0, ⟨#[]⟩, 5), (4, ⟨#[93, 45, 62]⟩, 0, 0, ⟨#[]⟩, 6), (4, ⟨#[40]⟩, 0, 0, ⟨#[]⟩, 9), (1, ⟨#[121]⟩, 0, 0, ⟨#[]⟩, 10), (4, ⟨#[41]⟩, 0, 0, ⟨#[]⟩, 11)]
theorem live_eq : wordsF liveS = (liveL, 0, 0) := by kernel_rfl
theorem live3 : (Wds liveL).getD 3 .any = wA (4, ⟨#[45, 91]⟩, 0, 0, ⟨#[]⟩, 3) := rfl
theorem live5 : (Wds liveL).getD 5 .any = wA (4, ⟨#[93, 45, 62]⟩, 0, 0, ⟨#[]⟩, 6) := rfl
theorem lives_c (g : GH) : PureC Tryd.prog 10 [] g (BB true) := by
  refine CallC.body (fun _ => none) (fun _ => 0) Tryd.func10 rfl Tryd.results10 Tryd.ntmps10 ?_
  intro n0 hn0
  simp only [go_sem]
  have hw : ∀ g, PureC Tryd.prog 7 [SS liveS] g (.tup [.isl none (Wds liveL) .no, I64 0, I64 0]) := fun g => by
    have := Words_c liveS (by decide) g
    rwa [live_eq] at this
  have hl : liveL.length = 9 := rfl
  refine WE_pure _ _ _ _ _ _ _ _ (hw _) ?_
  simp only [go_sem, List.length_map, hl, live3, live5]
  refine FnPost_end hn0 (by simp) rfl (only_lit _ _) ?_
  simp only [go_sem]
  exact leA_bool rfl
theorem law_words (s : ByteArray) (g : GH) : PureC Tryd.prog 3 [SS s] g (BB true) := by
  refine CallC.body (fun _ => none) (fun _ => 0) Tryd.func3 rfl Tryd.results3 Tryd.ntmps3 ?_
  intro n0 hn0
  simp only [go_sem]
  refine WE_pure _ _ _ _ _ _ _ _ (Cut_c s 300 _) ?_
  simp only [go_sem]
  have hsz := cutS_size s 300
  generalize cutS s 300 = t at *
  refine WE_pure _ _ _ _ _ _ _ _ (Words_c t (by omega) _) ?_
  simp only [go_sem]
  refine WE_pure _ _ _ _ _ _ _ _ (rWords_c t (by omega) _) ?_
  simp only [go_sem]
  have hlen : (wordsF t).1.length ≤ 1000 := by
    unfold wordsF
    split
    · simp
    · exact words_few t _ _ _
  generalize wordsF t = r at *
  obtain ⟨l, n, e⟩ := r
  have e1 : decide (l.map stripW = l.map stripW) = true := decide_eq_true rfl
  simp only at hlen ⊢
  refine WE_pure _ _ _ _ _ _ _ _ (e1 ▸ rSameW_c none none l l .no .no (by omega) _) ?_
  simp only [go_sem]
  refine WC_loop (fun i : Nat => [.any, .any, .any, .isl none (Wds l) .no, .any, .any, .isl none (Wds l) .no, .any, .any, I64 i, .any, .any, .any, .any, .any, .any, .any, .any, .any, .any, .any, .any, .any, .any, .any, .any, .any, .any, .any, .any, .any, .any, .any, .any, .any, .any, .any, .any, .any, .any, .any, .any, .any, .any, .any, .any, .any, .any, .any, .any, .any, .any, .any, .any, .any, .any]) (fun i => ⟨g, []⟩) (fun i => i ≤ l.length) (fun i => l.length - i) 0 (by simp) ?_ ?_
  · refine imp_loc (by ((try simp only [cells_agg, cells_lit, leL_cons, leL_nil, leA_any, leA_lits, leA_isl, leA_self, and_self, true_and, and_true, or_true, true_or, Value.int.injEq, Value.bool.injEq, Value.string.injEq, AV.lit.injEq, Option.some.injEq, Blk.cells.injEq, Blk.tok.injEq, List.cons.injEq, Tk.at.injEq, subL_nil, subL_cons, look_nil, look_cons, ↓reduceIte, Nat.reduceEqDiff, Option.isSome_some, reduceCtorEq, or_false, false_or, if_true, if_false]); (try first | done | omega | (simp; done) | (simp; omega)))) (by ((try simp only [cells_agg, cells_lit, leL_cons, leL_nil, leA_any, leA_lits, leA_isl, leA_self, and_self, true_and, and_true, or_true, true_or, Value.int.injEq, Value.bool.injEq, Value.string.injEq, AV.lit.injEq, Option.some.injEq, Blk.cells.injEq, Blk.tok.injEq, List.cons.injEq, Tk.at.injEq, subL_nil, subL_cons, look_nil, look_cons, ↓reduceIte, Nat.reduceEqDiff, Option.isSome_some, reduceCtorEq, or_false, false_or, if_true, if_false]); (try first | done | omega | (simp; done) | (simp; omega)))) (by ((try simp only [cells_agg, cells_lit, List.mem_cons, List.not_mem_nil, or_false, forall_eq_or_imp, forall_eq, only_any, only_lit', only_iptr, only_no, only_full, only_at, only_ptr, only_osl, only_agg, only_tup, only_fn, and_self, implies_true, and_true, true_and, okL_nil, okL_cons, bonly_cells, bonly_tok, keepP_add, look_nil, look_cons, ↓reduceIte, Nat.reduceEqDiff, Option.isSome_some, reduceCtorEq, false_or, if_true, if_false, false_implies]); (try first | done | omega | ((repeat' refine And.intro ?_ ?_) <;> (intro _ hx; obtain ⟨_, -, rfl⟩ := List.mem_map.1 hx; exact .lit _))))) (by ((try simp only [cells_agg, cells_lit, List.mem_cons, List.not_mem_nil, or_false, forall_eq_or_imp, forall_eq, only_any, only_lit', only_iptr, only_no, only_full, only_at, only_ptr, only_osl, only_agg, only_tup, only_fn, and_self, implies_true, and_true, true_and, okL_nil, okL_cons, bonly_cells, bonly_tok, keepP_add, look_nil, look_cons, ↓reduceIte, Nat.reduceEqDiff, Option.isSome_some, reduceCtorEq, false_or, if_true, if_false, false_implies]); (try first | done | omega | ((repeat' refine And.intro ?_ ?_) <;> (intro _ hx; obtain ⟨_, -, rfl⟩ := List.mem_map.1 hx; exact .lit _)))))
  · intro i hi
    simp only [go_sem, List.length_map]
    split
    · rename_i hlt
      have hlt : i < l.length := by omega
      have e1 : IntKind.i64.wrap ((i : Int) + 1) = ((i + 1 : Nat) : Int) := by rw [wrap_i64]; omega
      have ga := Wds_get l i hlt
      generalize l.getD i w0 = x at *
      obtain ⟨x1, x2, x3, x4, x5, x6⟩ := x
      refine WC_draw Ty.mixed (by kernel_rfl) ?_
      simp only [go_sem, List.length_map, ga]
      (repeat (refine ⟨by omega, ?_⟩))
      refine LP_next (i + 1) (by omega) (by omega) ?_
      rw [e1]
      refine imp_loc (by ((try simp only [cells_agg, cells_lit, leL_cons, leL_nil, leA_any, leA_lits, leA_isl, leA_self, and_self, true_and, and_true, or_true, true_or, Value.int.injEq, Value.bool.injEq, Value.string.injEq, AV.lit.injEq, Option.some.injEq, Blk.cells.injEq, Blk.tok.injEq, List.cons.injEq, Tk.at.injEq, subL_nil, subL_cons, look_nil, look_cons, ↓reduceIte, Nat.reduceEqDiff, Option.isSome_some, reduceCtorEq, or_false, false_or, if_true, if_false]); (try first | done | omega | (simp; done) | (simp; omega)))) (by ((try simp only [cells_agg, cells_lit, leL_cons, leL_nil, leA_any, leA_lits, leA_isl, leA_self, and_self, true_and, and_true, or_true, true_or, Value.int.injEq, Value.bool.injEq, Value.string.injEq, AV.lit.injEq, Option.some.injEq, Blk.cells.injEq, Blk.tok.injEq, List.cons.injEq, Tk.at.injEq, subL_nil, subL_cons, look_nil, look_cons, ↓reduceIte, Nat.reduceEqDiff, Option.isSome_some, reduceCtorEq, or_false, false_or, if_true, if_false]); (try first | done | omega | (simp; done) | (simp; omega)))) (by ((try simp only [cells_agg, cells_lit, List.mem_cons, List.not_mem_nil, or_false, forall_eq_or_imp, forall_eq, only_any, only_lit', only_iptr, only_no, only_full, only_at, only_ptr, only_osl, only_agg, only_tup, only_fn, and_self, implies_true, and_true, true_and, okL_nil, okL_cons, bonly_cells, bonly_tok, keepP_add, look_nil, look_cons, ↓reduceIte, Nat.reduceEqDiff, Option.isSome_some, reduceCtorEq, false_or, if_true, if_false, false_implies]); (try first | done | omega | ((repeat' refine And.intro ?_ ?_) <;> (intro _ hx; obtain ⟨_, -, rfl⟩ := List.mem_map.1 hx; exact .lit _))))) (by ((try simp only [cells_agg, cells_lit, List.mem_cons, List.not_mem_nil, or_false, forall_eq_or_imp, forall_eq, only_any, only_lit', only_iptr, only_no, only_full, only_at, only_ptr, only_osl, only_agg, only_tup, only_fn, and_self, implies_true, and_true, true_and, okL_nil, okL_cons, bonly_cells, bonly_tok, keepP_add, look_nil, look_cons, ↓reduceIte, Nat.reduceEqDiff, Option.isSome_some, reduceCtorEq, false_or, if_true, if_false, false_implies]); (try first | done | omega | ((repeat' refine And.intro ?_ ?_) <;> (intro _ hx; obtain ⟨_, -, rfl⟩ := List.mem_map.1 hx; exact .lit _)))))
    · have : i = l.length := by omega
      subst this
      refine WE_pure _ _ _ _ _ _ _ _ (lives_c _) ?_
      simp only [go_sem]
      refine FnPost_end hn0 (by simp) rfl (only_lit _ _) ?_
      simp only [go_sem]
      exact leA_bool rfl
theorem law_signs (s : ByteArray) (g : GH) : PureC Tryd.prog 5 [SS s] g (BB true) := by
  refine CallC.body (fun _ => none) (fun _ => 0) Tryd.func5 rfl Tryd.results5 Tryd.ntmps5 ?_
  intro n0 hn0
  simp only [go_sem]
  refine WE_pure _ _ _ _ _ _ _ _ (Cut_c s 30 _) ?_
  simp only [go_sem]
  generalize cutS s 30 = t at *
  refine WE_pure _ _ _ _ _ _ _ _ (Key_c t _) ?_
  simp only [go_sem]
  refine WE_pure _ _ _ _ _ _ _ _ (rKey_c t _) ?_
  simp only [go_sem]
  refine WE_pure _ _ _ _ _ _ _ _ (Sign_c t _) ?_
  simp only [go_sem]
  refine WE_pure _ _ _ _ _ _ _ _ (rSign_c t _) ?_
  simp only [go_sem]
  refine WE_pure _ _ _ _ _ _ _ _ (Signs_c _) ?_
  simp only [go_sem]
  refine WE_pure _ _ _ _ _ _ _ _ (rSigns_c _) ?_
  simp only [go_sem]
  have e2 : decide (signsT = signsT) = true := decide_eq_true rfl
  refine WE_pure _ _ _ _ _ _ _ _ (e2 ▸ rSameT_c _ _ signsT signsT _ _ (by decide) _) ?_
  simp only [go_sem]
  refine WE_pure _ _ _ _ _ _ _ _ (lives_c _) ?_
  simp only [go_sem]
  refine FnPost_end hn0 (by simp) rfl (only_lit _ _) ?_
  simp only [go_sem]
  exact leA_bool rfl
end Go.Proofs.YtjinngfpbmkhaaaDoor.Lex
