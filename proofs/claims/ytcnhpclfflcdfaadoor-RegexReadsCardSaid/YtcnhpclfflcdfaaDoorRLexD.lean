import Derived.Test.YtcnhpclfflcdfaaDoorRLexC
/- A query's words: the document's way with one word. -/
namespace Go.Proofs.YtcnhpclfflcdfaaDoorR.Lex
open Go Go.Av Go.Proofs.YtcnhpclfflcdfaaDoorR.Val
set_option linter.unusedSimpArgs false
set_option linter.unusedVariables false
abbrev z6 : List AV := [I64 0, SS ⟨#[]⟩, I64 0, I64 0, SS ⟨#[]⟩, I64 0]
set_option maxHeartbeats 1000000 in
theorem rWord_c (s : ByteArray) (hs0 : 0 < s.size) (hs : s.size ≤ 140737488351232) (g : GH) : PureC Tryd.prog 61 [SS s] g (.tup [wA (wordF s).1, I64 (wordF s).2.1, I64 (wordF s).2.2]) := by
  refine CallC.body (fun _ => none) (fun _ => 0) Tryd.func61 rfl Tryd.results61 Tryd.ntmps61 ?_
  intro n0 hn0
  simp only [go_sem]
  have hnl := nameN_le s
  refine WC_loopR (fun i : Nat => [SS s, .any, .ptr (n0 + 2) 0 0, .any, .any, .ptr (n0 + 5) 0 0, I64 i, .any, .any, .any, .any, .any, .any, .any, .any, .any, .any, .any, .any, .any, .any, .any, .any, .any, .any, .any, .any, .any, .any, .any, .any, .any, .any, .any, .any, .any, .any, .any, .any, .any, .any, .any, .any, .any, .any, .any, .any, .any, .any, .any, .any, .any, .any, .any, .any, .any, .any, .any, .any, .any, .any, .any, .any, .any, .any, .any, .any, .any, .any, .any, .any, .any, .any, .any, .any, .any, .any, .any, .any, .any, .any, .any, .any, .any, .any, .any, .any, .any, .any, .any, .any, .any, .any, .any, .any, .any, .any, .any, .any, .any, .any, .any, .any, .any, .any, .any, .any, .any]) (fun _ => ⟨g, [(2, .cells 0 z6), (5, .cells 0 z6)]⟩) (fun i => i ≤ s.size ∧ ∀ j, j < i → okB s j = true) (fun i => s.size - i) 0 0 (fun i => i = nameN s) (by simp) ?_ ?_ ?_
  · refine imp_loc (by ((try simp only [cells_agg, cells_lit, leL_cons, leL_nil, leA_any, leA_lits, leA_isl, leA_self, and_self, true_and, and_true, or_true, true_or, Value.int.injEq, Value.bool.injEq, Value.string.injEq, AV.lit.injEq, Option.some.injEq, Blk.cells.injEq, Blk.tok.injEq, List.cons.injEq, Tk.at.injEq, subL_nil, subL_cons, look_nil, look_cons, ↓reduceIte, Nat.reduceEqDiff, Option.isSome_some, reduceCtorEq, or_false, false_or, if_true, if_false]); (try first | done | omega | (simp; done) | (simp; omega)))) (by ((try simp only [cells_agg, cells_lit, leL_cons, leL_nil, leA_any, leA_lits, leA_isl, leA_self, and_self, true_and, and_true, or_true, true_or, Value.int.injEq, Value.bool.injEq, Value.string.injEq, AV.lit.injEq, Option.some.injEq, Blk.cells.injEq, Blk.tok.injEq, List.cons.injEq, Tk.at.injEq, subL_nil, subL_cons, look_nil, look_cons, ↓reduceIte, Nat.reduceEqDiff, Option.isSome_some, reduceCtorEq, or_false, false_or, if_true, if_false]); (try first | done | omega | (simp; done) | (simp; omega)))) (by ((try simp only [cells_agg, cells_lit, List.mem_cons, List.not_mem_nil, or_false, forall_eq_or_imp, forall_eq, only_any, only_lit', only_iptr, only_no, only_full, only_at, only_ptr, only_osl, only_agg, only_tup, only_fn, only_bfn, and_self, implies_true, and_true, true_and, okL_nil, okL_cons, bonly_cells, bonly_tok, keepP_add, look_nil, look_cons, ↓reduceIte, Nat.reduceEqDiff, Option.isSome_some, reduceCtorEq, false_or, if_true, if_false, false_implies]); (try first | done | omega | ((repeat' refine And.intro ?_ ?_) <;> (intro _ hx; obtain ⟨_, -, rfl⟩ := List.mem_map.1 hx; exact .lit _))))) (by ((try simp only [cells_agg, cells_lit, List.mem_cons, List.not_mem_nil, or_false, forall_eq_or_imp, forall_eq, only_any, only_lit', only_iptr, only_no, only_full, only_at, only_ptr, only_osl, only_agg, only_tup, only_fn, only_bfn, and_self, implies_true, and_true, true_and, okL_nil, okL_cons, bonly_cells, bonly_tok, keepP_add, look_nil, look_cons, ↓reduceIte, Nat.reduceEqDiff, Option.isSome_some, reduceCtorEq, false_or, if_true, if_false, false_implies]); (try first | done | omega | ((repeat' refine And.intro ?_ ?_) <;> (intro _ hx; obtain ⟨_, -, rfl⟩ := List.mem_map.1 hx; exact .lit _)))))
  · rintro i - rfl
    simp only [go_sem]
    have bad : 30 < nameN s → (.tup [wA (wordF s).1, I64 (wordF s).2.1, I64 (wordF s).2.2] : AV) = .tup [wA w0, I64 0, I64 2] := by
      intro h2
      unfold wordF; rw [if_pos (by omega), if_pos h2]
    by_cases h2 : (30 : Int) < (nameN s : Int)
    · simp only [go_sem, h2]
      rw [bad (by omega)]
      refine FnPost_end hn0 (by simp) rfl (by simp only [only_tup, List.mem_cons, List.not_mem_nil, or_false, forall_eq_or_imp, forall_eq, only_any, only_lit', only_full, only_no, only_iptr, only_agg, only_bfn, and_self, and_true, true_and, implies_true, or_false]) ?_
      simp only [go_sem]
      exact leA_of_eq rfl
    · by_cases h1 : (0 : Int) < (nameN s : Int)
      · have fin : ∀ k : Int, k = (if keyB (s.extract 0 (nameN s)) = true then 2 else 1) → (.tup [wA (wordF s).1, I64 (wordF s).2.1, I64 (wordF s).2.2] : AV) = .tup [.agg [I64 k, SS (s.extract 0 (nameN s)), I64 0, I64 0, SS ⟨#[]⟩, I64 0], I64 (nameN s), I64 0] := by
          intro k hk
          unfold wordF; rw [if_pos (by omega), if_neg (by omega), hk]
        simp only [go_sem, h2, h1]
        (repeat (refine ⟨by omega, ?_⟩))
        refine WE_pure _ _ _ _ _ _ _ _ (rKey_c _ _) ?_
        simp only [go_sem]
        cases hk : keyB (s.extract 0 (nameN s)) with
        | true =>
          rw [hk] at fin
          simp only [go_sem, hk, Int.toNat_natCast, h1]
          (repeat (refine ⟨by omega, ?_⟩))
          rw [fin _ rfl]
          refine FnPost_end hn0 (by simp) rfl (by simp only [only_tup, List.mem_cons, List.not_mem_nil, or_false, forall_eq_or_imp, forall_eq, only_any, only_lit', only_full, only_no, only_iptr, only_agg, only_bfn, and_self, and_true, true_and, implies_true, or_false]) ?_
          simp only [go_sem]
          exact leA_of_eq rfl
        | false =>
          rw [hk] at fin
          simp only [go_sem, hk, Int.toNat_natCast, h1]
          (repeat (refine ⟨by omega, ?_⟩))
          rw [fin _ rfl]
          refine FnPost_end hn0 (by simp) rfl (by simp only [only_tup, List.mem_cons, List.not_mem_nil, or_false, forall_eq_or_imp, forall_eq, only_any, only_lit', only_full, only_no, only_iptr, only_agg, only_bfn, and_self, and_true, true_and, implies_true, or_false]) ?_
          simp only [go_sem]
          exact leA_of_eq rfl
      · simp only [go_sem, h2, h1]
        have h1' : ¬ 0 < nameN s := by omega
        (repeat (refine ⟨by omega, ?_⟩))
        refine WE_pure _ _ _ _ _ _ _ _ (rDigit_c _ _) ?_
        simp only [go_sem]
        have val : valuedB s = true → wordF s = if (readT s).2.2.2.2 = 0 then ((3, ⟨#[]⟩, (readT s).1, (readT s).2.1, (readT s).2.2.1, 0), (readT s).2.2.2.1, 0) else (w0, 0, (readT s).2.2.2.2) := fun hv => by
          unfold wordF; rw [if_neg h1', if_pos hv]
        have noval : valuedB s = false → wordF s = if signF s = ⟨#[]⟩ then (w0, 0, 2) else ((4, signF s, 0, 0, ⟨#[]⟩, 0), ((signF s).size : Int), 0) := fun hv => by
          unfold wordF; rw [if_neg h1', if_neg (by rw [hv]; decide)]
        cases hD : digB (byteAt s 0) with
        | true =>
          simp only [go_sem, hD]
          have hw := val (by unfold valuedB; rw [hD]; rfl)
          refine WE_pure _ _ _ _ _ _ _ _ (readT_eq s ▸ rread_c s hs _) ?_
          simp only [go_sem]
          by_cases h3 : (readT s).2.2.2.2 = 0
          · rw [if_pos h3] at hw
            simp only [go_sem, eq_true h3]
            rw [hw]
            refine FnPost_end hn0 (by simp) rfl (by simp only [only_tup, List.mem_cons, List.not_mem_nil, or_false, forall_eq_or_imp, forall_eq, only_any, only_lit', only_full, only_no, only_iptr, only_agg, only_bfn, and_self, and_true, true_and, implies_true, or_false]) ?_
            simp only [go_sem]
            exact leA_of_eq rfl
          · rw [if_neg h3] at hw
            simp only [go_sem, eq_false h3]
            rw [hw]
            refine FnPost_end hn0 (by simp) rfl (by simp only [only_tup, List.mem_cons, List.not_mem_nil, or_false, forall_eq_or_imp, forall_eq, only_any, only_lit', only_full, only_no, only_iptr, only_agg, only_bfn, and_self, and_true, true_and, implies_true, or_false]) ?_
            simp only [go_sem]
            exact leA_of_eq rfl
        | false =>
          by_cases k1 : byteAt s 0 = 39
          · simp only [go_sem, hD, eq_true k1]
            (repeat (refine ⟨by omega, ?_⟩))
            have hw := val (by unfold valuedB; simp [k1])
            refine WE_pure _ _ _ _ _ _ _ _ (readT_eq s ▸ rread_c s hs _) ?_
            simp only [go_sem]
            by_cases h3 : (readT s).2.2.2.2 = 0
            · rw [if_pos h3] at hw
              simp only [go_sem, eq_true h3]
              rw [hw]
              refine FnPost_end hn0 (by simp) rfl (by simp only [only_tup, List.mem_cons, List.not_mem_nil, or_false, forall_eq_or_imp, forall_eq, only_any, only_lit', only_full, only_no, only_iptr, only_agg, only_bfn, and_self, and_true, true_and, implies_true, or_false]) ?_
              simp only [go_sem]
              exact leA_of_eq rfl
            · rw [if_neg h3] at hw
              simp only [go_sem, eq_false h3]
              rw [hw]
              refine FnPost_end hn0 (by simp) rfl (by simp only [only_tup, List.mem_cons, List.not_mem_nil, or_false, forall_eq_or_imp, forall_eq, only_any, only_lit', only_full, only_no, only_iptr, only_agg, only_bfn, and_self, and_true, true_and, implies_true, or_false]) ?_
              simp only [go_sem]
              exact leA_of_eq rfl
          · by_cases k2 : byteAt s 0 = 45
            · by_cases k3 : (1 : Int) < (s.size : Int)
              · simp only [go_sem, hD, eq_false k1, eq_true k2, k3]
                (repeat (refine ⟨by omega, ?_⟩))
                refine WE_pure _ _ _ _ _ _ _ _ (rDigit_c _ _) ?_
                simp only [go_sem]
                cases hE : digB (byteAt s 1) with
                | true =>
                  simp only [go_sem, hE]
                  have hw := val (by unfold valuedB; rw [hD, hE]; simp [k1, k2]; omega)
                  refine WE_pure _ _ _ _ _ _ _ _ (readT_eq s ▸ rread_c s hs _) ?_
                  simp only [go_sem]
                  by_cases h3 : (readT s).2.2.2.2 = 0
                  · rw [if_pos h3] at hw
                    simp only [go_sem, eq_true h3]
                    rw [hw]
                    refine FnPost_end hn0 (by simp) rfl (by simp only [only_tup, List.mem_cons, List.not_mem_nil, or_false, forall_eq_or_imp, forall_eq, only_any, only_lit', only_full, only_no, only_iptr, only_agg, only_bfn, and_self, and_true, true_and, implies_true, or_false]) ?_
                    simp only [go_sem]
                    exact leA_of_eq rfl
                  · rw [if_neg h3] at hw
                    simp only [go_sem, eq_false h3]
                    rw [hw]
                    refine FnPost_end hn0 (by simp) rfl (by simp only [only_tup, List.mem_cons, List.not_mem_nil, or_false, forall_eq_or_imp, forall_eq, only_any, only_lit', only_full, only_no, only_iptr, only_agg, only_bfn, and_self, and_true, true_and, implies_true, or_false]) ?_
                    simp only [go_sem]
                    exact leA_of_eq rfl
                | false =>
                  simp only [go_sem, hE]
                  have hw := noval (by unfold valuedB; rw [hD, hE]; simp [k1, k2])
                  refine WE_pure _ _ _ _ _ _ _ _ (rSign_c s _) ?_
                  simp only [go_sem]
                  by_cases h3 : signF s = ⟨#[]⟩
                  · rw [if_pos h3] at hw
                    simp only [go_sem, h3]
                    rw [hw]
                    refine FnPost_end hn0 (by simp) rfl (by simp only [only_tup, List.mem_cons, List.not_mem_nil, or_false, forall_eq_or_imp, forall_eq, only_any, only_lit', only_full, only_no, only_iptr, only_agg, only_bfn, and_self, and_true, true_and, implies_true, or_false]) ?_
                    simp only [go_sem]
                    exact leA_of_eq rfl
                  · have h3s := size_ne h3
                    rw [if_neg h3] at hw
                    simp only [go_sem, eq_false (show ¬ (signF s).size = 0 by omega)]
                    rw [hw]
                    refine FnPost_end hn0 (by simp) rfl (by simp only [only_tup, List.mem_cons, List.not_mem_nil, or_false, forall_eq_or_imp, forall_eq, only_any, only_lit', only_full, only_no, only_iptr, only_agg, only_bfn, and_self, and_true, true_and, implies_true, or_false]) ?_
                    simp only [go_sem]
                    exact leA_of_eq rfl
              · simp only [go_sem, hD, eq_false k1, eq_true k2, k3]
                (repeat (refine ⟨by omega, ?_⟩))
                have hw := noval (by unfold valuedB; rw [hD]; simp [k1, k2]; omega)
                refine WE_pure _ _ _ _ _ _ _ _ (rSign_c s _) ?_
                simp only [go_sem]
                by_cases h3 : signF s = ⟨#[]⟩
                · rw [if_pos h3] at hw
                  simp only [go_sem, h3]
                  rw [hw]
                  refine FnPost_end hn0 (by simp) rfl (by simp only [only_tup, List.mem_cons, List.not_mem_nil, or_false, forall_eq_or_imp, forall_eq, only_any, only_lit', only_full, only_no, only_iptr, only_agg, only_bfn, and_self, and_true, true_and, implies_true, or_false]) ?_
                  simp only [go_sem]
                  exact leA_of_eq rfl
                · have h3s := size_ne h3
                  rw [if_neg h3] at hw
                  simp only [go_sem, eq_false (show ¬ (signF s).size = 0 by omega)]
                  rw [hw]
                  refine FnPost_end hn0 (by simp) rfl (by simp only [only_tup, List.mem_cons, List.not_mem_nil, or_false, forall_eq_or_imp, forall_eq, only_any, only_lit', only_full, only_no, only_iptr, only_agg, only_bfn, and_self, and_true, true_and, implies_true, or_false]) ?_
                  simp only [go_sem]
                  exact leA_of_eq rfl
            · simp only [go_sem, hD, eq_false k1, eq_false k2]
              (repeat (refine ⟨by omega, ?_⟩))
              have hw := noval (by unfold valuedB; rw [hD]; simp [k1, k2])
              refine WE_pure _ _ _ _ _ _ _ _ (rSign_c s _) ?_
              simp only [go_sem]
              by_cases h3 : signF s = ⟨#[]⟩
              · rw [if_pos h3] at hw
                simp only [go_sem, h3]
                rw [hw]
                refine FnPost_end hn0 (by simp) rfl (by simp only [only_tup, List.mem_cons, List.not_mem_nil, or_false, forall_eq_or_imp, forall_eq, only_any, only_lit', only_full, only_no, only_iptr, only_agg, only_bfn, and_self, and_true, true_and, implies_true, or_false]) ?_
                simp only [go_sem]
                exact leA_of_eq rfl
              · have h3s := size_ne h3
                rw [if_neg h3] at hw
                simp only [go_sem, eq_false (show ¬ (signF s).size = 0 by omega)]
                rw [hw]
                refine FnPost_end hn0 (by simp) rfl (by simp only [only_tup, List.mem_cons, List.not_mem_nil, or_false, forall_eq_or_imp, forall_eq, only_any, only_lit', only_full, only_no, only_iptr, only_agg, only_bfn, and_self, and_true, true_and, implies_true, or_false]) ?_
                simp only [go_sem]
                exact leA_of_eq rfl
  · rintro rest i ⟨hi, hok⟩
    have e1 : IntKind.i64.wrap ((i : Int) + 1) = ((i + 1 : Nat) : Int) := by rw [wrap_i64]; omega
    have next : okB s i = true → ∀ j, j < i + 1 → okB s j = true := fun h j hj => by
      by_cases e : j = i
      · subst e; exact h
      · exact hok j (by omega)
    by_cases hlt : (i : Int) < (s.size : Int)
    · simp only [go_sem, hlt]
      (repeat (refine ⟨by omega, ?_⟩))
      have hlt' : i < s.size := by omega
      refine WE_pure _ _ _ _ _ _ _ _ (rLetter_c _ _) ?_
      simp only [go_sem]
      cases hL : letB (byteAt s i) with
      | true =>
        simp only [go_sem, hL]
        refine LPF_next (i + 1) ⟨by omega, next (by unfold okB; rw [hL]; rfl)⟩ (by omega) ?_
        rw [e1]
        refine imp_loc (by ((try simp only [cells_agg, cells_lit, leL_cons, leL_nil, leA_any, leA_lits, leA_isl, leA_self, and_self, true_and, and_true, or_true, true_or, Value.int.injEq, Value.bool.injEq, Value.string.injEq, AV.lit.injEq, Option.some.injEq, Blk.cells.injEq, Blk.tok.injEq, List.cons.injEq, Tk.at.injEq, subL_nil, subL_cons, look_nil, look_cons, ↓reduceIte, Nat.reduceEqDiff, Option.isSome_some, reduceCtorEq, or_false, false_or, if_true, if_false]); (try first | done | omega | (simp; done) | (simp; omega)))) (by ((try simp only [cells_agg, cells_lit, leL_cons, leL_nil, leA_any, leA_lits, leA_isl, leA_self, and_self, true_and, and_true, or_true, true_or, Value.int.injEq, Value.bool.injEq, Value.string.injEq, AV.lit.injEq, Option.some.injEq, Blk.cells.injEq, Blk.tok.injEq, List.cons.injEq, Tk.at.injEq, subL_nil, subL_cons, look_nil, look_cons, ↓reduceIte, Nat.reduceEqDiff, Option.isSome_some, reduceCtorEq, or_false, false_or, if_true, if_false]); (try first | done | omega | (simp; done) | (simp; omega)))) (by ((try simp only [cells_agg, cells_lit, List.mem_cons, List.not_mem_nil, or_false, forall_eq_or_imp, forall_eq, only_any, only_lit', only_iptr, only_no, only_full, only_at, only_ptr, only_osl, only_agg, only_tup, only_fn, only_bfn, and_self, implies_true, and_true, true_and, okL_nil, okL_cons, bonly_cells, bonly_tok, keepP_add, look_nil, look_cons, ↓reduceIte, Nat.reduceEqDiff, Option.isSome_some, reduceCtorEq, false_or, if_true, if_false, false_implies]); (try first | done | omega | ((repeat' refine And.intro ?_ ?_) <;> (intro _ hx; obtain ⟨_, -, rfl⟩ := List.mem_map.1 hx; exact .lit _))))) (by ((try simp only [cells_agg, cells_lit, List.mem_cons, List.not_mem_nil, or_false, forall_eq_or_imp, forall_eq, only_any, only_lit', only_iptr, only_no, only_full, only_at, only_ptr, only_osl, only_agg, only_tup, only_fn, only_bfn, and_self, implies_true, and_true, true_and, okL_nil, okL_cons, bonly_cells, bonly_tok, keepP_add, look_nil, look_cons, ↓reduceIte, Nat.reduceEqDiff, Option.isSome_some, reduceCtorEq, false_or, if_true, if_false, false_implies]); (try first | done | omega | ((repeat' refine And.intro ?_ ?_) <;> (intro _ hx; obtain ⟨_, -, rfl⟩ := List.mem_map.1 hx; exact .lit _)))))
      | false =>
        by_cases h0 : (0 : Int) < (i : Int)
        · simp only [go_sem, hL, h0, hlt]
          (repeat (refine ⟨by omega, ?_⟩))
          refine WE_pure _ _ _ _ _ _ _ _ (rDigit_c _ _) ?_
          simp only [go_sem]
          cases hD : digB (byteAt s i) with
          | true =>
            simp only [go_sem, hL, h0, hD]
            refine LPF_next (i + 1) ⟨by omega, next (by rw [okB_of hL (decide_eq_true (by omega)) hD rfl]; rfl)⟩ (by omega) ?_
            rw [e1]
            refine imp_loc (by ((try simp only [cells_agg, cells_lit, leL_cons, leL_nil, leA_any, leA_lits, leA_isl, leA_self, and_self, true_and, and_true, or_true, true_or, Value.int.injEq, Value.bool.injEq, Value.string.injEq, AV.lit.injEq, Option.some.injEq, Blk.cells.injEq, Blk.tok.injEq, List.cons.injEq, Tk.at.injEq, subL_nil, subL_cons, look_nil, look_cons, ↓reduceIte, Nat.reduceEqDiff, Option.isSome_some, reduceCtorEq, or_false, false_or, if_true, if_false]); (try first | done | omega | (simp; done) | (simp; omega)))) (by ((try simp only [cells_agg, cells_lit, leL_cons, leL_nil, leA_any, leA_lits, leA_isl, leA_self, and_self, true_and, and_true, or_true, true_or, Value.int.injEq, Value.bool.injEq, Value.string.injEq, AV.lit.injEq, Option.some.injEq, Blk.cells.injEq, Blk.tok.injEq, List.cons.injEq, Tk.at.injEq, subL_nil, subL_cons, look_nil, look_cons, ↓reduceIte, Nat.reduceEqDiff, Option.isSome_some, reduceCtorEq, or_false, false_or, if_true, if_false]); (try first | done | omega | (simp; done) | (simp; omega)))) (by ((try simp only [cells_agg, cells_lit, List.mem_cons, List.not_mem_nil, or_false, forall_eq_or_imp, forall_eq, only_any, only_lit', only_iptr, only_no, only_full, only_at, only_ptr, only_osl, only_agg, only_tup, only_fn, only_bfn, and_self, implies_true, and_true, true_and, okL_nil, okL_cons, bonly_cells, bonly_tok, keepP_add, look_nil, look_cons, ↓reduceIte, Nat.reduceEqDiff, Option.isSome_some, reduceCtorEq, false_or, if_true, if_false, false_implies]); (try first | done | omega | ((repeat' refine And.intro ?_ ?_) <;> (intro _ hx; obtain ⟨_, -, rfl⟩ := List.mem_map.1 hx; exact .lit _))))) (by ((try simp only [cells_agg, cells_lit, List.mem_cons, List.not_mem_nil, or_false, forall_eq_or_imp, forall_eq, only_any, only_lit', only_iptr, only_no, only_full, only_at, only_ptr, only_osl, only_agg, only_tup, only_fn, only_bfn, and_self, implies_true, and_true, true_and, okL_nil, okL_cons, bonly_cells, bonly_tok, keepP_add, look_nil, look_cons, ↓reduceIte, Nat.reduceEqDiff, Option.isSome_some, reduceCtorEq, false_or, if_true, if_false, false_implies]); (try first | done | omega | ((repeat' refine And.intro ?_ ?_) <;> (intro _ hx; obtain ⟨_, -, rfl⟩ := List.mem_map.1 hx; exact .lit _)))))
          | false =>
            by_cases h9 : byteAt s i = 95
            · simp only [go_sem, hL, h0, hD, hlt, eq_true h9]
              refine LPF_next (i + 1) ⟨by omega, next (by rw [okB_of hL (decide_eq_true (by omega)) hD (decide_eq_true h9)]; rfl)⟩ (by omega) ?_
              rw [e1]
              refine imp_loc (by ((try simp only [cells_agg, cells_lit, leL_cons, leL_nil, leA_any, leA_lits, leA_isl, leA_self, and_self, true_and, and_true, or_true, true_or, Value.int.injEq, Value.bool.injEq, Value.string.injEq, AV.lit.injEq, Option.some.injEq, Blk.cells.injEq, Blk.tok.injEq, List.cons.injEq, Tk.at.injEq, subL_nil, subL_cons, look_nil, look_cons, ↓reduceIte, Nat.reduceEqDiff, Option.isSome_some, reduceCtorEq, or_false, false_or, if_true, if_false]); (try first | done | omega | (simp; done) | (simp; omega)))) (by ((try simp only [cells_agg, cells_lit, leL_cons, leL_nil, leA_any, leA_lits, leA_isl, leA_self, and_self, true_and, and_true, or_true, true_or, Value.int.injEq, Value.bool.injEq, Value.string.injEq, AV.lit.injEq, Option.some.injEq, Blk.cells.injEq, Blk.tok.injEq, List.cons.injEq, Tk.at.injEq, subL_nil, subL_cons, look_nil, look_cons, ↓reduceIte, Nat.reduceEqDiff, Option.isSome_some, reduceCtorEq, or_false, false_or, if_true, if_false]); (try first | done | omega | (simp; done) | (simp; omega)))) (by ((try simp only [cells_agg, cells_lit, List.mem_cons, List.not_mem_nil, or_false, forall_eq_or_imp, forall_eq, only_any, only_lit', only_iptr, only_no, only_full, only_at, only_ptr, only_osl, only_agg, only_tup, only_fn, only_bfn, and_self, implies_true, and_true, true_and, okL_nil, okL_cons, bonly_cells, bonly_tok, keepP_add, look_nil, look_cons, ↓reduceIte, Nat.reduceEqDiff, Option.isSome_some, reduceCtorEq, false_or, if_true, if_false, false_implies]); (try first | done | omega | ((repeat' refine And.intro ?_ ?_) <;> (intro _ hx; obtain ⟨_, -, rfl⟩ := List.mem_map.1 hx; exact .lit _))))) (by ((try simp only [cells_agg, cells_lit, List.mem_cons, List.not_mem_nil, or_false, forall_eq_or_imp, forall_eq, only_any, only_lit', only_iptr, only_no, only_full, only_at, only_ptr, only_osl, only_agg, only_tup, only_fn, only_bfn, and_self, implies_true, and_true, true_and, okL_nil, okL_cons, bonly_cells, bonly_tok, keepP_add, look_nil, look_cons, ↓reduceIte, Nat.reduceEqDiff, Option.isSome_some, reduceCtorEq, false_or, if_true, if_false, false_implies]); (try first | done | omega | ((repeat' refine And.intro ?_ ?_) <;> (intro _ hx; obtain ⟨_, -, rfl⟩ := List.mem_map.1 hx; exact .lit _)))))
            · simp only [go_sem, hL, h0, hD, hlt, eq_false h9]
              (repeat (refine ⟨by omega, ?_⟩))
              exact LPF_exit (by refine imp_loc (by ((try simp only [cells_agg, cells_lit, leL_cons, leL_nil, leA_any, leA_lits, leA_isl, leA_self, and_self, true_and, and_true, or_true, true_or, Value.int.injEq, Value.bool.injEq, Value.string.injEq, AV.lit.injEq, Option.some.injEq, Blk.cells.injEq, Blk.tok.injEq, List.cons.injEq, Tk.at.injEq, subL_nil, subL_cons, look_nil, look_cons, ↓reduceIte, Nat.reduceEqDiff, Option.isSome_some, reduceCtorEq, or_false, false_or, if_true, if_false]); (try first | done | omega | (simp; done) | (simp; omega)))) (by ((try simp only [cells_agg, cells_lit, leL_cons, leL_nil, leA_any, leA_lits, leA_isl, leA_self, and_self, true_and, and_true, or_true, true_or, Value.int.injEq, Value.bool.injEq, Value.string.injEq, AV.lit.injEq, Option.some.injEq, Blk.cells.injEq, Blk.tok.injEq, List.cons.injEq, Tk.at.injEq, subL_nil, subL_cons, look_nil, look_cons, ↓reduceIte, Nat.reduceEqDiff, Option.isSome_some, reduceCtorEq, or_false, false_or, if_true, if_false]); (try first | done | omega | (simp; done) | (simp; omega)))) (by ((try simp only [cells_agg, cells_lit, List.mem_cons, List.not_mem_nil, or_false, forall_eq_or_imp, forall_eq, only_any, only_lit', only_iptr, only_no, only_full, only_at, only_ptr, only_osl, only_agg, only_tup, only_fn, only_bfn, and_self, implies_true, and_true, true_and, okL_nil, okL_cons, bonly_cells, bonly_tok, keepP_add, look_nil, look_cons, ↓reduceIte, Nat.reduceEqDiff, Option.isSome_some, reduceCtorEq, false_or, if_true, if_false, false_implies]); (try first | done | omega | ((repeat' refine And.intro ?_ ?_) <;> (intro _ hx; obtain ⟨_, -, rfl⟩ := List.mem_map.1 hx; exact .lit _))))) (by ((try simp only [cells_agg, cells_lit, List.mem_cons, List.not_mem_nil, or_false, forall_eq_or_imp, forall_eq, only_any, only_lit', only_iptr, only_no, only_full, only_at, only_ptr, only_osl, only_agg, only_tup, only_fn, only_bfn, and_self, implies_true, and_true, true_and, okL_nil, okL_cons, bonly_cells, bonly_tok, keepP_add, look_nil, look_cons, ↓reduceIte, Nat.reduceEqDiff, Option.isSome_some, reduceCtorEq, false_or, if_true, if_false, false_implies]); (try first | done | omega | ((repeat' refine And.intro ?_ ?_) <;> (intro _ hx; obtain ⟨_, -, rfl⟩ := List.mem_map.1 hx; exact .lit _)))))) (rest i ⟨hi, hok⟩ (by rw [nameN_eq s i hi hok (.inr (by rw [okB_of hL rfl hD (decide_eq_false h9)]; simp))]))
        · simp only [go_sem, hL, h0]
          exact LPF_exit (by refine imp_loc (by ((try simp only [cells_agg, cells_lit, leL_cons, leL_nil, leA_any, leA_lits, leA_isl, leA_self, and_self, true_and, and_true, or_true, true_or, Value.int.injEq, Value.bool.injEq, Value.string.injEq, AV.lit.injEq, Option.some.injEq, Blk.cells.injEq, Blk.tok.injEq, List.cons.injEq, Tk.at.injEq, subL_nil, subL_cons, look_nil, look_cons, ↓reduceIte, Nat.reduceEqDiff, Option.isSome_some, reduceCtorEq, or_false, false_or, if_true, if_false]); (try first | done | omega | (simp; done) | (simp; omega)))) (by ((try simp only [cells_agg, cells_lit, leL_cons, leL_nil, leA_any, leA_lits, leA_isl, leA_self, and_self, true_and, and_true, or_true, true_or, Value.int.injEq, Value.bool.injEq, Value.string.injEq, AV.lit.injEq, Option.some.injEq, Blk.cells.injEq, Blk.tok.injEq, List.cons.injEq, Tk.at.injEq, subL_nil, subL_cons, look_nil, look_cons, ↓reduceIte, Nat.reduceEqDiff, Option.isSome_some, reduceCtorEq, or_false, false_or, if_true, if_false]); (try first | done | omega | (simp; done) | (simp; omega)))) (by ((try simp only [cells_agg, cells_lit, List.mem_cons, List.not_mem_nil, or_false, forall_eq_or_imp, forall_eq, only_any, only_lit', only_iptr, only_no, only_full, only_at, only_ptr, only_osl, only_agg, only_tup, only_fn, only_bfn, and_self, implies_true, and_true, true_and, okL_nil, okL_cons, bonly_cells, bonly_tok, keepP_add, look_nil, look_cons, ↓reduceIte, Nat.reduceEqDiff, Option.isSome_some, reduceCtorEq, false_or, if_true, if_false, false_implies]); (try first | done | omega | ((repeat' refine And.intro ?_ ?_) <;> (intro _ hx; obtain ⟨_, -, rfl⟩ := List.mem_map.1 hx; exact .lit _))))) (by ((try simp only [cells_agg, cells_lit, List.mem_cons, List.not_mem_nil, or_false, forall_eq_or_imp, forall_eq, only_any, only_lit', only_iptr, only_no, only_full, only_at, only_ptr, only_osl, only_agg, only_tup, only_fn, only_bfn, and_self, implies_true, and_true, true_and, okL_nil, okL_cons, bonly_cells, bonly_tok, keepP_add, look_nil, look_cons, ↓reduceIte, Nat.reduceEqDiff, Option.isSome_some, reduceCtorEq, false_or, if_true, if_false, false_implies]); (try first | done | omega | ((repeat' refine And.intro ?_ ?_) <;> (intro _ hx; obtain ⟨_, -, rfl⟩ := List.mem_map.1 hx; exact .lit _)))))) (rest i ⟨hi, hok⟩ (by rw [nameN_eq s i hi hok (.inr (by rw [okB_of hL (decide_eq_false (by omega)) rfl rfl]; rfl))]))
    · simp only [go_sem, hlt]
      exact LPF_exit (by refine imp_loc (by ((try simp only [cells_agg, cells_lit, leL_cons, leL_nil, leA_any, leA_lits, leA_isl, leA_self, and_self, true_and, and_true, or_true, true_or, Value.int.injEq, Value.bool.injEq, Value.string.injEq, AV.lit.injEq, Option.some.injEq, Blk.cells.injEq, Blk.tok.injEq, List.cons.injEq, Tk.at.injEq, subL_nil, subL_cons, look_nil, look_cons, ↓reduceIte, Nat.reduceEqDiff, Option.isSome_some, reduceCtorEq, or_false, false_or, if_true, if_false]); (try first | done | omega | (simp; done) | (simp; omega)))) (by ((try simp only [cells_agg, cells_lit, leL_cons, leL_nil, leA_any, leA_lits, leA_isl, leA_self, and_self, true_and, and_true, or_true, true_or, Value.int.injEq, Value.bool.injEq, Value.string.injEq, AV.lit.injEq, Option.some.injEq, Blk.cells.injEq, Blk.tok.injEq, List.cons.injEq, Tk.at.injEq, subL_nil, subL_cons, look_nil, look_cons, ↓reduceIte, Nat.reduceEqDiff, Option.isSome_some, reduceCtorEq, or_false, false_or, if_true, if_false]); (try first | done | omega | (simp; done) | (simp; omega)))) (by ((try simp only [cells_agg, cells_lit, List.mem_cons, List.not_mem_nil, or_false, forall_eq_or_imp, forall_eq, only_any, only_lit', only_iptr, only_no, only_full, only_at, only_ptr, only_osl, only_agg, only_tup, only_fn, only_bfn, and_self, implies_true, and_true, true_and, okL_nil, okL_cons, bonly_cells, bonly_tok, keepP_add, look_nil, look_cons, ↓reduceIte, Nat.reduceEqDiff, Option.isSome_some, reduceCtorEq, false_or, if_true, if_false, false_implies]); (try first | done | omega | ((repeat' refine And.intro ?_ ?_) <;> (intro _ hx; obtain ⟨_, -, rfl⟩ := List.mem_map.1 hx; exact .lit _))))) (by ((try simp only [cells_agg, cells_lit, List.mem_cons, List.not_mem_nil, or_false, forall_eq_or_imp, forall_eq, only_any, only_lit', only_iptr, only_no, only_full, only_at, only_ptr, only_osl, only_agg, only_tup, only_fn, only_bfn, and_self, implies_true, and_true, true_and, okL_nil, okL_cons, bonly_cells, bonly_tok, keepP_add, look_nil, look_cons, ↓reduceIte, Nat.reduceEqDiff, Option.isSome_some, reduceCtorEq, false_or, if_true, if_false, false_implies]); (try first | done | omega | ((repeat' refine And.intro ?_ ?_) <;> (intro _ hx; obtain ⟨_, -, rfl⟩ := List.mem_map.1 hx; exact .lit _)))))) (rest i ⟨hi, hok⟩ (by rw [nameN_eq s i hi hok (.inl (by omega))]))
end Go.Proofs.YtcnhpclfflcdfaaDoorR.Lex
