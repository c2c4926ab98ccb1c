import Derived.Test.YtcnhpclfflcdfaaDoorRLexA
/- A query's words: how long a name is, and whether a value begins. -/
namespace Go.Proofs.YtcnhpclfflcdfaaDoorR.Lex
open Go Go.Av Go.Proofs.YtcnhpclfflcdfaaDoorR.Val
set_option linter.unusedSimpArgs false
set_option linter.unusedVariables false
def whiteB (b : Int) : Bool := decide (b = 32) || (decide (b = 9) || (decide (b = 10) || decide (b = 13)))
theorem white_c (b : Int) (g : GH) : PureC Tryd.prog 66 [U8 b] g (BB (whiteB b)) := by
  refine CallC.body (fun _ => none) (fun _ => 0) Tryd.func66 rfl Tryd.results66 Tryd.ntmps66 ?_
  intro n0 hn0
  simp only [go_sem]
  by_cases h1 : b = 32
  · simp only [go_sem, eq_true h1]
    refine FnPost_end hn0 (by simp) rfl (only_lit _ _) ?_
    simp only [go_sem]
    exact leA_bool (by unfold whiteB; simp [h1])
  · by_cases h2 : b = 9
    · simp only [go_sem, eq_false h1, eq_true h2]
      refine FnPost_end hn0 (by simp) rfl (only_lit _ _) ?_
      simp only [go_sem]
      exact leA_bool (by unfold whiteB; simp [h2])
    · by_cases h3 : b = 10
      · simp only [go_sem, eq_false h1, eq_false h2, eq_true h3]
        refine FnPost_end hn0 (by simp) rfl (only_lit _ _) ?_
        simp only [go_sem]
        exact leA_bool (by unfold whiteB; simp [h3])
      · simp only [go_sem, eq_false h1, eq_false h2, eq_false h3]
        refine FnPost_end hn0 (by simp) rfl (only_lit _ _) ?_
        simp only [go_sem]
        exact leA_bool (by unfold whiteB; simp [h1, h2, h3])
theorem xletter_c (b : Int) (g : GH) : PureC Tryd.prog 125 [U8 b] g (BB (letB b)) := by
  refine CallC.body (fun _ => none) (fun _ => 0) Tryd.func125 rfl Tryd.results125 Tryd.ntmps125 ?_
  intro n0 hn0
  simp only [go_sem]
  (repeat' (refine WG_split _ _ _ _ _ _ _ _ _ (fun hh => ?_) (fun hh => ?_) <;> (try simp only [decide_eq_true_eq, decide_eq_false_iff_not, Bool.not_eq_true', Bool.not_eq_false', Bool.not_eq_true, Bool.not_eq_false] at hh) <;> (first | simp only [go_sem, boolEqH hh] | simp only [go_sem, eq_false hh] | simp only [go_sem, eq_true hh])))
  all_goals
    refine FnPost_end hn0 (by simp) rfl (only_lit _ _) ?_
    simp only [go_sem]
    refine leA_bool ?_
    unfold letB
    (rw [Bool.eq_iff_iff]; simp only [Bool.or_eq_true, Bool.and_eq_true, Bool.not_eq_true', decide_eq_true_eq, decide_eq_false_iff_not, beq_iff_eq, bne_iff_ne, Bool.true_eq, Bool.false_eq_true, ne_eq, true_iff, false_iff, iff_true, iff_false]; try omega)
theorem xdigit_c (b : Int) (g : GH) : PureC Tryd.prog 126 [U8 b] g (BB (digB b)) := by
  refine CallC.body (fun _ => none) (fun _ => 0) Tryd.func126 rfl Tryd.results126 Tryd.ntmps126 ?_
  intro n0 hn0
  simp only [go_sem]
  (repeat' (refine WG_split _ _ _ _ _ _ _ _ _ (fun hh => ?_) (fun hh => ?_) <;> (try simp only [decide_eq_true_eq, decide_eq_false_iff_not, Bool.not_eq_true', Bool.not_eq_false', Bool.not_eq_true, Bool.not_eq_false] at hh) <;> (first | simp only [go_sem, boolEqH hh] | simp only [go_sem, eq_false hh] | simp only [go_sem, eq_true hh])))
  all_goals
    refine FnPost_end hn0 (by simp) rfl (only_lit _ _) ?_
    simp only [go_sem]
    refine leA_bool ?_
    unfold digB
    (rw [Bool.eq_iff_iff]; simp only [Bool.or_eq_true, Bool.and_eq_true, Bool.not_eq_true', decide_eq_true_eq, decide_eq_false_iff_not, beq_iff_eq, bne_iff_ne, Bool.true_eq, Bool.false_eq_true, ne_eq, true_iff, false_iff, iff_true, iff_false]; try omega)
def okB (s : ByteArray) (i : Nat) : Bool := letB (byteAt s i) || (decide (0 < i) && (digB (byteAt s i) || decide (byteAt s i = 95)))
def nameL (s : ByteArray) : Nat → Nat → Nat
  | 0, i => i
  | f + 1, i => if okB s i = true then nameL s f (i + 1) else i
def nameN (s : ByteArray) : Nat := nameL s s.size 0
theorem nameL_eq (s : ByteArray) : ∀ (f i n : Nat), i ≤ n → n ≤ i + f → (∀ j, i ≤ j → j < n → okB s j = true) → (n = i + f ∨ okB s n = false) → nameL s f i = n
  | 0, i, n, h1, h2, h3, h4 => by rw [nameL]; omega
  | f + 1, i, n, h1, h2, h3, h4 => by
    rw [nameL]
    by_cases e : i = n
    · subst e
      rcases h4 with h4 | h4
      · omega
      · rw [if_neg (by rw [h4]; decide)]
    · rw [if_pos (h3 i (Nat.le_refl _) (by omega))]
      exact nameL_eq s f (i + 1) n (by omega) (by omega) (fun j hj hj2 => h3 j (by omega) hj2) (by
        rcases h4 with h4 | h4
        · exact .inl (by omega)
        · exact .inr h4)
theorem nameN_eq (s : ByteArray) (n : Nat) (h2 : n ≤ s.size) (h3 : ∀ j, j < n → okB s j = true) (h4 : n = s.size ∨ okB s n = false) : nameN s = n :=
  nameL_eq s s.size 0 n (by omega) (by omega) (fun j _ hj => h3 j hj) (by
    rcases h4 with h4 | h4
    · exact .inl (by omega)
    · exact .inr h4)
theorem nameL_le (s : ByteArray) : ∀ (f i : Nat), i ≤ nameL s f i ∧ nameL s f i ≤ i + f
  | 0, i => by rw [nameL]; omega
  | f + 1, i => by
    rw [nameL]
    have := nameL_le s f (i + 1)
    split <;> omega
theorem nameN_le (s : ByteArray) : nameN s ≤ s.size := by have := nameL_le s s.size 0; unfold nameN; omega
theorem okB_of {s : ByteArray} {i : Nat} {b c d e : Bool} (hb : letB (byteAt s i) = b) (hc : decide (0 < i) = c) (hd : digB (byteAt s i) = d) (he : decide (byteAt s i = 95) = e) : okB s i = (b || (c && (d || e))) := by
  unfold okB; rw [hb, hc, hd, he]
theorem xname_c (s : ByteArray) (hs : s.size ≤ 140737488351232) (g : GH) : PureC Tryd.prog 99 [SS s] g (I64 (nameN s)) := by
  refine CallC.body (fun _ => none) (fun _ => 0) Tryd.func99 rfl Tryd.results99 Tryd.ntmps99 ?_
  intro n0 hn0
  simp only [go_sem]
  refine WC_loop (fun i : Nat => [SS s, .any, .any, I64 i, .any, .any, .any, .any, .any, .any, .any, .any, .any, .any, .any, .any, .any, .any, .any, .any, .any, .any, .any, .any, .any, .any, .any, .any, .any, .any, .any, .any, .any]) (fun _ => ⟨g, []⟩) (fun i => i ≤ s.size ∧ ∀ j, j < i → okB s j = true) (fun i => s.size - i) 0 (by simp) ?_ ?_
  · refine imp_loc (by ((try simp only [cells_agg, cells_lit, leL_cons, leL_nil, leA_any, leA_lits, leA_isl, leA_self, and_self, true_and, and_true, or_true, true_or, Value.int.injEq, Value.bool.injEq, Value.string.injEq, AV.lit.injEq, Option.some.injEq, Blk.cells.injEq, Blk.tok.injEq, List.cons.injEq, Tk.at.injEq, subL_nil, subL_cons, look_nil, look_cons, ↓reduceIte, Nat.reduceEqDiff, Option.isSome_some, reduceCtorEq, or_false, false_or, if_true, if_false]); (try first | done | omega | (simp; done) | (simp; omega)))) (by ((try simp only [cells_agg, cells_lit, leL_cons, leL_nil, leA_any, leA_lits, leA_isl, leA_self, and_self, true_and, and_true, or_true, true_or, Value.int.injEq, Value.bool.injEq, Value.string.injEq, AV.lit.injEq, Option.some.injEq, Blk.cells.injEq, Blk.tok.injEq, List.cons.injEq, Tk.at.injEq, subL_nil, subL_cons, look_nil, look_cons, ↓reduceIte, Nat.reduceEqDiff, Option.isSome_some, reduceCtorEq, or_false, false_or, if_true, if_false]); (try first | done | omega | (simp; done) | (simp; omega)))) (by ((try simp only [cells_agg, cells_lit, List.mem_cons, List.not_mem_nil, or_false, forall_eq_or_imp, forall_eq, only_any, only_lit', only_iptr, only_no, only_full, only_at, only_ptr, only_osl, only_agg, only_tup, only_fn, only_bfn, and_self, implies_true, and_true, true_and, okL_nil, okL_cons, bonly_cells, bonly_tok, keepP_add, look_nil, look_cons, ↓reduceIte, Nat.reduceEqDiff, Option.isSome_some, reduceCtorEq, false_or, if_true, if_false, false_implies]); (try first | done | omega | ((repeat' refine And.intro ?_ ?_) <;> (intro _ hx; obtain ⟨_, -, rfl⟩ := List.mem_map.1 hx; exact .lit _))))) (by ((try simp only [cells_agg, cells_lit, List.mem_cons, List.not_mem_nil, or_false, forall_eq_or_imp, forall_eq, only_any, only_lit', only_iptr, only_no, only_full, only_at, only_ptr, only_osl, only_agg, only_tup, only_fn, only_bfn, and_self, implies_true, and_true, true_and, okL_nil, okL_cons, bonly_cells, bonly_tok, keepP_add, look_nil, look_cons, ↓reduceIte, Nat.reduceEqDiff, Option.isSome_some, reduceCtorEq, false_or, if_true, if_false, false_implies]); (try first | done | omega | ((repeat' refine And.intro ?_ ?_) <;> (intro _ hx; obtain ⟨_, -, rfl⟩ := List.mem_map.1 hx; exact .lit _)))))
  · rintro i ⟨hi, hok⟩
    have e1 : IntKind.i64.wrap ((i : Int) + 1) = ((i + 1 : Nat) : Int) := by rw [wrap_i64]; omega
    have next : okB s i = true → ∀ j, j < i + 1 → okB s j = true := fun h j hj => by
      by_cases e : j = i
      · subst e; exact h
      · exact hok j (by omega)
    by_cases hlt : (i : Int) < (s.size : Int)
    · simp only [go_sem, hlt]
      (repeat (refine ⟨by omega, ?_⟩))
      have hlt' : i < s.size := by omega
      refine WE_pure _ _ _ _ _ _ _ _ (xletter_c _ _) ?_
      simp only [go_sem]
      cases hL : letB (byteAt s i) with
      | true =>
        simp only [go_sem, hL]
        refine LP_next (i + 1) ⟨by omega, next (by unfold okB; rw [hL]; rfl)⟩ (by omega) ?_
        rw [e1]
        refine imp_loc (by ((try simp only [cells_agg, cells_lit, leL_cons, leL_nil, leA_any, leA_lits, leA_isl, leA_self, and_self, true_and, and_true, or_true, true_or, Value.int.injEq, Value.bool.injEq, Value.string.injEq, AV.lit.injEq, Option.some.injEq, Blk.cells.injEq, Blk.tok.injEq, List.cons.injEq, Tk.at.injEq, subL_nil, subL_cons, look_nil, look_cons, ↓reduceIte, Nat.reduceEqDiff, Option.isSome_some, reduceCtorEq, or_false, false_or, if_true, if_false]); (try first | done | omega | (simp; done) | (simp; omega)))) (by ((try simp only [cells_agg, cells_lit, leL_cons, leL_nil, leA_any, leA_lits, leA_isl, leA_self, and_self, true_and, and_true, or_true, true_or, Value.int.injEq, Value.bool.injEq, Value.string.injEq, AV.lit.injEq, Option.some.injEq, Blk.cells.injEq, Blk.tok.injEq, List.cons.injEq, Tk.at.injEq, subL_nil, subL_cons, look_nil, look_cons, ↓reduceIte, Nat.reduceEqDiff, Option.isSome_some, reduceCtorEq, or_false, false_or, if_true, if_false]); (try first | done | omega | (simp; done) | (simp; omega)))) (by ((try simp only [cells_agg, cells_lit, List.mem_cons, List.not_mem_nil, or_false, forall_eq_or_imp, forall_eq, only_any, only_lit', only_iptr, only_no, only_full, only_at, only_ptr, only_osl, only_agg, only_tup, only_fn, only_bfn, and_self, implies_true, and_true, true_and, okL_nil, okL_cons, bonly_cells, bonly_tok, keepP_add, look_nil, look_cons, ↓reduceIte, Nat.reduceEqDiff, Option.isSome_some, reduceCtorEq, false_or, if_true, if_false, false_implies]); (try first | done | omega | ((repeat' refine And.intro ?_ ?_) <;> (intro _ hx; obtain ⟨_, -, rfl⟩ := List.mem_map.1 hx; exact .lit _))))) (by ((try simp only [cells_agg, cells_lit, List.mem_cons, List.not_mem_nil, or_false, forall_eq_or_imp, forall_eq, only_any, only_lit', only_iptr, only_no, only_full, only_at, only_ptr, only_osl, only_agg, only_tup, only_fn, only_bfn, and_self, implies_true, and_true, true_and, okL_nil, okL_cons, bonly_cells, bonly_tok, keepP_add, look_nil, look_cons, ↓reduceIte, Nat.reduceEqDiff, Option.isSome_some, reduceCtorEq, false_or, if_true, if_false, false_implies]); (try first | done | omega | ((repeat' refine And.intro ?_ ?_) <;> (intro _ hx; obtain ⟨_, -, rfl⟩ := List.mem_map.1 hx; exact .lit _)))))
      | false =>
        by_cases h0 : (0 : Int) < (i : Int)
        · simp only [go_sem, hL, h0, hlt]
          (repeat (refine ⟨by omega, ?_⟩))
          refine WE_pure _ _ _ _ _ _ _ _ (xdigit_c _ _) ?_
          simp only [go_sem]
          cases hD : digB (byteAt s i) with
          | true =>
            simp only [go_sem, hL, h0, hD]
            refine LP_next (i + 1) ⟨by omega, next (by rw [okB_of hL (decide_eq_true (by omega)) hD rfl]; rfl)⟩ (by omega) ?_
            rw [e1]
            refine imp_loc (by ((try simp only [cells_agg, cells_lit, leL_cons, leL_nil, leA_any, leA_lits, leA_isl, leA_self, and_self, true_and, and_true, or_true, true_or, Value.int.injEq, Value.bool.injEq, Value.string.injEq, AV.lit.injEq, Option.some.injEq, Blk.cells.injEq, Blk.tok.injEq, List.cons.injEq, Tk.at.injEq, subL_nil, subL_cons, look_nil, look_cons, ↓reduceIte, Nat.reduceEqDiff, Option.isSome_some, reduceCtorEq, or_false, false_or, if_true, if_false]); (try first | done | omega | (simp; done) | (simp; omega)))) (by ((try simp only [cells_agg, cells_lit, leL_cons, leL_nil, leA_any, leA_lits, leA_isl, leA_self, and_self, true_and, and_true, or_true, true_or, Value.int.injEq, Value.bool.injEq, Value.string.injEq, AV.lit.injEq, Option.some.injEq, Blk.cells.injEq, Blk.tok.injEq, List.cons.injEq, Tk.at.injEq, subL_nil, subL_cons, look_nil, look_cons, ↓reduceIte, Nat.reduceEqDiff, Option.isSome_some, reduceCtorEq, or_false, false_or, if_true, if_false]); (try first | done | omega | (simp; done) | (simp; omega)))) (by ((try simp only [cells_agg, cells_lit, List.mem_cons, List.not_mem_nil, or_false, forall_eq_or_imp, forall_eq, only_any, only_lit', only_iptr, only_no, only_full, only_at, only_ptr, only_osl, only_agg, only_tup, only_fn, only_bfn, and_self, implies_true, and_true, true_and, okL_nil, okL_cons, bonly_cells, bonly_tok, keepP_add, look_nil, look_cons, ↓reduceIte, Nat.reduceEqDiff, Option.isSome_some, reduceCtorEq, false_or, if_true, if_false, false_implies]); (try first | done | omega | ((repeat' refine And.intro ?_ ?_) <;> (intro _ hx; obtain ⟨_, -, rfl⟩ := List.mem_map.1 hx; exact .lit _))))) (by ((try simp only [cells_agg, cells_lit, List.mem_cons, List.not_mem_nil, or_false, forall_eq_or_imp, forall_eq, only_any, only_lit', only_iptr, only_no, only_full, only_at, only_ptr, only_osl, only_agg, only_tup, only_fn, only_bfn, and_self, implies_true, and_true, true_and, okL_nil, okL_cons, bonly_cells, bonly_tok, keepP_add, look_nil, look_cons, ↓reduceIte, Nat.reduceEqDiff, Option.isSome_some, reduceCtorEq, false_or, if_true, if_false, false_implies]); (try first | done | omega | ((repeat' refine And.intro ?_ ?_) <;> (intro _ hx; obtain ⟨_, -, rfl⟩ := List.mem_map.1 hx; exact .lit _)))))
          | false =>
            by_cases h9 : byteAt s i = 95
            · simp only [go_sem, hL, h0, hD, hlt, eq_true h9]
              (repeat (refine ⟨by omega, ?_⟩))
              refine LP_next (i + 1) ⟨by omega, next (by rw [okB_of hL (decide_eq_true (by omega)) hD (decide_eq_true h9)]; rfl)⟩ (by omega) ?_
              rw [e1]
              refine imp_loc (by ((try simp only [cells_agg, cells_lit, leL_cons, leL_nil, leA_any, leA_lits, leA_isl, leA_self, and_self, true_and, and_true, or_true, true_or, Value.int.injEq, Value.bool.injEq, Value.string.injEq, AV.lit.injEq, Option.some.injEq, Blk.cells.injEq, Blk.tok.injEq, List.cons.injEq, Tk.at.injEq, subL_nil, subL_cons, look_nil, look_cons, ↓reduceIte, Nat.reduceEqDiff, Option.isSome_some, reduceCtorEq, or_false, false_or, if_true, if_false]); (try first | done | omega | (simp; done) | (simp; omega)))) (by ((try simp only [cells_agg, cells_lit, leL_cons, leL_nil, leA_any, leA_lits, leA_isl, leA_self, and_self, true_and, and_true, or_true, true_or, Value.int.injEq, Value.bool.injEq, Value.string.injEq, AV.lit.injEq, Option.some.injEq, Blk.cells.injEq, Blk.tok.injEq, List.cons.injEq, Tk.at.injEq, subL_nil, subL_cons, look_nil, look_cons, ↓reduceIte, Nat.reduceEqDiff, Option.isSome_some, reduceCtorEq, or_false, false_or, if_true, if_false]); (try first | done | omega | (simp; done) | (simp; omega)))) (by ((try simp only [cells_agg, cells_lit, List.mem_cons, List.not_mem_nil, or_false, forall_eq_or_imp, forall_eq, only_any, only_lit', only_iptr, only_no, only_full, only_at, only_ptr, only_osl, only_agg, only_tup, only_fn, only_bfn, and_self, implies_true, and_true, true_and, okL_nil, okL_cons, bonly_cells, bonly_tok, keepP_add, look_nil, look_cons, ↓reduceIte, Nat.reduceEqDiff, Option.isSome_some, reduceCtorEq, false_or, if_true, if_false, false_implies]); (try first | done | omega | ((repeat' refine And.intro ?_ ?_) <;> (intro _ hx; obtain ⟨_, -, rfl⟩ := List.mem_map.1 hx; exact .lit _))))) (by ((try simp only [cells_agg, cells_lit, List.mem_cons, List.not_mem_nil, or_false, forall_eq_or_imp, forall_eq, only_any, only_lit', only_iptr, only_no, only_full, only_at, only_ptr, only_osl, only_agg, only_tup, only_fn, only_bfn, and_self, implies_true, and_true, true_and, okL_nil, okL_cons, bonly_cells, bonly_tok, keepP_add, look_nil, look_cons, ↓reduceIte, Nat.reduceEqDiff, Option.isSome_some, reduceCtorEq, false_or, if_true, if_false, false_implies]); (try first | done | omega | ((repeat' refine And.intro ?_ ?_) <;> (intro _ hx; obtain ⟨_, -, rfl⟩ := List.mem_map.1 hx; exact .lit _)))))
            · simp only [go_sem, hL, h0, hD, hlt, eq_false h9]
              (repeat (refine ⟨by omega, ?_⟩))
              refine FnPost_end hn0 (by simp) rfl (only_lit _ _) ?_
              simp only [go_sem]
              exact leA_int (by rw [nameN_eq s i hi hok (.inr (by rw [okB_of hL rfl hD (decide_eq_false h9)]; simp))])
        · simp only [go_sem, hL, h0]
          refine FnPost_end hn0 (by simp) rfl (only_lit _ _) ?_
          simp only [go_sem]
          exact leA_int (by rw [nameN_eq s i hi hok (.inr (by rw [okB_of hL (decide_eq_false (by omega)) rfl rfl]; rfl))])
    · simp only [go_sem, hlt]
      refine FnPost_end hn0 (by simp) rfl (only_lit _ _) ?_
      simp only [go_sem]
      exact leA_int (by rw [nameN_eq s i hi hok (.inl (by omega))])
def valuedB (s : ByteArray) : Bool := digB (byteAt s 0) || (decide (byteAt s 0 = 39) || (decide (byteAt s 0 = 45) && (decide (1 < s.size) && digB (byteAt s 1))))
theorem valued_c (s : ByteArray) (hs0 : 0 < s.size) (hs : s.size ≤ 140737488351232) (g : GH) : PureC Tryd.prog 101 [SS s] g (BB (valuedB s)) := by
  refine CallC.body (fun _ => none) (fun _ => 0) Tryd.func101 rfl Tryd.results101 Tryd.ntmps101 ?_
  intro n0 hn0
  simp only [go_sem]
  (repeat (refine ⟨by omega, ?_⟩))
  refine WE_pure _ _ _ _ _ _ _ _ (xdigit_c _ _) ?_
  simp only [go_sem]
  unfold valuedB
  cases hD : digB (byteAt s 0) with
  | true =>
    simp only [go_sem, hD]
    refine FnPost_end hn0 (by simp) rfl (only_lit _ _) ?_
    simp only [go_sem]
    exact leA_bool rfl
  | false =>
    by_cases h1 : byteAt s 0 = 39
    · simp only [go_sem, hD, eq_true h1]
      (repeat (refine ⟨by omega, ?_⟩))
      refine FnPost_end hn0 (by simp) rfl (only_lit _ _) ?_
      simp only [go_sem]
      exact leA_bool (by simp [h1])
    · by_cases h2 : byteAt s 0 = 45
      · by_cases h3 : (1 : Int) < (s.size : Int)
        · simp only [go_sem, hD, eq_false h1, eq_true h2, h3]
          (repeat (refine ⟨by omega, ?_⟩))
          refine WE_pure _ _ _ _ _ _ _ _ (xdigit_c _ _) ?_
          simp only [go_sem]
          refine FnPost_end hn0 (by simp) rfl (only_lit _ _) ?_
          simp only [go_sem]
          exact leA_bool (by simp [h1, h2]; omega)
        · simp only [go_sem, hD, eq_false h1, eq_true h2, h3]
          (repeat (refine ⟨by omega, ?_⟩))
          refine FnPost_end hn0 (by simp) rfl (only_lit _ _) ?_
          simp only [go_sem]
          exact leA_bool (by simp [h1, h2]; omega)
      · simp only [go_sem, hD, eq_false h1, eq_false h2]
        (repeat (refine ⟨by omega, ?_⟩))
        refine FnPost_end hn0 (by simp) rfl (only_lit _ _) ?_
        simp only [go_sem]
        exact leA_bool (by simp [h1, h2])
end Go.Proofs.YtcnhpclfflcdfaaDoorR.Lex
