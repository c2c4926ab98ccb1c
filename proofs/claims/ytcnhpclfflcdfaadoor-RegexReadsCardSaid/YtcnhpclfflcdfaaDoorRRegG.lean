import Derived.Test.YtcnhpclfflcdfaaDoorRRegF
/- Expressions: the document's reader: rows. -/
namespace Go.Proofs.YtcnhpclfflcdfaaDoorR.Reg
open Go Go.Av Go.Proofs.YtcnhpclfflcdfaaDoorR.Val Go.Proofs.YtcnhpclfflcdfaaDoorR.Lex
set_option linter.unusedSimpArgs false
set_option linter.unusedVariables false
set_option maxHeartbeats 2000000 in
theorem rRow_p (nl : Option Bool) (ws : List Wd) (one : RS → Rd2) (a0 : Nat) (ha : a0 ≤ ws.length) (hl : ws.length ≤ 100000) (hM : ∀ st : RS, a0 ≤ st.1 → st.1 ≤ ws.length → Mo ws st (one st))
    (hR : ∀ b : Nat, a0 ≤ b → b ≤ ws.length → RowsR 135 nl ws b (one (b, 0))) : RowsR 108 nl ws a0 (partsF ws 3 one (a0, 0)) := by
  intro g
  have hI : partsF ws 3 one (a0, 0) = partsL ws 3 one (ws.length + 1) [] (a0, 0) := rfl
  generalize partsF ws 3 one (a0, 0) = res at *
  have sg : signR 3 = ⟨#[46]⟩ := rfl
  refine CallC.body (fun _ => none) (fun d => if d = 7 then 1 else 0) Tryd.func108 rfl Tryd.results108 Tryd.ntmps108 ?_
  intro n0 hn0
  simp only [go_sem]
  refine WC_loop (fun p : List Rx × Nat × Nat => [.isl nl (Wds ws) .no, I64 p.2.1, .any, .any, .ptr (n0 + 4) 0 0, .isl none (p.1.map rA) (.at (n0 + 7) p.2.2), .any, .any, .any, .any, .any, .any, .any, .any, .any, .any, .any, .any, .any, .any, .any, .any, .any, .any, .any, .any, .any, .any, .any, .any, .any]) (fun p => ⟨g, [(4, .cells 0 [I64 0, SS ⟨#[]⟩, BB false, .isl (some true) [] .full, I64 0, I64 0]), (7, .tok p.2.2)]⟩)
    (fun p => a0 ≤ p.2.1 ∧ p.2.1 ≤ ws.length ∧ nodesL p.1 ≤ 2 * (p.2.1 - a0) ∧ ∃ f, ws.length - p.2.1 < f ∧ partsL ws 3 one f p.1 (p.2.1, 0) = res) (fun p => ws.length - p.2.1) ([], a0, 0) ⟨Nat.le_refl _, ha, by simp only [nodesL]; omega, ws.length + 1, by simp only; omega, hI.symm⟩ ?_ ?_
  · simp only [List.map_nil]
    refine imp_loc (by ((try simp only [cells_agg, cells_lit, leL_cons, leL_nil, leA_any, leA_lits, leA_isl, leA_self, and_self, true_and, and_true, or_true, true_or, Value.int.injEq, Value.bool.injEq, Value.string.injEq, AV.lit.injEq, Option.some.injEq, Blk.cells.injEq, Blk.tok.injEq, List.cons.injEq, Tk.at.injEq, subL_nil, subL_cons, look_nil, look_cons, ↓reduceIte, Nat.reduceEqDiff, Option.isSome_some, reduceCtorEq, or_false, false_or, if_true, if_false]); (try first | done | omega | (simp; done) | (simp; omega)))) (by ((try simp only [cells_agg, cells_lit, leL_cons, leL_nil, leA_any, leA_lits, leA_isl, leA_self, and_self, true_and, and_true, or_true, true_or, Value.int.injEq, Value.bool.injEq, Value.string.injEq, AV.lit.injEq, Option.some.injEq, Blk.cells.injEq, Blk.tok.injEq, List.cons.injEq, Tk.at.injEq, subL_nil, subL_cons, look_nil, look_cons, ↓reduceIte, Nat.reduceEqDiff, Option.isSome_some, reduceCtorEq, or_false, false_or, if_true, if_false]); (try first | done | omega | (simp; done) | (simp; omega)))) (by ((try simp only [cells_agg, cells_lit, List.mem_cons, List.not_mem_nil, or_false, forall_eq_or_imp, forall_eq, only_any, only_lit', only_iptr, only_no, only_full, only_at, only_ptr, only_osl, only_agg, only_tup, only_fn, only_bfn, and_self, implies_true, and_true, true_and, okL_nil, okL_cons, bonly_cells, bonly_tok, keepP_add, look_nil, look_cons, ↓reduceIte, Nat.reduceEqDiff, Option.isSome_some, reduceCtorEq, false_or, if_true, if_false, false_implies]); (try first | done | omega | ((repeat' refine And.intro ?_ ?_) <;> (intro _ hx; obtain ⟨_, -, rfl⟩ := List.mem_map.1 hx; exact .lit _))))) (by ((try simp only [cells_agg, cells_lit, List.mem_cons, List.not_mem_nil, or_false, forall_eq_or_imp, forall_eq, only_any, only_lit', only_iptr, only_no, only_full, only_at, only_ptr, only_osl, only_agg, only_tup, only_fn, only_bfn, and_self, implies_true, and_true, true_and, okL_nil, okL_cons, bonly_cells, bonly_tok, keepP_add, look_nil, look_cons, ↓reduceIte, Nat.reduceEqDiff, Option.isSome_some, reduceCtorEq, false_or, if_true, if_false, false_implies]); (try first | done | omega | ((repeat' refine And.intro ?_ ?_) <;> (intro _ hx; obtain ⟨_, -, rfl⟩ := List.mem_map.1 hx; exact .lit _)))))
  · rintro ⟨l, a, v⟩ ⟨h1, h2, h3, f, hf, hres⟩
    simp only at h1 h2 h3 hf hres
    have hone := hR a h1 h2
    have hmo := hM (a, 0) h1 h2
    obtain ⟨f', rfl⟩ : ∃ f', f = f' + 1 := ⟨f - 1, by omega⟩
    rw [partsL, sg] at hres
    generalize one (a, 0) = q at *
    obtain ⟨x, b, e⟩ := q
    obtain ⟨m1, m2, m3⟩ := hmo
    simp only at m1 m2 m3 hres
    have htl := takeL_nodes 3 l x
    have hll : ∀ l : List Rx, l.length ≤ nodesL l := fun l => by rw [nodesL_eq]; exact len_le_sum l
    have hl1 := hll l
    have hl2 := x.len_lt
    have hl3 := hll (takeL 3 l x)
    simp only [go_sem]
    by_cases ce : e = 0
    · subst ce
      have hok : okR (x, b, 0) = x := okR_ok rfl
      refine WE_pure _ _ _ _ _ _ _ _ (hone _) ?_
      simp only [go_sem, hok]
      refine WC_draw Ty.mixed (by kernel_rfl) ?_
      simp only [go_sem]
      rw [← rA_eq]
      refine DE_eff _ _ _ _ _ _ _ _ _ [n0 + 7] [(n0 + 7, .tok (v + 1))] (fun g' hg' => rTake_c (n0 + 7) v none l x 3 g' (by rw [hg' _ (by simp), get_loc]; rfl) (by omega)) (fun p hp _ => by rw [List.mem_singleton] at hp; subst hp; exact trivial) ?_
      simp only [go_sem]
      refine WD_end (by (simp only [POL, PO1, List.take_succ_cons, List.take_zero, List.take_nil, and_true, true_and]; (repeat' apply And.intro) <;> first | exact trivial | (right; unfold HA; simp; done) | (left; kernel_rfl))) ?_
      simp only [go_sem]
      cases hb : isB ws (b, 0) ⟨#[46]⟩
      · rw [hb, if_neg (by decide)] at hres
        subst hres
        refine WE_pure _ _ _ _ _ _ _ _ (rSignW_c nl ws b ⟨#[46]⟩ hl _) ?_
        simp only [go_sem, hb]
        refine WE_pure _ _ _ _ _ _ _ _ (rWhole_c none (.at (n0 + 7) (v + 1)) (takeL 3 l x) 3 (by omega) _) ?_
        simp only [go_sem, rA_cells]
        have hno : okR (wholeR 3 (takeL 3 l x), b, 0) = wholeR 3 (takeL 3 l x) := okR_ok rfl
        refine FnPost_ce0 hn0 (by simp) (saC (wholeR 3 (takeL 3 l x), b, 0)) (saL (okR (wholeR 3 (takeL 3 l x), b, 0)) b 0) _ rfl (by rw [hno]; exact leL_refl _) (saA_only _ _ _) (fun loc' hl' => ?_)
        simp only [go_sem, get_loc, hl']
        exact leA_refl _
      · have hlt := (isB_lt hb).1
        simp only at hlt
        have e1 : IntKind.i64.wrap ((b : Int) + 1) = ((b + 1 : Nat) : Int) := by rw [wrap_i64]; omega
        rw [hb, if_pos rfl, isS_t hb] at hres
        refine WE_pure _ _ _ _ _ _ _ _ (rSignW_c nl ws b ⟨#[46]⟩ hl _) ?_
        simp only [go_sem, hb]
        refine LP_next (takeL 3 l x, b + 1, v + 1) ⟨by simp only; omega, hlt, by simp only; omega, f', by simp only; omega, hres⟩ (by simp only; omega) ?_
        rw [e1]
        refine imp_loc (by ((try simp only [cells_agg, cells_lit, leL_cons, leL_nil, leA_any, leA_lits, leA_isl, leA_self, and_self, true_and, and_true, or_true, true_or, Value.int.injEq, Value.bool.injEq, Value.string.injEq, AV.lit.injEq, Option.some.injEq, Blk.cells.injEq, Blk.tok.injEq, List.cons.injEq, Tk.at.injEq, subL_nil, subL_cons, look_nil, look_cons, ↓reduceIte, Nat.reduceEqDiff, Option.isSome_some, reduceCtorEq, or_false, false_or, if_true, if_false]); (try first | done | omega | (simp; done) | (simp; omega)))) (by ((try simp only [cells_agg, cells_lit, leL_cons, leL_nil, leA_any, leA_lits, leA_isl, leA_self, and_self, true_and, and_true, or_true, true_or, Value.int.injEq, Value.bool.injEq, Value.string.injEq, AV.lit.injEq, Option.some.injEq, Blk.cells.injEq, Blk.tok.injEq, List.cons.injEq, Tk.at.injEq, subL_nil, subL_cons, look_nil, look_cons, ↓reduceIte, Nat.reduceEqDiff, Option.isSome_some, reduceCtorEq, or_false, false_or, if_true, if_false]); (try first | done | omega | (simp; done) | (simp; omega)))) (by ((try simp only [cells_agg, cells_lit, List.mem_cons, List.not_mem_nil, or_false, forall_eq_or_imp, forall_eq, only_any, only_lit', only_iptr, only_no, only_full, only_at, only_ptr, only_osl, only_agg, only_tup, only_fn, only_bfn, and_self, implies_true, and_true, true_and, okL_nil, okL_cons, bonly_cells, bonly_tok, keepP_add, look_nil, look_cons, ↓reduceIte, Nat.reduceEqDiff, Option.isSome_some, reduceCtorEq, false_or, if_true, if_false, false_implies]); (try first | done | omega | ((repeat' refine And.intro ?_ ?_) <;> (intro _ hx; obtain ⟨_, -, rfl⟩ := List.mem_map.1 hx; exact .lit _))))) (by ((try simp only [cells_agg, cells_lit, List.mem_cons, List.not_mem_nil, or_false, forall_eq_or_imp, forall_eq, only_any, only_lit', only_iptr, only_no, only_full, only_at, only_ptr, only_osl, only_agg, only_tup, only_fn, only_bfn, and_self, implies_true, and_true, true_and, okL_nil, okL_cons, bonly_cells, bonly_tok, keepP_add, look_nil, look_cons, ↓reduceIte, Nat.reduceEqDiff, Option.isSome_some, reduceCtorEq, false_or, if_true, if_false, false_implies]); (try first | done | omega | ((repeat' refine And.intro ?_ ?_) <;> (intro _ hx; obtain ⟨_, -, rfl⟩ := List.mem_map.1 hx; exact .lit _)))))
    · have hb : isB ws (b, e) ⟨#[46]⟩ = false := isB_bad _ ce
      rw [hb, if_neg (by decide)] at hres
      subst hres
      have hok : okR (x, b, e) = rx0 := okR_no ce
      refine WE_pure _ _ _ _ _ _ _ _ (hone _) ?_
      simp only [go_sem, eq_false ce, hok]
      have hno : okR (wholeR 3 (takeL 3 l x), b, e) = rx0 := okR_no ce
      refine FnPost_ce0 hn0 (by simp) (saC (wholeR 3 (takeL 3 l x), b, e)) (saL (okR (wholeR 3 (takeL 3 l x), b, e)) b e) _ rfl (by rw [hno]; exact leL_refl _) (saA_only _ _ _) (fun loc' hl' => ?_)
      simp only [go_sem, get_loc, hl']
      exact leA_refl _
set_option maxHeartbeats 2000000 in
theorem rRows_p (nl : Option Bool) (ws : List Wd) (one : RS → Rd2) (a0 : Nat) (ha : a0 ≤ ws.length) (hl : ws.length ≤ 100000) (hM : ∀ st : RS, a0 ≤ st.1 → st.1 ≤ ws.length → Mo ws st (one st))
    (hR : ∀ b : Nat, a0 ≤ b → b ≤ ws.length → RowsR 108 nl ws b (one (b, 0))) : RowsR 75 nl ws a0 (partsF ws 4 one (a0, 0)) := by
  intro g
  have hI : partsF ws 4 one (a0, 0) = partsL ws 4 one (ws.length + 1) [] (a0, 0) := rfl
  generalize partsF ws 4 one (a0, 0) = res at *
  have sg : signR 4 = ⟨#[124]⟩ := rfl
  refine CallC.body (fun _ => none) (fun d => if d = 7 then 1 else 0) Tryd.func75 rfl Tryd.results75 Tryd.ntmps75 ?_
  intro n0 hn0
  simp only [go_sem]
  refine WC_loop (fun p : List Rx × Nat × Nat => [.isl nl (Wds ws) .no, I64 p.2.1, .any, .any, .ptr (n0 + 4) 0 0, .isl none (p.1.map rA) (.at (n0 + 7) p.2.2), .any, .any, .any, .any, .any, .any, .any, .any, .any, .any, .any, .any, .any, .any, .any, .any, .any, .any, .any, .any, .any, .any, .any, .any, .any]) (fun p => ⟨g, [(4, .cells 0 [I64 0, SS ⟨#[]⟩, BB false, .isl (some true) [] .full, I64 0, I64 0]), (7, .tok p.2.2)]⟩)
    (fun p => a0 ≤ p.2.1 ∧ p.2.1 ≤ ws.length ∧ nodesL p.1 ≤ 2 * (p.2.1 - a0) ∧ ∃ f, ws.length - p.2.1 < f ∧ partsL ws 4 one f p.1 (p.2.1, 0) = res) (fun p => ws.length - p.2.1) ([], a0, 0) ⟨Nat.le_refl _, ha, by simp only [nodesL]; omega, ws.length + 1, by simp only; omega, hI.symm⟩ ?_ ?_
  · simp only [List.map_nil]
    refine imp_loc (by ((try simp only [cells_agg, cells_lit, leL_cons, leL_nil, leA_any, leA_lits, leA_isl, leA_self, and_self, true_and, and_true, or_true, true_or, Value.int.injEq, Value.bool.injEq, Value.string.injEq, AV.lit.injEq, Option.some.injEq, Blk.cells.injEq, Blk.tok.injEq, List.cons.injEq, Tk.at.injEq, subL_nil, subL_cons, look_nil, look_cons, ↓reduceIte, Nat.reduceEqDiff, Option.isSome_some, reduceCtorEq, or_false, false_or, if_true, if_false]); (try first | done | omega | (simp; done) | (simp; omega)))) (by ((try simp only [cells_agg, cells_lit, leL_cons, leL_nil, leA_any, leA_lits, leA_isl, leA_self, and_self, true_and, and_true, or_true, true_or, Value.int.injEq, Value.bool.injEq, Value.string.injEq, AV.lit.injEq, Option.some.injEq, Blk.cells.injEq, Blk.tok.injEq, List.cons.injEq, Tk.at.injEq, subL_nil, subL_cons, look_nil, look_cons, ↓reduceIte, Nat.reduceEqDiff, Option.isSome_some, reduceCtorEq, or_false, false_or, if_true, if_false]); (try first | done | omega | (simp; done) | (simp; omega)))) (by ((try simp only [cells_agg, cells_lit, List.mem_cons, List.not_mem_nil, or_false, forall_eq_or_imp, forall_eq, only_any, only_lit', only_iptr, only_no, only_full, only_at, only_ptr, only_osl, only_agg, only_tup, only_fn, only_bfn, and_self, implies_true, and_true, true_and, okL_nil, okL_cons, bonly_cells, bonly_tok, keepP_add, look_nil, look_cons, ↓reduceIte, Nat.reduceEqDiff, Option.isSome_some, reduceCtorEq, false_or, if_true, if_false, false_implies]); (try first | done | omega | ((repeat' refine And.intro ?_ ?_) <;> (intro _ hx; obtain ⟨_, -, rfl⟩ := List.mem_map.1 hx; exact .lit _))))) (by ((try simp only [cells_agg, cells_lit, List.mem_cons, List.not_mem_nil, or_false, forall_eq_or_imp, forall_eq, only_any, only_lit', only_iptr, only_no, only_full, only_at, only_ptr, only_osl, only_agg, only_tup, only_fn, only_bfn, and_self, implies_true, and_true, true_and, okL_nil, okL_cons, bonly_cells, bonly_tok, keepP_add, look_nil, look_cons, ↓reduceIte, Nat.reduceEqDiff, Option.isSome_some, reduceCtorEq, false_or, if_true, if_false, false_implies]); (try first | done | omega | ((repeat' refine And.intro ?_ ?_) <;> (intro _ hx; obtain ⟨_, -, rfl⟩ := List.mem_map.1 hx; exact .lit _)))))
  · rintro ⟨l, a, v⟩ ⟨h1, h2, h3, f, hf, hres⟩
    simp only at h1 h2 h3 hf hres
    have hone := hR a h1 h2
    have hmo := hM (a, 0) h1 h2
    obtain ⟨f', rfl⟩ : ∃ f', f = f' + 1 := ⟨f - 1, by omega⟩
    rw [partsL, sg] at hres
    generalize one (a, 0) = q at *
    obtain ⟨x, b, e⟩ := q
    obtain ⟨m1, m2, m3⟩ := hmo
    simp only at m1 m2 m3 hres
    have htl := takeL_nodes 4 l x
    have hll : ∀ l : List Rx, l.length ≤ nodesL l := fun l => by rw [nodesL_eq]; exact len_le_sum l
    have hl1 := hll l
    have hl2 := x.len_lt
    have hl3 := hll (takeL 4 l x)
    simp only [go_sem]
    by_cases ce : e = 0
    · subst ce
      have hok : okR (x, b, 0) = x := okR_ok rfl
      refine WE_pure _ _ _ _ _ _ _ _ (hone _) ?_
      simp only [go_sem, hok]
      refine WC_draw Ty.mixed (by kernel_rfl) ?_
      simp only [go_sem]
      rw [← rA_eq]
      refine DE_eff _ _ _ _ _ _ _ _ _ [n0 + 7] [(n0 + 7, .tok (v + 1))] (fun g' hg' => rTake_c (n0 + 7) v none l x 4 g' (by rw [hg' _ (by simp), get_loc]; rfl) (by omega)) (fun p hp _ => by rw [List.mem_singleton] at hp; subst hp; exact trivial) ?_
      simp only [go_sem]
      refine WD_end (by (simp only [POL, PO1, List.take_succ_cons, List.take_zero, List.take_nil, and_true, true_and]; (repeat' apply And.intro) <;> first | exact trivial | (right; unfold HA; simp; done) | (left; kernel_rfl))) ?_
      simp only [go_sem]
      cases hb : isB ws (b, 0) ⟨#[124]⟩
      · rw [hb, if_neg (by decide)] at hres
        subst hres
        refine WE_pure _ _ _ _ _ _ _ _ (rSignW_c nl ws b ⟨#[124]⟩ hl _) ?_
        simp only [go_sem, hb]
        refine WE_pure _ _ _ _ _ _ _ _ (rWhole_c none (.at (n0 + 7) (v + 1)) (takeL 4 l x) 4 (by omega) _) ?_
        simp only [go_sem, rA_cells]
        have hno : okR (wholeR 4 (takeL 4 l x), b, 0) = wholeR 4 (takeL 4 l x) := okR_ok rfl
        refine FnPost_ce0 hn0 (by simp) (saC (wholeR 4 (takeL 4 l x), b, 0)) (saL (okR (wholeR 4 (takeL 4 l x), b, 0)) b 0) _ rfl (by rw [hno]; exact leL_refl _) (saA_only _ _ _) (fun loc' hl' => ?_)
        simp only [go_sem, get_loc, hl']
        exact leA_refl _
      · have hlt := (isB_lt hb).1
        simp only at hlt
        have e1 : IntKind.i64.wrap ((b : Int) + 1) = ((b + 1 : Nat) : Int) := by rw [wrap_i64]; omega
        rw [hb, if_pos rfl, isS_t hb] at hres
        refine WE_pure _ _ _ _ _ _ _ _ (rSignW_c nl ws b ⟨#[124]⟩ hl _) ?_
        simp only [go_sem, hb]
        refine LP_next (takeL 4 l x, b + 1, v + 1) ⟨by simp only; omega, hlt, by simp only; omega, f', by simp only; omega, hres⟩ (by simp only; omega) ?_
        rw [e1]
        refine imp_loc (by ((try simp only [cells_agg, cells_lit, leL_cons, leL_nil, leA_any, leA_lits, leA_isl, leA_self, and_self, true_and, and_true, or_true, true_or, Value.int.injEq, Value.bool.injEq, Value.string.injEq, AV.lit.injEq, Option.some.injEq, Blk.cells.injEq, Blk.tok.injEq, List.cons.injEq, Tk.at.injEq, subL_nil, subL_cons, look_nil, look_cons, ↓reduceIte, Nat.reduceEqDiff, Option.isSome_some, reduceCtorEq, or_false, false_or, if_true, if_false]); (try first | done | omega | (simp; done) | (simp; omega)))) (by ((try simp only [cells_agg, cells_lit, leL_cons, leL_nil, leA_any, leA_lits, leA_isl, leA_self, and_self, true_and, and_true, or_true, true_or, Value.int.injEq, Value.bool.injEq, Value.string.injEq, AV.lit.injEq, Option.some.injEq, Blk.cells.injEq, Blk.tok.injEq, List.cons.injEq, Tk.at.injEq, subL_nil, subL_cons, look_nil, look_cons, ↓reduceIte, Nat.reduceEqDiff, Option.isSome_some, reduceCtorEq, or_false, false_or, if_true, if_false]); (try first | done | omega | (simp; done) | (simp; omega)))) (by ((try simp only [cells_agg, cells_lit, List.mem_cons, List.not_mem_nil, or_false, forall_eq_or_imp, forall_eq, only_any, only_lit', only_iptr, only_no, only_full, only_at, only_ptr, only_osl, only_agg, only_tup, only_fn, only_bfn, and_self, implies_true, and_true, true_and, okL_nil, okL_cons, bonly_cells, bonly_tok, keepP_add, look_nil, look_cons, ↓reduceIte, Nat.reduceEqDiff, Option.isSome_some, reduceCtorEq, false_or, if_true, if_false, false_implies]); (try first | done | omega | ((repeat' refine And.intro ?_ ?_) <;> (intro _ hx; obtain ⟨_, -, rfl⟩ := List.mem_map.1 hx; exact .lit _))))) (by ((try simp only [cells_agg, cells_lit, List.mem_cons, List.not_mem_nil, or_false, forall_eq_or_imp, forall_eq, only_any, only_lit', only_iptr, only_no, only_full, only_at, only_ptr, only_osl, only_agg, only_tup, only_fn, only_bfn, and_self, implies_true, and_true, true_and, okL_nil, okL_cons, bonly_cells, bonly_tok, keepP_add, look_nil, look_cons, ↓reduceIte, Nat.reduceEqDiff, Option.isSome_some, reduceCtorEq, false_or, if_true, if_false, false_implies]); (try first | done | omega | ((repeat' refine And.intro ?_ ?_) <;> (intro _ hx; obtain ⟨_, -, rfl⟩ := List.mem_map.1 hx; exact .lit _)))))
    · have hb : isB ws (b, e) ⟨#[124]⟩ = false := isB_bad _ ce
      rw [hb, if_neg (by decide)] at hres
      subst hres
      have hok : okR (x, b, e) = rx0 := okR_no ce
      refine WE_pure _ _ _ _ _ _ _ _ (hone _) ?_
      simp only [go_sem, eq_false ce, hok]
      have hno : okR (wholeR 4 (takeL 4 l x), b, e) = rx0 := okR_no ce
      refine FnPost_ce0 hn0 (by simp) (saC (wholeR 4 (takeL 4 l x), b, e)) (saL (okR (wholeR 4 (takeL 4 l x), b, e)) b e) _ rfl (by rw [hno]; exact leL_refl _) (saA_only _ _ _) (fun loc' hl' => ?_)
      simp only [go_sem, get_loc, hl']
      exact leA_refl _
theorem rRow_c (nl : Option Bool) (ws : List Wd) (R : RS → Rd2) (a : Nat) (ha : a ≤ ws.length) (hl : ws.length ≤ 100000) (hM : ∀ st' : RS, a < st'.1 → st'.1 ≤ ws.length → Mo ws st' (R st'))
    (hR : ∀ b : Nat, a < b → b ≤ ws.length → RowsR 75 nl ws b (R (b, 0))) : RowsR 108 nl ws a (rowF ws R (a, 0)) :=
  rRow_p nl ws (itemF ws R) a ha hl (fun st h1 h2 => item_mo ws R st h2 fun st' h3 h4 => hM st' (by omega) h4) fun b h1 h2 => rItem_c nl ws R b h2 hl (fun st' h3 h4 => hM st' (by omega) h4) fun c h3 h4 => hR c (by omega) h4
theorem rRows_c (nl : Option Bool) (ws : List Wd) (R : RS → Rd2) (a : Nat) (ha : a ≤ ws.length) (hl : ws.length ≤ 100000) (hM : ∀ st' : RS, a < st'.1 → st'.1 ≤ ws.length → Mo ws st' (R st'))
    (hR : ∀ b : Nat, a < b → b ≤ ws.length → RowsR 75 nl ws b (R (b, 0))) : RowsR 75 nl ws a (rowsF ws R (a, 0)) :=
  rRows_p nl ws (rowF ws R) a ha hl (fun st h1 h2 => row_mo ws R st h2 fun st' h3 h4 => hM st' (by omega) h4) fun b h1 h2 => rRow_c nl ws R b h2 hl (fun st' h3 h4 => hM st' (by omega) h4) fun c h3 h4 => hR c (by omega) h4
theorem rRowsN_c (nl : Option Bool) (ws : List Wd) (hl : ws.length ≤ 100000) : ∀ (n a : Nat), a ≤ ws.length → ws.length - a < n → RowsR 75 nl ws a (rowsN ws n (a, 0))
  | 0, a, h, hn => by omega
  | n + 1, a, h, hn => rRows_c nl ws _ a h hl (fun st' h1 h2 => rowsN_mo ws n st' h2 (by omega)) fun b h1 h2 => rRowsN_c nl ws hl n b h2 (by omega)
end Go.Proofs.YtcnhpclfflcdfaaDoorR.Reg
