import Derived.Test.YtcnhpclfflcdfaaDoorRRegE
/- Expressions: the document's reader: items and rows. -/
namespace Go.Proofs.YtcnhpclfflcdfaaDoorR.Reg
open Go Go.Av Go.Proofs.YtcnhpclfflcdfaaDoorR.Val Go.Proofs.YtcnhpclfflcdfaaDoorR.Lex
set_option linter.unusedSimpArgs false
set_option linter.unusedVariables false
theorem isB_one {ws : List Wd} {st : RS} {s t : ByteArray} (h : isB ws st s = true) (hne : s ≠ t) : isB ws st t = false := by
  cases e : isB ws st t
  · rfl
  · exact absurd ((isB_iff.1 h).2.2.2.symm.trans (isB_iff.1 e).2.2.2) hne
theorem isB_bad {ws : List Wd} {st : RS} (s : ByteArray) (h : ¬ st.2 = 0) : isB ws st s = false := by
  cases e : isB ws st s
  · rfl
  · exact absurd (isB_lt e).2 h
theorem star_bad (ws : List Wd) (f : Nat) (x : Rx) (st : RS) (h : ¬ st.2 = 0) : starL ws f x st = (x, st) := by
  cases f with
  | zero => rfl
  | succ f => rw [starL, if_neg (by rw [isB_bad _ h]; decide), if_neg (by rw [isB_bad _ h]; decide), if_neg (by rw [isB_bad _ h]; decide)]
/-- the document's reader comes to this -/
def RowsR (f : FuncId) (nl : Option Bool) (ws : List Wd) (a : Nat) (res : Rd2) : Prop := ∀ g : GH, PureC Tryd.prog f [.isl nl (Wds ws) .no, I64 a] g (saC res)
set_option maxHeartbeats 2000000 in
theorem rItem_c (nl : Option Bool) (ws : List Wd) (R : RS → Rd2) (a : Nat) (ha : a ≤ ws.length) (hl : ws.length ≤ 100000) (hM : ∀ st' : RS, a < st'.1 → st'.1 ≤ ws.length → Mo ws st' (R st'))
    (hR : ∀ b : Nat, a < b → b ≤ ws.length → RowsR 75 nl ws b (R (b, 0))) : RowsR 135 nl ws a (itemF ws R (a, 0)) := by
  intro g
  have hpm := piece_mo ws R (a, 0) ha (fun st' h1 h2 => hM st' h1 h2)
  have hres : itemF ws R (a, 0) = starL ws (ws.length + 1) (pieceF ws R (a, 0)).1 (pieceF ws R (a, 0)).2 := rfl
  have hq : pieceF ws R (a, 0) = pieceF ws R (a, 0) := rfl
  generalize itemF ws R (a, 0) = res at *
  generalize hqq : pieceF ws R (a, 0) = q at *
  clear hq
  have hqm := hpm.2.1
  have e1a : IntKind.i64.wrap ((a : Int) + 1) = ((a + 1 : Nat) : Int) := by rw [wrap_i64]; omega
  have e2a : IntKind.i64.wrap ((a : Int) + 2) = ((a + 2 : Nat) : Int) := by rw [wrap_i64]; omega
  refine CallC.body (fun _ => none) (fun _ => 0) Tryd.func135 rfl Tryd.results135 Tryd.ntmps135 ?_
  intro n0 hn0
  simp only [go_sem]
  cases hb1 : isB ws (a, 0) ⟨#[94]⟩
  · cases hb2 : isB ws (a, 0) ⟨#[40]⟩
    · have hF : q = (stepR ws (a, 0) false, stepS ws (a, 0)) := by rw [← hqq]; unfold pieceF; rw [if_neg (by rw [hb1]; decide), if_pos hb2]
      have hc := rStep_c nl ws a false ha hl
      rw [← hF] at hc
      refine WE_pure _ _ _ _ _ _ _ _ (rSignW_c nl ws a ⟨#[94]⟩ hl _) ?_
      simp only [go_sem, hb1]
      refine WE_pure _ _ _ _ _ _ _ _ (rSignW_c nl ws a ⟨#[40]⟩ hl _) ?_
      simp only [go_sem, hb2]
      refine WE_pure _ _ _ _ _ _ _ _ (hc _) ?_
      simp only [go_sem]
      refine WC_loop (fun s : Rd2 => [.isl nl (Wds ws) .no, .any, .any, .any, .ptr (n0 + 4) 0 0, .ptr (n0 + 5) 0 0, .any, .any, .any, .any, .any, .any, .any, .any, .any, .any, .any, .any, .any, .any, .any, .any, .any, .any, .any, .any, .any, .any, .any, .any, .any, .any, .any, .any, .any, .any, .any, .any, .any, .any, .any, .any, .any, .any, .any, .any, .any, .any, .any, .any, .any, .any, .any, .any, .any, .any, .any, .any, .any, .any, .any, .any, .any, .any, .any, .any, .any, .any, .any, .any, .any, .any, .any, .any, .any, .any, .any, .any, .any, .any, .any, .any, .any, .any]) (fun s => ⟨g, [(4, .cells 0 [I64 0, SS ⟨#[]⟩, BB false, .isl (some true) [] .full, I64 0, I64 0]), (5, .cells 0 (saL (okR s) s.2.1 s.2.2))]⟩) (fun s => s.2.1 ≤ ws.length ∧ ∃ f, ws.length - s.2.1 < f ∧ starL ws f s.1 s.2 = res) (fun s => ws.length - s.2.1) q ⟨hqm, ws.length + 1, by omega, hres.symm⟩ ?_ ?_
      · refine imp_loc (by ((try simp only [cells_agg, cells_lit, leL_cons, leL_nil, leA_any, leA_lits, leA_isl, leA_self, and_self, true_and, and_true, or_true, true_or, Value.int.injEq, Value.bool.injEq, Value.string.injEq, AV.lit.injEq, Option.some.injEq, Blk.cells.injEq, Blk.tok.injEq, List.cons.injEq, Tk.at.injEq, subL_nil, subL_cons, look_nil, look_cons, ↓reduceIte, Nat.reduceEqDiff, Option.isSome_some, reduceCtorEq, or_false, false_or, if_true, if_false]); (try first | done | omega | (simp; done) | (simp; omega)))) (by ((try simp only [cells_agg, cells_lit, leL_cons, leL_nil, leA_any, leA_lits, leA_isl, leA_self, and_self, true_and, and_true, or_true, true_or, Value.int.injEq, Value.bool.injEq, Value.string.injEq, AV.lit.injEq, Option.some.injEq, Blk.cells.injEq, Blk.tok.injEq, List.cons.injEq, Tk.at.injEq, subL_nil, subL_cons, look_nil, look_cons, ↓reduceIte, Nat.reduceEqDiff, Option.isSome_some, reduceCtorEq, or_false, false_or, if_true, if_false]); (try first | done | omega | (simp; done) | (simp; omega)))) (by ((try simp only [cells_agg, cells_lit, List.mem_cons, List.not_mem_nil, or_false, forall_eq_or_imp, forall_eq, only_any, only_lit', only_iptr, only_no, only_full, only_at, only_ptr, only_osl, only_agg, only_tup, only_fn, only_bfn, and_self, implies_true, and_true, true_and, okL_nil, okL_cons, bonly_cells, bonly_tok, keepP_add, look_nil, look_cons, ↓reduceIte, Nat.reduceEqDiff, Option.isSome_some, reduceCtorEq, false_or, if_true, if_false, false_implies]); (try first | done | omega | ((repeat' refine And.intro ?_ ?_) <;> (intro _ hx; obtain ⟨_, -, rfl⟩ := List.mem_map.1 hx; exact .lit _))))) (by ((try simp only [cells_agg, cells_lit, List.mem_cons, List.not_mem_nil, or_false, forall_eq_or_imp, forall_eq, only_any, only_lit', only_iptr, only_no, only_full, only_at, only_ptr, only_osl, only_agg, only_tup, only_fn, only_bfn, and_self, implies_true, and_true, true_and, okL_nil, okL_cons, bonly_cells, bonly_tok, keepP_add, look_nil, look_cons, ↓reduceIte, Nat.reduceEqDiff, Option.isSome_some, reduceCtorEq, false_or, if_true, if_false, false_implies]); (try first | done | omega | ((repeat' refine And.intro ?_ ?_) <;> (intro _ hx; obtain ⟨_, -, rfl⟩ := List.mem_map.1 hx; exact .lit _)))))
      · rintro ⟨x, b, e⟩ ⟨h1, f, hf, hst⟩
        simp only at h1 hf hst
        by_cases ce : e = 0
        · subst ce
          have hok : okR (x, b, 0) = x := okR_ok rfl
          obtain ⟨f', rfl⟩ : ∃ f', f = f' + 1 := ⟨f - 1, by omega⟩
          rw [starL] at hst
          have s5 : signR 5 = ⟨#[42]⟩ := rfl
          have s6 : signR 6 = ⟨#[43]⟩ := rfl
          have s7 : signR 7 = ⟨#[63]⟩ := rfl
          rw [s5, s6, s7] at hst
          simp only [hok]
          have e1 : IntKind.i64.wrap ((b : Int) + 1) = ((b + 1 : Nat) : Int) := by rw [wrap_i64]; omega
          simp only [go_sem]
          cases h5 : isB ws (b, 0) ⟨#[42]⟩
          · cases h6 : isB ws (b, 0) ⟨#[43]⟩
            · cases h7 : isB ws (b, 0) ⟨#[63]⟩
              · rw [h5, h6, h7, if_neg (by decide), if_neg (by decide), if_neg (by decide)] at hst
                subst hst
                refine WE_pure _ _ _ _ _ _ _ _ (rSignW_c nl ws b ⟨#[42]⟩ hl _) ?_
                simp only [go_sem, h5]
                refine WE_pure _ _ _ _ _ _ _ _ (rSignW_c nl ws b ⟨#[43]⟩ hl _) ?_
                simp only [go_sem, h6]
                refine WE_pure _ _ _ _ _ _ _ _ (rSignW_c nl ws b ⟨#[63]⟩ hl _) ?_
                simp only [go_sem, h7]
                refine FnPost_ce0 hn0 (by simp) (saC (x, b, 0)) (saL (okR (x, b, 0)) b 0) _ rfl (by rw [hok]; exact leL_refl _) (saA_only _ _ _) (fun loc' hl' => ?_)
                simp only [go_sem, get_loc, hl']
                exact leA_refl _
              · rw [h5, h6, h7, if_neg (by decide), if_neg (by decide), if_pos rfl] at hst
                refine WE_pure _ _ _ _ _ _ _ _ (rSignW_c nl ws b ⟨#[42]⟩ hl _) ?_
                simp only [go_sem, h5]
                refine WE_pure _ _ _ _ _ _ _ _ (rSignW_c nl ws b ⟨#[43]⟩ hl _) ?_
                simp only [go_sem, h6]
                refine WE_pure _ _ _ _ _ _ _ _ (rSignW_c nl ws b ⟨#[63]⟩ hl _) ?_
                simp only [go_sem, h7]
                have hlt := (isB_lt h7).1
                rw [isS_t h7] at hst
                refine LP_next (.mk 7 ⟨#[]⟩ false [x], b + 1, 0) ⟨hlt, f', by simp only at *; omega, hst⟩ (by simp only at *; omega) ?_
                rw [e1]
                refine Imp.trans (imp_cells (loc' := [(4, .cells 0 [I64 0, SS ⟨#[]⟩, BB false, .isl (some true) [] .full, I64 0, I64 0]), (5, .cells 0 (saL (.mk 7 ⟨#[]⟩ false [x]) (b + 1) 0))]) ⟨rfl, leB_refl _, rfl, ⟨rfl, leA_refl _, leA_refl _, leA_refl _, ⟨.inl rfl, by show _ = [x].map rA; rw [List.map_cons, rA_eq]; rfl, .inl rfl⟩, leA_refl _, leA_refl _, trivial⟩, trivial⟩) ?_
                refine imp_loc (by ((try simp only [cells_agg, cells_lit, leL_cons, leL_nil, leA_any, leA_lits, leA_isl, leA_self, and_self, true_and, and_true, or_true, true_or, Value.int.injEq, Value.bool.injEq, Value.string.injEq, AV.lit.injEq, Option.some.injEq, Blk.cells.injEq, Blk.tok.injEq, List.cons.injEq, Tk.at.injEq, subL_nil, subL_cons, look_nil, look_cons, ↓reduceIte, Nat.reduceEqDiff, Option.isSome_some, reduceCtorEq, or_false, false_or, if_true, if_false, okR, Rx.k, Rx.l, Rx.b, Rx.ps]); (try first | done | omega | (simp; done) | (simp; omega)))) (by ((try simp only [cells_agg, cells_lit, leL_cons, leL_nil, leA_any, leA_lits, leA_isl, leA_self, and_self, true_and, and_true, or_true, true_or, Value.int.injEq, Value.bool.injEq, Value.string.injEq, AV.lit.injEq, Option.some.injEq, Blk.cells.injEq, Blk.tok.injEq, List.cons.injEq, Tk.at.injEq, subL_nil, subL_cons, look_nil, look_cons, ↓reduceIte, Nat.reduceEqDiff, Option.isSome_some, reduceCtorEq, or_false, false_or, if_true, if_false, okR, Rx.k, Rx.l, Rx.b, Rx.ps]); (try first | done | omega | (simp; done) | (simp; omega)))) (by ((try simp only [cells_agg, cells_lit, List.mem_cons, List.not_mem_nil, or_false, forall_eq_or_imp, forall_eq, only_any, only_lit', only_iptr, only_no, only_full, only_at, only_ptr, only_osl, only_agg, only_tup, only_fn, only_bfn, and_self, implies_true, and_true, true_and, okL_nil, okL_cons, bonly_cells, bonly_tok, keepP_add, look_nil, look_cons, ↓reduceIte, Nat.reduceEqDiff, Option.isSome_some, reduceCtorEq, false_or, if_true, if_false, false_implies, okR, Rx.k, Rx.l, Rx.b, Rx.ps]); (try first | done | omega | ((repeat' refine And.intro ?_ ?_) <;> (intro _ hx; obtain ⟨_, -, rfl⟩ := List.mem_map.1 hx; exact .lit _))))) (by ((try simp only [cells_agg, cells_lit, List.mem_cons, List.not_mem_nil, or_false, forall_eq_or_imp, forall_eq, only_any, only_lit', only_iptr, only_no, only_full, only_at, only_ptr, only_osl, only_agg, only_tup, only_fn, only_bfn, and_self, implies_true, and_true, true_and, okL_nil, okL_cons, bonly_cells, bonly_tok, keepP_add, look_nil, look_cons, ↓reduceIte, Nat.reduceEqDiff, Option.isSome_some, reduceCtorEq, false_or, if_true, if_false, false_implies, okR, Rx.k, Rx.l, Rx.b, Rx.ps]); (try first | done | omega | ((repeat' refine And.intro ?_ ?_) <;> (intro _ hx; obtain ⟨_, -, rfl⟩ := List.mem_map.1 hx; exact .lit _)))))
            · have h7 : isB ws (b, 0) ⟨#[63]⟩ = false := isB_one h6 (by decide)
              rw [h5, h6, if_neg (by decide), if_pos rfl] at hst
              refine WE_pure _ _ _ _ _ _ _ _ (rSignW_c nl ws b ⟨#[42]⟩ hl _) ?_
              simp only [go_sem, h5]
              refine WE_pure _ _ _ _ _ _ _ _ (rSignW_c nl ws b ⟨#[43]⟩ hl _) ?_
              simp only [go_sem, h6]
              refine WE_pure _ _ _ _ _ _ _ _ (rSignW_c nl ws b ⟨#[63]⟩ hl _) ?_
              simp only [go_sem, h7]
              have hlt := (isB_lt h6).1
              rw [isS_t h6] at hst
              refine LP_next (.mk 6 ⟨#[]⟩ false [x], b + 1, 0) ⟨hlt, f', by simp only at *; omega, hst⟩ (by simp only at *; omega) ?_
              rw [e1]
              refine Imp.trans (imp_cells (loc' := [(4, .cells 0 [I64 0, SS ⟨#[]⟩, BB false, .isl (some true) [] .full, I64 0, I64 0]), (5, .cells 0 (saL (.mk 6 ⟨#[]⟩ false [x]) (b + 1) 0))]) ⟨rfl, leB_refl _, rfl, ⟨rfl, leA_refl _, leA_refl _, leA_refl _, ⟨.inl rfl, by show _ = [x].map rA; rw [List.map_cons, rA_eq]; rfl, .inl rfl⟩, leA_refl _, leA_refl _, trivial⟩, trivial⟩) ?_
              refine imp_loc (by ((try simp only [cells_agg, cells_lit, leL_cons, leL_nil, leA_any, leA_lits, leA_isl, leA_self, and_self, true_and, and_true, or_true, true_or, Value.int.injEq, Value.bool.injEq, Value.string.injEq, AV.lit.injEq, Option.some.injEq, Blk.cells.injEq, Blk.tok.injEq, List.cons.injEq, Tk.at.injEq, subL_nil, subL_cons, look_nil, look_cons, ↓reduceIte, Nat.reduceEqDiff, Option.isSome_some, reduceCtorEq, or_false, false_or, if_true, if_false, okR, Rx.k, Rx.l, Rx.b, Rx.ps]); (try first | done | omega | (simp; done) | (simp; omega)))) (by ((try simp only [cells_agg, cells_lit, leL_cons, leL_nil, leA_any, leA_lits, leA_isl, leA_self, and_self, true_and, and_true, or_true, true_or, Value.int.injEq, Value.bool.injEq, Value.string.injEq, AV.lit.injEq, Option.some.injEq, Blk.cells.injEq, Blk.tok.injEq, List.cons.injEq, Tk.at.injEq, subL_nil, subL_cons, look_nil, look_cons, ↓reduceIte, Nat.reduceEqDiff, Option.isSome_some, reduceCtorEq, or_false, false_or, if_true, if_false, okR, Rx.k, Rx.l, Rx.b, Rx.ps]); (try first | done | omega | (simp; done) | (simp; omega)))) (by ((try simp only [cells_agg, cells_lit, List.mem_cons, List.not_mem_nil, or_false, forall_eq_or_imp, forall_eq, only_any, only_lit', only_iptr, only_no, only_full, only_at, only_ptr, only_osl, only_agg, only_tup, only_fn, only_bfn, and_self, implies_true, and_true, true_and, okL_nil, okL_cons, bonly_cells, bonly_tok, keepP_add, look_nil, look_cons, ↓reduceIte, Nat.reduceEqDiff, Option.isSome_some, reduceCtorEq, false_or, if_true, if_false, false_implies, okR, Rx.k, Rx.l, Rx.b, Rx.ps]); (try first | done | omega | ((repeat' refine And.intro ?_ ?_) <;> (intro _ hx; obtain ⟨_, -, rfl⟩ := List.mem_map.1 hx; exact .lit _))))) (by ((try simp only [cells_agg, cells_lit, List.mem_cons, List.not_mem_nil, or_false, forall_eq_or_imp, forall_eq, only_any, only_lit', only_iptr, only_no, only_full, only_at, only_ptr, only_osl, only_agg, only_tup, only_fn, only_bfn, and_self, implies_true, and_true, true_and, okL_nil, okL_cons, bonly_cells, bonly_tok, keepP_add, look_nil, look_cons, ↓reduceIte, Nat.reduceEqDiff, Option.isSome_some, reduceCtorEq, false_or, if_true, if_false, false_implies, okR, Rx.k, Rx.l, Rx.b, Rx.ps]); (try first | done | omega | ((repeat' refine And.intro ?_ ?_) <;> (intro _ hx; obtain ⟨_, -, rfl⟩ := List.mem_map.1 hx; exact .lit _)))))
          · have h6 : isB ws (b, 0) ⟨#[43]⟩ = false := isB_one h5 (by decide)
            have h7 : isB ws (b, 0) ⟨#[63]⟩ = false := isB_one h5 (by decide)
            rw [h5, if_pos rfl] at hst
            refine WE_pure _ _ _ _ _ _ _ _ (rSignW_c nl ws b ⟨#[42]⟩ hl _) ?_
            simp only [go_sem, h5]
            refine WE_pure _ _ _ _ _ _ _ _ (rSignW_c nl ws b ⟨#[43]⟩ hl _) ?_
            simp only [go_sem, h6]
            refine WE_pure _ _ _ _ _ _ _ _ (rSignW_c nl ws b ⟨#[63]⟩ hl _) ?_
            simp only [go_sem, h7]
            have hlt := (isB_lt h5).1
            rw [isS_t h5] at hst
            refine LP_next (.mk 5 ⟨#[]⟩ false [x], b + 1, 0) ⟨hlt, f', by simp only at *; omega, hst⟩ (by simp only at *; omega) ?_
            rw [e1]
            refine Imp.trans (imp_cells (loc' := [(4, .cells 0 [I64 0, SS ⟨#[]⟩, BB false, .isl (some true) [] .full, I64 0, I64 0]), (5, .cells 0 (saL (.mk 5 ⟨#[]⟩ false [x]) (b + 1) 0))]) ⟨rfl, leB_refl _, rfl, ⟨rfl, leA_refl _, leA_refl _, leA_refl _, ⟨.inl rfl, by show _ = [x].map rA; rw [List.map_cons, rA_eq]; rfl, .inl rfl⟩, leA_refl _, leA_refl _, trivial⟩, trivial⟩) ?_
            refine imp_loc (by ((try simp only [cells_agg, cells_lit, leL_cons, leL_nil, leA_any, leA_lits, leA_isl, leA_self, and_self, true_and, and_true, or_true, true_or, Value.int.injEq, Value.bool.injEq, Value.string.injEq, AV.lit.injEq, Option.some.injEq, Blk.cells.injEq, Blk.tok.injEq, List.cons.injEq, Tk.at.injEq, subL_nil, subL_cons, look_nil, look_cons, ↓reduceIte, Nat.reduceEqDiff, Option.isSome_some, reduceCtorEq, or_false, false_or, if_true, if_false, okR, Rx.k, Rx.l, Rx.b, Rx.ps]); (try first | done | omega | (simp; done) | (simp; omega)))) (by ((try simp only [cells_agg, cells_lit, leL_cons, leL_nil, leA_any, leA_lits, leA_isl, leA_self, and_self, true_and, and_true, or_true, true_or, Value.int.injEq, Value.bool.injEq, Value.string.injEq, AV.lit.injEq, Option.some.injEq, Blk.cells.injEq, Blk.tok.injEq, List.cons.injEq, Tk.at.injEq, subL_nil, subL_cons, look_nil, look_cons, ↓reduceIte, Nat.reduceEqDiff, Option.isSome_some, reduceCtorEq, or_false, false_or, if_true, if_false, okR, Rx.k, Rx.l, Rx.b, Rx.ps]); (try first | done | omega | (simp; done) | (simp; omega)))) (by ((try simp only [cells_agg, cells_lit, List.mem_cons, List.not_mem_nil, or_false, forall_eq_or_imp, forall_eq, only_any, only_lit', only_iptr, only_no, only_full, only_at, only_ptr, only_osl, only_agg, only_tup, only_fn, only_bfn, and_self, implies_true, and_true, true_and, okL_nil, okL_cons, bonly_cells, bonly_tok, keepP_add, look_nil, look_cons, ↓reduceIte, Nat.reduceEqDiff, Option.isSome_some, reduceCtorEq, false_or, if_true, if_false, false_implies, okR, Rx.k, Rx.l, Rx.b, Rx.ps]); (try first | done | omega | ((repeat' refine And.intro ?_ ?_) <;> (intro _ hx; obtain ⟨_, -, rfl⟩ := List.mem_map.1 hx; exact .lit _))))) (by ((try simp only [cells_agg, cells_lit, List.mem_cons, List.not_mem_nil, or_false, forall_eq_or_imp, forall_eq, only_any, only_lit', only_iptr, only_no, only_full, only_at, only_ptr, only_osl, only_agg, only_tup, only_fn, only_bfn, and_self, implies_true, and_true, true_and, okL_nil, okL_cons, bonly_cells, bonly_tok, keepP_add, look_nil, look_cons, ↓reduceIte, Nat.reduceEqDiff, Option.isSome_some, reduceCtorEq, false_or, if_true, if_false, false_implies, okR, Rx.k, Rx.l, Rx.b, Rx.ps]); (try first | done | omega | ((repeat' refine And.intro ?_ ?_) <;> (intro _ hx; obtain ⟨_, -, rfl⟩ := List.mem_map.1 hx; exact .lit _)))))
        · have hst : res = (x, b, e) := by rw [← hst]; exact star_bad ws f x (b, e) ce
          subst hst
          simp only [go_sem, eq_false ce]
          refine FnPost_ce0 hn0 (by simp) (saC (x, b, e)) (saL (okR (x, b, e)) b e) _ rfl (leL_refl _) (saA_only _ _ _) (fun loc' hl' => ?_)
          simp only [go_sem, get_loc, hl']
          exact leA_refl _
    · have hS2 := isS_t hb2
      have hlt := (isB_lt hb2).1
      simp only at hlt hS2
      cases hb3 : isB ws (a + 1, 0) ⟨#[41]⟩
      · have hm := hM (a + 1, 0) (by simp only; omega) hlt
        have hr := hR (a + 1) (by omega) hlt
        have hF : q = ((R (a + 1, 0)).1, if isB ws (R (a + 1, 0)).2 ⟨#[41]⟩ = true then isS ws (R (a + 1, 0)).2 ⟨#[41]⟩ else failS ws (R (a + 1, 0)).2) := by
          rw [← hqq]; unfold pieceF; rw [if_neg (by rw [hb1]; decide), if_neg (by rw [hb2]; decide), hS2, if_neg (by rw [hb3]; decide)]
        generalize R (a + 1, 0) = rq at *
        obtain ⟨rx, rb, re⟩ := rq
        obtain ⟨m1, m2, m3⟩ := hm
        simp only at m1 m2 m3 hF
        refine WE_pure _ _ _ _ _ _ _ _ (rSignW_c nl ws a ⟨#[94]⟩ hl _) ?_
        simp only [go_sem, hb1]
        refine WE_pure _ _ _ _ _ _ _ _ (rSignW_c nl ws a ⟨#[40]⟩ hl _) ?_
        simp only [go_sem, hb2]
        rw [e1a]
        refine WE_pure _ _ _ _ _ _ _ _ (rSignW_c nl ws (a + 1) ⟨#[41]⟩ hl _) ?_
        simp only [go_sem, hb3]
        rw [e1a]
        by_cases ce : re = 0
        · subst ce
          have hok : okR (rx, rb, 0) = rx := okR_ok rfl
          by_cases cl : (ws.length : Int) ≤ (rb : Int)
          · have hb4 : isB ws (rb, 0) ⟨#[41]⟩ = false := by
              cases e : isB ws (rb, 0) ⟨#[41]⟩
              · rfl
              · have := (isB_lt e).1; simp only at this; omega
            have hfs : failS ws (rb, 0) = (ws.length, 7) := by unfold failS; rw [if_pos rfl, if_pos (by simp only; omega)]; simp only [Prod.mk.injEq, and_true]; omega
            rw [hb4, if_neg (by decide), hfs] at hF
            subst hF
            rw [star_bad ws _ _ _ (show ¬ ((7 : Int) = 0) by decide)] at hres
            subst hres
            refine WE_pure _ _ _ _ _ _ _ _ (hr _) ?_
            simp only [go_sem, hok, eq_true cl, List.length_map]
            refine FnPost_ce0 hn0 (by simp) (saC (rx, ws.length, 7)) (saL rx0 ws.length 7) _ rfl (⟨leA_refl _, leA_refl _, leA_refl _, ⟨.inl rfl, rfl, .inl rfl⟩, leA_refl _, leA_refl _, trivial⟩) (saA_only _ _ _) (fun loc' hl' => ?_)
            simp only [go_sem, get_loc, hl']
            exact leA_refl _
          · cases hb4 : isB ws (rb, 0) ⟨#[41]⟩
            · have hfs : failS ws (rb, 0) = (rb, 2) := by unfold failS; rw [if_pos rfl, if_neg (by simp only; omega)]
              rw [hb4, if_neg (by decide), hfs] at hF
              subst hF
              rw [star_bad ws _ _ _ (show ¬ ((2 : Int) = 0) by decide)] at hres
              subst hres
              refine WE_pure _ _ _ _ _ _ _ _ (hr _) ?_
              simp only [go_sem, hok, eq_false cl, List.length_map]
              refine WE_pure _ _ _ _ _ _ _ _ (rSignW_c nl ws rb ⟨#[41]⟩ hl _) ?_
              simp only [go_sem, hb4]
              refine FnPost_ce0 hn0 (by simp) (saC (rx, rb, 2)) (saL rx0 rb 2) _ rfl (⟨leA_refl _, leA_refl _, leA_refl _, ⟨.inl rfl, rfl, .inl rfl⟩, leA_refl _, leA_refl _, trivial⟩) (saA_only _ _ _) (fun loc' hl' => ?_)
              simp only [go_sem, get_loc, hl']
              exact leA_refl _
            · have e1b : IntKind.i64.wrap ((rb : Int) + 1) = ((rb + 1 : Nat) : Int) := by rw [wrap_i64]; omega
              rw [hb4, if_pos rfl, isS_t hb4] at hF
              refine WE_pure _ _ _ _ _ _ _ _ (hr _) ?_
              simp only [go_sem, hok, eq_false cl, List.length_map]
              refine WE_pure _ _ _ _ _ _ _ _ (rSignW_c nl ws rb ⟨#[41]⟩ hl _) ?_
              simp only [go_sem, hb4]
              rw [e1b]
              have hq2 : q.2.1 = rb + 1 := by rw [hF]
              have hq3 : q.2.2 = 0 := by rw [hF]
              have hq1 : okR q = rx := by rw [okR_ok hq3, hF]
              refine WC_loop (fun s : Rd2 => [.isl nl (Wds ws) .no, .any, .any, .any, .ptr (n0 + 4) 0 0, .ptr (n0 + 5) 0 0, .any, .any, .any, .any, .any, .any, .any, .any, .any, .any, .any, .any, .any, .any, .any, .any, .any, .any, .any, .any, .any, .any, .any, .any, .any, .any, .any, .any, .any, .any, .any, .any, .any, .any, .any, .any, .any, .any, .any, .any, .any, .any, .any, .any, .any, .any, .any, .any, .any, .any, .any, .any, .any, .any, .any, .any, .any, .any, .any, .any, .any, .any, .any, .any, .any, .any, .any, .any, .any, .any, .any, .any, .any, .any, .any, .any, .any, .any]) (fun s => ⟨g, [(4, .cells 0 [I64 0, SS ⟨#[]⟩, BB false, .isl (some true) [] .full, I64 0, I64 0]), (5, .cells 0 (saL (okR s) s.2.1 s.2.2))]⟩) (fun s => s.2.1 ≤ ws.length ∧ ∃ f, ws.length - s.2.1 < f ∧ starL ws f s.1 s.2 = res) (fun s => ws.length - s.2.1) q ⟨hqm, ws.length + 1, by omega, hres.symm⟩ ?_ ?_
              · refine imp_loc (by ((try simp only [cells_agg, cells_lit, leL_cons, leL_nil, leA_any, leA_lits, leA_isl, leA_self, and_self, true_and, and_true, or_true, true_or, Value.int.injEq, Value.bool.injEq, Value.string.injEq, AV.lit.injEq, Option.some.injEq, Blk.cells.injEq, Blk.tok.injEq, List.cons.injEq, Tk.at.injEq, subL_nil, subL_cons, look_nil, look_cons, ↓reduceIte, Nat.reduceEqDiff, Option.isSome_some, reduceCtorEq, or_false, false_or, if_true, if_false, hq1, hq2, hq3]); (try first | done | omega | (simp; done) | (simp; omega)))) (by ((try simp only [cells_agg, cells_lit, leL_cons, leL_nil, leA_any, leA_lits, leA_isl, leA_self, and_self, true_and, and_true, or_true, true_or, Value.int.injEq, Value.bool.injEq, Value.string.injEq, AV.lit.injEq, Option.some.injEq, Blk.cells.injEq, Blk.tok.injEq, List.cons.injEq, Tk.at.injEq, subL_nil, subL_cons, look_nil, look_cons, ↓reduceIte, Nat.reduceEqDiff, Option.isSome_some, reduceCtorEq, or_false, false_or, if_true, if_false, hq1, hq2, hq3]); (try first | done | omega | (simp; done) | (simp; omega)))) (by ((try simp only [cells_agg, cells_lit, List.mem_cons, List.not_mem_nil, or_false, forall_eq_or_imp, forall_eq, only_any, only_lit', only_iptr, only_no, only_full, only_at, only_ptr, only_osl, only_agg, only_tup, only_fn, only_bfn, and_self, implies_true, and_true, true_and, okL_nil, okL_cons, bonly_cells, bonly_tok, keepP_add, look_nil, look_cons, ↓reduceIte, Nat.reduceEqDiff, Option.isSome_some, reduceCtorEq, false_or, if_true, if_false, false_implies, hq1, hq2, hq3]); (try first | done | omega | ((repeat' refine And.intro ?_ ?_) <;> (intro _ hx; obtain ⟨_, -, rfl⟩ := List.mem_map.1 hx; exact .lit _))))) (by ((try simp only [cells_agg, cells_lit, List.mem_cons, List.not_mem_nil, or_false, forall_eq_or_imp, forall_eq, only_any, only_lit', only_iptr, only_no, only_full, only_at, only_ptr, only_osl, only_agg, only_tup, only_fn, only_bfn, and_self, implies_true, and_true, true_and, okL_nil, okL_cons, bonly_cells, bonly_tok, keepP_add, look_nil, look_cons, ↓reduceIte, Nat.reduceEqDiff, Option.isSome_some, reduceCtorEq, false_or, if_true, if_false, false_implies, hq1, hq2, hq3]); (try first | done | omega | ((repeat' refine And.intro ?_ ?_) <;> (intro _ hx; obtain ⟨_, -, rfl⟩ := List.mem_map.1 hx; exact .lit _)))))
              · rintro ⟨x, b, e⟩ ⟨h1, f, hf, hst⟩
                simp only at h1 hf hst
                by_cases ce : e = 0
                · subst ce
                  have hok : okR (x, b, 0) = x := okR_ok rfl
                  obtain ⟨f', rfl⟩ : ∃ f', f = f' + 1 := ⟨f - 1, by omega⟩
                  rw [starL] at hst
                  have s5 : signR 5 = ⟨#[42]⟩ := rfl
                  have s6 : signR 6 = ⟨#[43]⟩ := rfl
                  have s7 : signR 7 = ⟨#[63]⟩ := rfl
                  rw [s5, s6, s7] at hst
                  simp only [hok]
                  have e1 : IntKind.i64.wrap ((b : Int) + 1) = ((b + 1 : Nat) : Int) := by rw [wrap_i64]; omega
                  simp only [go_sem]
                  cases h5 : isB ws (b, 0) ⟨#[42]⟩
                  · cases h6 : isB ws (b, 0) ⟨#[43]⟩
                    · cases h7 : isB ws (b, 0) ⟨#[63]⟩
                      · rw [h5, h6, h7, if_neg (by decide), if_neg (by decide), if_neg (by decide)] at hst
                        subst hst
                        refine WE_pure _ _ _ _ _ _ _ _ (rSignW_c nl ws b ⟨#[42]⟩ hl _) ?_
                        simp only [go_sem, h5]
                        refine WE_pure _ _ _ _ _ _ _ _ (rSignW_c nl ws b ⟨#[43]⟩ hl _) ?_
                        simp only [go_sem, h6]
                        refine WE_pure _ _ _ _ _ _ _ _ (rSignW_c nl ws b ⟨#[63]⟩ hl _) ?_
                        simp only [go_sem, h7]
                        refine FnPost_ce0 hn0 (by simp) (saC (x, b, 0)) (saL (okR (x, b, 0)) b 0) _ rfl (by rw [hok]; exact leL_refl _) (saA_only _ _ _) (fun loc' hl' => ?_)
                        simp only [go_sem, get_loc, hl']
                        exact leA_refl _
                      · rw [h5, h6, h7, if_neg (by decide), if_neg (by decide), if_pos rfl] at hst
                        refine WE_pure _ _ _ _ _ _ _ _ (rSignW_c nl ws b ⟨#[42]⟩ hl _) ?_
                        simp only [go_sem, h5]
                        refine WE_pure _ _ _ _ _ _ _ _ (rSignW_c nl ws b ⟨#[43]⟩ hl _) ?_
                        simp only [go_sem, h6]
                        refine WE_pure _ _ _ _ _ _ _ _ (rSignW_c nl ws b ⟨#[63]⟩ hl _) ?_
                        simp only [go_sem, h7]
                        have hlt := (isB_lt h7).1
                        rw [isS_t h7] at hst
                        refine LP_next (.mk 7 ⟨#[]⟩ false [x], b + 1, 0) ⟨hlt, f', by simp only at *; omega, hst⟩ (by simp only at *; omega) ?_
                        rw [e1]
                        refine Imp.trans (imp_cells (loc' := [(4, .cells 0 [I64 0, SS ⟨#[]⟩, BB false, .isl (some true) [] .full, I64 0, I64 0]), (5, .cells 0 (saL (.mk 7 ⟨#[]⟩ false [x]) (b + 1) 0))]) ⟨rfl, leB_refl _, rfl, ⟨rfl, leA_refl _, leA_refl _, leA_refl _, ⟨.inl rfl, by show _ = [x].map rA; rw [List.map_cons, rA_eq]; rfl, .inl rfl⟩, leA_refl _, leA_refl _, trivial⟩, trivial⟩) ?_
                        refine imp_loc (by ((try simp only [cells_agg, cells_lit, leL_cons, leL_nil, leA_any, leA_lits, leA_isl, leA_self, and_self, true_and, and_true, or_true, true_or, Value.int.injEq, Value.bool.injEq, Value.string.injEq, AV.lit.injEq, Option.some.injEq, Blk.cells.injEq, Blk.tok.injEq, List.cons.injEq, Tk.at.injEq, subL_nil, subL_cons, look_nil, look_cons, ↓reduceIte, Nat.reduceEqDiff, Option.isSome_some, reduceCtorEq, or_false, false_or, if_true, if_false, okR, Rx.k, Rx.l, Rx.b, Rx.ps]); (try first | done | omega | (simp; done) | (simp; omega)))) (by ((try simp only [cells_agg, cells_lit, leL_cons, leL_nil, leA_any, leA_lits, leA_isl, leA_self, and_self, true_and, and_true, or_true, true_or, Value.int.injEq, Value.bool.injEq, Value.string.injEq, AV.lit.injEq, Option.some.injEq, Blk.cells.injEq, Blk.tok.injEq, List.cons.injEq, Tk.at.injEq, subL_nil, subL_cons, look_nil, look_cons, ↓reduceIte, Nat.reduceEqDiff, Option.isSome_some, reduceCtorEq, or_false, false_or, if_true, if_false, okR, Rx.k, Rx.l, Rx.b, Rx.ps]); (try first | done | omega | (simp; done) | (simp; omega)))) (by ((try simp only [cells_agg, cells_lit, List.mem_cons, List.not_mem_nil, or_false, forall_eq_or_imp, forall_eq, only_any, only_lit', only_iptr, only_no, only_full, only_at, only_ptr, only_osl, only_agg, only_tup, only_fn, only_bfn, and_self, implies_true, and_true, true_and, okL_nil, okL_cons, bonly_cells, bonly_tok, keepP_add, look_nil, look_cons, ↓reduceIte, Nat.reduceEqDiff, Option.isSome_some, reduceCtorEq, false_or, if_true, if_false, false_implies, okR, Rx.k, Rx.l, Rx.b, Rx.ps]); (try first | done | omega | ((repeat' refine And.intro ?_ ?_) <;> (intro _ hx; obtain ⟨_, -, rfl⟩ := List.mem_map.1 hx; exact .lit _))))) (by ((try simp only [cells_agg, cells_lit, List.mem_cons, List.not_mem_nil, or_false, forall_eq_or_imp, forall_eq, only_any, only_lit', only_iptr, only_no, only_full, only_at, only_ptr, only_osl, only_agg, only_tup, only_fn, only_bfn, and_self, implies_true, and_true, true_and, okL_nil, okL_cons, bonly_cells, bonly_tok, keepP_add, look_nil, look_cons, ↓reduceIte, Nat.reduceEqDiff, Option.isSome_some, reduceCtorEq, false_or, if_true, if_false, false_implies, okR, Rx.k, Rx.l, Rx.b, Rx.ps]); (try first | done | omega | ((repeat' refine And.intro ?_ ?_) <;> (intro _ hx; obtain ⟨_, -, rfl⟩ := List.mem_map.1 hx; exact .lit _)))))
                    · have h7 : isB ws (b, 0) ⟨#[63]⟩ = false := isB_one h6 (by decide)
                      rw [h5, h6, if_neg (by decide), if_pos rfl] at hst
                      refine WE_pure _ _ _ _ _ _ _ _ (rSignW_c nl ws b ⟨#[42]⟩ hl _) ?_
                      simp only [go_sem, h5]
                      refine WE_pure _ _ _ _ _ _ _ _ (rSignW_c nl ws b ⟨#[43]⟩ hl _) ?_
                      simp only [go_sem, h6]
                      refine WE_pure _ _ _ _ _ _ _ _ (rSignW_c nl ws b ⟨#[63]⟩ hl _) ?_
                      simp only [go_sem, h7]
                      have hlt := (isB_lt h6).1
                      rw [isS_t h6] at hst
                      refine LP_next (.mk 6 ⟨#[]⟩ false [x], b + 1, 0) ⟨hlt, f', by simp only at *; omega, hst⟩ (by simp only at *; omega) ?_
                      rw [e1]
                      refine Imp.trans (imp_cells (loc' := [(4, .cells 0 [I64 0, SS ⟨#[]⟩, BB false, .isl (some true) [] .full, I64 0, I64 0]), (5, .cells 0 (saL (.mk 6 ⟨#[]⟩ false [x]) (b + 1) 0))]) ⟨rfl, leB_refl _, rfl, ⟨rfl, leA_refl _, leA_refl _, leA_refl _, ⟨.inl rfl, by show _ = [x].map rA; rw [List.map_cons, rA_eq]; rfl, .inl rfl⟩, leA_refl _, leA_refl _, trivial⟩, trivial⟩) ?_
                      refine imp_loc (by ((try simp only [cells_agg, cells_lit, leL_cons, leL_nil, leA_any, leA_lits, leA_isl, leA_self, and_self, true_and, and_true, or_true, true_or, Value.int.injEq, Value.bool.injEq, Value.string.injEq, AV.lit.injEq, Option.some.injEq, Blk.cells.injEq, Blk.tok.injEq, List.cons.injEq, Tk.at.injEq, subL_nil, subL_cons, look_nil, look_cons, ↓reduceIte, Nat.reduceEqDiff, Option.isSome_some, reduceCtorEq, or_false, false_or, if_true, if_false, okR, Rx.k, Rx.l, Rx.b, Rx.ps]); (try first | done | omega | (simp; done) | (simp; omega)))) (by ((try simp only [cells_agg, cells_lit, leL_cons, leL_nil, leA_any, leA_lits, leA_isl, leA_self, and_self, true_and, and_true, or_true, true_or, Value.int.injEq, Value.bool.injEq, Value.string.injEq, AV.lit.injEq, Option.some.injEq, Blk.cells.injEq, Blk.tok.injEq, List.cons.injEq, Tk.at.injEq, subL_nil, subL_cons, look_nil, look_cons, ↓reduceIte, Nat.reduceEqDiff, Option.isSome_some, reduceCtorEq, or_false, false_or, if_true, if_false, okR, Rx.k, Rx.l, Rx.b, Rx.ps]); (try first | done | omega | (simp; done) | (simp; omega)))) (by ((try simp only [cells_agg, cells_lit, List.mem_cons, List.not_mem_nil, or_false, forall_eq_or_imp, forall_eq, only_any, only_lit', only_iptr, only_no, only_full, only_at, only_ptr, only_osl, only_agg, only_tup, only_fn, only_bfn, and_self, implies_true, and_true, true_and, okL_nil, okL_cons, bonly_cells, bonly_tok, keepP_add, look_nil, look_cons, ↓reduceIte, Nat.reduceEqDiff, Option.isSome_some, reduceCtorEq, false_or, if_true, if_false, false_implies, okR, Rx.k, Rx.l, Rx.b, Rx.ps]); (try first | done | omega | ((repeat' refine And.intro ?_ ?_) <;> (intro _ hx; obtain ⟨_, -, rfl⟩ := List.mem_map.1 hx; exact .lit _))))) (by ((try simp only [cells_agg, cells_lit, List.mem_cons, List.not_mem_nil, or_false, forall_eq_or_imp, forall_eq, only_any, only_lit', only_iptr, only_no, only_full, only_at, only_ptr, only_osl, only_agg, only_tup, only_fn, only_bfn, and_self, implies_true, and_true, true_and, okL_nil, okL_cons, bonly_cells, bonly_tok, keepP_add, look_nil, look_cons, ↓reduceIte, Nat.reduceEqDiff, Option.isSome_some, reduceCtorEq, false_or, if_true, if_false, false_implies, okR, Rx.k, Rx.l, Rx.b, Rx.ps]); (try first | done | omega | ((repeat' refine And.intro ?_ ?_) <;> (intro _ hx; obtain ⟨_, -, rfl⟩ := List.mem_map.1 hx; exact .lit _)))))
                  · have h6 : isB ws (b, 0) ⟨#[43]⟩ = false := isB_one h5 (by decide)
                    have h7 : isB ws (b, 0) ⟨#[63]⟩ = false := isB_one h5 (by decide)
                    rw [h5, if_pos rfl] at hst
                    refine WE_pure _ _ _ _ _ _ _ _ (rSignW_c nl ws b ⟨#[42]⟩ hl _) ?_
                    simp only [go_sem, h5]
                    refine WE_pure _ _ _ _ _ _ _ _ (rSignW_c nl ws b ⟨#[43]⟩ hl _) ?_
                    simp only [go_sem, h6]
                    refine WE_pure _ _ _ _ _ _ _ _ (rSignW_c nl ws b ⟨#[63]⟩ hl _) ?_
                    simp only [go_sem, h7]
                    have hlt := (isB_lt h5).1
                    rw [isS_t h5] at hst
                    refine LP_next (.mk 5 ⟨#[]⟩ false [x], b + 1, 0) ⟨hlt, f', by simp only at *; omega, hst⟩ (by simp only at *; omega) ?_
                    rw [e1]
                    refine Imp.trans (imp_cells (loc' := [(4, .cells 0 [I64 0, SS ⟨#[]⟩, BB false, .isl (some true) [] .full, I64 0, I64 0]), (5, .cells 0 (saL (.mk 5 ⟨#[]⟩ false [x]) (b + 1) 0))]) ⟨rfl, leB_refl _, rfl, ⟨rfl, leA_refl _, leA_refl _, leA_refl _, ⟨.inl rfl, by show _ = [x].map rA; rw [List.map_cons, rA_eq]; rfl, .inl rfl⟩, leA_refl _, leA_refl _, trivial⟩, trivial⟩) ?_
                    refine imp_loc (by ((try simp only [cells_agg, cells_lit, leL_cons, leL_nil, leA_any, leA_lits, leA_isl, leA_self, and_self, true_and, and_true, or_true, true_or, Value.int.injEq, Value.bool.injEq, Value.string.injEq, AV.lit.injEq, Option.some.injEq, Blk.cells.injEq, Blk.tok.injEq, List.cons.injEq, Tk.at.injEq, subL_nil, subL_cons, look_nil, look_cons, ↓reduceIte, Nat.reduceEqDiff, Option.isSome_some, reduceCtorEq, or_false, false_or, if_true, if_false, okR, Rx.k, Rx.l, Rx.b, Rx.ps]); (try first | done | omega | (simp; done) | (simp; omega)))) (by ((try simp only [cells_agg, cells_lit, leL_cons, leL_nil, leA_any, leA_lits, leA_isl, leA_self, and_self, true_and, and_true, or_true, true_or, Value.int.injEq, Value.bool.injEq, Value.string.injEq, AV.lit.injEq, Option.some.injEq, Blk.cells.injEq, Blk.tok.injEq, List.cons.injEq, Tk.at.injEq, subL_nil, subL_cons, look_nil, look_cons, ↓reduceIte, Nat.reduceEqDiff, Option.isSome_some, reduceCtorEq, or_false, false_or, if_true, if_false, okR, Rx.k, Rx.l, Rx.b, Rx.ps]); (try first | done | omega | (simp; done) | (simp; omega)))) (by ((try simp only [cells_agg, cells_lit, List.mem_cons, List.not_mem_nil, or_false, forall_eq_or_imp, forall_eq, only_any, only_lit', only_iptr, only_no, only_full, only_at, only_ptr, only_osl, only_agg, only_tup, only_fn, only_bfn, and_self, implies_true, and_true, true_and, okL_nil, okL_cons, bonly_cells, bonly_tok, keepP_add, look_nil, look_cons, ↓reduceIte, Nat.reduceEqDiff, Option.isSome_some, reduceCtorEq, false_or, if_true, if_false, false_implies, okR, Rx.k, Rx.l, Rx.b, Rx.ps]); (try first | done | omega | ((repeat' refine And.intro ?_ ?_) <;> (intro _ hx; obtain ⟨_, -, rfl⟩ := List.mem_map.1 hx; exact .lit _))))) (by ((try simp only [cells_agg, cells_lit, List.mem_cons, List.not_mem_nil, or_false, forall_eq_or_imp, forall_eq, only_any, only_lit', only_iptr, only_no, only_full, only_at, only_ptr, only_osl, only_agg, only_tup, only_fn, only_bfn, and_self, implies_true, and_true, true_and, okL_nil, okL_cons, bonly_cells, bonly_tok, keepP_add, look_nil, look_cons, ↓reduceIte, Nat.reduceEqDiff, Option.isSome_some, reduceCtorEq, false_or, if_true, if_false, false_implies, okR, Rx.k, Rx.l, Rx.b, Rx.ps]); (try first | done | omega | ((repeat' refine And.intro ?_ ?_) <;> (intro _ hx; obtain ⟨_, -, rfl⟩ := List.mem_map.1 hx; exact .lit _)))))
                · have hst : res = (x, b, e) := by rw [← hst]; exact star_bad ws f x (b, e) ce
                  subst hst
                  simp only [go_sem, eq_false ce]
                  refine FnPost_ce0 hn0 (by simp) (saC (x, b, e)) (saL (okR (x, b, e)) b e) _ rfl (leL_refl _) (saA_only _ _ _) (fun loc' hl' => ?_)
                  simp only [go_sem, get_loc, hl']
                  exact leA_refl _
        · have hb4 : isB ws (rb, re) ⟨#[41]⟩ = false := isB_bad _ ce
          have hfs : failS ws (rb, re) = (rb, re) := by unfold failS; rw [if_neg ce]
          rw [hb4, if_neg (by decide), hfs] at hF
          refine WE_pure _ _ _ _ _ _ _ _ (hr _) ?_
          simp only [go_sem, eq_false ce]
          rw [← hF]
          have hq2 : q.2.1 = rb := by rw [hF]
          have hq3 : q.2.2 = re := by rw [hF]
          refine WC_loop (fun s : Rd2 => [.isl nl (Wds ws) .no, .any, .any, .any, .ptr (n0 + 4) 0 0, .ptr (n0 + 5) 0 0, .any, .any, .any, .any, .any, .any, .any, .any, .any, .any, .any, .any, .any, .any, .any, .any, .any, .any, .any, .any, .any, .any, .any, .any, .any, .any, .any, .any, .any, .any, .any, .any, .any, .any, .any, .any, .any, .any, .any, .any, .any, .any, .any, .any, .any, .any, .any, .any, .any, .any, .any, .any, .any, .any, .any, .any, .any, .any, .any, .any, .any, .any, .any, .any, .any, .any, .any, .any, .any, .any, .any, .any, .any, .any, .any, .any, .any, .any]) (fun s => ⟨g, [(4, .cells 0 [I64 0, SS ⟨#[]⟩, BB false, .isl (some true) [] .full, I64 0, I64 0]), (5, .cells 0 (saL (okR s) s.2.1 s.2.2))]⟩) (fun s => s.2.1 ≤ ws.length ∧ ∃ f, ws.length - s.2.1 < f ∧ starL ws f s.1 s.2 = res) (fun s => ws.length - s.2.1) q ⟨hqm, ws.length + 1, by omega, hres.symm⟩ ?_ ?_
          · refine imp_loc (by ((try simp only [cells_agg, cells_lit, leL_cons, leL_nil, leA_any, leA_lits, leA_isl, leA_self, and_self, true_and, and_true, or_true, true_or, Value.int.injEq, Value.bool.injEq, Value.string.injEq, AV.lit.injEq, Option.some.injEq, Blk.cells.injEq, Blk.tok.injEq, List.cons.injEq, Tk.at.injEq, subL_nil, subL_cons, look_nil, look_cons, ↓reduceIte, Nat.reduceEqDiff, Option.isSome_some, reduceCtorEq, or_false, false_or, if_true, if_false, hq2, hq3]); (try first | done | omega | (simp; done) | (simp; omega)))) (by ((try simp only [cells_agg, cells_lit, leL_cons, leL_nil, leA_any, leA_lits, leA_isl, leA_self, and_self, true_and, and_true, or_true, true_or, Value.int.injEq, Value.bool.injEq, Value.string.injEq, AV.lit.injEq, Option.some.injEq, Blk.cells.injEq, Blk.tok.injEq, List.cons.injEq, Tk.at.injEq, subL_nil, subL_cons, look_nil, look_cons, ↓reduceIte, Nat.reduceEqDiff, Option.isSome_some, reduceCtorEq, or_false, false_or, if_true, if_false, hq2, hq3]); (try first | done | omega | (simp; done) | (simp; omega)))) (by ((try simp only [cells_agg, cells_lit, List.mem_cons, List.not_mem_nil, or_false, forall_eq_or_imp, forall_eq, only_any, only_lit', only_iptr, only_no, only_full, only_at, only_ptr, only_osl, only_agg, only_tup, only_fn, only_bfn, and_self, implies_true, and_true, true_and, okL_nil, okL_cons, bonly_cells, bonly_tok, keepP_add, look_nil, look_cons, ↓reduceIte, Nat.reduceEqDiff, Option.isSome_some, reduceCtorEq, false_or, if_true, if_false, false_implies, hq2, hq3]); (try first | done | omega | ((repeat' refine And.intro ?_ ?_) <;> (intro _ hx; obtain ⟨_, -, rfl⟩ := List.mem_map.1 hx; exact .lit _))))) (by ((try simp only [cells_agg, cells_lit, List.mem_cons, List.not_mem_nil, or_false, forall_eq_or_imp, forall_eq, only_any, only_lit', only_iptr, only_no, only_full, only_at, only_ptr, only_osl, only_agg, only_tup, only_fn, only_bfn, and_self, implies_true, and_true, true_and, okL_nil, okL_cons, bonly_cells, bonly_tok, keepP_add, look_nil, look_cons, ↓reduceIte, Nat.reduceEqDiff, Option.isSome_some, reduceCtorEq, false_or, if_true, if_false, false_implies, hq2, hq3]); (try first | done | omega | ((repeat' refine And.intro ?_ ?_) <;> (intro _ hx; obtain ⟨_, -, rfl⟩ := List.mem_map.1 hx; exact .lit _)))))
          · rintro ⟨x, b, e⟩ ⟨h1, f, hf, hst⟩
            simp only at h1 hf hst
            by_cases ce : e = 0
            · subst ce
              have hok : okR (x, b, 0) = x := okR_ok rfl
              obtain ⟨f', rfl⟩ : ∃ f', f = f' + 1 := ⟨f - 1, by omega⟩
              rw [starL] at hst
              have s5 : signR 5 = ⟨#[42]⟩ := rfl
              have s6 : signR 6 = ⟨#[43]⟩ := rfl
              have s7 : signR 7 = ⟨#[63]⟩ := rfl
              rw [s5, s6, s7] at hst
              simp only [hok]
              have e1 : IntKind.i64.wrap ((b : Int) + 1) = ((b + 1 : Nat) : Int) := by rw [wrap_i64]; omega
              simp only [go_sem]
              cases h5 : isB ws (b, 0) ⟨#[42]⟩
              · cases h6 : isB ws (b, 0) ⟨#[43]⟩
                · cases h7 : isB ws (b, 0) ⟨#[63]⟩
                  · rw [h5, h6, h7, if_neg (by decide), if_neg (by decide), if_neg (by decide)] at hst
                    subst hst
                    refine WE_pure _ _ _ _ _ _ _ _ (rSignW_c nl ws b ⟨#[42]⟩ hl _) ?_
                    simp only [go_sem, h5]
                    refine WE_pure _ _ _ _ _ _ _ _ (rSignW_c nl ws b ⟨#[43]⟩ hl _) ?_
                    simp only [go_sem, h6]
                    refine WE_pure _ _ _ _ _ _ _ _ (rSignW_c nl ws b ⟨#[63]⟩ hl _) ?_
                    simp only [go_sem, h7]
                    refine FnPost_ce0 hn0 (by simp) (saC (x, b, 0)) (saL (okR (x, b, 0)) b 0) _ rfl (by rw [hok]; exact leL_refl _) (saA_only _ _ _) (fun loc' hl' => ?_)
                    simp only [go_sem, get_loc, hl']
                    exact leA_refl _
                  · rw [h5, h6, h7, if_neg (by decide), if_neg (by decide), if_pos rfl] at hst
                    refine WE_pure _ _ _ _ _ _ _ _ (rSignW_c nl ws b ⟨#[42]⟩ hl _) ?_
                    simp only [go_sem, h5]
                    refine WE_pure _ _ _ _ _ _ _ _ (rSignW_c nl ws b ⟨#[43]⟩ hl _) ?_
                    simp only [go_sem, h6]
                    refine WE_pure _ _ _ _ _ _ _ _ (rSignW_c nl ws b ⟨#[63]⟩ hl _) ?_
                    simp only [go_sem, h7]
                    have hlt := (isB_lt h7).1
                    rw [isS_t h7] at hst
                    refine LP_next (.mk 7 ⟨#[]⟩ false [x], b + 1, 0) ⟨hlt, f', by simp only at *; omega, hst⟩ (by simp only at *; omega) ?_
                    rw [e1]
                    refine Imp.trans (imp_cells (loc' := [(4, .cells 0 [I64 0, SS ⟨#[]⟩, BB false, .isl (some true) [] .full, I64 0, I64 0]), (5, .cells 0 (saL (.mk 7 ⟨#[]⟩ false [x]) (b + 1) 0))]) ⟨rfl, leB_refl _, rfl, ⟨rfl, leA_refl _, leA_refl _, leA_refl _, ⟨.inl rfl, by show _ = [x].map rA; rw [List.map_cons, rA_eq]; rfl, .inl rfl⟩, leA_refl _, leA_refl _, trivial⟩, trivial⟩) ?_
                    refine imp_loc (by ((try simp only [cells_agg, cells_lit, leL_cons, leL_nil, leA_any, leA_lits, leA_isl, leA_self, and_self, true_and, and_true, or_true, true_or, Value.int.injEq, Value.bool.injEq, Value.string.injEq, AV.lit.injEq, Option.some.injEq, Blk.cells.injEq, Blk.tok.injEq, List.cons.injEq, Tk.at.injEq, subL_nil, subL_cons, look_nil, look_cons, ↓reduceIte, Nat.reduceEqDiff, Option.isSome_some, reduceCtorEq, or_false, false_or, if_true, if_false, okR, Rx.k, Rx.l, Rx.b, Rx.ps]); (try first | done | omega | (simp; done) | (simp; omega)))) (by ((try simp only [cells_agg, cells_lit, leL_cons, leL_nil, leA_any, leA_lits, leA_isl, leA_self, and_self, true_and, and_true, or_true, true_or, Value.int.injEq, Value.bool.injEq, Value.string.injEq, AV.lit.injEq, Option.some.injEq, Blk.cells.injEq, Blk.tok.injEq, List.cons.injEq, Tk.at.injEq, subL_nil, subL_cons, look_nil, look_cons, ↓reduceIte, Nat.reduceEqDiff, Option.isSome_some, reduceCtorEq, or_false, false_or, if_true, if_false, okR, Rx.k, Rx.l, Rx.b, Rx.ps]); (try first | done | omega | (simp; done) | (simp; omega)))) (by ((try simp only [cells_agg, cells_lit, List.mem_cons, List.not_mem_nil, or_false, forall_eq_or_imp, forall_eq, only_any, only_lit', only_iptr, only_no, only_full, only_at, only_ptr, only_osl, only_agg, only_tup, only_fn, only_bfn, and_self, implies_true, and_true, true_and, okL_nil, okL_cons, bonly_cells, bonly_tok, keepP_add, look_nil, look_cons, ↓reduceIte, Nat.reduceEqDiff, Option.isSome_some, reduceCtorEq, false_or, if_true, if_false, false_implies, okR, Rx.k, Rx.l, Rx.b, Rx.ps]); (try first | done | omega | ((repeat' refine And.intro ?_ ?_) <;> (intro _ hx; obtain ⟨_, -, rfl⟩ := List.mem_map.1 hx; exact .lit _))))) (by ((try simp only [cells_agg, cells_lit, List.mem_cons, List.not_mem_nil, or_false, forall_eq_or_imp, forall_eq, only_any, only_lit', only_iptr, only_no, only_full, only_at, only_ptr, only_osl, only_agg, only_tup, only_fn, only_bfn, and_self, implies_true, and_true, true_and, okL_nil, okL_cons, bonly_cells, bonly_tok, keepP_add, look_nil, look_cons, ↓reduceIte, Nat.reduceEqDiff, Option.isSome_some, reduceCtorEq, false_or, if_true, if_false, false_implies, okR, Rx.k, Rx.l, Rx.b, Rx.ps]); (try first | done | omega | ((repeat' refine And.intro ?_ ?_) <;> (intro _ hx; obtain ⟨_, -, rfl⟩ := List.mem_map.1 hx; exact .lit _)))))
                · have h7 : isB ws (b, 0) ⟨#[63]⟩ = false := isB_one h6 (by decide)
                  rw [h5, h6, if_neg (by decide), if_pos rfl] at hst
                  refine WE_pure _ _ _ _ _ _ _ _ (rSignW_c nl ws b ⟨#[42]⟩ hl _) ?_
                  simp only [go_sem, h5]
                  refine WE_pure _ _ _ _ _ _ _ _ (rSignW_c nl ws b ⟨#[43]⟩ hl _) ?_
                  simp only [go_sem, h6]
                  refine WE_pure _ _ _ _ _ _ _ _ (rSignW_c nl ws b ⟨#[63]⟩ hl _) ?_
                  simp only [go_sem, h7]
                  have hlt := (isB_lt h6).1
                  rw [isS_t h6] at hst
                  refine LP_next (.mk 6 ⟨#[]⟩ false [x], b + 1, 0) ⟨hlt, f', by simp only at *; omega, hst⟩ (by simp only at *; omega) ?_
                  rw [e1]
                  refine Imp.trans (imp_cells (loc' := [(4, .cells 0 [I64 0, SS ⟨#[]⟩, BB false, .isl (some true) [] .full, I64 0, I64 0]), (5, .cells 0 (saL (.mk 6 ⟨#[]⟩ false [x]) (b + 1) 0))]) ⟨rfl, leB_refl _, rfl, ⟨rfl, leA_refl _, leA_refl _, leA_refl _, ⟨.inl rfl, by show _ = [x].map rA; rw [List.map_cons, rA_eq]; rfl, .inl rfl⟩, leA_refl _, leA_refl _, trivial⟩, trivial⟩) ?_
                  refine imp_loc (by ((try simp only [cells_agg, cells_lit, leL_cons, leL_nil, leA_any, leA_lits, leA_isl, leA_self, and_self, true_and, and_true, or_true, true_or, Value.int.injEq, Value.bool.injEq, Value.string.injEq, AV.lit.injEq, Option.some.injEq, Blk.cells.injEq, Blk.tok.injEq, List.cons.injEq, Tk.at.injEq, subL_nil, subL_cons, look_nil, look_cons, ↓reduceIte, Nat.reduceEqDiff, Option.isSome_some, reduceCtorEq, or_false, false_or, if_true, if_false, okR, Rx.k, Rx.l, Rx.b, Rx.ps]); (try first | done | omega | (simp; done) | (simp; omega)))) (by ((try simp only [cells_agg, cells_lit, leL_cons, leL_nil, leA_any, leA_lits, leA_isl, leA_self, and_self, true_and, and_true, or_true, true_or, Value.int.injEq, Value.bool.injEq, Value.string.injEq, AV.lit.injEq, Option.some.injEq, Blk.cells.injEq, Blk.tok.injEq, List.cons.injEq, Tk.at.injEq, subL_nil, subL_cons, look_nil, look_cons, ↓reduceIte, Nat.reduceEqDiff, Option.isSome_some, reduceCtorEq, or_false, false_or, if_true, if_false, okR, Rx.k, Rx.l, Rx.b, Rx.ps]); (try first | done | omega | (simp; done) | (simp; omega)))) (by ((try simp only [cells_agg, cells_lit, List.mem_cons, List.not_mem_nil, or_false, forall_eq_or_imp, forall_eq, only_any, only_lit', only_iptr, only_no, only_full, only_at, only_ptr, only_osl, only_agg, only_tup, only_fn, only_bfn, and_self, implies_true, and_true, true_and, okL_nil, okL_cons, bonly_cells, bonly_tok, keepP_add, look_nil, look_cons, ↓reduceIte, Nat.reduceEqDiff, Option.isSome_some, reduceCtorEq, false_or, if_true, if_false, false_implies, okR, Rx.k, Rx.l, Rx.b, Rx.ps]); (try first | done | omega | ((repeat' refine And.intro ?_ ?_) <;> (intro _ hx; obtain ⟨_, -, rfl⟩ := List.mem_map.1 hx; exact .lit _))))) (by ((try simp only [cells_agg, cells_lit, List.mem_cons, List.not_mem_nil, or_false, forall_eq_or_imp, forall_eq, only_any, only_lit', only_iptr, only_no, only_full, only_at, only_ptr, only_osl, only_agg, only_tup, only_fn, only_bfn, and_self, implies_true, and_true, true_and, okL_nil, okL_cons, bonly_cells, bonly_tok, keepP_add, look_nil, look_cons, ↓reduceIte, Nat.reduceEqDiff, Option.isSome_some, reduceCtorEq, false_or, if_true, if_false, false_implies, okR, Rx.k, Rx.l, Rx.b, Rx.ps]); (try first | done | omega | ((repeat' refine And.intro ?_ ?_) <;> (intro _ hx; obtain ⟨_, -, rfl⟩ := List.mem_map.1 hx; exact .lit _)))))
              · have h6 : isB ws (b, 0) ⟨#[43]⟩ = false := isB_one h5 (by decide)
                have h7 : isB ws (b, 0) ⟨#[63]⟩ = false := isB_one h5 (by decide)
                rw [h5, if_pos rfl] at hst
                refine WE_pure _ _ _ _ _ _ _ _ (rSignW_c nl ws b ⟨#[42]⟩ hl _) ?_
                simp only [go_sem, h5]
                refine WE_pure _ _ _ _ _ _ _ _ (rSignW_c nl ws b ⟨#[43]⟩ hl _) ?_
                simp only [go_sem, h6]
                refine WE_pure _ _ _ _ _ _ _ _ (rSignW_c nl ws b ⟨#[63]⟩ hl _) ?_
                simp only [go_sem, h7]
                have hlt := (isB_lt h5).1
                rw [isS_t h5] at hst
                refine LP_next (.mk 5 ⟨#[]⟩ false [x], b + 1, 0) ⟨hlt, f', by simp only at *; omega, hst⟩ (by simp only at *; omega) ?_
                rw [e1]
                refine Imp.trans (imp_cells (loc' := [(4, .cells 0 [I64 0, SS ⟨#[]⟩, BB false, .isl (some true) [] .full, I64 0, I64 0]), (5, .cells 0 (saL (.mk 5 ⟨#[]⟩ false [x]) (b + 1) 0))]) ⟨rfl, leB_refl _, rfl, ⟨rfl, leA_refl _, leA_refl _, leA_refl _, ⟨.inl rfl, by show _ = [x].map rA; rw [List.map_cons, rA_eq]; rfl, .inl rfl⟩, leA_refl _, leA_refl _, trivial⟩, trivial⟩) ?_
                refine imp_loc (by ((try simp only [cells_agg, cells_lit, leL_cons, leL_nil, leA_any, leA_lits, leA_isl, leA_self, and_self, true_and, and_true, or_true, true_or, Value.int.injEq, Value.bool.injEq, Value.string.injEq, AV.lit.injEq, Option.some.injEq, Blk.cells.injEq, Blk.tok.injEq, List.cons.injEq, Tk.at.injEq, subL_nil, subL_cons, look_nil, look_cons, ↓reduceIte, Nat.reduceEqDiff, Option.isSome_some, reduceCtorEq, or_false, false_or, if_true, if_false, okR, Rx.k, Rx.l, Rx.b, Rx.ps]); (try first | done | omega | (simp; done) | (simp; omega)))) (by ((try simp only [cells_agg, cells_lit, leL_cons, leL_nil, leA_any, leA_lits, leA_isl, leA_self, and_self, true_and, and_true, or_true, true_or, Value.int.injEq, Value.bool.injEq, Value.string.injEq, AV.lit.injEq, Option.some.injEq, Blk.cells.injEq, Blk.tok.injEq, List.cons.injEq, Tk.at.injEq, subL_nil, subL_cons, look_nil, look_cons, ↓reduceIte, Nat.reduceEqDiff, Option.isSome_some, reduceCtorEq, or_false, false_or, if_true, if_false, okR, Rx.k, Rx.l, Rx.b, Rx.ps]); (try first | done | omega | (simp; done) | (simp; omega)))) (by ((try simp only [cells_agg, cells_lit, List.mem_cons, List.not_mem_nil, or_false, forall_eq_or_imp, forall_eq, only_any, only_lit', only_iptr, only_no, only_full, only_at, only_ptr, only_osl, only_agg, only_tup, only_fn, only_bfn, and_self, implies_true, and_true, true_and, okL_nil, okL_cons, bonly_cells, bonly_tok, keepP_add, look_nil, look_cons, ↓reduceIte, Nat.reduceEqDiff, Option.isSome_some, reduceCtorEq, false_or, if_true, if_false, false_implies, okR, Rx.k, Rx.l, Rx.b, Rx.ps]); (try first | done | omega | ((repeat' refine And.intro ?_ ?_) <;> (intro _ hx; obtain ⟨_, -, rfl⟩ := List.mem_map.1 hx; exact .lit _))))) (by ((try simp only [cells_agg, cells_lit, List.mem_cons, List.not_mem_nil, or_false, forall_eq_or_imp, forall_eq, only_any, only_lit', only_iptr, only_no, only_full, only_at, only_ptr, only_osl, only_agg, only_tup, only_fn, only_bfn, and_self, implies_true, and_true, true_and, okL_nil, okL_cons, bonly_cells, bonly_tok, keepP_add, look_nil, look_cons, ↓reduceIte, Nat.reduceEqDiff, Option.isSome_some, reduceCtorEq, false_or, if_true, if_false, false_implies, okR, Rx.k, Rx.l, Rx.b, Rx.ps]); (try first | done | omega | ((repeat' refine And.intro ?_ ?_) <;> (intro _ hx; obtain ⟨_, -, rfl⟩ := List.mem_map.1 hx; exact .lit _)))))
            · have hst : res = (x, b, e) := by rw [← hst]; exact star_bad ws f x (b, e) ce
              subst hst
              simp only [go_sem, eq_false ce]
              refine FnPost_ce0 hn0 (by simp) (saC (x, b, e)) (saL (okR (x, b, e)) b e) _ rfl (leL_refl _) (saA_only _ _ _) (fun loc' hl' => ?_)
              simp only [go_sem, get_loc, hl']
              exact leA_refl _
      · have hlt3 := (isB_lt hb3).1
        have hF : q = (.mk 1 ⟨#[]⟩ false [], (a + 2, 0)) := by
          rw [← hqq]; unfold pieceF; rw [if_neg (by rw [hb1]; decide), if_neg (by rw [hb2]; decide), hS2, if_pos hb3, isS_t hb3]
        refine WE_pure _ _ _ _ _ _ _ _ (rSignW_c nl ws a ⟨#[94]⟩ hl _) ?_
        simp only [go_sem, hb1]
        refine WE_pure _ _ _ _ _ _ _ _ (rSignW_c nl ws a ⟨#[40]⟩ hl _) ?_
        simp only [go_sem, hb2]
        rw [e1a]
        refine WE_pure _ _ _ _ _ _ _ _ (rSignW_c nl ws (a + 1) ⟨#[41]⟩ hl _) ?_
        simp only [go_sem, hb3]
        rw [e2a]
        have hq2 : q.2.1 = a + 2 := by rw [hF]
        have hq3 : q.2.2 = 0 := by rw [hF]
        have hq1 : okR q = .mk 1 ⟨#[]⟩ false [] := by rw [okR_ok hq3, hF]
        refine WC_loop (fun s : Rd2 => [.isl nl (Wds ws) .no, .any, .any, .any, .ptr (n0 + 4) 0 0, .ptr (n0 + 5) 0 0, .any, .any, .any, .any, .any, .any, .any, .any, .any, .any, .any, .any, .any, .any, .any, .any, .any, .any, .any, .any, .any, .any, .any, .any, .any, .any, .any, .any, .any, .any, .any, .any, .any, .any, .any, .any, .any, .any, .any, .any, .any, .any, .any, .any, .any, .any, .any, .any, .any, .any, .any, .any, .any, .any, .any, .any, .any, .any, .any, .any, .any, .any, .any, .any, .any, .any, .any, .any, .any, .any, .any, .any, .any, .any, .any, .any, .any, .any]) (fun s => ⟨g, [(4, .cells 0 [I64 0, SS ⟨#[]⟩, BB false, .isl (some true) [] .full, I64 0, I64 0]), (5, .cells 0 (saL (okR s) s.2.1 s.2.2))]⟩) (fun s => s.2.1 ≤ ws.length ∧ ∃ f, ws.length - s.2.1 < f ∧ starL ws f s.1 s.2 = res) (fun s => ws.length - s.2.1) q ⟨hqm, ws.length + 1, by omega, hres.symm⟩ ?_ ?_
        · refine Imp.trans (imp_cells (loc' := [(4, .cells 0 [I64 0, SS ⟨#[]⟩, BB false, .isl (some true) [] .full, I64 0, I64 0]), (5, .cells 0 (saL (.mk 1 ⟨#[]⟩ false []) (a + 2) 0))]) ⟨rfl, leB_refl _, rfl, ⟨rfl, leA_refl _, leA_refl _, leA_refl _, ⟨.inl rfl, rfl, .inl rfl⟩, leA_refl _, leA_refl _, trivial⟩, trivial⟩) ?_
          refine imp_loc (by ((try simp only [cells_agg, cells_lit, leL_cons, leL_nil, leA_any, leA_lits, leA_isl, leA_self, and_self, true_and, and_true, or_true, true_or, Value.int.injEq, Value.bool.injEq, Value.string.injEq, AV.lit.injEq, Option.some.injEq, Blk.cells.injEq, Blk.tok.injEq, List.cons.injEq, Tk.at.injEq, subL_nil, subL_cons, look_nil, look_cons, ↓reduceIte, Nat.reduceEqDiff, Option.isSome_some, reduceCtorEq, or_false, false_or, if_true, if_false, hq1, hq2, hq3, Rx.k, Rx.l, Rx.b, Rx.ps]); (try first | done | omega | (simp; done) | (simp; omega)))) (by ((try simp only [cells_agg, cells_lit, leL_cons, leL_nil, leA_any, leA_lits, leA_isl, leA_self, and_self, true_and, and_true, or_true, true_or, Value.int.injEq, Value.bool.injEq, Value.string.injEq, AV.lit.injEq, Option.some.injEq, Blk.cells.injEq, Blk.tok.injEq, List.cons.injEq, Tk.at.injEq, subL_nil, subL_cons, look_nil, look_cons, ↓reduceIte, Nat.reduceEqDiff, Option.isSome_some, reduceCtorEq, or_false, false_or, if_true, if_false, hq1, hq2, hq3, Rx.k, Rx.l, Rx.b, Rx.ps]); (try first | done | omega | (simp; done) | (simp; omega)))) (by ((try simp only [cells_agg, cells_lit, List.mem_cons, List.not_mem_nil, or_false, forall_eq_or_imp, forall_eq, only_any, only_lit', only_iptr, only_no, only_full, only_at, only_ptr, only_osl, only_agg, only_tup, only_fn, only_bfn, and_self, implies_true, and_true, true_and, okL_nil, okL_cons, bonly_cells, bonly_tok, keepP_add, look_nil, look_cons, ↓reduceIte, Nat.reduceEqDiff, Option.isSome_some, reduceCtorEq, false_or, if_true, if_false, false_implies, hq1, hq2, hq3, Rx.k, Rx.l, Rx.b, Rx.ps]); (try first | done | omega | ((repeat' refine And.intro ?_ ?_) <;> (intro _ hx; obtain ⟨_, -, rfl⟩ := List.mem_map.1 hx; exact .lit _))))) (by ((try simp only [cells_agg, cells_lit, List.mem_cons, List.not_mem_nil, or_false, forall_eq_or_imp, forall_eq, only_any, only_lit', only_iptr, only_no, only_full, only_at, only_ptr, only_osl, only_agg, only_tup, only_fn, only_bfn, and_self, implies_true, and_true, true_and, okL_nil, okL_cons, bonly_cells, bonly_tok, keepP_add, look_nil, look_cons, ↓reduceIte, Nat.reduceEqDiff, Option.isSome_some, reduceCtorEq, false_or, if_true, if_false, false_implies, hq1, hq2, hq3, Rx.k, Rx.l, Rx.b, Rx.ps]); (try first | done | omega | ((repeat' refine And.intro ?_ ?_) <;> (intro _ hx; obtain ⟨_, -, rfl⟩ := List.mem_map.1 hx; exact .lit _)))))
        · rintro ⟨x, b, e⟩ ⟨h1, f, hf, hst⟩
          simp only at h1 hf hst
          by_cases ce : e = 0
          · subst ce
            have hok : okR (x, b, 0) = x := okR_ok rfl
            obtain ⟨f', rfl⟩ : ∃ f', f = f' + 1 := ⟨f - 1, by omega⟩
            rw [starL] at hst
            have s5 : signR 5 = ⟨#[42]⟩ := rfl
            have s6 : signR 6 = ⟨#[43]⟩ := rfl
            have s7 : signR 7 = ⟨#[63]⟩ := rfl
            rw [s5, s6, s7] at hst
            simp only [hok]
            have e1 : IntKind.i64.wrap ((b : Int) + 1) = ((b + 1 : Nat) : Int) := by rw [wrap_i64]; omega
            simp only [go_sem]
            cases h5 : isB ws (b, 0) ⟨#[42]⟩
            · cases h6 : isB ws (b, 0) ⟨#[43]⟩
              · cases h7 : isB ws (b, 0) ⟨#[63]⟩
                · rw [h5, h6, h7, if_neg (by decide), if_neg (by decide), if_neg (by decide)] at hst
                  subst hst
                  refine WE_pure _ _ _ _ _ _ _ _ (rSignW_c nl ws b ⟨#[42]⟩ hl _) ?_
                  simp only [go_sem, h5]
                  refine WE_pure _ _ _ _ _ _ _ _ (rSignW_c nl ws b ⟨#[43]⟩ hl _) ?_
                  simp only [go_sem, h6]
                  refine WE_pure _ _ _ _ _ _ _ _ (rSignW_c nl ws b ⟨#[63]⟩ hl _) ?_
                  simp only [go_sem, h7]
                  refine FnPost_ce0 hn0 (by simp) (saC (x, b, 0)) (saL (okR (x, b, 0)) b 0) _ rfl (by rw [hok]; exact leL_refl _) (saA_only _ _ _) (fun loc' hl' => ?_)
                  simp only [go_sem, get_loc, hl']
                  exact leA_refl _
                · rw [h5, h6, h7, if_neg (by decide), if_neg (by decide), if_pos rfl] at hst
                  refine WE_pure _ _ _ _ _ _ _ _ (rSignW_c nl ws b ⟨#[42]⟩ hl _) ?_
                  simp only [go_sem, h5]
                  refine WE_pure _ _ _ _ _ _ _ _ (rSignW_c nl ws b ⟨#[43]⟩ hl _) ?_
                  simp only [go_sem, h6]
                  refine WE_pure _ _ _ _ _ _ _ _ (rSignW_c nl ws b ⟨#[63]⟩ hl _) ?_
                  simp only [go_sem, h7]
                  have hlt := (isB_lt h7).1
                  rw [isS_t h7] at hst
                  refine LP_next (.mk 7 ⟨#[]⟩ false [x], b + 1, 0) ⟨hlt, f', by simp only at *; omega, hst⟩ (by simp only at *; omega) ?_
                  rw [e1]
                  refine Imp.trans (imp_cells (loc' := [(4, .cells 0 [I64 0, SS ⟨#[]⟩, BB false, .isl (some true) [] .full, I64 0, I64 0]), (5, .cells 0 (saL (.mk 7 ⟨#[]⟩ false [x]) (b + 1) 0))]) ⟨rfl, leB_refl _, rfl, ⟨rfl, leA_refl _, leA_refl _, leA_refl _, ⟨.inl rfl, by show _ = [x].map rA; rw [List.map_cons, rA_eq]; rfl, .inl rfl⟩, leA_refl _, leA_refl _, trivial⟩, trivial⟩) ?_
                  refine imp_loc (by ((try simp only [cells_agg, cells_lit, leL_cons, leL_nil, leA_any, leA_lits, leA_isl, leA_self, and_self, true_and, and_true, or_true, true_or, Value.int.injEq, Value.bool.injEq, Value.string.injEq, AV.lit.injEq, Option.some.injEq, Blk.cells.injEq, Blk.tok.injEq, List.cons.injEq, Tk.at.injEq, subL_nil, subL_cons, look_nil, look_cons, ↓reduceIte, Nat.reduceEqDiff, Option.isSome_some, reduceCtorEq, or_false, false_or, if_true, if_false, okR, Rx.k, Rx.l, Rx.b, Rx.ps]); (try first | done | omega | (simp; done) | (simp; omega)))) (by ((try simp only [cells_agg, cells_lit, leL_cons, leL_nil, leA_any, leA_lits, leA_isl, leA_self, and_self, true_and, and_true, or_true, true_or, Value.int.injEq, Value.bool.injEq, Value.string.injEq, AV.lit.injEq, Option.some.injEq, Blk.cells.injEq, Blk.tok.injEq, List.cons.injEq, Tk.at.injEq, subL_nil, subL_cons, look_nil, look_cons, ↓reduceIte, Nat.reduceEqDiff, Option.isSome_some, reduceCtorEq, or_false, false_or, if_true, if_false, okR, Rx.k, Rx.l, Rx.b, Rx.ps]); (try first | done | omega | (simp; done) | (simp; omega)))) (by ((try simp only [cells_agg, cells_lit, List.mem_cons, List.not_mem_nil, or_false, forall_eq_or_imp, forall_eq, only_any, only_lit', only_iptr, only_no, only_full, only_at, only_ptr, only_osl, only_agg, only_tup, only_fn, only_bfn, and_self, implies_true, and_true, true_and, okL_nil, okL_cons, bonly_cells, bonly_tok, keepP_add, look_nil, look_cons, ↓reduceIte, Nat.reduceEqDiff, Option.isSome_some, reduceCtorEq, false_or, if_true, if_false, false_implies, okR, Rx.k, Rx.l, Rx.b, Rx.ps]); (try first | done | omega | ((repeat' refine And.intro ?_ ?_) <;> (intro _ hx; obtain ⟨_, -, rfl⟩ := List.mem_map.1 hx; exact .lit _))))) (by ((try simp only [cells_agg, cells_lit, List.mem_cons, List.not_mem_nil, or_false, forall_eq_or_imp, forall_eq, only_any, only_lit', only_iptr, only_no, only_full, only_at, only_ptr, only_osl, only_agg, only_tup, only_fn, only_bfn, and_self, implies_true, and_true, true_and, okL_nil, okL_cons, bonly_cells, bonly_tok, keepP_add, look_nil, look_cons, ↓reduceIte, Nat.reduceEqDiff, Option.isSome_some, reduceCtorEq, false_or, if_true, if_false, false_implies, okR, Rx.k, Rx.l, Rx.b, Rx.ps]); (try first | done | omega | ((repeat' refine And.intro ?_ ?_) <;> (intro _ hx; obtain ⟨_, -, rfl⟩ := List.mem_map.1 hx; exact .lit _)))))
              · have h7 : isB ws (b, 0) ⟨#[63]⟩ = false := isB_one h6 (by decide)
                rw [h5, h6, if_neg (by decide), if_pos rfl] at hst
                refine WE_pure _ _ _ _ _ _ _ _ (rSignW_c nl ws b ⟨#[42]⟩ hl _) ?_
                simp only [go_sem, h5]
                refine WE_pure _ _ _ _ _ _ _ _ (rSignW_c nl ws b ⟨#[43]⟩ hl _) ?_
                simp only [go_sem, h6]
                refine WE_pure _ _ _ _ _ _ _ _ (rSignW_c nl ws b ⟨#[63]⟩ hl _) ?_
                simp only [go_sem, h7]
                have hlt := (isB_lt h6).1
                rw [isS_t h6] at hst
                refine LP_next (.mk 6 ⟨#[]⟩ false [x], b + 1, 0) ⟨hlt, f', by simp only at *; omega, hst⟩ (by simp only at *; omega) ?_
                rw [e1]
                refine Imp.trans (imp_cells (loc' := [(4, .cells 0 [I64 0, SS ⟨#[]⟩, BB false, .isl (some true) [] .full, I64 0, I64 0]), (5, .cells 0 (saL (.mk 6 ⟨#[]⟩ false [x]) (b + 1) 0))]) ⟨rfl, leB_refl _, rfl, ⟨rfl, leA_refl _, leA_refl _, leA_refl _, ⟨.inl rfl, by show _ = [x].map rA; rw [List.map_cons, rA_eq]; rfl, .inl rfl⟩, leA_refl _, leA_refl _, trivial⟩, trivial⟩) ?_
                refine imp_loc (by ((try simp only [cells_agg, cells_lit, leL_cons, leL_nil, leA_any, leA_lits, leA_isl, leA_self, and_self, true_and, and_true, or_true, true_or, Value.int.injEq, Value.bool.injEq, Value.string.injEq, AV.lit.injEq, Option.some.injEq, Blk.cells.injEq, Blk.tok.injEq, List.cons.injEq, Tk.at.injEq, subL_nil, subL_cons, look_nil, look_cons, ↓reduceIte, Nat.reduceEqDiff, Option.isSome_some, reduceCtorEq, or_false, false_or, if_true, if_false, okR, Rx.k, Rx.l, Rx.b, Rx.ps]); (try first | done | omega | (simp; done) | (simp; omega)))) (by ((try simp only [cells_agg, cells_lit, leL_cons, leL_nil, leA_any, leA_lits, leA_isl, leA_self, and_self, true_and, and_true, or_true, true_or, Value.int.injEq, Value.bool.injEq, Value.string.injEq, AV.lit.injEq, Option.some.injEq, Blk.cells.injEq, Blk.tok.injEq, List.cons.injEq, Tk.at.injEq, subL_nil, subL_cons, look_nil, look_cons, ↓reduceIte, Nat.reduceEqDiff, Option.isSome_some, reduceCtorEq, or_false, false_or, if_true, if_false, okR, Rx.k, Rx.l, Rx.b, Rx.ps]); (try first | done | omega | (simp; done) | (simp; omega)))) (by ((try simp only [cells_agg, cells_lit, List.mem_cons, List.not_mem_nil, or_false, forall_eq_or_imp, forall_eq, only_any, only_lit', only_iptr, only_no, only_full, only_at, only_ptr, only_osl, only_agg, only_tup, only_fn, only_bfn, and_self, implies_true, and_true, true_and, okL_nil, okL_cons, bonly_cells, bonly_tok, keepP_add, look_nil, look_cons, ↓reduceIte, Nat.reduceEqDiff, Option.isSome_some, reduceCtorEq, false_or, if_true, if_false, false_implies, okR, Rx.k, Rx.l, Rx.b, Rx.ps]); (try first | done | omega | ((repeat' refine And.intro ?_ ?_) <;> (intro _ hx; obtain ⟨_, -, rfl⟩ := List.mem_map.1 hx; exact .lit _))))) (by ((try simp only [cells_agg, cells_lit, List.mem_cons, List.not_mem_nil, or_false, forall_eq_or_imp, forall_eq, only_any, only_lit', only_iptr, only_no, only_full, only_at, only_ptr, only_osl, only_agg, only_tup, only_fn, only_bfn, and_self, implies_true, and_true, true_and, okL_nil, okL_cons, bonly_cells, bonly_tok, keepP_add, look_nil, look_cons, ↓reduceIte, Nat.reduceEqDiff, Option.isSome_some, reduceCtorEq, false_or, if_true, if_false, false_implies, okR, Rx.k, Rx.l, Rx.b, Rx.ps]); (try first | done | omega | ((repeat' refine And.intro ?_ ?_) <;> (intro _ hx; obtain ⟨_, -, rfl⟩ := List.mem_map.1 hx; exact .lit _)))))
            · have h6 : isB ws (b, 0) ⟨#[43]⟩ = false := isB_one h5 (by decide)
              have h7 : isB ws (b, 0) ⟨#[63]⟩ = false := isB_one h5 (by decide)
              rw [h5, if_pos rfl] at hst
              refine WE_pure _ _ _ _ _ _ _ _ (rSignW_c nl ws b ⟨#[42]⟩ hl _) ?_
              simp only [go_sem, h5]
              refine WE_pure _ _ _ _ _ _ _ _ (rSignW_c nl ws b ⟨#[43]⟩ hl _) ?_
              simp only [go_sem, h6]
              refine WE_pure _ _ _ _ _ _ _ _ (rSignW_c nl ws b ⟨#[63]⟩ hl _) ?_
              simp only [go_sem, h7]
              have hlt := (isB_lt h5).1
              rw [isS_t h5] at hst
              refine LP_next (.mk 5 ⟨#[]⟩ false [x], b + 1, 0) ⟨hlt, f', by simp only at *; omega, hst⟩ (by simp only at *; omega) ?_
              rw [e1]
              refine Imp.trans (imp_cells (loc' := [(4, .cells 0 [I64 0, SS ⟨#[]⟩, BB false, .isl (some true) [] .full, I64 0, I64 0]), (5, .cells 0 (saL (.mk 5 ⟨#[]⟩ false [x]) (b + 1) 0))]) ⟨rfl, leB_refl _, rfl, ⟨rfl, leA_refl _, leA_refl _, leA_refl _, ⟨.inl rfl, by show _ = [x].map rA; rw [List.map_cons, rA_eq]; rfl, .inl rfl⟩, leA_refl _, leA_refl _, trivial⟩, trivial⟩) ?_
              refine imp_loc (by ((try simp only [cells_agg, cells_lit, leL_cons, leL_nil, leA_any, leA_lits, leA_isl, leA_self, and_self, true_and, and_true, or_true, true_or, Value.int.injEq, Value.bool.injEq, Value.string.injEq, AV.lit.injEq, Option.some.injEq, Blk.cells.injEq, Blk.tok.injEq, List.cons.injEq, Tk.at.injEq, subL_nil, subL_cons, look_nil, look_cons, ↓reduceIte, Nat.reduceEqDiff, Option.isSome_some, reduceCtorEq, or_false, false_or, if_true, if_false, okR, Rx.k, Rx.l, Rx.b, Rx.ps]); (try first | done | omega | (simp; done) | (simp; omega)))) (by ((try simp only [cells_agg, cells_lit, leL_cons, leL_nil, leA_any, leA_lits, leA_isl, leA_self, and_self, true_and, and_true, or_true, true_or, Value.int.injEq, Value.bool.injEq, Value.string.injEq, AV.lit.injEq, Option.some.injEq, Blk.cells.injEq, Blk.tok.injEq, List.cons.injEq, Tk.at.injEq, subL_nil, subL_cons, look_nil, look_cons, ↓reduceIte, Nat.reduceEqDiff, Option.isSome_some, reduceCtorEq, or_false, false_or, if_true, if_false, okR, Rx.k, Rx.l, Rx.b, Rx.ps]); (try first | done | omega | (simp; done) | (simp; omega)))) (by ((try simp only [cells_agg, cells_lit, List.mem_cons, List.not_mem_nil, or_false, forall_eq_or_imp, forall_eq, only_any, only_lit', only_iptr, only_no, only_full, only_at, only_ptr, only_osl, only_agg, only_tup, only_fn, only_bfn, and_self, implies_true, and_true, true_and, okL_nil, okL_cons, bonly_cells, bonly_tok, keepP_add, look_nil, look_cons, ↓reduceIte, Nat.reduceEqDiff, Option.isSome_some, reduceCtorEq, false_or, if_true, if_false, false_implies, okR, Rx.k, Rx.l, Rx.b, Rx.ps]); (try first | done | omega | ((repeat' refine And.intro ?_ ?_) <;> (intro _ hx; obtain ⟨_, -, rfl⟩ := List.mem_map.1 hx; exact .lit _))))) (by ((try simp only [cells_agg, cells_lit, List.mem_cons, List.not_mem_nil, or_false, forall_eq_or_imp, forall_eq, only_any, only_lit', only_iptr, only_no, only_full, only_at, only_ptr, only_osl, only_agg, only_tup, only_fn, only_bfn, and_self, implies_true, and_true, true_and, okL_nil, okL_cons, bonly_cells, bonly_tok, keepP_add, look_nil, look_cons, ↓reduceIte, Nat.reduceEqDiff, Option.isSome_some, reduceCtorEq, false_or, if_true, if_false, false_implies, okR, Rx.k, Rx.l, Rx.b, Rx.ps]); (try first | done | omega | ((repeat' refine And.intro ?_ ?_) <;> (intro _ hx; obtain ⟨_, -, rfl⟩ := List.mem_map.1 hx; exact .lit _)))))
          · have hst : res = (x, b, e) := by rw [← hst]; exact star_bad ws f x (b, e) ce
            subst hst
            simp only [go_sem, eq_false ce]
            refine FnPost_ce0 hn0 (by simp) (saC (x, b, e)) (saL (okR (x, b, e)) b e) _ rfl (leL_refl _) (saA_only _ _ _) (fun loc' hl' => ?_)
            simp only [go_sem, get_loc, hl']
            exact leA_refl _
  · have hS1 := isS_t hb1
    have hlt := (isB_lt hb1).1
    have hF : q = (stepR ws (a + 1, 0) true, stepS ws (a + 1, 0)) := by rw [← hqq]; unfold pieceF; rw [if_pos hb1, hS1]
    have hc := rStep_c nl ws (a + 1) true hlt hl
    rw [← hF] at hc
    refine WE_pure _ _ _ _ _ _ _ _ (rSignW_c nl ws a ⟨#[94]⟩ hl _) ?_
    simp only [go_sem, hb1]
    rw [e1a]
    refine WE_pure _ _ _ _ _ _ _ _ (hc _) ?_
    simp only [go_sem]
    refine WC_loop (fun s : Rd2 => [.isl nl (Wds ws) .no, .any, .any, .any, .ptr (n0 + 4) 0 0, .ptr (n0 + 5) 0 0, .any, .any, .any, .any, .any, .any, .any, .any, .any, .any, .any, .any, .any, .any, .any, .any, .any, .any, .any, .any, .any, .any, .any, .any, .any, .any, .any, .any, .any, .any, .any, .any, .any, .any, .any, .any, .any, .any, .any, .any, .any, .any, .any, .any, .any, .any, .any, .any, .any, .any, .any, .any, .any, .any, .any, .any, .any, .any, .any, .any, .any, .any, .any, .any, .any, .any, .any, .any, .any, .any, .any, .any, .any, .any, .any, .any, .any, .any]) (fun s => ⟨g, [(4, .cells 0 [I64 0, SS ⟨#[]⟩, BB false, .isl (some true) [] .full, I64 0, I64 0]), (5, .cells 0 (saL (okR s) s.2.1 s.2.2))]⟩) (fun s => s.2.1 ≤ ws.length ∧ ∃ f, ws.length - s.2.1 < f ∧ starL ws f s.1 s.2 = res) (fun s => ws.length - s.2.1) q ⟨hqm, ws.length + 1, by omega, hres.symm⟩ ?_ ?_
    · refine imp_loc (by ((try simp only [cells_agg, cells_lit, leL_cons, leL_nil, leA_any, leA_lits, leA_isl, leA_self, and_self, true_and, and_true, or_true, true_or, Value.int.injEq, Value.bool.injEq, Value.string.injEq, AV.lit.injEq, Option.some.injEq, Blk.cells.injEq, Blk.tok.injEq, List.cons.injEq, Tk.at.injEq, subL_nil, subL_cons, look_nil, look_cons, ↓reduceIte, Nat.reduceEqDiff, Option.isSome_some, reduceCtorEq, or_false, false_or, if_true, if_false]); (try first | done | omega | (simp; done) | (simp; omega)))) (by ((try simp only [cells_agg, cells_lit, leL_cons, leL_nil, leA_any, leA_lits, leA_isl, leA_self, and_self, true_and, and_true, or_true, true_or, Value.int.injEq, Value.bool.injEq, Value.string.injEq, AV.lit.injEq, Option.some.injEq, Blk.cells.injEq, Blk.tok.injEq, List.cons.injEq, Tk.at.injEq, subL_nil, subL_cons, look_nil, look_cons, ↓reduceIte, Nat.reduceEqDiff, Option.isSome_some, reduceCtorEq, or_false, false_or, if_true, if_false]); (try first | done | omega | (simp; done) | (simp; omega)))) (by ((try simp only [cells_agg, cells_lit, List.mem_cons, List.not_mem_nil, or_false, forall_eq_or_imp, forall_eq, only_any, only_lit', only_iptr, only_no, only_full, only_at, only_ptr, only_osl, only_agg, only_tup, only_fn, only_bfn, and_self, implies_true, and_true, true_and, okL_nil, okL_cons, bonly_cells, bonly_tok, keepP_add, look_nil, look_cons, ↓reduceIte, Nat.reduceEqDiff, Option.isSome_some, reduceCtorEq, false_or, if_true, if_false, false_implies]); (try first | done | omega | ((repeat' refine And.intro ?_ ?_) <;> (intro _ hx; obtain ⟨_, -, rfl⟩ := List.mem_map.1 hx; exact .lit _))))) (by ((try simp only [cells_agg, cells_lit, List.mem_cons, List.not_mem_nil, or_false, forall_eq_or_imp, forall_eq, only_any, only_lit', only_iptr, only_no, only_full, only_at, only_ptr, only_osl, only_agg, only_tup, only_fn, only_bfn, and_self, implies_true, and_true, true_and, okL_nil, okL_cons, bonly_cells, bonly_tok, keepP_add, look_nil, look_cons, ↓reduceIte, Nat.reduceEqDiff, Option.isSome_some, reduceCtorEq, false_or, if_true, if_false, false_implies]); (try first | done | omega | ((repeat' refine And.intro ?_ ?_) <;> (intro _ hx; obtain ⟨_, -, rfl⟩ := List.mem_map.1 hx; exact .lit _)))))
    · rintro ⟨x, b, e⟩ ⟨h1, f, hf, hst⟩
      simp only at h1 hf hst
      by_cases ce : e = 0
      · subst ce
        have hok : okR (x, b, 0) = x := okR_ok rfl
        obtain ⟨f', rfl⟩ : ∃ f', f = f' + 1 := ⟨f - 1, by omega⟩
        rw [starL] at hst
        have s5 : signR 5 = ⟨#[42]⟩ := rfl
        have s6 : signR 6 = ⟨#[43]⟩ := rfl
        have s7 : signR 7 = ⟨#[63]⟩ := rfl
        rw [s5, s6, s7] at hst
        simp only [hok]
        have e1 : IntKind.i64.wrap ((b : Int) + 1) = ((b + 1 : Nat) : Int) := by rw [wrap_i64]; omega
        simp only [go_sem]
        cases h5 : isB ws (b, 0) ⟨#[42]⟩
        · cases h6 : isB ws (b, 0) ⟨#[43]⟩
          · cases h7 : isB ws (b, 0) ⟨#[63]⟩
            · rw [h5, h6, h7, if_neg (by decide), if_neg (by decide), if_neg (by decide)] at hst
              subst hst
              refine WE_pure _ _ _ _ _ _ _ _ (rSignW_c nl ws b ⟨#[42]⟩ hl _) ?_
              simp only [go_sem, h5]
              refine WE_pure _ _ _ _ _ _ _ _ (rSignW_c nl ws b ⟨#[43]⟩ hl _) ?_
              simp only [go_sem, h6]
              refine WE_pure _ _ _ _ _ _ _ _ (rSignW_c nl ws b ⟨#[63]⟩ hl _) ?_
              simp only [go_sem, h7]
              refine FnPost_ce0 hn0 (by simp) (saC (x, b, 0)) (saL (okR (x, b, 0)) b 0) _ rfl (by rw [hok]; exact leL_refl _) (saA_only _ _ _) (fun loc' hl' => ?_)
              simp only [go_sem, get_loc, hl']
              exact leA_refl _
            · rw [h5, h6, h7, if_neg (by decide), if_neg (by decide), if_pos rfl] at hst
              refine WE_pure _ _ _ _ _ _ _ _ (rSignW_c nl ws b ⟨#[42]⟩ hl _) ?_
              simp only [go_sem, h5]
              refine WE_pure _ _ _ _ _ _ _ _ (rSignW_c nl ws b ⟨#[43]⟩ hl _) ?_
              simp only [go_sem, h6]
              refine WE_pure _ _ _ _ _ _ _ _ (rSignW_c nl ws b ⟨#[63]⟩ hl _) ?_
              simp only [go_sem, h7]
              have hlt := (isB_lt h7).1
              rw [isS_t h7] at hst
              refine LP_next (.mk 7 ⟨#[]⟩ false [x], b + 1, 0) ⟨hlt, f', by simp only at *; omega, hst⟩ (by simp only at *; omega) ?_
              rw [e1]
              refine Imp.trans (imp_cells (loc' := [(4, .cells 0 [I64 0, SS ⟨#[]⟩, BB false, .isl (some true) [] .full, I64 0, I64 0]), (5, .cells 0 (saL (.mk 7 ⟨#[]⟩ false [x]) (b + 1) 0))]) ⟨rfl, leB_refl _, rfl, ⟨rfl, leA_refl _, leA_refl _, leA_refl _, ⟨.inl rfl, by show _ = [x].map rA; rw [List.map_cons, rA_eq]; rfl, .inl rfl⟩, leA_refl _, leA_refl _, trivial⟩, trivial⟩) ?_
              refine imp_loc (by ((try simp only [cells_agg, cells_lit, leL_cons, leL_nil, leA_any, leA_lits, leA_isl, leA_self, and_self, true_and, and_true, or_true, true_or, Value.int.injEq, Value.bool.injEq, Value.string.injEq, AV.lit.injEq, Option.some.injEq, Blk.cells.injEq, Blk.tok.injEq, List.cons.injEq, Tk.at.injEq, subL_nil, subL_cons, look_nil, look_cons, ↓reduceIte, Nat.reduceEqDiff, Option.isSome_some, reduceCtorEq, or_false, false_or, if_true, if_false, okR, Rx.k, Rx.l, Rx.b, Rx.ps]); (try first | done | omega | (simp; done) | (simp; omega)))) (by ((try simp only [cells_agg, cells_lit, leL_cons, leL_nil, leA_any, leA_lits, leA_isl, leA_self, and_self, true_and, and_true, or_true, true_or, Value.int.injEq, Value.bool.injEq, Value.string.injEq, AV.lit.injEq, Option.some.injEq, Blk.cells.injEq, Blk.tok.injEq, List.cons.injEq, Tk.at.injEq, subL_nil, subL_cons, look_nil, look_cons, ↓reduceIte, Nat.reduceEqDiff, Option.isSome_some, reduceCtorEq, or_false, false_or, if_true, if_false, okR, Rx.k, Rx.l, Rx.b, Rx.ps]); (try first | done | omega | (simp; done) | (simp; omega)))) (by ((try simp only [cells_agg, cells_lit, List.mem_cons, List.not_mem_nil, or_false, forall_eq_or_imp, forall_eq, only_any, only_lit', only_iptr, only_no, only_full, only_at, only_ptr, only_osl, only_agg, only_tup, only_fn, only_bfn, and_self, implies_true, and_true, true_and, okL_nil, okL_cons, bonly_cells, bonly_tok, keepP_add, look_nil, look_cons, ↓reduceIte, Nat.reduceEqDiff, Option.isSome_some, reduceCtorEq, false_or, if_true, if_false, false_implies, okR, Rx.k, Rx.l, Rx.b, Rx.ps]); (try first | done | omega | ((repeat' refine And.intro ?_ ?_) <;> (intro _ hx; obtain ⟨_, -, rfl⟩ := List.mem_map.1 hx; exact .lit _))))) (by ((try simp only [cells_agg, cells_lit, List.mem_cons, List.not_mem_nil, or_false, forall_eq_or_imp, forall_eq, only_any, only_lit', only_iptr, only_no, only_full, only_at, only_ptr, only_osl, only_agg, only_tup, only_fn, only_bfn, and_self, implies_true, and_true, true_and, okL_nil, okL_cons, bonly_cells, bonly_tok, keepP_add, look_nil, look_cons, ↓reduceIte, Nat.reduceEqDiff, Option.isSome_some, reduceCtorEq, false_or, if_true, if_false, false_implies, okR, Rx.k, Rx.l, Rx.b, Rx.ps]); (try first | done | omega | ((repeat' refine And.intro ?_ ?_) <;> (intro _ hx; obtain ⟨_, -, rfl⟩ := List.mem_map.1 hx; exact .lit _)))))
          · have h7 : isB ws (b, 0) ⟨#[63]⟩ = false := isB_one h6 (by decide)
            rw [h5, h6, if_neg (by decide), if_pos rfl] at hst
            refine WE_pure _ _ _ _ _ _ _ _ (rSignW_c nl ws b ⟨#[42]⟩ hl _) ?_
            simp only [go_sem, h5]
            refine WE_pure _ _ _ _ _ _ _ _ (rSignW_c nl ws b ⟨#[43]⟩ hl _) ?_
            simp only [go_sem, h6]
            refine WE_pure _ _ _ _ _ _ _ _ (rSignW_c nl ws b ⟨#[63]⟩ hl _) ?_
            simp only [go_sem, h7]
            have hlt := (isB_lt h6).1
            rw [isS_t h6] at hst
            refine LP_next (.mk 6 ⟨#[]⟩ false [x], b + 1, 0) ⟨hlt, f', by simp only at *; omega, hst⟩ (by simp only at *; omega) ?_
            rw [e1]
            refine Imp.trans (imp_cells (loc' := [(4, .cells 0 [I64 0, SS ⟨#[]⟩, BB false, .isl (some true) [] .full, I64 0, I64 0]), (5, .cells 0 (saL (.mk 6 ⟨#[]⟩ false [x]) (b + 1) 0))]) ⟨rfl, leB_refl _, rfl, ⟨rfl, leA_refl _, leA_refl _, leA_refl _, ⟨.inl rfl, by show _ = [x].map rA; rw [List.map_cons, rA_eq]; rfl, .inl rfl⟩, leA_refl _, leA_refl _, trivial⟩, trivial⟩) ?_
            refine imp_loc (by ((try simp only [cells_agg, cells_lit, leL_cons, leL_nil, leA_any, leA_lits, leA_isl, leA_self, and_self, true_and, and_true, or_true, true_or, Value.int.injEq, Value.bool.injEq, Value.string.injEq, AV.lit.injEq, Option.some.injEq, Blk.cells.injEq, Blk.tok.injEq, List.cons.injEq, Tk.at.injEq, subL_nil, subL_cons, look_nil, look_cons, ↓reduceIte, Nat.reduceEqDiff, Option.isSome_some, reduceCtorEq, or_false, false_or, if_true, if_false, okR, Rx.k, Rx.l, Rx.b, Rx.ps]); (try first | done | omega | (simp; done) | (simp; omega)))) (by ((try simp only [cells_agg, cells_lit, leL_cons, leL_nil, leA_any, leA_lits, leA_isl, leA_self, and_self, true_and, and_true, or_true, true_or, Value.int.injEq, Value.bool.injEq, Value.string.injEq, AV.lit.injEq, Option.some.injEq, Blk.cells.injEq, Blk.tok.injEq, List.cons.injEq, Tk.at.injEq, subL_nil, subL_cons, look_nil, look_cons, ↓reduceIte, Nat.reduceEqDiff, Option.isSome_some, reduceCtorEq, or_false, false_or, if_true, if_false, okR, Rx.k, Rx.l, Rx.b, Rx.ps]); (try first | done | omega | (simp; done) | (simp; omega)))) (by ((try simp only [cells_agg, cells_lit, List.mem_cons, List.not_mem_nil, or_false, forall_eq_or_imp, forall_eq, only_any, only_lit', only_iptr, only_no, only_full, only_at, only_ptr, only_osl, only_agg, only_tup, only_fn, only_bfn, and_self, implies_true, and_true, true_and, okL_nil, okL_cons, bonly_cells, bonly_tok, keepP_add, look_nil, look_cons, ↓reduceIte, Nat.reduceEqDiff, Option.isSome_some, reduceCtorEq, false_or, if_true, if_false, false_implies, okR, Rx.k, Rx.l, Rx.b, Rx.ps]); (try first | done | omega | ((repeat' refine And.intro ?_ ?_) <;> (intro _ hx; obtain ⟨_, -, rfl⟩ := List.mem_map.1 hx; exact .lit _))))) (by ((try simp only [cells_agg, cells_lit, List.mem_cons, List.not_mem_nil, or_false, forall_eq_or_imp, forall_eq, only_any, only_lit', only_iptr, only_no, only_full, only_at, only_ptr, only_osl, only_agg, only_tup, only_fn, only_bfn, and_self, implies_true, and_true, true_and, okL_nil, okL_cons, bonly_cells, bonly_tok, keepP_add, look_nil, look_cons, ↓reduceIte, Nat.reduceEqDiff, Option.isSome_some, reduceCtorEq, false_or, if_true, if_false, false_implies, okR, Rx.k, Rx.l, Rx.b, Rx.ps]); (try first | done | omega | ((repeat' refine And.intro ?_ ?_) <;> (intro _ hx; obtain ⟨_, -, rfl⟩ := List.mem_map.1 hx; exact .lit _)))))
        · have h6 : isB ws (b, 0) ⟨#[43]⟩ = false := isB_one h5 (by decide)
          have h7 : isB ws (b, 0) ⟨#[63]⟩ = false := isB_one h5 (by decide)
          rw [h5, if_pos rfl] at hst
          refine WE_pure _ _ _ _ _ _ _ _ (rSignW_c nl ws b ⟨#[42]⟩ hl _) ?_
          simp only [go_sem, h5]
          refine WE_pure _ _ _ _ _ _ _ _ (rSignW_c nl ws b ⟨#[43]⟩ hl _) ?_
          simp only [go_sem, h6]
          refine WE_pure _ _ _ _ _ _ _ _ (rSignW_c nl ws b ⟨#[63]⟩ hl _) ?_
          simp only [go_sem, h7]
          have hlt := (isB_lt h5).1
          rw [isS_t h5] at hst
          refine LP_next (.mk 5 ⟨#[]⟩ false [x], b + 1, 0) ⟨hlt, f', by simp only at *; omega, hst⟩ (by simp only at *; omega) ?_
          rw [e1]
          refine Imp.trans (imp_cells (loc' := [(4, .cells 0 [I64 0, SS ⟨#[]⟩, BB false, .isl (some true) [] .full, I64 0, I64 0]), (5, .cells 0 (saL (.mk 5 ⟨#[]⟩ false [x]) (b + 1) 0))]) ⟨rfl, leB_refl _, rfl, ⟨rfl, leA_refl _, leA_refl _, leA_refl _, ⟨.inl rfl, by show _ = [x].map rA; rw [List.map_cons, rA_eq]; rfl, .inl rfl⟩, leA_refl _, leA_refl _, trivial⟩, trivial⟩) ?_
          refine imp_loc (by ((try simp only [cells_agg, cells_lit, leL_cons, leL_nil, leA_any, leA_lits, leA_isl, leA_self, and_self, true_and, and_true, or_true, true_or, Value.int.injEq, Value.bool.injEq, Value.string.injEq, AV.lit.injEq, Option.some.injEq, Blk.cells.injEq, Blk.tok.injEq, List.cons.injEq, Tk.at.injEq, subL_nil, subL_cons, look_nil, look_cons, ↓reduceIte, Nat.reduceEqDiff, Option.isSome_some, reduceCtorEq, or_false, false_or, if_true, if_false, okR, Rx.k, Rx.l, Rx.b, Rx.ps]); (try first | done | omega | (simp; done) | (simp; omega)))) (by ((try simp only [cells_agg, cells_lit, leL_cons, leL_nil, leA_any, leA_lits, leA_isl, leA_self, and_self, true_and, and_true, or_true, true_or, Value.int.injEq, Value.bool.injEq, Value.string.injEq, AV.lit.injEq, Option.some.injEq, Blk.cells.injEq, Blk.tok.injEq, List.cons.injEq, Tk.at.injEq, subL_nil, subL_cons, look_nil, look_cons, ↓reduceIte, Nat.reduceEqDiff, Option.isSome_some, reduceCtorEq, or_false, false_or, if_true, if_false, okR, Rx.k, Rx.l, Rx.b, Rx.ps]); (try first | done | omega | (simp; done) | (simp; omega)))) (by ((try simp only [cells_agg, cells_lit, List.mem_cons, List.not_mem_nil, or_false, forall_eq_or_imp, forall_eq, only_any, only_lit', only_iptr, only_no, only_full, only_at, only_ptr, only_osl, only_agg, only_tup, only_fn, only_bfn, and_self, implies_true, and_true, true_and, okL_nil, okL_cons, bonly_cells, bonly_tok, keepP_add, look_nil, look_cons, ↓reduceIte, Nat.reduceEqDiff, Option.isSome_some, reduceCtorEq, false_or, if_true, if_false, false_implies, okR, Rx.k, Rx.l, Rx.b, Rx.ps]); (try first | done | omega | ((repeat' refine And.intro ?_ ?_) <;> (intro _ hx; obtain ⟨_, -, rfl⟩ := List.mem_map.1 hx; exact .lit _))))) (by ((try simp only [cells_agg, cells_lit, List.mem_cons, List.not_mem_nil, or_false, forall_eq_or_imp, forall_eq, only_any, only_lit', only_iptr, only_no, only_full, only_at, only_ptr, only_osl, only_agg, only_tup, only_fn, only_bfn, and_self, implies_true, and_true, true_and, okL_nil, okL_cons, bonly_cells, bonly_tok, keepP_add, look_nil, look_cons, ↓reduceIte, Nat.reduceEqDiff, Option.isSome_some, reduceCtorEq, false_or, if_true, if_false, false_implies, okR, Rx.k, Rx.l, Rx.b, Rx.ps]); (try first | done | omega | ((repeat' refine And.intro ?_ ?_) <;> (intro _ hx; obtain ⟨_, -, rfl⟩ := List.mem_map.1 hx; exact .lit _)))))
      · have hst : res = (x, b, e) := by rw [← hst]; exact star_bad ws f x (b, e) ce
        subst hst
        simp only [go_sem, eq_false ce]
        refine FnPost_ce0 hn0 (by simp) (saC (x, b, e)) (saL (okR (x, b, e)) b e) _ rfl (leL_refl _) (saA_only _ _ _) (fun loc' hl' => ?_)
        simp only [go_sem, get_loc, hl']
        exact leA_refl _
end Go.Proofs.YtcnhpclfflcdfaaDoorR.Reg
