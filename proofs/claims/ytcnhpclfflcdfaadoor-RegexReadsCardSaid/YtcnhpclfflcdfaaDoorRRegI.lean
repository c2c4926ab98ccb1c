import Derived.Test.YtcnhpclfflcdfaaDoorRRegH
/- Expressions: the document's Read, Parse and Same. -/
namespace Go.Proofs.YtcnhpclfflcdfaaDoorR.Reg
open Go Go.Av Go.Proofs.YtcnhpclfflcdfaaDoorR.Val Go.Proofs.YtcnhpclfflcdfaaDoorR.Lex
set_option linter.unusedSimpArgs false
set_option linter.unusedVariables false
theorem rRead_c (nl : Option Bool) (ws : List Wd) (hw : smallW ws) (hl : ws.length ≤ 100000) (g : GH) : PureC Tryd.prog 42 [.isl nl (Wds ws) .no] g (sdA (readF nameB ws)) := by
  have hr := rRowsN_c nl ws hl (ws.length + 1) 0 (Nat.zero_le _) (by omega)
  have hm := rowsN_mo ws (ws.length + 1) (0, 0) (Nat.zero_le _) (by simp only; omega)
  have hs := rowsN_small hw (ws.length + 1) (0, 0)
  have hF : readF nameB ws = if (rowsN ws (ws.length + 1) (0, 0)).2.2 ≠ 0 then (rx0, ((rowsN ws (ws.length + 1) (0, 0)).2.1 : Int), (rowsN ws (ws.length + 1) (0, 0)).2.2) else if goodR nameB (rowsN ws (ws.length + 1) (0, 0)).1 = false then (rx0, 0, 5) else ((rowsN ws (ws.length + 1) (0, 0)).1, ((rowsN ws (ws.length + 1) (0, 0)).2.1 : Int), 0) := rfl
  generalize readF nameB ws = res at *
  generalize rowsN ws (ws.length + 1) (0, 0) = q at *
  obtain ⟨x, b, e⟩ := q
  obtain ⟨m1, m2, m3⟩ := hm
  simp only at m1 m2 m3 hF hs
  have hg := rGood_c x (by omega) hs
  rw [rA_eq x] at hg
  refine CallC.body (fun _ => none) (fun _ => 0) Tryd.func42 rfl Tryd.results42 Tryd.ntmps42 ?_
  intro n0 hn0
  simp only [go_sem]
  have e0 : rxB rx0 [.lit (.int .i64 0), .lit (.string ⟨#[]⟩), .lit (.bool false), .isl (some true) [] .full] := rxB_mk 0 ⟨#[]⟩ false _ [] _
  by_cases c1 : e = 0
  · subst c1
    have hok : okR (x, b, 0) = x := okR_ok rfl
    rw [if_neg (by simp)] at hF
    refine WE_pure _ _ _ _ _ _ _ _ (hr _) ?_
    simp only [go_sem, hok]
    cases hgd : goodR nameB x
    · rw [if_pos hgd] at hF
      subst hF
      refine WE_pure _ _ _ _ _ _ _ _ (hg _) ?_
      simp only [go_sem, hgd]
      refine FnPost_imp (imp_rx (d := 2) rx0 rfl e0) ?_
      refine FnPost_end hn0 (by simp) rfl (sdA_only _) ?_
      simp only [go_sem, setL_hit]
      exact sd_fin rx0 _ _
    · rw [if_neg (by rw [hgd]; decide)] at hF
      subst hF
      refine WE_pure _ _ _ _ _ _ _ _ (hg _) ?_
      simp only [go_sem, hgd]
      refine WC_draw Ty.mixed (by kernel_rfl) ?_
      simp only [go_sem]
      refine WD_end (by (simp only [POL, PO1, List.take_succ_cons, List.take_zero, List.take_nil, and_true, true_and]; (repeat' apply And.intro) <;> first | exact trivial | (right; unfold HA; simp; done) | (left; kernel_rfl))) ?_
      simp only [go_sem]
      refine FnPost_imp (imp_rx (d := 2) (x) rfl (rxB_mk' _)) ?_
      refine FnPost_end hn0 (by simp) rfl (sdA_only _) ?_
      simp only [go_sem, setL_hit]
      exact sd_fin (x) _ _
  · have hok : okR (x, b, e) = rx0 := okR_no c1
    rw [if_pos c1] at hF
    subst hF
    refine WE_pure _ _ _ _ _ _ _ _ (hr _) ?_
    simp only [go_sem, hok, eq_false c1]
    refine WC_draw Ty.mixed (by kernel_rfl) ?_
    simp only [go_sem]
    refine WD_end (by (simp only [POL, PO1, List.take_succ_cons, List.take_zero, List.take_nil, and_true, true_and]; (repeat' apply And.intro) <;> first | exact trivial | (right; unfold HA; simp; done) | (left; kernel_rfl))) ?_
    simp only [go_sem]
    refine FnPost_imp (imp_rx (d := 2) (rx0) rfl e0) ?_
    refine FnPost_end hn0 (by simp) rfl (sdA_only _) ?_
    simp only [go_sem, setL_hit]
    exact sd_fin (rx0) _ _
theorem rParse_c (s : ByteArray) (hs : s.size ≤ 100000) (g : GH) : PureC Tryd.prog 37 [SS s] g (sdA (parseF nameB (wordsF s))) := by
  have hw := words_smallW s hs
  have hl := words_len s
  have hc := rWords_c s (by omega)
  generalize wordsF s = w at *
  have hr := rRead_c none w.1 hw (by omega)
  have hF : parseF nameB w = if w.2.2 ≠ 0 then (rx0, w.2.1, w.2.2) else if (readF nameB w.1).2.2 ≠ 0 then (rx0, (readF nameB w.1).2.1, (readF nameB w.1).2.2) else if (readF nameB w.1).2.1 < w.1.length then (rx0, (readF nameB w.1).2.1, 2) else ((readF nameB w.1).1, (readF nameB w.1).2.1, 0) := rfl
  generalize parseF nameB w = res at *
  generalize readF nameB w.1 = q at *
  refine CallC.body (fun _ => none) (fun _ => 0) Tryd.func37 rfl Tryd.results37 Tryd.ntmps37 ?_
  intro n0 hn0
  simp only [go_sem]
  refine WE_pure _ _ _ _ _ _ _ _ (hc _) ?_
  simp only [go_sem]
  have e0 : rxB rx0 [.lit (.int .i64 0), .lit (.string ⟨#[]⟩), .lit (.bool false), .isl (some true) [] .full] := rxB_mk 0 ⟨#[]⟩ false _ [] _
  by_cases c1 : w.2.2 = 0
  · rw [if_neg (not_not_intro c1)] at hF
    simp only [go_sem, eq_true c1]
    refine WE_pure _ _ _ _ _ _ _ _ (hr _) ?_
    simp only [go_sem, rA_cells, List.length_map]
    split
    · rename_i c2
      rw [if_pos c2] at hF
      subst hF
      refine FnPost_imp (imp_rx (d := 2) (rx0) rfl e0) ?_
      refine FnPost_end hn0 (by simp) rfl (sdA_only _) ?_
      simp only [go_sem, setL_hit]
      exact sd_fin (rx0) _ _
    · rename_i c2
      rw [if_neg c2] at hF
      split
      · rename_i c3
        rw [if_pos c3] at hF
        subst hF
        refine FnPost_imp (imp_rx (d := 2) (rx0) rfl e0) ?_
        refine FnPost_end hn0 (by simp) rfl (sdA_only _) ?_
        simp only [go_sem, setL_hit]
        exact sd_fin (rx0) _ _
      · rename_i c3
        rw [if_neg c3] at hF
        subst hF
        refine FnPost_imp (imp_rx (d := 2) (q.1) rfl (rxB_mk' _)) ?_
        refine FnPost_end hn0 (by simp) rfl (sdA_only _) ?_
        simp only [go_sem, setL_hit]
        exact sd_fin (q.1) _ _
  · rw [if_pos c1] at hF
    subst hF
    simp only [go_sem, eq_false c1]
    refine FnPost_imp (imp_rx (d := 2) (rx0) rfl e0) ?_
    refine FnPost_end hn0 (by simp) rfl (sdA_only _) ?_
    simp only [go_sem, setL_hit]
    exact sd_fin (rx0) _ _
open Classical in
/-- whether two expressions are one -/
noncomputable def eqR (a b : Rx) : Bool := decide (a = b)
open Classical in
theorem eqR_refl (a : Rx) : eqR a a = true := by unfold eqR; exact decide_eq_true rfl
open Classical in
theorem eqR_no {a b : Rx} (h : a ≠ b) : eqR a b = false := by unfold eqR; exact decide_eq_false h
open Classical in
theorem eqR_yes {a b : Rx} (h : eqR a b = true) : a = b := by unfold eqR at h; exact of_decide_eq_true h
theorem rSameR_s (a b : Rx) (hb : a.nodes ≤ 1000000) (ih : ∀ p q, p ∈ a.ps → ∀ g : GH, PureC Tryd.prog 38 [rA p, rA q] g (BB (eqR p q))) (g : GH) : PureC Tryd.prog 38 [rA a, rA b] g (BB (eqR a b)) := by
  have hlen := a.len_lt
  have hF : eqR a b = true ↔ a.k = b.k ∧ a.l = b.l ∧ a.b = b.b ∧ a.ps = b.ps := by
    obtain ⟨k, l, b1, ps⟩ := a
    obtain ⟨k', l', b2, ps'⟩ := b
    constructor
    · intro h
      have := eqR_yes h
      rw [this]; exact ⟨rfl, rfl, rfl, rfl⟩
    · rintro ⟨h1, h2, h3, h4⟩
      have h1 : k = k' := h1
      have h2 : l = l' := h2
      have h3 : b1 = b2 := h3
      have h4 : ps = ps' := h4
      subst h1 h2 h3 h4
      exact eqR_refl _
  have no : ¬ (a.k = b.k ∧ a.l = b.l ∧ a.b = b.b ∧ a.ps = b.ps) → eqR a b = false := fun h => by
    cases e : eqR a b
    · rfl
    · exact absurd (hF.1 e) h
  rw [rA_eq a, rA_eq b]
  generalize eqR a b = res at *
  generalize a.k = k at *
  generalize a.l = l at *
  generalize a.b = b1 at *
  generalize a.ps = ps at *
  generalize b.k = k' at *
  generalize b.l = l' at *
  generalize b.b = b2 at *
  generalize b.ps = qs at *
  refine CallC.body (fun _ => none) (fun _ => 0) Tryd.func38 rfl Tryd.results38 Tryd.ntmps38 ?_
  intro n0 hn0
  simp only [go_sem]
  by_cases h1 : k = k'
  · by_cases h2 : l = l'
    · by_cases h3 : b1 = b2
      · subst h3
        by_cases h4 : (ps.length : Int) = (qs.length : Int)
        · simp only [go_sem, eq_true h1, eq_true h2, eq_true h4, str_eq, List.length_map, beq_self_eq_true]
          refine WC_loop (fun i : Nat => [.any, .any, .ptr (n0 + 2) 0 0, .ptr (n0 + 3) 0 0, .any, I64 i, .any, .any, .any, .any, .any, .any, .any, .any, .any, .any, .any, .any, .any, .any, .any, .any, .any, .any, .any, .any, .any, .any, .any, .any, .any, .any, .any, .any, .any, .any, .any, .any, .any, .any, .any, .any, .any, .any, .any, .any]) (fun i => ⟨g, [(2, .cells 0 [I64 k, SS l, BB b1, .isl none (ps.map rA) .no]), (3, .cells 0 [I64 k', SS l', BB b1, .isl none (qs.map rA) .no])]⟩) (fun i => i ≤ ps.length ∧ ps.take i = qs.take i) (fun i => ps.length - i) 0 ⟨by simp, by simp⟩ ?_ ?_
          · refine imp_loc (by ((try simp only [cells_agg, cells_lit, leL_cons, leL_nil, leA_any, leA_lits, leA_isl, leA_self, and_self, true_and, and_true, or_true, true_or, Value.int.injEq, Value.bool.injEq, Value.string.injEq, AV.lit.injEq, Option.some.injEq, Blk.cells.injEq, Blk.tok.injEq, List.cons.injEq, Tk.at.injEq, subL_nil, subL_cons, look_nil, look_cons, ↓reduceIte, Nat.reduceEqDiff, Option.isSome_some, reduceCtorEq, or_false, false_or, if_true, if_false]); (try first | done | omega | (simp; done) | (simp; omega)))) (by ((try simp only [cells_agg, cells_lit, leL_cons, leL_nil, leA_any, leA_lits, leA_isl, leA_self, and_self, true_and, and_true, or_true, true_or, Value.int.injEq, Value.bool.injEq, Value.string.injEq, AV.lit.injEq, Option.some.injEq, Blk.cells.injEq, Blk.tok.injEq, List.cons.injEq, Tk.at.injEq, subL_nil, subL_cons, look_nil, look_cons, ↓reduceIte, Nat.reduceEqDiff, Option.isSome_some, reduceCtorEq, or_false, false_or, if_true, if_false]); (try first | done | omega | (simp; done) | (simp; omega)))) (by ((try simp only [cells_agg, cells_lit, List.mem_cons, List.not_mem_nil, or_false, forall_eq_or_imp, forall_eq, only_any, only_lit', only_iptr, only_no, only_full, only_at, only_ptr, only_osl, only_agg, only_tup, only_fn, only_bfn, and_self, implies_true, and_true, true_and, okL_nil, okL_cons, bonly_cells, bonly_tok, keepP_add, look_nil, look_cons, ↓reduceIte, Nat.reduceEqDiff, Option.isSome_some, reduceCtorEq, false_or, if_true, if_false, false_implies]); (try first | done | omega | ((repeat' refine And.intro ?_ ?_) <;> (intro _ hx; obtain ⟨_, -, rfl⟩ := List.mem_map.1 hx; exact .lit _))))) (by ((try simp only [cells_agg, cells_lit, List.mem_cons, List.not_mem_nil, or_false, forall_eq_or_imp, forall_eq, only_any, only_lit', only_iptr, only_no, only_full, only_at, only_ptr, only_osl, only_agg, only_tup, only_fn, only_bfn, and_self, implies_true, and_true, true_and, okL_nil, okL_cons, bonly_cells, bonly_tok, keepP_add, look_nil, look_cons, ↓reduceIte, Nat.reduceEqDiff, Option.isSome_some, reduceCtorEq, false_or, if_true, if_false, false_implies]); (try first | done | omega | ((repeat' refine And.intro ?_ ?_) <;> (intro _ hx; obtain ⟨_, -, rfl⟩ := List.mem_map.1 hx; exact .lit _)))))
          · rintro i ⟨hi, hi2⟩
            simp only [go_sem, List.length_map]
            split
            · rename_i hlt
              have hlt : i < ps.length := by omega
              have hlt2 : i < qs.length := by omega
              have e1 : IntKind.i64.wrap ((i : Int) + 1) = ((i + 1 : Nat) : Int) := by rw [wrap_i64]; omega
              have hp := rx_getD_mem hlt
              have ih' := ih _ (qs.getD i rx0) hp
              have hst := take_snoc hlt
              have hst2 := take_snoc hlt2
              have gp := rA_getD ps i hlt
              have gq := rA_getD qs i hlt2
              have hne : ps.getD i rx0 ≠ qs.getD i rx0 → ps ≠ qs := fun h e => h (by rw [e])
              generalize ps.getD i rx0 = p at *
              generalize qs.getD i rx0 = q at *
              rw [rA_eq p, rA_eq q] at ih'
              refine WC_draw Ty.mixed (by kernel_rfl) ?_
              simp only [go_sem, List.length_map, gp, gq, rA_cells]
              (repeat (refine ⟨by omega, ?_⟩))
              cases he : eqR p q
              · refine DE_pure _ _ _ _ _ _ _ _ _ [] (fun g' _ => ih' _) ?_
                simp only [go_sem, he]
                refine FnPost_end hn0 (by simp) rfl (only_lit _ _) ?_
                simp only [go_sem]
                exact leA_bool (no fun h => hne (fun e => by rw [e, eqR_refl] at he; cases he) h.2.2.2).symm
              · refine DE_pure _ _ _ _ _ _ _ _ _ [] (fun g' _ => ih' _) ?_
                simp only [go_sem, he]
                refine LP_next (i + 1) ⟨by omega, by rw [hst, hst2, hi2, eqR_yes he]⟩ (by omega) ?_
                rw [e1]
                refine imp_loc (by ((try simp only [cells_agg, cells_lit, leL_cons, leL_nil, leA_any, leA_lits, leA_isl, leA_self, and_self, true_and, and_true, or_true, true_or, Value.int.injEq, Value.bool.injEq, Value.string.injEq, AV.lit.injEq, Option.some.injEq, Blk.cells.injEq, Blk.tok.injEq, List.cons.injEq, Tk.at.injEq, subL_nil, subL_cons, look_nil, look_cons, ↓reduceIte, Nat.reduceEqDiff, Option.isSome_some, reduceCtorEq, or_false, false_or, if_true, if_false]); (try first | done | omega | (simp; done) | (simp; omega)))) (by ((try simp only [cells_agg, cells_lit, leL_cons, leL_nil, leA_any, leA_lits, leA_isl, leA_self, and_self, true_and, and_true, or_true, true_or, Value.int.injEq, Value.bool.injEq, Value.string.injEq, AV.lit.injEq, Option.some.injEq, Blk.cells.injEq, Blk.tok.injEq, List.cons.injEq, Tk.at.injEq, subL_nil, subL_cons, look_nil, look_cons, ↓reduceIte, Nat.reduceEqDiff, Option.isSome_some, reduceCtorEq, or_false, false_or, if_true, if_false]); (try first | done | omega | (simp; done) | (simp; omega)))) (by ((try simp only [cells_agg, cells_lit, List.mem_cons, List.not_mem_nil, or_false, forall_eq_or_imp, forall_eq, only_any, only_lit', only_iptr, only_no, only_full, only_at, only_ptr, only_osl, only_agg, only_tup, only_fn, only_bfn, and_self, implies_true, and_true, true_and, okL_nil, okL_cons, bonly_cells, bonly_tok, keepP_add, look_nil, look_cons, ↓reduceIte, Nat.reduceEqDiff, Option.isSome_some, reduceCtorEq, false_or, if_true, if_false, false_implies]); (try first | done | omega | ((repeat' refine And.intro ?_ ?_) <;> (intro _ hx; obtain ⟨_, -, rfl⟩ := List.mem_map.1 hx; exact .lit _))))) (by ((try simp only [cells_agg, cells_lit, List.mem_cons, List.not_mem_nil, or_false, forall_eq_or_imp, forall_eq, only_any, only_lit', only_iptr, only_no, only_full, only_at, only_ptr, only_osl, only_agg, only_tup, only_fn, only_bfn, and_self, implies_true, and_true, true_and, okL_nil, okL_cons, bonly_cells, bonly_tok, keepP_add, look_nil, look_cons, ↓reduceIte, Nat.reduceEqDiff, Option.isSome_some, reduceCtorEq, false_or, if_true, if_false, false_implies]); (try first | done | omega | ((repeat' refine And.intro ?_ ?_) <;> (intro _ hx; obtain ⟨_, -, rfl⟩ := List.mem_map.1 hx; exact .lit _)))))
            · have : i = ps.length := by omega
              subst this
              have : ps.length = qs.length := by omega
              rw [List.take_length, this, List.take_length] at hi2
              refine FnPost_end hn0 (by simp) rfl (only_lit _ _) ?_
              simp only [go_sem]
              exact leA_bool (hF.2 ⟨h1, h2, rfl, hi2⟩).symm
        · simp only [go_sem, eq_true h1, eq_true h2, eq_false h4, str_eq, List.length_map, beq_self_eq_true]
          refine FnPost_end hn0 (by simp) rfl (only_lit _ _) ?_
          simp only [go_sem]
          exact leA_bool (no fun h => h4 (by rw [h.2.2.2])).symm
      · have h3' : (b1 == b2) = false := beq_eq_false_iff_ne.2 h3
        simp only [go_sem, eq_true h1, eq_true h2, h3', str_eq, List.length_map]
        refine FnPost_end hn0 (by simp) rfl (only_lit _ _) ?_
        simp only [go_sem]
        exact leA_bool (no fun h => h3 h.2.2.1).symm
    · simp only [go_sem, eq_true h1, eq_false h2, str_eq, List.length_map]
      refine FnPost_end hn0 (by simp) rfl (only_lit _ _) ?_
      simp only [go_sem]
      exact leA_bool (no fun h => h2 h.2.1).symm
  · simp only [go_sem, eq_false h1]
    refine FnPost_end hn0 (by simp) rfl (only_lit _ _) ?_
    simp only [go_sem]
    exact leA_bool (no fun h => h1 h.1).symm
theorem rSameR_c : ∀ (N : Nat) (a b : Rx), a.nodes < N → a.nodes ≤ 1000000 → ∀ g : GH, PureC Tryd.prog 38 [rA a, rA b] g (BB (eqR a b))
  | 0, a, b, hN, hb, g => by omega
  | N + 1, a, b, hN, hb, g => rSameR_s a b hb (fun p q hp => rSameR_c N p q (by have := Rx.nodes_lt hp; omega) (by have := Rx.nodes_lt hp; omega)) g
end Go.Proofs.YtcnhpclfflcdfaaDoorR.Reg
