import Derived.Test.YtjinngfpbmkhaaaHypP
import Derived.Test.YtjinngfpbmkhaaaHypO
/- Hypergraphs: the document's Parts, and the law. -/
namespace Go.Proofs.Ytjinngfpbmkhaaa.Hyp
open Go Go.Av Go.Proofs.Ytjinngfpbmkhaaa.Set
set_option linter.unusedSimpArgs false
set_option linter.unusedVariables false
theorem partsL_take (n : Nat) (X : List (List Int)) (v : Nat) (h : v < n) : (partsL n X).take v ++ [(roundsL X (n + 1) [(v : Int)]).getD 0 0] = (partsL n X).take (v + 1) := by
  have hl : v < (partsL n X).length := by unfold partsL; simp [h]
  rw [List.take_succ_eq_append_getElem hl]
  unfold partsL
  simp
theorem partsL_len (n : Nat) (X : List (List Int)) : (partsL n X).length = n := by unfold partsL; simp
set_option maxHeartbeats 2000000 in
theorem rParts_c (n : Nat) (nl : Option Bool) (E : Edges) (t : Bool) (hE : szH E) (hs : ∀ j, j < E.length → (eG E j).2.2.length ≤ 500000) (hok : okE n (XE E)) (g : GH) :
    PureC Try.prog 24 [HA' n nl E t] g (.isl none (Il (partsL n (XE E))) .no) := by
  refine CallC.body (fun _ => none) (fun d => if d = 8 then 1 else 0) Try.func24 rfl Try.results24 Try.ntmps24 ?_
  intro n0 hn0
  simp only [go_sem]
  have hl := hE.1
  have hn := hok.1
  refine WC_loop (fun v : Nat => [.any, .ptr (n0 + 1) 0 0, .any, .isl (some false) (Il ((partsL n (XE E)).take v)) (.at (n0 + 8) v), I64 v, .any, .any, .any, .any, .any, .any, .any, .any, .any, .any, .any, .any, .any, .any, .any, .any, .any, .any, .any, .any, .any, .any, .any, .any, .any, .any, .any, .any, .any, .any, .any, .any, .any, .any, .any, .any, .any, .any, .any, .any, .any, .any, .any, .any]) (fun v => ⟨g, [(1, .cells 0 [I64 n, .isl nl (El E) (tkb t)]), (8, .tok v)]⟩) (fun v => v ≤ n) (fun v => n - v) 0 (by simp) ?_ ?_
  · have e0 : Il [] = [] := rfl
    refine imp_loc (by ((try simp only [cells_agg, cells_lit, leL_cons, leL_nil, leA_any, leA_lits, leA_isl, leA_self, and_self, true_and, and_true, or_true, true_or, Value.int.injEq, Value.bool.injEq, Value.string.injEq, AV.lit.injEq, Option.some.injEq, Blk.cells.injEq, Blk.tok.injEq, List.cons.injEq, Tk.at.injEq, subL_nil, subL_cons, look_nil, look_cons, ↓reduceIte, Nat.reduceEqDiff, Option.isSome_some, reduceCtorEq, or_false, false_or, if_true, if_false, only_tkb, List.take_zero, e0]); (try first | done | omega | (simp; done) | (simp; omega)))) (by ((try simp only [cells_agg, cells_lit, leL_cons, leL_nil, leA_any, leA_lits, leA_isl, leA_self, and_self, true_and, and_true, or_true, true_or, Value.int.injEq, Value.bool.injEq, Value.string.injEq, AV.lit.injEq, Option.some.injEq, Blk.cells.injEq, Blk.tok.injEq, List.cons.injEq, Tk.at.injEq, subL_nil, subL_cons, look_nil, look_cons, ↓reduceIte, Nat.reduceEqDiff, Option.isSome_some, reduceCtorEq, or_false, false_or, if_true, if_false, only_tkb, List.take_zero, e0]); (try first | done | omega | (simp; done) | (simp; omega)))) (by ((try simp only [cells_agg, cells_lit, List.mem_cons, List.not_mem_nil, or_false, forall_eq_or_imp, forall_eq, only_any, only_lit', only_iptr, only_no, only_full, only_at, only_ptr, only_osl, only_agg, only_tup, only_fn, and_self, implies_true, and_true, true_and, okL_nil, okL_cons, bonly_cells, bonly_tok, keepP_add, look_nil, look_cons, ↓reduceIte, Nat.reduceEqDiff, Option.isSome_some, reduceCtorEq, false_or, if_true, if_false, false_implies, only_tkb, List.take_zero, e0]); (try first | done | omega | ((repeat' refine And.intro ?_ ?_) <;> (intro _ hx; obtain ⟨_, -, rfl⟩ := List.mem_map.1 hx; exact .lit _))))) (by ((try simp only [cells_agg, cells_lit, List.mem_cons, List.not_mem_nil, or_false, forall_eq_or_imp, forall_eq, only_any, only_lit', only_iptr, only_no, only_full, only_at, only_ptr, only_osl, only_agg, only_tup, only_fn, and_self, implies_true, and_true, true_and, okL_nil, okL_cons, bonly_cells, bonly_tok, keepP_add, look_nil, look_cons, ↓reduceIte, Nat.reduceEqDiff, Option.isSome_some, reduceCtorEq, false_or, if_true, if_false, false_implies, only_tkb, List.take_zero, e0]); (try first | done | omega | ((repeat' refine And.intro ?_ ?_) <;> (intro _ hx; obtain ⟨_, -, rfl⟩ := List.mem_map.1 hx; exact .lit _)))))
  · intro v hv
    simp only [go_sem]
    split
    · rename_i hlt
      have hlt : v < n := by omega
      have e1 : IntKind.i64.wrap ((v : Int) + 1) = ((v + 1 : Nat) : Int) := by rw [wrap_i64]; omega
      have g0 : Grown n (XE E) (v : Int) [(v : Int)] := ⟨by unfold Rises; simp, by simp, fun x hx => by simp at hx; subst hx; exact .refl _, fun x hx => by simp at hx; omega⟩
      refine WC_loop (fun k : Nat => [.any, .ptr (n0 + 1) 0 0, .any, .isl (some false) (Il ((partsL n (XE E)).take v)) (.at (n0 + 8) v), I64 v, .isl none (Il (roundsL (XE E) k [(v : Int)])) .no, I64 k, .any, .any, .any, .any, .any, .any, .any, .any, .any, .any, .any, .any, .any, .any, .any, .any, .any, .any, .any, .any, .any, .any, .any, .any, .any, .any, .any, .any, .any, .any, .any, .any, .any, .any, .any, .any, .any, .any, .any, .any, .any, .any]) (fun k => ⟨g, [(1, .cells 0 [I64 n, .isl nl (El E) (tkb t)]), (8, .tok v)]⟩) (fun k => k ≤ n + 1 ∧ Grown n (XE E) (v : Int) (roundsL (XE E) k [(v : Int)])) (fun k => n + 1 - k) 0 ⟨by simp, g0⟩ ?_ ?_
      · have e0 : Il (roundsL (XE E) 0 [(v : Int)]) = [I64 v] := rfl
        refine imp_loc (by ((try simp only [cells_agg, cells_lit, leL_cons, leL_nil, leA_any, leA_lits, leA_isl, leA_self, and_self, true_and, and_true, or_true, true_or, Value.int.injEq, Value.bool.injEq, Value.string.injEq, AV.lit.injEq, Option.some.injEq, Blk.cells.injEq, Blk.tok.injEq, List.cons.injEq, Tk.at.injEq, subL_nil, subL_cons, look_nil, look_cons, ↓reduceIte, Nat.reduceEqDiff, Option.isSome_some, reduceCtorEq, or_false, false_or, if_true, if_false, only_tkb, e0]); (try first | done | omega | (simp; done) | (simp; omega)))) (by ((try simp only [cells_agg, cells_lit, leL_cons, leL_nil, leA_any, leA_lits, leA_isl, leA_self, and_self, true_and, and_true, or_true, true_or, Value.int.injEq, Value.bool.injEq, Value.string.injEq, AV.lit.injEq, Option.some.injEq, Blk.cells.injEq, Blk.tok.injEq, List.cons.injEq, Tk.at.injEq, subL_nil, subL_cons, look_nil, look_cons, ↓reduceIte, Nat.reduceEqDiff, Option.isSome_some, reduceCtorEq, or_false, false_or, if_true, if_false, only_tkb, e0]); (try first | done | omega | (simp; done) | (simp; omega)))) (by ((try simp only [cells_agg, cells_lit, List.mem_cons, List.not_mem_nil, or_false, forall_eq_or_imp, forall_eq, only_any, only_lit', only_iptr, only_no, only_full, only_at, only_ptr, only_osl, only_agg, only_tup, only_fn, and_self, implies_true, and_true, true_and, okL_nil, okL_cons, bonly_cells, bonly_tok, keepP_add, look_nil, look_cons, ↓reduceIte, Nat.reduceEqDiff, Option.isSome_some, reduceCtorEq, false_or, if_true, if_false, false_implies, only_tkb, e0]); (try first | done | omega | ((repeat' refine And.intro ?_ ?_) <;> (intro _ hx; obtain ⟨_, -, rfl⟩ := List.mem_map.1 hx; exact .lit _))))) (by ((try simp only [cells_agg, cells_lit, List.mem_cons, List.not_mem_nil, or_false, forall_eq_or_imp, forall_eq, only_any, only_lit', only_iptr, only_no, only_full, only_at, only_ptr, only_osl, only_agg, only_tup, only_fn, and_self, implies_true, and_true, true_and, okL_nil, okL_cons, bonly_cells, bonly_tok, keepP_add, look_nil, look_cons, ↓reduceIte, Nat.reduceEqDiff, Option.isSome_some, reduceCtorEq, false_or, if_true, if_false, false_implies, only_tkb, e0]); (try first | done | omega | ((repeat' refine And.intro ?_ ?_) <;> (intro _ hx; obtain ⟨_, -, rfl⟩ := List.mem_map.1 hx; exact .lit _)))))
      · rintro k ⟨hk, hgr⟩
        simp only [go_sem]
        split
        · rename_i hltk
          have hltk : k < n + 1 := by omega
          have e2 : IntKind.i64.wrap ((k : Int) + 1) = ((k + 1 : Nat) : Int) := by rw [wrap_i64]; omega
          have hout := roundsL_out (XE E) k [(v : Int)]
          generalize roundsL (XE E) k [(v : Int)] = l at *
          refine WC_loop (fun i : Nat => [.any, .ptr (n0 + 1) 0 0, .any, .isl (some false) (Il ((partsL n (XE E)).take v)) (.at (n0 + 8) v), I64 v, .isl none (Il (((XE E).take i).foldl meetL l)) .no, I64 k, I64 i, .any, .any, .any, .any, .any, .any, .any, .any, .any, .any, .any, .any, .any, .any, .any, .any, .any, .any, .any, .any, .any, .any, .any, .any, .any, .any, .any, .any, .any, .any, .any, .any, .any, .any, .any, .any, .any, .any, .any, .any, .any]) (fun i => ⟨g, [(1, .cells 0 [I64 n, .isl nl (El E) (tkb t)]), (8, .tok v)]⟩) (fun i => i ≤ E.length ∧ Grown n (XE E) (v : Int) (((XE E).take i).foldl meetL l)) (fun i => E.length - i) 0 ⟨by simp, hgr⟩ ?_ ?_
          · refine imp_loc (by ((try simp only [cells_agg, cells_lit, leL_cons, leL_nil, leA_any, leA_lits, leA_isl, leA_self, and_self, true_and, and_true, or_true, true_or, Value.int.injEq, Value.bool.injEq, Value.string.injEq, AV.lit.injEq, Option.some.injEq, Blk.cells.injEq, Blk.tok.injEq, List.cons.injEq, Tk.at.injEq, subL_nil, subL_cons, look_nil, look_cons, ↓reduceIte, Nat.reduceEqDiff, Option.isSome_some, reduceCtorEq, or_false, false_or, if_true, if_false, only_tkb, List.take_zero, List.foldl_nil]); (try first | done | omega | (simp; done) | (simp; omega)))) (by ((try simp only [cells_agg, cells_lit, leL_cons, leL_nil, leA_any, leA_lits, leA_isl, leA_self, and_self, true_and, and_true, or_true, true_or, Value.int.injEq, Value.bool.injEq, Value.string.injEq, AV.lit.injEq, Option.some.injEq, Blk.cells.injEq, Blk.tok.injEq, List.cons.injEq, Tk.at.injEq, subL_nil, subL_cons, look_nil, look_cons, ↓reduceIte, Nat.reduceEqDiff, Option.isSome_some, reduceCtorEq, or_false, false_or, if_true, if_false, only_tkb, List.take_zero, List.foldl_nil]); (try first | done | omega | (simp; done) | (simp; omega)))) (by ((try simp only [cells_agg, cells_lit, List.mem_cons, List.not_mem_nil, or_false, forall_eq_or_imp, forall_eq, only_any, only_lit', only_iptr, only_no, only_full, only_at, only_ptr, only_osl, only_agg, only_tup, only_fn, and_self, implies_true, and_true, true_and, okL_nil, okL_cons, bonly_cells, bonly_tok, keepP_add, look_nil, look_cons, ↓reduceIte, Nat.reduceEqDiff, Option.isSome_some, reduceCtorEq, false_or, if_true, if_false, false_implies, only_tkb, List.take_zero, List.foldl_nil]); (try first | done | omega | ((repeat' refine And.intro ?_ ?_) <;> (intro _ hx; obtain ⟨_, -, rfl⟩ := List.mem_map.1 hx; exact .lit _))))) (by ((try simp only [cells_agg, cells_lit, List.mem_cons, List.not_mem_nil, or_false, forall_eq_or_imp, forall_eq, only_any, only_lit', only_iptr, only_no, only_full, only_at, only_ptr, only_osl, only_agg, only_tup, only_fn, and_self, implies_true, and_true, true_and, okL_nil, okL_cons, bonly_cells, bonly_tok, keepP_add, look_nil, look_cons, ↓reduceIte, Nat.reduceEqDiff, Option.isSome_some, reduceCtorEq, false_or, if_true, if_false, false_implies, only_tkb, List.take_zero, List.foldl_nil]); (try first | done | omega | ((repeat' refine And.intro ?_ ?_) <;> (intro _ hx; obtain ⟨_, -, rfl⟩ := List.mem_map.1 hx; exact .lit _)))))
          · rintro i ⟨hi, hgi⟩
            have hXl : (XE E).length = E.length := by simp
            simp only [go_sem, List.length_map]
            split
            · rename_i hlti
              have hlti : i < E.length := by omega
              have e3 : IntKind.i64.wrap ((i : Int) + 1) = ((i + 1 : Nat) : Int) := by rw [wrap_i64]; omega
              have hst := foldl_succ meetL l (XE E) i (by omega) []
              rw [XE_get E i hlti] at hst
              have hnext := hgi.meet hok (XE_mem E i hlti)
              generalize (((XE E).take i).foldl meetL l) = m at *
              have hml := inn_len hgi.rises hgi.inn
              have hse : (setE E i).length ≤ 500000 := Nat.le_trans (ofL_len _) (hs i hlti)
              have hedge : ∀ g, PureC Try.prog 66 [HA' n nl E t, I64 i] g (.isl none (Il (setE E i)) .no) := fun g => rEdge_c n nl E t hE hs (i : Int) (by omega) g
              have hmt : meetL m (eG E i).2.2 = if pickL (setE E i) m true ≠ [] then orL m (setE E i) else m := rfl
              refine WE_pure _ _ _ _ _ _ _ _ (hedge _) ?_
              simp only [go_sem]
              refine WE_pure _ _ _ _ _ _ _ _ (rPick_c none none (setE E i) m .no .no true hse (by omega) _) ?_
              simp only [go_sem, List.length_map]
              split
              · rename_i hc
                have hc : pickL (setE E i) m true ≠ [] := by intro h; rw [h] at hc; simp at hc
                refine WE_pure _ _ _ _ _ _ _ _ (hedge _) ?_
                simp only [go_sem]
                refine WE_pure _ _ _ _ _ _ _ _ (rOr_c none none m (setE E i) .no .no (by omega) hse _) ?_
                simp only [go_sem]
                refine LP_next (i + 1) ⟨by omega, by rw [hst]; exact hnext⟩ (by omega) ?_
                rw [e3, hst, hmt, if_pos hc]
                refine imp_loc (by ((try simp only [cells_agg, cells_lit, leL_cons, leL_nil, leA_any, leA_lits, leA_isl, leA_self, and_self, true_and, and_true, or_true, true_or, Value.int.injEq, Value.bool.injEq, Value.string.injEq, AV.lit.injEq, Option.some.injEq, Blk.cells.injEq, Blk.tok.injEq, List.cons.injEq, Tk.at.injEq, subL_nil, subL_cons, look_nil, look_cons, ↓reduceIte, Nat.reduceEqDiff, Option.isSome_some, reduceCtorEq, or_false, false_or, if_true, if_false, only_tkb]); (try first | done | omega | (simp; done) | (simp; omega)))) (by ((try simp only [cells_agg, cells_lit, leL_cons, leL_nil, leA_any, leA_lits, leA_isl, leA_self, and_self, true_and, and_true, or_true, true_or, Value.int.injEq, Value.bool.injEq, Value.string.injEq, AV.lit.injEq, Option.some.injEq, Blk.cells.injEq, Blk.tok.injEq, List.cons.injEq, Tk.at.injEq, subL_nil, subL_cons, look_nil, look_cons, ↓reduceIte, Nat.reduceEqDiff, Option.isSome_some, reduceCtorEq, or_false, false_or, if_true, if_false, only_tkb]); (try first | done | omega | (simp; done) | (simp; omega)))) (by ((try simp only [cells_agg, cells_lit, List.mem_cons, List.not_mem_nil, or_false, forall_eq_or_imp, forall_eq, only_any, only_lit', only_iptr, only_no, only_full, only_at, only_ptr, only_osl, only_agg, only_tup, only_fn, and_self, implies_true, and_true, true_and, okL_nil, okL_cons, bonly_cells, bonly_tok, keepP_add, look_nil, look_cons, ↓reduceIte, Nat.reduceEqDiff, Option.isSome_some, reduceCtorEq, false_or, if_true, if_false, false_implies, only_tkb]); (try first | done | omega | ((repeat' refine And.intro ?_ ?_) <;> (intro _ hx; obtain ⟨_, -, rfl⟩ := List.mem_map.1 hx; exact .lit _))))) (by ((try simp only [cells_agg, cells_lit, List.mem_cons, List.not_mem_nil, or_false, forall_eq_or_imp, forall_eq, only_any, only_lit', only_iptr, only_no, only_full, only_at, only_ptr, only_osl, only_agg, only_tup, only_fn, and_self, implies_true, and_true, true_and, okL_nil, okL_cons, bonly_cells, bonly_tok, keepP_add, look_nil, look_cons, ↓reduceIte, Nat.reduceEqDiff, Option.isSome_some, reduceCtorEq, false_or, if_true, if_false, false_implies, only_tkb]); (try first | done | omega | ((repeat' refine And.intro ?_ ?_) <;> (intro _ hx; obtain ⟨_, -, rfl⟩ := List.mem_map.1 hx; exact .lit _)))))
              · rename_i hc
                have hc : ¬ pickL (setE E i) m true ≠ [] := by intro h; have := List.length_pos_iff.2 h; omega
                refine LP_next (i + 1) ⟨by omega, by rw [hst]; exact hnext⟩ (by omega) ?_
                rw [e3, hst, hmt, if_neg hc]
                refine imp_loc (by ((try simp only [cells_agg, cells_lit, leL_cons, leL_nil, leA_any, leA_lits, leA_isl, leA_self, and_self, true_and, and_true, or_true, true_or, Value.int.injEq, Value.bool.injEq, Value.string.injEq, AV.lit.injEq, Option.some.injEq, Blk.cells.injEq, Blk.tok.injEq, List.cons.injEq, Tk.at.injEq, subL_nil, subL_cons, look_nil, look_cons, ↓reduceIte, Nat.reduceEqDiff, Option.isSome_some, reduceCtorEq, or_false, false_or, if_true, if_false, only_tkb]); (try first | done | omega | (simp; done) | (simp; omega)))) (by ((try simp only [cells_agg, cells_lit, leL_cons, leL_nil, leA_any, leA_lits, leA_isl, leA_self, and_self, true_and, and_true, or_true, true_or, Value.int.injEq, Value.bool.injEq, Value.string.injEq, AV.lit.injEq, Option.some.injEq, Blk.cells.injEq, Blk.tok.injEq, List.cons.injEq, Tk.at.injEq, subL_nil, subL_cons, look_nil, look_cons, ↓reduceIte, Nat.reduceEqDiff, Option.isSome_some, reduceCtorEq, or_false, false_or, if_true, if_false, only_tkb]); (try first | done | omega | (simp; done) | (simp; omega)))) (by ((try simp only [cells_agg, cells_lit, List.mem_cons, List.not_mem_nil, or_false, forall_eq_or_imp, forall_eq, only_any, only_lit', only_iptr, only_no, only_full, only_at, only_ptr, only_osl, only_agg, only_tup, only_fn, and_self, implies_true, and_true, true_and, okL_nil, okL_cons, bonly_cells, bonly_tok, keepP_add, look_nil, look_cons, ↓reduceIte, Nat.reduceEqDiff, Option.isSome_some, reduceCtorEq, false_or, if_true, if_false, false_implies, only_tkb]); (try first | done | omega | ((repeat' refine And.intro ?_ ?_) <;> (intro _ hx; obtain ⟨_, -, rfl⟩ := List.mem_map.1 hx; exact .lit _))))) (by ((try simp only [cells_agg, cells_lit, List.mem_cons, List.not_mem_nil, or_false, forall_eq_or_imp, forall_eq, only_any, only_lit', only_iptr, only_no, only_full, only_at, only_ptr, only_osl, only_agg, only_tup, only_fn, and_self, implies_true, and_true, true_and, okL_nil, okL_cons, bonly_cells, bonly_tok, keepP_add, look_nil, look_cons, ↓reduceIte, Nat.reduceEqDiff, Option.isSome_some, reduceCtorEq, false_or, if_true, if_false, false_implies, only_tkb]); (try first | done | omega | ((repeat' refine And.intro ?_ ?_) <;> (intro _ hx; obtain ⟨_, -, rfl⟩ := List.mem_map.1 hx; exact .lit _)))))
            · have : i = E.length := by omega
              subst this
              rw [← hXl, List.take_length]
              refine LP_next (k + 1) ⟨by omega, by rw [hout]; rw [← hXl, List.take_length] at hgi; exact hgi⟩ (by omega) ?_
              rw [e2, hout]
              refine imp_loc (by ((try simp only [cells_agg, cells_lit, leL_cons, leL_nil, leA_any, leA_lits, leA_isl, leA_self, and_self, true_and, and_true, or_true, true_or, Value.int.injEq, Value.bool.injEq, Value.string.injEq, AV.lit.injEq, Option.some.injEq, Blk.cells.injEq, Blk.tok.injEq, List.cons.injEq, Tk.at.injEq, subL_nil, subL_cons, look_nil, look_cons, ↓reduceIte, Nat.reduceEqDiff, Option.isSome_some, reduceCtorEq, or_false, false_or, if_true, if_false, only_tkb, roundL]); (try first | done | omega | (simp; done) | (simp; omega)))) (by ((try simp only [cells_agg, cells_lit, leL_cons, leL_nil, leA_any, leA_lits, leA_isl, leA_self, and_self, true_and, and_true, or_true, true_or, Value.int.injEq, Value.bool.injEq, Value.string.injEq, AV.lit.injEq, Option.some.injEq, Blk.cells.injEq, Blk.tok.injEq, List.cons.injEq, Tk.at.injEq, subL_nil, subL_cons, look_nil, look_cons, ↓reduceIte, Nat.reduceEqDiff, Option.isSome_some, reduceCtorEq, or_false, false_or, if_true, if_false, only_tkb, roundL]); (try first | done | omega | (simp; done) | (simp; omega)))) (by ((try simp only [cells_agg, cells_lit, List.mem_cons, List.not_mem_nil, or_false, forall_eq_or_imp, forall_eq, only_any, only_lit', only_iptr, only_no, only_full, only_at, only_ptr, only_osl, only_agg, only_tup, only_fn, and_self, implies_true, and_true, true_and, okL_nil, okL_cons, bonly_cells, bonly_tok, keepP_add, look_nil, look_cons, ↓reduceIte, Nat.reduceEqDiff, Option.isSome_some, reduceCtorEq, false_or, if_true, if_false, false_implies, only_tkb, roundL]); (try first | done | omega | ((repeat' refine And.intro ?_ ?_) <;> (intro _ hx; obtain ⟨_, -, rfl⟩ := List.mem_map.1 hx; exact .lit _))))) (by ((try simp only [cells_agg, cells_lit, List.mem_cons, List.not_mem_nil, or_false, forall_eq_or_imp, forall_eq, only_any, only_lit', only_iptr, only_no, only_full, only_at, only_ptr, only_osl, only_agg, only_tup, only_fn, and_self, implies_true, and_true, true_and, okL_nil, okL_cons, bonly_cells, bonly_tok, keepP_add, look_nil, look_cons, ↓reduceIte, Nat.reduceEqDiff, Option.isSome_some, reduceCtorEq, false_or, if_true, if_false, false_implies, only_tkb, roundL]); (try first | done | omega | ((repeat' refine And.intro ?_ ?_) <;> (intro _ hx; obtain ⟨_, -, rfl⟩ := List.mem_map.1 hx; exact .lit _)))))
        · have : k = n + 1 := by omega
          subst this
          have hpos : 0 < (roundsL (XE E) (n + 1) [(v : Int)]).length := List.length_pos_of_mem hgr.has
          have hg0 := Il_get (roundsL (XE E) (n + 1) [(v : Int)]) 0 hpos
          have hpl := partsL_len n (XE E)
          have htl : ((partsL n (XE E)).take v).length = v := by rw [List.length_take]; omega
          simp only [go_sem, List.length_map, hg0, elsOk_Il, Il_app, partsL_take n (XE E) v hlt, htl, Int.toNat_zero]
          (repeat (refine ⟨by omega, ?_⟩))
          refine LP_next (v + 1) (by omega) (by omega) ?_
          rw [e1]
          refine imp_loc (by ((try simp only [cells_agg, cells_lit, leL_cons, leL_nil, leA_any, leA_lits, leA_isl, leA_self, and_self, true_and, and_true, or_true, true_or, Value.int.injEq, Value.bool.injEq, Value.string.injEq, AV.lit.injEq, Option.some.injEq, Blk.cells.injEq, Blk.tok.injEq, List.cons.injEq, Tk.at.injEq, subL_nil, subL_cons, look_nil, look_cons, ↓reduceIte, Nat.reduceEqDiff, Option.isSome_some, reduceCtorEq, or_false, false_or, if_true, if_false, only_tkb]); (try first | done | omega | (simp; done) | (simp; omega)))) (by ((try simp only [cells_agg, cells_lit, leL_cons, leL_nil, leA_any, leA_lits, leA_isl, leA_self, and_self, true_and, and_true, or_true, true_or, Value.int.injEq, Value.bool.injEq, Value.string.injEq, AV.lit.injEq, Option.some.injEq, Blk.cells.injEq, Blk.tok.injEq, List.cons.injEq, Tk.at.injEq, subL_nil, subL_cons, look_nil, look_cons, ↓reduceIte, Nat.reduceEqDiff, Option.isSome_some, reduceCtorEq, or_false, false_or, if_true, if_false, only_tkb]); (try first | done | omega | (simp; done) | (simp; omega)))) (by ((try simp only [cells_agg, cells_lit, List.mem_cons, List.not_mem_nil, or_false, forall_eq_or_imp, forall_eq, only_any, only_lit', only_iptr, only_no, only_full, only_at, only_ptr, only_osl, only_agg, only_tup, only_fn, and_self, implies_true, and_true, true_and, okL_nil, okL_cons, bonly_cells, bonly_tok, keepP_add, look_nil, look_cons, ↓reduceIte, Nat.reduceEqDiff, Option.isSome_some, reduceCtorEq, false_or, if_true, if_false, false_implies, only_tkb]); (try first | done | omega | ((repeat' refine And.intro ?_ ?_) <;> (intro _ hx; obtain ⟨_, -, rfl⟩ := List.mem_map.1 hx; exact .lit _))))) (by ((try simp only [cells_agg, cells_lit, List.mem_cons, List.not_mem_nil, or_false, forall_eq_or_imp, forall_eq, only_any, only_lit', only_iptr, only_no, only_full, only_at, only_ptr, only_osl, only_agg, only_tup, only_fn, and_self, implies_true, and_true, true_and, okL_nil, okL_cons, bonly_cells, bonly_tok, keepP_add, look_nil, look_cons, ↓reduceIte, Nat.reduceEqDiff, Option.isSome_some, reduceCtorEq, false_or, if_true, if_false, false_implies, only_tkb]); (try first | done | omega | ((repeat' refine And.intro ?_ ?_) <;> (intro _ hx; obtain ⟨_, -, rfl⟩ := List.mem_map.1 hx; exact .lit _)))))
    · have : n = v := by omega
      subst this
      rw [List.take_of_length_le (by rw [partsL_len]; exact Nat.le_refl _)]
      refine FnPost_end hn0 (by simp) rfl (by simp only [only_tup, List.mem_cons, List.not_mem_nil, or_false, forall_eq_or_imp, forall_eq, only_any, only_lit', only_full, only_no, only_iptr, only_agg, and_self, and_true, true_and, implies_true, or_false]) ?_
      simp only [go_sem]
      exact ⟨.inl rfl, rfl, .inl rfl⟩
theorem withH_few (E : Edges) : withH (fewH E 10) (fewH E 10).length = fewH E 10 := by
  unfold withH
  rw [List.take_length]
  unfold fewH
  rw [List.map_map]
  refine List.map_congr_left fun x _ => ?_
  rfl
theorem eG_app (F : Edges) (p : Option Bool × Bool × List Int) (i : Nat) (h : i < F.length) : eG (F ++ [p]) i = eG F i := by
  unfold eG; simp [List.getD_eq_getElem?_getD, List.getElem?_append_left h]
theorem eG_last (F : Edges) (p : Option Bool × Bool × List Int) : eG (F ++ [p]) F.length = p := by
  unfold eG; simp [List.getD_eq_getElem?_getD]
set_option maxHeartbeats 2000000 in
theorem law_parts (N : Int) (nl : Option Bool) (E : Edges) (t : Bool) (hB : szB E) (hR : rgH E) (nl2 : Option Bool) (e : List Int) (tok2 : Tk) (hel : e.length ≤ 9000000000000000000) (g : GH) : PureC Try.prog 4 [HA' N nl E t, .isl nl2 (Il e) tok2] g (BB true) := by
  refine CallC.body (fun _ => none) (fun _ => 0) Try.func4 rfl Try.results4 Try.ntmps4 ?_
  intro n0 hn0
  simp only [go_sem]
  refine WE_pure _ _ _ _ _ _ _ _ (Few_c N nl E t hB _) ?_
  simp only [go_sem]
  refine WE_pure _ _ _ _ _ _ _ _ (few_c nl2 e tok2 6 (by omega) hel _) ?_
  simp only [go_sem]
  (repeat (refine ⟨by omega, ?_⟩))
  have hE := fewH_szH E
  have hs := fewH_few E
  have hw := withH_few E
  have fewF : ∀ g, PureC Try.prog 12 [HA' N none (fewH E 10) false] g (HA' N none (fewH E 10) false) := fun g => by
    have := Few_c N none (fewH E 10) false (fewH_szB E) g
    rwa [fewH_idem] at this
  have hshape : ∀ i, i < (fewH E 10).length → eG (fewH E 10) i = (none, false, (eG (fewH E 10) i).2.2) := fun i hi => by rw [fewH_get E 10 i hi]
  generalize fewH E 10 = F at *
  have he6 : (e.take 6).length ≤ 6 := by rw [List.length_take]; omega
  have hee : (e.take 6).take 6 = e.take 6 := by rw [List.take_take]; rfl
  have fewe : ∀ nl tok g, PureC Try.prog 21 [.isl nl (Il (e.take 6)) tok, I64 6] g (.isl none (Il (e.take 6)) .no) := fun nl tok g => by
    have := few_c nl (e.take 6) tok 6 (by omega) (by omega) g
    rwa [hee] at this
  generalize e.take 6 = f at *
  refine WE_pure _ _ _ _ _ _ _ _ (fewF _) ?_
  simp only [go_sem]
  refine WE_pure _ _ _ _ _ _ _ _ (fewe _ _ _) ?_
  simp only [go_sem]
  refine WE_pure _ _ _ _ _ _ _ _ (hw ▸ With_c N none F false hE none f (by omega) .no _) ?_
  simp only [go_sem]
  (repeat (refine ⟨by omega, ?_⟩))
  have hFl := hE.1
  have h7 : ((El (F ++ [(none, false, f)])).length : Int) = IntKind.i64.wrap (((El F).length : Int) + 1) := by rw [wrap_i64]; simp; omega
  have hlt7 : F.length < (F ++ [(none, false, f)]).length := by simp
  have e8 : decide (f = f) = true := decide_eq_true rfl
  simp only [go_sem, eq_true h7, El_get (F ++ [(none, false, f)]) F.length hlt7, eG_last]
  simp only [go_sem, List.length_map, El_get (F ++ [(none, false, f)]) F.length hlt7, eG_last]
  (repeat (refine ⟨by omega, ?_⟩))
  refine WE_pure _ _ _ _ _ _ _ _ (e8 ▸ rSame_c none none f f (tkb false) .no (by omega) _) ?_
  simp only [go_sem]
  refine WC_loop (fun i : Nat => [.any, .any, .ptr (n0 + 2) 0 0, .any, .any, .ptr (n0 + 5) 0 0, I64 i, .any, .any, .any, .any, .any, .any, .any, .any, .any, .any, .any, .any, .any, .any, .any, .any, .any, .any, .any, .any, .any, .any, .any, .any, .any, .any, .any, .any, .any, .any, .any, .any, .any, .any, .any, .any, .any, .any, .any, .any, .any, .any, .any, .any, .any, .any, .any, .any, .any, .any, .any, .any, .any, .any, .any, .any, .any, .any, .any, .any, .any, .any, .any, .any, .any, .any, .any, .any, .any, .any, .any, .any, .any, .any, .any]) (fun i => ⟨g, [(2, .cells 0 [I64 N, .isl none (El F) (tkb false)]), (5, .cells 0 [I64 N, .isl none (El (F ++ [(none, false, f)])) (tkb false)])]⟩) (fun i => i ≤ F.length) (fun i => F.length - i) 0 (by simp) ?_ ?_
  · refine imp_loc (by ((try simp only [cells_agg, cells_lit, leL_cons, leL_nil, leA_any, leA_lits, leA_isl, leA_self, and_self, true_and, and_true, or_true, true_or, Value.int.injEq, Value.bool.injEq, Value.string.injEq, AV.lit.injEq, Option.some.injEq, Blk.cells.injEq, Blk.tok.injEq, List.cons.injEq, Tk.at.injEq, subL_nil, subL_cons, look_nil, look_cons, ↓reduceIte, Nat.reduceEqDiff, Option.isSome_some, reduceCtorEq, or_false, false_or, if_true, if_false, only_tkb]); (try first | done | omega | (simp; done) | (simp; omega)))) (by ((try simp only [cells_agg, cells_lit, leL_cons, leL_nil, leA_any, leA_lits, leA_isl, leA_self, and_self, true_and, and_true, or_true, true_or, Value.int.injEq, Value.bool.injEq, Value.string.injEq, AV.lit.injEq, Option.some.injEq, Blk.cells.injEq, Blk.tok.injEq, List.cons.injEq, Tk.at.injEq, subL_nil, subL_cons, look_nil, look_cons, ↓reduceIte, Nat.reduceEqDiff, Option.isSome_some, reduceCtorEq, or_false, false_or, if_true, if_false, only_tkb]); (try first | done | omega | (simp; done) | (simp; omega)))) (by ((try simp only [cells_agg, cells_lit, List.mem_cons, List.not_mem_nil, or_false, forall_eq_or_imp, forall_eq, only_any, only_lit', only_iptr, only_no, only_full, only_at, only_ptr, only_osl, only_agg, only_tup, only_fn, and_self, implies_true, and_true, true_and, okL_nil, okL_cons, bonly_cells, bonly_tok, keepP_add, look_nil, look_cons, ↓reduceIte, Nat.reduceEqDiff, Option.isSome_some, reduceCtorEq, false_or, if_true, if_false, false_implies, only_tkb]); (try first | done | omega | ((repeat' refine And.intro ?_ ?_) <;> (intro _ hx; obtain ⟨_, -, rfl⟩ := List.mem_map.1 hx; exact .lit _))))) (by ((try simp only [cells_agg, cells_lit, List.mem_cons, List.not_mem_nil, or_false, forall_eq_or_imp, forall_eq, only_any, only_lit', only_iptr, only_no, only_full, only_at, only_ptr, only_osl, only_agg, only_tup, only_fn, and_self, implies_true, and_true, true_and, okL_nil, okL_cons, bonly_cells, bonly_tok, keepP_add, look_nil, look_cons, ↓reduceIte, Nat.reduceEqDiff, Option.isSome_some, reduceCtorEq, false_or, if_true, if_false, false_implies, only_tkb]); (try first | done | omega | ((repeat' refine And.intro ?_ ?_) <;> (intro _ hx; obtain ⟨_, -, rfl⟩ := List.mem_map.1 hx; exact .lit _)))))
  · intro i hi
    simp only [go_sem, List.length_map]
    split
    · rename_i hlt
      have hlt : i < F.length := by omega
      have e1 : IntKind.i64.wrap ((i : Int) + 1) = ((i + 1 : Nat) : Int) := by rw [wrap_i64]; omega
      have hltW : i < (F ++ [(none, false, f)]).length := by omega
      have h5 := hs i hlt
      have e9 : decide ((eG F i).2.2 = (eG F i).2.2) = true := decide_eq_true rfl
      have gW := El_get (F ++ [(none, false, f)]) i hltW
      rw [eG_app F _ i hlt] at gW
      refine WC_draw Ty.mixed (by kernel_rfl) ?_
      simp only [go_sem, List.length_map, El_get F i hlt, gW]
      (repeat (refine ⟨by omega, ?_⟩))
      refine DE_pure _ _ _ _ _ _ _ _ _ [] (fun g' _ => e9 ▸ rSame_c _ _ (eG F i).2.2 (eG F i).2.2 _ _ (by omega) _) ?_
      simp only [go_sem]
      refine LP_next (i + 1) (by omega) (by omega) ?_
      rw [e1]
      refine imp_loc (by ((try simp only [cells_agg, cells_lit, leL_cons, leL_nil, leA_any, leA_lits, leA_isl, leA_self, and_self, true_and, and_true, or_true, true_or, Value.int.injEq, Value.bool.injEq, Value.string.injEq, AV.lit.injEq, Option.some.injEq, Blk.cells.injEq, Blk.tok.injEq, List.cons.injEq, Tk.at.injEq, subL_nil, subL_cons, look_nil, look_cons, ↓reduceIte, Nat.reduceEqDiff, Option.isSome_some, reduceCtorEq, or_false, false_or, if_true, if_false, only_tkb]); (try first | done | omega | (simp; done) | (simp; omega)))) (by ((try simp only [cells_agg, cells_lit, leL_cons, leL_nil, leA_any, leA_lits, leA_isl, leA_self, and_self, true_and, and_true, or_true, true_or, Value.int.injEq, Value.bool.injEq, Value.string.injEq, AV.lit.injEq, Option.some.injEq, Blk.cells.injEq, Blk.tok.injEq, List.cons.injEq, Tk.at.injEq, subL_nil, subL_cons, look_nil, look_cons, ↓reduceIte, Nat.reduceEqDiff, Option.isSome_some, reduceCtorEq, or_false, false_or, if_true, if_false, only_tkb]); (try first | done | omega | (simp; done) | (simp; omega)))) (by ((try simp only [cells_agg, cells_lit, List.mem_cons, List.not_mem_nil, or_false, forall_eq_or_imp, forall_eq, only_any, only_lit', only_iptr, only_no, only_full, only_at, only_ptr, only_osl, only_agg, only_tup, only_fn, and_self, implies_true, and_true, true_and, okL_nil, okL_cons, bonly_cells, bonly_tok, keepP_add, look_nil, look_cons, ↓reduceIte, Nat.reduceEqDiff, Option.isSome_some, reduceCtorEq, false_or, if_true, if_false, false_implies, only_tkb]); (try first | done | omega | ((repeat' refine And.intro ?_ ?_) <;> (intro _ hx; obtain ⟨_, -, rfl⟩ := List.mem_map.1 hx; exact .lit _))))) (by ((try simp only [cells_agg, cells_lit, List.mem_cons, List.not_mem_nil, or_false, forall_eq_or_imp, forall_eq, only_any, only_lit', only_iptr, only_no, only_full, only_at, only_ptr, only_osl, only_agg, only_tup, only_fn, and_self, implies_true, and_true, true_and, okL_nil, okL_cons, bonly_cells, bonly_tok, keepP_add, look_nil, look_cons, ↓reduceIte, Nat.reduceEqDiff, Option.isSome_some, reduceCtorEq, false_or, if_true, if_false, false_implies, only_tkb]); (try first | done | omega | ((repeat' refine And.intro ?_ ?_) <;> (intro _ hx; obtain ⟨_, -, rfl⟩ := List.mem_map.1 hx; exact .lit _)))))
    · have : i = F.length := by omega
      subst this
      refine WE_pure _ _ _ _ _ _ _ _ (fewF _) ?_
      simp only [go_sem]
      refine WE_pure _ _ _ _ _ _ _ _ (Parts_c N none F false hE _) ?_
      simp only [go_sem]
      refine WE_pure _ _ _ _ _ _ _ _ (rGood_c N none F false hE _) ?_
      simp only [go_sem]
      cases hg : goodH N F with
      | false =>
        have e2 : partsR N F = [] := by unfold partsR; rw [hg]; rfl
        simp only [go_sem, hg, e2, List.map_nil, List.length_nil]
        refine WE_pure _ _ _ _ _ _ _ _ (lives_c _) ?_
        simp only [go_sem]
        refine FnPost_end hn0 (by simp) rfl (only_lit _ _) ?_
        simp only [go_sem]
        exact leA_bool rfl
      | true =>
        obtain ⟨n, rfl, hn, hok, -⟩ := goodH_ok hg
        have e2 : partsR n F = partsL n (XE F) := by unfold partsR; rw [hg]; rfl
        have hpl := partsL_len n (XE F)
        simp only [go_sem, hg, e2]
        refine WE_pure _ _ _ _ _ _ _ _ (rParts_c n none F false hE hs hok _) ?_
        simp only [go_sem]
        generalize partsL n (XE F) = q at *
        have e3 : decide (q = q) = true := decide_eq_true rfl
        refine WE_pure _ _ _ _ _ _ _ _ (e3 ▸ rSame_c none none q q .no .no (by omega) _) ?_
        simp only [go_sem]
        refine WE_pure _ _ _ _ _ _ _ _ (lives_c _) ?_
        simp only [go_sem]
        refine FnPost_end hn0 (by simp) rfl (only_lit _ _) ?_
        simp only [go_sem]
        exact leA_bool rfl
theorem parts_row (x0 x1 : AV) (h0 : HasA Try.prog 5 24 x0) (h1 : HasA Try.prog 5 26 x1) (g : GH) : PureC Try.prog 4 [x0, x1] g (BB true) := by
  obtain ⟨N, b, E, rfl, k1, k2, -⟩ := hasHy h0
  obtain ⟨b2, l, rfl, k3, -⟩ := hasL h1
  exact law_parts N _ E _ k1 k2 _ l _ k3 g
end Go.Proofs.Ytjinngfpbmkhaaa.Hyp
