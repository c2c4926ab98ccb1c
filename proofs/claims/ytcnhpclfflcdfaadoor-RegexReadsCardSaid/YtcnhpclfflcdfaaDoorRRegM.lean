import Derived.Test.YtcnhpclfflcdfaaDoorRRegL
/- Expressions: where rows that match may end: steps, one behind the other, any number. -/
namespace Go.Proofs.YtcnhpclfflcdfaaDoorR.Reg
open Go Go.Av Go.Proofs.YtcnhpclfflcdfaaDoorR.Val Go.Proofs.YtcnhpclfflcdfaaDoorR.Lex
set_option linter.unusedSimpArgs false
set_option linter.unusedVariables false
def sy0 : Sy := (⟨#[]⟩, false)
def syE (a b : Sy) : Bool := a.1.data.toList == b.1.data.toList && a.2 == b.2
/-- places behind so many steps -/
def symP (s : Sy) (ws : List Sy) (bs : List Bool) (i : Nat) : List Bool := (List.range (ws.length + 1)).map fun j => decide (1 ≤ j ∧ j ≤ i) && (bs.getD (j - 1) false && syE (ws.getD (j - 1) sy0) s)
def symF (s : Sy) (ws : List Sy) (bs : List Bool) : List Bool := symP s ws bs ws.length
theorem symP_len (s : Sy) (ws : List Sy) (bs : List Bool) (i : Nat) : (symP s ws bs i).length = ws.length + 1 := by simp [symP]
theorem symP_get (s : Sy) (ws : List Sy) (bs : List Bool) (i j : Nat) (hj : j < ws.length + 1) : (symP s ws bs i).getD j false = (decide (1 ≤ j ∧ j ≤ i) && (bs.getD (j - 1) false && syE (ws.getD (j - 1) sy0) s)) := by
  simp [symP, List.getD_eq_getElem?_getD, hj]
theorem symP_0 (s : Sy) (ws : List Sy) (bs : List Bool) : symP s ws bs 0 = nul (ws.length + 1) := by
  refine bl_ext (by rw [symP_len, nul_len]) fun j hj => ?_
  rw [symP_len] at hj
  rw [symP_get _ _ _ _ _ hj]
  rw [show decide (1 ≤ j ∧ j ≤ 0) = false from by rw [decide_eq_false_iff_not]; omega]
  simp [nul, List.getD_eq_getElem?_getD, hj]
theorem symP_step (s : Sy) (ws : List Sy) (bs : List Bool) (i : Nat) (hi : i < ws.length) : symP s ws bs (i + 1) = (symP s ws bs i).set (i + 1) (bs.getD i false && syE (ws.getD i sy0) s) := by
  refine bl_ext (by rw [List.length_set, symP_len, symP_len]) fun j hj => ?_
  rw [symP_len] at hj
  rw [symP_get _ _ _ _ _ hj, set_getD _ _ _ _ (by rw [symP_len]; omega)]
  by_cases e : j = i + 1
  · subst e; simp
  · rw [if_neg e, symP_get _ _ _ _ _ hj]
    congr 1
    rw [decide_eq_decide]; omega
set_option maxRecDepth 100000 in
set_option maxHeartbeats 2000000 in
theorem ends_sym (ws : List Sy) (hws : ws.length ≤ 10000) (r : Rx) (hk : r.k = 2) : EndsC ws r (symF (r.l, r.b) ws) := by
  intro bs g x hb hx
  have hxl := hx.len
  simp only [go_sem] at hxl
  obtain ⟨res, hres⟩ : ∃ res, symF (r.l, r.b) ws bs = res := ⟨_, rfl⟩
  rw [hres, rA_eq r]
  generalize r.k = k at *
  generalize r.l = l at *
  generalize r.b = b1 at *
  generalize r.ps = ps at *
  unfold symF at hres
  refine CallC.body (fun _ => none) (fun d => if d = 16 then 2 else 0) Tryd.func104 rfl Tryd.results104 Tryd.ntmps104 ?_
  intro n0 hn0
  simp only [go_sem, hxl, hb, hk]
  have hxk := fun loc => hx.keep hn0 loc
  have hnul : [AV.lit (Value.bool false)].headD AV.any :: List.replicate ws.length ([AV.lit (Value.bool false)].headD AV.any) = Bl (nul (ws.length + 1)) := nul_eq _
  have hnl := nul_len (ws.length + 1)
  refine ⟨⟨by omega, by omega⟩, ?_⟩
  rw [hnul]
  refine WC_loop (fun i : Nat => [.any, .isl none (Syl ws) .no, x, .ptr (n0 + 3) 0 0, .any, .any, .any, .osl (n0 + 16) 0 1 0 (ws.length + 1), .any, .any, .any, .any, .any, .any, .any, .any, .any, .any, .any, .any, .any, .any, .any, .any, .any, .any, .isl none (Syl ws) .no, I64 ws.length, I64 i, .any, .any, .any, .any, .any, .any, .any, .any, .any, .any, .any, .any, .any, .any, .any, .any, .any, .any, .any, .any, .any, .any, .any, .any, .any, .any, .any, .any, .any, .any, .any, .any, .any, .any, .any, .any, .any, .any, .any, .any, .any, .any, .any, .any, .any, .any, .any, .any, .any, .any, .any, .any, .any, .any, .any, .any, .any, .any, .any, .any, .any, .any, .any, .any, .any, .any, .any, .any, .any, .any, .any, .any, .any, .any, .any, .any, .any, .any, .any, .any, .any, .any, .any, .any, .any, .any, .any, .any, .any]) (fun i => ⟨g, [(3, .cells 0 [I64 2, SS l, BB b1, .isl none (ps.map rA) .no]), (16, .cells 0 (Bl (symP (l, b1) ws bs i)))]⟩) (fun i => i ≤ ws.length) (fun i => ws.length - i) 0 (by simp) ?_ ?_
  · rw [symP_0]
    refine imp_loc (by ((try simp only [cells_agg, cells_lit, leL_cons, leL_nil, leA_any, leA_lits, leA_isl, leA_self, and_self, true_and, and_true, or_true, true_or, Value.int.injEq, Value.bool.injEq, Value.string.injEq, AV.lit.injEq, Option.some.injEq, Blk.cells.injEq, Blk.tok.injEq, List.cons.injEq, Tk.at.injEq, subL_nil, subL_cons, look_nil, look_cons, ↓reduceIte, Nat.reduceEqDiff, Option.isSome_some, reduceCtorEq, or_false, false_or, if_true, if_false, hxk, List.length_map]); (try first | done | omega | (simp; done) | (simp; omega)))) (by ((try simp only [cells_agg, cells_lit, leL_cons, leL_nil, leA_any, leA_lits, leA_isl, leA_self, and_self, true_and, and_true, or_true, true_or, Value.int.injEq, Value.bool.injEq, Value.string.injEq, AV.lit.injEq, Option.some.injEq, Blk.cells.injEq, Blk.tok.injEq, List.cons.injEq, Tk.at.injEq, subL_nil, subL_cons, look_nil, look_cons, ↓reduceIte, Nat.reduceEqDiff, Option.isSome_some, reduceCtorEq, or_false, false_or, if_true, if_false, hxk, List.length_map]); (try first | done | omega | (simp; done) | (simp; omega)))) (by ((try simp only [cells_agg, cells_lit, List.mem_cons, List.not_mem_nil, or_false, forall_eq_or_imp, forall_eq, only_any, only_lit', only_iptr, only_no, only_full, only_at, only_ptr, only_osl, only_agg, only_tup, only_fn, only_bfn, and_self, implies_true, and_true, true_and, okL_nil, okL_cons, bonly_cells, bonly_tok, keepP_add, look_nil, look_cons, ↓reduceIte, Nat.reduceEqDiff, Option.isSome_some, reduceCtorEq, false_or, if_true, if_false, false_implies, hxk, List.length_map]); (try first | done | omega | ((repeat' refine And.intro ?_ ?_) <;> (intro _ hx; obtain ⟨_, -, rfl⟩ := List.mem_map.1 hx; exact .lit _))))) (by ((try simp only [cells_agg, cells_lit, List.mem_cons, List.not_mem_nil, or_false, forall_eq_or_imp, forall_eq, only_any, only_lit', only_iptr, only_no, only_full, only_at, only_ptr, only_osl, only_agg, only_tup, only_fn, only_bfn, and_self, implies_true, and_true, true_and, okL_nil, okL_cons, bonly_cells, bonly_tok, keepP_add, look_nil, look_cons, ↓reduceIte, Nat.reduceEqDiff, Option.isSome_some, reduceCtorEq, false_or, if_true, if_false, false_implies, hxk, List.length_map]); (try first | done | omega | ((repeat' refine And.intro ?_ ?_) <;> (intro _ hx; obtain ⟨_, -, rfl⟩ := List.mem_map.1 hx; exact .lit _)))))
  · intro i hi
    simp only [go_sem, List.length_map]
    split
    · rename_i hlt
      have hlt : i < ws.length := by omega
      have e1 : IntKind.i64.wrap ((i : Int) + 1) = ((i + 1 : Nat) : Int) := by rw [wrap_i64]; omega
      have gw := Syl_get ws i hlt
      have hst := symP_step (l, b1) ws bs i hlt
      have hln := symP_len (l, b1) ws bs i
      have gb := Bl_get bs i (by omega)
      have hsp := fun x => Bl_splice (symP (l, b1) ws bs i) (i + 1) x (by omega)
      generalize hw : ws.getD i (⟨#[]⟩, false) = w at *
      have hw' : ws.getD i sy0 = w := hw
      rw [hw'] at hst
      generalize symP (l, b1) ws bs i = cur at *
      generalize bs.getD i false = mi at *
      rcases hx with rfl | ⟨id, ver, rfl, hgi⟩
      · simp only [go_sem, gw, gb, List.length_map]
        cases mi
        · simp only [go_sem, e1, Nat.mul_one, hsp, hln, List.length_map]
          (repeat (refine ⟨by omega, ?_⟩))
          refine LP_next (i + 1) (by omega) (by omega) ?_
          simp only [Bool.true_and, Bool.false_and, syE] at hst
          rw [hst]
          refine imp_loc (by ((try simp only [cells_agg, cells_lit, leL_cons, leL_nil, leA_any, leA_lits, leA_isl, leA_self, and_self, true_and, and_true, or_true, true_or, Value.int.injEq, Value.bool.injEq, Value.string.injEq, AV.lit.injEq, Option.some.injEq, Blk.cells.injEq, Blk.tok.injEq, List.cons.injEq, Tk.at.injEq, subL_nil, subL_cons, look_nil, look_cons, ↓reduceIte, Nat.reduceEqDiff, Option.isSome_some, reduceCtorEq, or_false, false_or, if_true, if_false, hxk]); (try first | done | omega | (simp; done) | (simp; omega)))) (by ((try simp only [cells_agg, cells_lit, leL_cons, leL_nil, leA_any, leA_lits, leA_isl, leA_self, and_self, true_and, and_true, or_true, true_or, Value.int.injEq, Value.bool.injEq, Value.string.injEq, AV.lit.injEq, Option.some.injEq, Blk.cells.injEq, Blk.tok.injEq, List.cons.injEq, Tk.at.injEq, subL_nil, subL_cons, look_nil, look_cons, ↓reduceIte, Nat.reduceEqDiff, Option.isSome_some, reduceCtorEq, or_false, false_or, if_true, if_false, hxk]); (try first | done | omega | (simp; done) | (simp; omega)))) (by ((try simp only [cells_agg, cells_lit, List.mem_cons, List.not_mem_nil, or_false, forall_eq_or_imp, forall_eq, only_any, only_lit', only_iptr, only_no, only_full, only_at, only_ptr, only_osl, only_agg, only_tup, only_fn, only_bfn, and_self, implies_true, and_true, true_and, okL_nil, okL_cons, bonly_cells, bonly_tok, keepP_add, look_nil, look_cons, ↓reduceIte, Nat.reduceEqDiff, Option.isSome_some, reduceCtorEq, false_or, if_true, if_false, false_implies, hxk]); (try first | done | omega | ((repeat' refine And.intro ?_ ?_) <;> (intro _ hx; obtain ⟨_, -, rfl⟩ := List.mem_map.1 hx; exact .lit _))))) (by ((try simp only [cells_agg, cells_lit, List.mem_cons, List.not_mem_nil, or_false, forall_eq_or_imp, forall_eq, only_any, only_lit', only_iptr, only_no, only_full, only_at, only_ptr, only_osl, only_agg, only_tup, only_fn, only_bfn, and_self, implies_true, and_true, true_and, okL_nil, okL_cons, bonly_cells, bonly_tok, keepP_add, look_nil, look_cons, ↓reduceIte, Nat.reduceEqDiff, Option.isSome_some, reduceCtorEq, false_or, if_true, if_false, false_implies, hxk]); (try first | done | omega | ((repeat' refine And.intro ?_ ?_) <;> (intro _ hx; obtain ⟨_, -, rfl⟩ := List.mem_map.1 hx; exact .lit _)))))
        · simp only [go_sem, e1, Nat.mul_one, hsp, hln, List.length_map]
          (repeat (refine ⟨by omega, ?_⟩))
          refine LP_next (i + 1) (by omega) (by omega) ?_
          simp only [Bool.true_and, Bool.false_and, syE] at hst
          rw [hst]
          refine imp_loc (by ((try simp only [cells_agg, cells_lit, leL_cons, leL_nil, leA_any, leA_lits, leA_isl, leA_self, and_self, true_and, and_true, or_true, true_or, Value.int.injEq, Value.bool.injEq, Value.string.injEq, AV.lit.injEq, Option.some.injEq, Blk.cells.injEq, Blk.tok.injEq, List.cons.injEq, Tk.at.injEq, subL_nil, subL_cons, look_nil, look_cons, ↓reduceIte, Nat.reduceEqDiff, Option.isSome_some, reduceCtorEq, or_false, false_or, if_true, if_false, hxk]); (try first | done | omega | (simp; done) | (simp; omega)))) (by ((try simp only [cells_agg, cells_lit, leL_cons, leL_nil, leA_any, leA_lits, leA_isl, leA_self, and_self, true_and, and_true, or_true, true_or, Value.int.injEq, Value.bool.injEq, Value.string.injEq, AV.lit.injEq, Option.some.injEq, Blk.cells.injEq, Blk.tok.injEq, List.cons.injEq, Tk.at.injEq, subL_nil, subL_cons, look_nil, look_cons, ↓reduceIte, Nat.reduceEqDiff, Option.isSome_some, reduceCtorEq, or_false, false_or, if_true, if_false, hxk]); (try first | done | omega | (simp; done) | (simp; omega)))) (by ((try simp only [cells_agg, cells_lit, List.mem_cons, List.not_mem_nil, or_false, forall_eq_or_imp, forall_eq, only_any, only_lit', only_iptr, only_no, only_full, only_at, only_ptr, only_osl, only_agg, only_tup, only_fn, only_bfn, and_self, implies_true, and_true, true_and, okL_nil, okL_cons, bonly_cells, bonly_tok, keepP_add, look_nil, look_cons, ↓reduceIte, Nat.reduceEqDiff, Option.isSome_some, reduceCtorEq, false_or, if_true, if_false, false_implies, hxk]); (try first | done | omega | ((repeat' refine And.intro ?_ ?_) <;> (intro _ hx; obtain ⟨_, -, rfl⟩ := List.mem_map.1 hx; exact .lit _))))) (by ((try simp only [cells_agg, cells_lit, List.mem_cons, List.not_mem_nil, or_false, forall_eq_or_imp, forall_eq, only_any, only_lit', only_iptr, only_no, only_full, only_at, only_ptr, only_osl, only_agg, only_tup, only_fn, only_bfn, and_self, implies_true, and_true, true_and, okL_nil, okL_cons, bonly_cells, bonly_tok, keepP_add, look_nil, look_cons, ↓reduceIte, Nat.reduceEqDiff, Option.isSome_some, reduceCtorEq, false_or, if_true, if_false, false_implies, hxk]); (try first | done | omega | ((repeat' refine And.intro ?_ ?_) <;> (intro _ hx; obtain ⟨_, -, rfl⟩ := List.mem_map.1 hx; exact .lit _)))))
      · have hid : id < n0 := lt_of_named hn0 hgi
        simp only [go_sem, gw, gb, List.length_map, get_out _ _ _ _ hid, hgi, Nat.mul_one]
        cases mi
        · simp only [go_sem, e1, Nat.mul_one, hsp, hln, List.length_map]
          (repeat (refine ⟨by omega, ?_⟩))
          refine LP_next (i + 1) (by omega) (by omega) ?_
          simp only [Bool.true_and, Bool.false_and, syE] at hst
          rw [hst]
          refine imp_loc (by ((try simp only [cells_agg, cells_lit, leL_cons, leL_nil, leA_any, leA_lits, leA_isl, leA_self, and_self, true_and, and_true, or_true, true_or, Value.int.injEq, Value.bool.injEq, Value.string.injEq, AV.lit.injEq, Option.some.injEq, Blk.cells.injEq, Blk.tok.injEq, List.cons.injEq, Tk.at.injEq, subL_nil, subL_cons, look_nil, look_cons, ↓reduceIte, Nat.reduceEqDiff, Option.isSome_some, reduceCtorEq, or_false, false_or, if_true, if_false, hxk]); (try first | done | omega | (simp; done) | (simp; omega)))) (by ((try simp only [cells_agg, cells_lit, leL_cons, leL_nil, leA_any, leA_lits, leA_isl, leA_self, and_self, true_and, and_true, or_true, true_or, Value.int.injEq, Value.bool.injEq, Value.string.injEq, AV.lit.injEq, Option.some.injEq, Blk.cells.injEq, Blk.tok.injEq, List.cons.injEq, Tk.at.injEq, subL_nil, subL_cons, look_nil, look_cons, ↓reduceIte, Nat.reduceEqDiff, Option.isSome_some, reduceCtorEq, or_false, false_or, if_true, if_false, hxk]); (try first | done | omega | (simp; done) | (simp; omega)))) (by ((try simp only [cells_agg, cells_lit, List.mem_cons, List.not_mem_nil, or_false, forall_eq_or_imp, forall_eq, only_any, only_lit', only_iptr, only_no, only_full, only_at, only_ptr, only_osl, only_agg, only_tup, only_fn, only_bfn, and_self, implies_true, and_true, true_and, okL_nil, okL_cons, bonly_cells, bonly_tok, keepP_add, look_nil, look_cons, ↓reduceIte, Nat.reduceEqDiff, Option.isSome_some, reduceCtorEq, false_or, if_true, if_false, false_implies, hxk]); (try first | done | omega | ((repeat' refine And.intro ?_ ?_) <;> (intro _ hx; obtain ⟨_, -, rfl⟩ := List.mem_map.1 hx; exact .lit _))))) (by ((try simp only [cells_agg, cells_lit, List.mem_cons, List.not_mem_nil, or_false, forall_eq_or_imp, forall_eq, only_any, only_lit', only_iptr, only_no, only_full, only_at, only_ptr, only_osl, only_agg, only_tup, only_fn, only_bfn, and_self, implies_true, and_true, true_and, okL_nil, okL_cons, bonly_cells, bonly_tok, keepP_add, look_nil, look_cons, ↓reduceIte, Nat.reduceEqDiff, Option.isSome_some, reduceCtorEq, false_or, if_true, if_false, false_implies, hxk]); (try first | done | omega | ((repeat' refine And.intro ?_ ?_) <;> (intro _ hx; obtain ⟨_, -, rfl⟩ := List.mem_map.1 hx; exact .lit _)))))
        · simp only [go_sem, e1, Nat.mul_one, hsp, hln, List.length_map]
          (repeat (refine ⟨by omega, ?_⟩))
          refine LP_next (i + 1) (by omega) (by omega) ?_
          simp only [Bool.true_and, Bool.false_and, syE] at hst
          rw [hst]
          refine imp_loc (by ((try simp only [cells_agg, cells_lit, leL_cons, leL_nil, leA_any, leA_lits, leA_isl, leA_self, and_self, true_and, and_true, or_true, true_or, Value.int.injEq, Value.bool.injEq, Value.string.injEq, AV.lit.injEq, Option.some.injEq, Blk.cells.injEq, Blk.tok.injEq, List.cons.injEq, Tk.at.injEq, subL_nil, subL_cons, look_nil, look_cons, ↓reduceIte, Nat.reduceEqDiff, Option.isSome_some, reduceCtorEq, or_false, false_or, if_true, if_false, hxk]); (try first | done | omega | (simp; done) | (simp; omega)))) (by ((try simp only [cells_agg, cells_lit, leL_cons, leL_nil, leA_any, leA_lits, leA_isl, leA_self, and_self, true_and, and_true, or_true, true_or, Value.int.injEq, Value.bool.injEq, Value.string.injEq, AV.lit.injEq, Option.some.injEq, Blk.cells.injEq, Blk.tok.injEq, List.cons.injEq, Tk.at.injEq, subL_nil, subL_cons, look_nil, look_cons, ↓reduceIte, Nat.reduceEqDiff, Option.isSome_some, reduceCtorEq, or_false, false_or, if_true, if_false, hxk]); (try first | done | omega | (simp; done) | (simp; omega)))) (by ((try simp only [cells_agg, cells_lit, List.mem_cons, List.not_mem_nil, or_false, forall_eq_or_imp, forall_eq, only_any, only_lit', only_iptr, only_no, only_full, only_at, only_ptr, only_osl, only_agg, only_tup, only_fn, only_bfn, and_self, implies_true, and_true, true_and, okL_nil, okL_cons, bonly_cells, bonly_tok, keepP_add, look_nil, look_cons, ↓reduceIte, Nat.reduceEqDiff, Option.isSome_some, reduceCtorEq, false_or, if_true, if_false, false_implies, hxk]); (try first | done | omega | ((repeat' refine And.intro ?_ ?_) <;> (intro _ hx; obtain ⟨_, -, rfl⟩ := List.mem_map.1 hx; exact .lit _))))) (by ((try simp only [cells_agg, cells_lit, List.mem_cons, List.not_mem_nil, or_false, forall_eq_or_imp, forall_eq, only_any, only_lit', only_iptr, only_no, only_full, only_at, only_ptr, only_osl, only_agg, only_tup, only_fn, only_bfn, and_self, implies_true, and_true, true_and, okL_nil, okL_cons, bonly_cells, bonly_tok, keepP_add, look_nil, look_cons, ↓reduceIte, Nat.reduceEqDiff, Option.isSome_some, reduceCtorEq, false_or, if_true, if_false, false_implies, hxk]); (try first | done | omega | ((repeat' refine And.intro ?_ ?_) <;> (intro _ hx; obtain ⟨_, -, rfl⟩ := List.mem_map.1 hx; exact .lit _)))))
    · have : i = ws.length := by omega
      subst this
      rw [hres]
      have hrl : res.length = ws.length + 1 := by rw [← hres, symP_len]
      have hlt : (Bl res).take (ws.length + 1) = Bl res := List.take_of_length_le (by simp [hrl])
      refine FnPost_imp (imp_freeze (fr' := [.any, .any, .any, .any, .any, .any, .isl none (Bl res) .no, .any, .any, .any, .any, .any, .any, .any, .any, .any, .any, .any, .any, .any, .any, .any, .any, .any, .any, .any, .any, .any, .any, .any, .any, .any, .any, .any, .any, .any, .any, .any, .any, .any, .any, .any, .any, .any, .any, .any, .any, .any, .any, .any, .any, .any, .any, .any, .any, .any, .any, .any, .any, .any, .any, .any, .any, .any, .any, .any, .any, .any, .any, .any, .any, .any, .any, .any, .any, .any, .any, .any, .any, .any, .any, .any, .any, .any, .any, .any, .any, .any, .any, .any, .any, .any, .any, .any, .any, .any, .any, .any, .any, .any, .any, .any, .any, .any, .any, .any, .any, .any, .any, .any, .any, .any, .any, .any, .any, .any, .any, .any]) (loc' := [(3, .cells 0 [I64 2, SS l, BB b1, .isl none (ps.map rA) .no])]) 16 0 (Bl res) (by first | rfl | (simp only [look_cons, ↓reduceIte, Nat.reduceEqDiff]; done)) (Bl_idf _) (by ((try simp only [leFL_nil, leFL_cons, leF_any, leF_lit, leF_ptrs, leF_osls, leF_iptrs, leF_islw, leF_islfull, leF_islat, leF_ptr, leF_osl, leFB_cells, leFB_tok, leFH_nil, leFH_cons, and_true, true_and, and_self, ↓reduceIte, Nat.reduceEqDiff, ne_eq, not_false_eq_true, not_true_eq_false, reduceCtorEq, Nat.add_left_cancel_iff, Nat.zero_add, List.drop_zero, Nat.add_eq_left, hrl, hlt, List.length_map, Nat.le_refl]); (try first | done | omega | (simp; done) | (simp; omega)))) (by ((try simp only [leFL_nil, leFL_cons, leF_any, leF_lit, leF_ptrs, leF_osls, leF_iptrs, leF_islw, leF_islfull, leF_islat, leF_ptr, leF_osl, leFB_cells, leFB_tok, leFH_nil, leFH_cons, and_true, true_and, and_self, ↓reduceIte, Nat.reduceEqDiff, ne_eq, not_false_eq_true, not_true_eq_false, reduceCtorEq, Nat.add_left_cancel_iff, Nat.zero_add, List.drop_zero, Nat.add_eq_left, hrl, hlt, List.length_map, Nat.le_refl]); (try first | done | omega | (simp; done) | (simp; omega))))) ?_
      refine FnPost_end hn0 (by simp) rfl (by simp only [only_tup, List.mem_cons, List.not_mem_nil, or_false, forall_eq_or_imp, forall_eq, only_any, only_lit', only_full, only_no, only_iptr, only_agg, only_bfn, and_self, and_true, true_and, implies_true, or_false]) ?_
      simp only [go_sem]
      exact leA_refl _
set_option maxRecDepth 100000 in
set_option maxHeartbeats 2000000 in
theorem ends_seq (ws : List Sy) (hws : ws.length ≤ 10000) (r : Rx) (hk : r.k = 3) (hn : r.nodes ≤ 1000000) (hne : 0 < r.ps.length) (E : Fs) (hL : ∀ p bs, bs.length = ws.length + 1 → (E p bs).length = ws.length + 1) (ih : ∀ p, p ∈ r.ps → EndsC ws p (E p)) : EndsC ws r fun bs => seqL (r.ps.map E) bs := by
  intro bs g x hb hx
  have hlen := r.len_lt
  have hxl := hx.len
  simp only [go_sem] at hxl
  rw [rA_eq r]
  generalize r.k = k at *
  generalize r.l = l at *
  generalize r.b = b1 at *
  generalize r.ps = ps at *
  refine CallC.body (fun _ => none) (fun d => if d = 16 then 2 else 0) Tryd.func104 rfl Tryd.results104 Tryd.ntmps104 ?_
  intro n0 hn0
  simp only [go_sem, hxl, hb, hk]
  have hxk := fun loc => hx.keep hn0 loc
  have hsl : ∀ i, (seqL ((ps.take i).map E) bs).length = ws.length + 1 := by
    intro i
    unfold seqL
    suffices h : ∀ (l : List Rx) (b : List Bool), b.length = ws.length + 1 → ((l.map E).foldl (fun t f => f t) b).length = ws.length + 1 from h _ _ hb
    intro l
    induction l with
    | nil => intro b h; exact h
    | cons p l ihl => intro b h; rw [List.map_cons, List.foldl_cons]; exact ihl _ (hL p b h)
  obtain ⟨Y, hY0, hYs⟩ : ∃ Y : Nat → AV, Y 0 = x ∧ ∀ i, Y (i + 1) = .isl none (Bl (seqL ((ps.take (i + 1)).map E) bs)) .no :=
    ⟨fun i => match i with | 0 => x | i + 1 => .isl none (Bl (seqL ((ps.take (i + 1)).map E) bs)) .no, rfl, fun _ => rfl⟩
  have hYk : ∀ i loc, (Y i).only (keepP n0 loc) ↔ True := by
    intro i loc
    cases i with
    | zero => rw [hY0]; exact hxk loc
    | succ i => rw [hYs]; exact only_no _ _ _
  have hYf : ∀ (i : Nat) (l : List (Nat × Blk)), FromOk (HP.get ⟨g, l⟩ n0) (Y i) (seqL ((ps.take i).map E) bs) := by
    intro i l
    cases i with
    | zero => rw [hY0]; exact hx.get hn0 l
    | succ i => rw [hYs]; exact .inl rfl
  refine ⟨⟨by omega, by omega⟩, ?_⟩
  refine WC_loop (fun i : Nat => [.any, .isl none (Syl ws) .no, x, .ptr (n0 + 3) 0 0, .any, .any, .any, Y i, .any, .any, .any, .any, .any, .any, .any, .any, .any, .any, .any, .any, .any, .any, .any, .any, .any, .any, .any, .any, .any, .any, .any, .any, .any, .any, .any, .any, .any, .any, .any, .any, .any, .any, .any, .any, .any, .any, .any, .any, .any, .any, .any, .any, .isl none (ps.map rA) .no, I64 ps.length, I64 i, .any, .any, .any, .any, .any, .any, .any, .any, .any, .any, .any, .any, .any, .any, .any, .any, .any, .any, .any, .any, .any, .any, .any, .any, .any, .any, .any, .any, .any, .any, .any, .any, .any, .any, .any, .any, .any, .any, .any, .any, .any, .any, .any, .any, .any, .any, .any, .any, .any, .any, .any, .any, .any, .any, .any, .any, .any, .any, .any, .any, .any, .any, .any]) (fun i => ⟨g, [(3, .cells 0 [I64 3, SS l, BB b1, .isl none (ps.map rA) .no])]⟩) (fun i => i ≤ ps.length) (fun i => ps.length - i) 0 (by simp) ?_ ?_
  · rw [hY0]
    refine imp_loc (by ((try simp only [cells_agg, cells_lit, leL_cons, leL_nil, leA_any, leA_lits, leA_isl, leA_self, and_self, true_and, and_true, or_true, true_or, Value.int.injEq, Value.bool.injEq, Value.string.injEq, AV.lit.injEq, Option.some.injEq, Blk.cells.injEq, Blk.tok.injEq, List.cons.injEq, Tk.at.injEq, subL_nil, subL_cons, look_nil, look_cons, ↓reduceIte, Nat.reduceEqDiff, Option.isSome_some, reduceCtorEq, or_false, false_or, if_true, if_false, hxk, List.length_map]); (try first | done | omega | (simp; done) | (simp; omega)))) (by ((try simp only [cells_agg, cells_lit, leL_cons, leL_nil, leA_any, leA_lits, leA_isl, leA_self, and_self, true_and, and_true, or_true, true_or, Value.int.injEq, Value.bool.injEq, Value.string.injEq, AV.lit.injEq, Option.some.injEq, Blk.cells.injEq, Blk.tok.injEq, List.cons.injEq, Tk.at.injEq, subL_nil, subL_cons, look_nil, look_cons, ↓reduceIte, Nat.reduceEqDiff, Option.isSome_some, reduceCtorEq, or_false, false_or, if_true, if_false, hxk, List.length_map]); (try first | done | omega | (simp; done) | (simp; omega)))) (by ((try simp only [cells_agg, cells_lit, List.mem_cons, List.not_mem_nil, or_false, forall_eq_or_imp, forall_eq, only_any, only_lit', only_iptr, only_no, only_full, only_at, only_ptr, only_osl, only_agg, only_tup, only_fn, only_bfn, and_self, implies_true, and_true, true_and, okL_nil, okL_cons, bonly_cells, bonly_tok, keepP_add, look_nil, look_cons, ↓reduceIte, Nat.reduceEqDiff, Option.isSome_some, reduceCtorEq, false_or, if_true, if_false, false_implies, hxk, List.length_map]); (try first | done | omega | ((repeat' refine And.intro ?_ ?_) <;> (intro _ hx; obtain ⟨_, -, rfl⟩ := List.mem_map.1 hx; exact .lit _))))) (by ((try simp only [cells_agg, cells_lit, List.mem_cons, List.not_mem_nil, or_false, forall_eq_or_imp, forall_eq, only_any, only_lit', only_iptr, only_no, only_full, only_at, only_ptr, only_osl, only_agg, only_tup, only_fn, only_bfn, and_self, implies_true, and_true, true_and, okL_nil, okL_cons, bonly_cells, bonly_tok, keepP_add, look_nil, look_cons, ↓reduceIte, Nat.reduceEqDiff, Option.isSome_some, reduceCtorEq, false_or, if_true, if_false, false_implies, hxk, List.length_map]); (try first | done | omega | ((repeat' refine And.intro ?_ ?_) <;> (intro _ hx; obtain ⟨_, -, rfl⟩ := List.mem_map.1 hx; exact .lit _)))))
  · intro i hi
    simp only [go_sem, List.length_map]
    split
    · rename_i hlt
      have hlt : i < ps.length := by omega
      have e1 : IntKind.i64.wrap ((i : Int) + 1) = ((i + 1 : Nat) : Int) := by rw [wrap_i64]; omega
      have ih' := ih _ (rx_getD_mem hlt)
      have hst : seqL ((ps.take (i + 1)).map E) bs = E (ps.getD i rx0) (seqL ((ps.take i).map E) bs) := by
        rw [take_snoc hlt, List.map_append]; exact seqL_snoc _ _ _
      have gp := rA_getD ps i hlt
      have hyf := hYf i
      have hyl := hsl i
      have hyk := hYk i
      have hys := hYs i
      generalize ps.getD i rx0 = p at *
      generalize seqL ((ps.take i).map E) bs = cur at *
      simp only [go_sem, gp, rA_cells]
      (repeat (refine ⟨by omega, ?_⟩))
      rw [← rA_eq]
      refine WE_pure _ _ _ _ _ _ _ _ (ih' cur _ (Y i) hyl (hyf _)) ?_
      simp only [go_sem]
      refine LP_next (i + 1) (by omega) (by omega) ?_
      rw [e1, hys, hst]
      refine imp_loc (by ((try simp only [cells_agg, cells_lit, leL_cons, leL_nil, leA_any, leA_lits, leA_isl, leA_self, and_self, true_and, and_true, or_true, true_or, Value.int.injEq, Value.bool.injEq, Value.string.injEq, AV.lit.injEq, Option.some.injEq, Blk.cells.injEq, Blk.tok.injEq, List.cons.injEq, Tk.at.injEq, subL_nil, subL_cons, look_nil, look_cons, ↓reduceIte, Nat.reduceEqDiff, Option.isSome_some, reduceCtorEq, or_false, false_or, if_true, if_false, hxk]); (try first | done | omega | (simp; done) | (simp; omega)))) (by ((try simp only [cells_agg, cells_lit, leL_cons, leL_nil, leA_any, leA_lits, leA_isl, leA_self, and_self, true_and, and_true, or_true, true_or, Value.int.injEq, Value.bool.injEq, Value.string.injEq, AV.lit.injEq, Option.some.injEq, Blk.cells.injEq, Blk.tok.injEq, List.cons.injEq, Tk.at.injEq, subL_nil, subL_cons, look_nil, look_cons, ↓reduceIte, Nat.reduceEqDiff, Option.isSome_some, reduceCtorEq, or_false, false_or, if_true, if_false, hxk]); (try first | done | omega | (simp; done) | (simp; omega)))) (by ((try simp only [cells_agg, cells_lit, List.mem_cons, List.not_mem_nil, or_false, forall_eq_or_imp, forall_eq, only_any, only_lit', only_iptr, only_no, only_full, only_at, only_ptr, only_osl, only_agg, only_tup, only_fn, only_bfn, and_self, implies_true, and_true, true_and, okL_nil, okL_cons, bonly_cells, bonly_tok, keepP_add, look_nil, look_cons, ↓reduceIte, Nat.reduceEqDiff, Option.isSome_some, reduceCtorEq, false_or, if_true, if_false, false_implies, hxk]); (try first | done | omega | ((repeat' refine And.intro ?_ ?_) <;> (intro _ hx; obtain ⟨_, -, rfl⟩ := List.mem_map.1 hx; exact .lit _))))) (by ((try simp only [cells_agg, cells_lit, List.mem_cons, List.not_mem_nil, or_false, forall_eq_or_imp, forall_eq, only_any, only_lit', only_iptr, only_no, only_full, only_at, only_ptr, only_osl, only_agg, only_tup, only_fn, only_bfn, and_self, implies_true, and_true, true_and, okL_nil, okL_cons, bonly_cells, bonly_tok, keepP_add, look_nil, look_cons, ↓reduceIte, Nat.reduceEqDiff, Option.isSome_some, reduceCtorEq, false_or, if_true, if_false, false_implies, hxk]); (try first | done | omega | ((repeat' refine And.intro ?_ ?_) <;> (intro _ hx; obtain ⟨_, -, rfl⟩ := List.mem_map.1 hx; exact .lit _)))))
    · have : i = ps.length := by omega
      subst this
      obtain ⟨m, hm⟩ : ∃ m, ps.length = m + 1 := ⟨ps.length - 1, by omega⟩
      have hys := hYs m
      rw [← hm, List.take_length] at hys
      simp only [go_sem, hys]
      refine FnPost_end hn0 (by simp) rfl (by simp only [only_tup, List.mem_cons, List.not_mem_nil, or_false, forall_eq_or_imp, forall_eq, only_any, only_lit', only_full, only_no, only_iptr, only_agg, only_bfn, and_self, and_true, true_and, implies_true, or_false]) ?_
      simp only [go_sem]
      exact leA_refl _
set_option maxRecDepth 100000 in
set_option maxHeartbeats 2000000 in
theorem ends_star (ws : List Sy) (hws : ws.length ≤ 10000) (r : Rx) (hk : r.k = 5) (hne : 0 < r.ps.length) (hn : r.nodes ≤ 1000000) (F : List Bool → List Bool) (hF : ∀ bs, bs.length = ws.length + 1 → (F bs).length = ws.length + 1) (hG : ∀ bs, bs.length = ws.length + 1 → joinG bs (F bs) = true → noL (joinL bs (F bs)) < noL bs) (ih : EndsC ws (r.ps.getD 0 rx0) F) : EndsC ws r fun bs => againL F (noL bs + 1) bs := by
  intro bs g x hb hx
  have hxl := hx.len
  have hlen := r.len_lt
  simp only [go_sem] at hxl
  obtain ⟨res, hres⟩ : ∃ res, againL F (noL bs + 1) bs = res := ⟨_, rfl⟩
  show PureC _ _ _ _ (.isl none (Bl (againL F (noL bs + 1) bs)) .no)
  rw [hres, rA_eq r]
  generalize r.k = k at *
  generalize r.l = l at *
  generalize r.b = b1 at *
  generalize r.ps = ps at *
  have gp := rA_getD ps 0 hne
  generalize ps.getD 0 rx0 = p at *
  refine CallC.body (fun _ => none) (fun d => if d = 16 then 2 else 0) Tryd.func104 rfl Tryd.results104 Tryd.ntmps104 ?_
  intro n0 hn0
  simp only [go_sem, hxl, hb, hk]
  refine ⟨⟨by omega, by omega⟩, ?_⟩
  simp only [go_sem, gp, rA_cells, List.length_map]
  (repeat (refine ⟨by omega, ?_⟩))
  rw [← rA_eq, ← hres]
  refine WE_pure _ _ _ _ _ _ _ _ (again_s ws hws p F hF hG ih bs _ x hb (hx.get hn0 _)) ?_
  simp only [go_sem]
  refine FnPost_end hn0 (by simp) rfl (by simp only [only_tup, List.mem_cons, List.not_mem_nil, or_false, forall_eq_or_imp, forall_eq, only_any, only_lit', only_full, only_no, only_iptr, only_agg, only_bfn, and_self, and_true, true_and, implies_true, or_false]) ?_
  simp only [go_sem]
  exact leA_refl _
end Go.Proofs.YtcnhpclfflcdfaaDoorR.Reg
