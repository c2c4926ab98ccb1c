import Derived.Test.YtcnhpclfflcdfaaDoorRRegK
/- Expressions: where rows that match may end: one kind after the other. -/
namespace Go.Proofs.YtcnhpclfflcdfaaDoorR.Reg
open Go Go.Av Go.Proofs.YtcnhpclfflcdfaaDoorR.Val Go.Proofs.YtcnhpclfflcdfaaDoorR.Lex
set_option linter.unusedSimpArgs false
set_option linter.unusedVariables false
theorem FromOk.len {g : GH} {x : AV} {bs : List Bool} (h : FromOk g x bs) : lenA Tryd.prog 103 x = ⟨True, I64 bs.length, [], []⟩ := by
  rcases h with rfl | ⟨id, ver, rfl, -⟩
  · simp only [go_sem, List.length_map]
  · simp only [go_sem, List.length_map]
theorem FromOk.keep {g : GH} {x : AV} {bs : List Bool} {n0 : Nat} (hn0 : ∀ id, n0 ≤ id → g id = none) (h : FromOk g x bs) (loc : List (Nat × Blk)) : x.only (keepP n0 loc) ↔ True := by
  rcases h with rfl | ⟨id, ver, rfl, h2⟩
  · exact only_no _ _ _
  · rw [only_osl, keepP_out (lt_of_named hn0 h2)]
def altL (fs : List (List Bool → List Bool)) (t0 bs : List Bool) : List Bool := fs.foldl (fun t f => joinL t (f bs)) t0
def seqL (fs : List (List Bool → List Bool)) (bs : List Bool) : List Bool := fs.foldl (fun t f => f t) bs
abbrev Fs := Rx → List Bool → List Bool
def nul (n : Nat) : List Bool := List.replicate n false
theorem nul_len (n : Nat) : (nul n).length = n := List.length_replicate
theorem nul_eq (n : Nat) : AV.lit (Value.bool false) :: List.replicate n (AV.lit (Value.bool false)) = Bl (nul (n + 1)) := by
  show List.replicate (n + 1) (AV.lit (Value.bool false)) = (List.replicate (n + 1) false).map BB
  rw [List.map_replicate]
theorem altL_len (fs : List (List Bool → List Bool)) (bs : List Bool) : ∀ t : List Bool, (altL fs t bs).length = t.length := by
  unfold altL
  induction fs with
  | nil => intro t; rfl
  | cons f fs ih => intro t; rw [List.foldl_cons, ih, joinL_len]
theorem altL_snoc (fs : List (List Bool → List Bool)) (f : List Bool → List Bool) (t bs : List Bool) : altL (fs ++ [f]) t bs = joinL (altL fs t bs) (f bs) := by unfold altL; rw [List.foldl_append]; rfl
theorem seqL_snoc (fs : List (List Bool → List Bool)) (f : List Bool → List Bool) (bs : List Bool) : seqL (fs ++ [f]) bs = f (seqL fs bs) := by unfold seqL; rw [List.foldl_append]; rfl
set_option maxRecDepth 100000 in
set_option maxHeartbeats 2000000 in
theorem ends_alt (ws : List Sy) (hws : ws.length ≤ 10000) (r : Rx) (hk : r.k = 4) (hn : r.nodes ≤ 1000000) (E : Fs) (hL : ∀ p bs, bs.length = ws.length + 1 → (E p bs).length = ws.length + 1) (ih : ∀ p, p ∈ r.ps → EndsC ws p (E p)) : EndsC ws r fun bs => altL (r.ps.map E) (nul (ws.length + 1)) bs := by
  intro bs g x hb hx
  have hlen := r.len_lt
  have hxl := hx.len
  simp only [go_sem] at hxl
  obtain ⟨res, hres⟩ : ∃ res, altL (r.ps.map E) (nul (ws.length + 1)) bs = res := ⟨_, rfl⟩
  show PureC _ _ _ _ (.isl none (Bl (altL (r.ps.map E) (nul (ws.length + 1)) bs)) .no)
  rw [hres, rA_eq r]
  generalize r.k = k at *
  generalize r.l = l at *
  generalize r.b = b1 at *
  generalize r.ps = ps at *
  refine CallC.body (fun _ => none) (fun d => if d = 16 then 2 else 0) Tryd.func104 rfl Tryd.results104 Tryd.ntmps104 ?_
  intro n0 hn0
  simp only [go_sem, hxl, hb, hk]
  have hxk := fun loc => hx.keep hn0 loc
  have hnul : [AV.lit (Value.bool false)].headD AV.any :: List.replicate ws.length ([AV.lit (Value.bool false)].headD AV.any) = Bl (nul (ws.length + 1)) := nul_eq _
  have hnl := nul_len (ws.length + 1)
  refine ⟨⟨by omega, by omega⟩, ?_⟩
  rw [hnul]
  refine WC_loop (fun i : Nat => [.any, .isl none (Syl ws) .no, x, .ptr (n0 + 3) 0 0, .any, .any, .any, .osl (n0 + 16) 0 1 0 (ws.length + 1), .any, .any, .any, .any, .any, .any, .any, .any, .any, .any, .any, .any, .any, .any, .any, .any, .any, .any, .any, .any, .any, .any, .any, .any, .any, .any, .any, .any, .any, .any, .any, .any, .any, .any, .any, .any, .any, .any, .any, .any, .any, .any, .any, .any, .any, .any, .any, .any, .any, .any, .any, .any, .any, .any, .any, .any, .any, .any, .isl none (ps.map rA) .no, I64 ps.length, I64 i, .any, .any, .any, .any, .any, .any, .any, .any, .any, .any, .any, .any, .any, .any, .any, .any, .any, .any, .any, .any, .any, .any, .any, .any, .any, .any, .any, .any, .any, .any, .any, .any, .any, .any, .any, .any, .any, .any, .any, .any, .any, .any, .any, .any, .any, .any, .any, .any, .any]) (fun i => ⟨g, [(3, .cells 0 [I64 4, SS l, BB b1, .isl none (ps.map rA) .no]), (16, .cells 0 (Bl (altL ((ps.take i).map E) (nul (ws.length + 1)) bs)))]⟩) (fun i => i ≤ ps.length) (fun i => ps.length - i) 0 (by simp) ?_ ?_
  · simp only [List.take_zero, List.map_nil, show altL [] (nul (ws.length + 1)) bs = nul (ws.length + 1) from rfl]
    refine imp_loc (by ((try simp only [cells_agg, cells_lit, leL_cons, leL_nil, leA_any, leA_lits, leA_isl, leA_self, and_self, true_and, and_true, or_true, true_or, Value.int.injEq, Value.bool.injEq, Value.string.injEq, AV.lit.injEq, Option.some.injEq, Blk.cells.injEq, Blk.tok.injEq, List.cons.injEq, Tk.at.injEq, subL_nil, subL_cons, look_nil, look_cons, ↓reduceIte, Nat.reduceEqDiff, Option.isSome_some, reduceCtorEq, or_false, false_or, if_true, if_false, hxk, List.length_map]); (try first | done | omega | (simp; done) | (simp; omega)))) (by ((try simp only [cells_agg, cells_lit, leL_cons, leL_nil, leA_any, leA_lits, leA_isl, leA_self, and_self, true_and, and_true, or_true, true_or, Value.int.injEq, Value.bool.injEq, Value.string.injEq, AV.lit.injEq, Option.some.injEq, Blk.cells.injEq, Blk.tok.injEq, List.cons.injEq, Tk.at.injEq, subL_nil, subL_cons, look_nil, look_cons, ↓reduceIte, Nat.reduceEqDiff, Option.isSome_some, reduceCtorEq, or_false, false_or, if_true, if_false, hxk, List.length_map]); (try first | done | omega | (simp; done) | (simp; omega)))) (by ((try simp only [cells_agg, cells_lit, List.mem_cons, List.not_mem_nil, or_false, forall_eq_or_imp, forall_eq, only_any, only_lit', only_iptr, only_no, only_full, only_at, only_ptr, only_osl, only_agg, only_tup, only_fn, only_bfn, and_self, implies_true, and_true, true_and, okL_nil, okL_cons, bonly_cells, bonly_tok, keepP_add, look_nil, look_cons, ↓reduceIte, Nat.reduceEqDiff, Option.isSome_some, reduceCtorEq, false_or, if_true, if_false, false_implies, hxk, List.length_map]); (try first | done | omega | ((repeat' refine And.intro ?_ ?_) <;> (intro _ hx; obtain ⟨_, -, rfl⟩ := List.mem_map.1 hx; exact .lit _))))) (by ((try simp only [cells_agg, cells_lit, List.mem_cons, List.not_mem_nil, or_false, forall_eq_or_imp, forall_eq, only_any, only_lit', only_iptr, only_no, only_full, only_at, only_ptr, only_osl, only_agg, only_tup, only_fn, only_bfn, and_self, implies_true, and_true, true_and, okL_nil, okL_cons, bonly_cells, bonly_tok, keepP_add, look_nil, look_cons, ↓reduceIte, Nat.reduceEqDiff, Option.isSome_some, reduceCtorEq, false_or, if_true, if_false, false_implies, hxk, List.length_map]); (try first | done | omega | ((repeat' refine And.intro ?_ ?_) <;> (intro _ hx; obtain ⟨_, -, rfl⟩ := List.mem_map.1 hx; exact .lit _)))))
  · intro i hi
    simp only [go_sem, List.length_map]
    split
    · rename_i hlt
      have hlt : i < ps.length := by omega
      have e1 : IntKind.i64.wrap ((i : Int) + 1) = ((i + 1 : Nat) : Int) := by rw [wrap_i64]; omega
      have hp := rx_getD_mem hlt
      have ih' := ih _ hp
      have hL' := hL (ps.getD i rx0) bs hb
      have hal := altL_len ((ps.take i).map E) bs (nul (ws.length + 1))
      rw [nul_len] at hal
      have hst : altL ((ps.take (i + 1)).map E) (nul (ws.length + 1)) bs = joinL (altL ((ps.take i).map E) (nul (ws.length + 1)) bs) (E (ps.getD i rx0) bs) := by
        rw [take_snoc hlt, List.map_append]; exact altL_snoc _ _ _ _
      have gp := rA_getD ps i hlt
      generalize ps.getD i rx0 = p at *
      generalize altL ((ps.take i).map E) (nul (ws.length + 1)) bs = cur at *
      simp only [go_sem, gp, rA_cells]
      (repeat (refine ⟨by omega, ?_⟩))
      rw [← rA_eq]
      refine WE_pure _ _ _ _ _ _ _ _ (ih' bs _ x hb (hx.get hn0 _)) ?_
      simp only [go_sem]
      rw [← hal] at hst ⊢
      refine WE_eff [(n0 + 16, .cells 0 (Bl (joinL cur (E p bs))))] (join_c (n0 + 16) 0 cur (E p bs) none .no (by omega) (by omega) _ (by rw [get_loc]; rfl) _) (fun p hp _ => by rw [List.mem_singleton] at hp; subst hp; exact Bl_only _) ?_
      simp only [go_sem]
      refine LP_next (i + 1) (by omega) (by omega) ?_
      rw [e1, hst]
      refine imp_loc (by ((try simp only [cells_agg, cells_lit, leL_cons, leL_nil, leA_any, leA_lits, leA_isl, leA_self, and_self, true_and, and_true, or_true, true_or, Value.int.injEq, Value.bool.injEq, Value.string.injEq, AV.lit.injEq, Option.some.injEq, Blk.cells.injEq, Blk.tok.injEq, List.cons.injEq, Tk.at.injEq, subL_nil, subL_cons, look_nil, look_cons, ↓reduceIte, Nat.reduceEqDiff, Option.isSome_some, reduceCtorEq, or_false, false_or, if_true, if_false, hxk]); (try first | done | omega | (simp; done) | (simp; omega)))) (by ((try simp only [cells_agg, cells_lit, leL_cons, leL_nil, leA_any, leA_lits, leA_isl, leA_self, and_self, true_and, and_true, or_true, true_or, Value.int.injEq, Value.bool.injEq, Value.string.injEq, AV.lit.injEq, Option.some.injEq, Blk.cells.injEq, Blk.tok.injEq, List.cons.injEq, Tk.at.injEq, subL_nil, subL_cons, look_nil, look_cons, ↓reduceIte, Nat.reduceEqDiff, Option.isSome_some, reduceCtorEq, or_false, false_or, if_true, if_false, hxk]); (try first | done | omega | (simp; done) | (simp; omega)))) (by ((try simp only [cells_agg, cells_lit, List.mem_cons, List.not_mem_nil, or_false, forall_eq_or_imp, forall_eq, only_any, only_lit', only_iptr, only_no, only_full, only_at, only_ptr, only_osl, only_agg, only_tup, only_fn, only_bfn, and_self, implies_true, and_true, true_and, okL_nil, okL_cons, bonly_cells, bonly_tok, keepP_add, look_nil, look_cons, ↓reduceIte, Nat.reduceEqDiff, Option.isSome_some, reduceCtorEq, false_or, if_true, if_false, false_implies, hxk]); (try first | done | omega | ((repeat' refine And.intro ?_ ?_) <;> (intro _ hx; obtain ⟨_, -, rfl⟩ := List.mem_map.1 hx; exact .lit _))))) (by ((try simp only [cells_agg, cells_lit, List.mem_cons, List.not_mem_nil, or_false, forall_eq_or_imp, forall_eq, only_any, only_lit', only_iptr, only_no, only_full, only_at, only_ptr, only_osl, only_agg, only_tup, only_fn, only_bfn, and_self, implies_true, and_true, true_and, okL_nil, okL_cons, bonly_cells, bonly_tok, keepP_add, look_nil, look_cons, ↓reduceIte, Nat.reduceEqDiff, Option.isSome_some, reduceCtorEq, false_or, if_true, if_false, false_implies, hxk]); (try first | done | omega | ((repeat' refine And.intro ?_ ?_) <;> (intro _ hx; obtain ⟨_, -, rfl⟩ := List.mem_map.1 hx; exact .lit _)))))
    · have : i = ps.length := by omega
      subst this
      rw [List.take_length, hres]
      have hrl : res.length = ws.length + 1 := by rw [← hres, altL_len, nul_len]
      have hlt : (Bl res).take (ws.length + 1) = Bl res := List.take_of_length_le (by simp [hrl])
      refine FnPost_imp (imp_freeze (fr' := [.any, .any, .any, .any, .any, .any, .isl none (Bl res) .no, .any, .any, .any, .any, .any, .any, .any, .any, .any, .any, .any, .any, .any, .any, .any, .any, .any, .any, .any, .any, .any, .any, .any, .any, .any, .any, .any, .any, .any, .any, .any, .any, .any, .any, .any, .any, .any, .any, .any, .any, .any, .any, .any, .any, .any, .any, .any, .any, .any, .any, .any, .any, .any, .any, .any, .any, .any, .any, .any, .any, .any, .any, .any, .any, .any, .any, .any, .any, .any, .any, .any, .any, .any, .any, .any, .any, .any, .any, .any, .any, .any, .any, .any, .any, .any, .any, .any, .any, .any, .any, .any, .any, .any, .any, .any, .any, .any, .any, .any, .any, .any, .any, .any, .any, .any, .any, .any, .any, .any, .any, .any]) (loc' := [(3, .cells 0 [I64 4, SS l, BB b1, .isl none (ps.map rA) .no])]) 16 0 (Bl res) (by first | rfl | (simp only [look_cons, ↓reduceIte, Nat.reduceEqDiff]; done)) (Bl_idf _) (by ((try simp only [leFL_nil, leFL_cons, leF_any, leF_lit, leF_ptrs, leF_osls, leF_iptrs, leF_islw, leF_islfull, leF_islat, leF_ptr, leF_osl, leFB_cells, leFB_tok, leFH_nil, leFH_cons, and_true, true_and, and_self, ↓reduceIte, Nat.reduceEqDiff, ne_eq, not_false_eq_true, not_true_eq_false, reduceCtorEq, Nat.add_left_cancel_iff, Nat.zero_add, List.drop_zero, Nat.add_eq_left, hrl, hlt, List.length_map, Nat.le_refl]); (try first | done | omega | (simp; done) | (simp; omega)))) (by ((try simp only [leFL_nil, leFL_cons, leF_any, leF_lit, leF_ptrs, leF_osls, leF_iptrs, leF_islw, leF_islfull, leF_islat, leF_ptr, leF_osl, leFB_cells, leFB_tok, leFH_nil, leFH_cons, and_true, true_and, and_self, ↓reduceIte, Nat.reduceEqDiff, ne_eq, not_false_eq_true, not_true_eq_false, reduceCtorEq, Nat.add_left_cancel_iff, Nat.zero_add, List.drop_zero, Nat.add_eq_left, hrl, hlt, List.length_map, Nat.le_refl]); (try first | done | omega | (simp; done) | (simp; omega))))) ?_
      refine FnPost_end hn0 (by simp) rfl (by simp only [only_tup, List.mem_cons, List.not_mem_nil, or_false, forall_eq_or_imp, forall_eq, only_any, only_lit', only_full, only_no, only_iptr, only_agg, only_bfn, and_self, and_true, true_and, implies_true, or_false]) ?_
      simp only [go_sem]
      exact leA_refl _
end Go.Proofs.YtcnhpclfflcdfaaDoorR.Reg
