import Derived.Test.YtcnhpclfflcdfaaDoorRRegJ
/- Expressions: where rows that match may end. -/
namespace Go.Proofs.YtcnhpclfflcdfaaDoorR.Reg
open Go Go.Av Go.Proofs.YtcnhpclfflcdfaaDoorR.Val Go.Proofs.YtcnhpclfflcdfaaDoorR.Lex
set_option linter.unusedSimpArgs false
set_option linter.unusedVariables false
/-- so many rounds of again -/
def againL (F : List Bool → List Bool) : Nat → List Bool → List Bool
  | 0, bs => bs
  | f + 1, bs => if joinG bs (F bs) = true then againL F f (joinL bs (F bs)) else joinL bs (F bs)
def noL (bs : List Bool) : Nat := (bs.filter (! ·)).length
/-- ends comes to this, from whatever places -/
def EndsC (ws : List Sy) (r : Rx) (F : List Bool → List Bool) : Prop := ∀ (bs : List Bool) (g : GH) (x : AV), bs.length = ws.length + 1 → FromOk g x bs → PureC Tryd.prog 104 [rA r, .isl none (Syl ws) .no, x] g (.isl none (Bl (F bs)) .no)
theorem Bl_idf (l : List Bool) : (Bl l).all AV.idf = true := List.all_eq_true.2 fun x hx => by obtain ⟨_, -, rfl⟩ := List.mem_map.1 hx; rfl
theorem FromOk.get {g : GH} {x : AV} {bs : List Bool} {n0 : Nat} (hn0 : ∀ id, n0 ≤ id → g id = none) (h : FromOk g x bs) (l : List (Nat × Blk)) : FromOk (HP.get ⟨g, l⟩ n0) x bs := by
  rcases h with h | ⟨id, ver, h1, h2⟩
  · exact .inl h
  · exact .inr ⟨id, ver, h1, by rw [get_out _ _ _ _ (lt_of_named hn0 h2)]; exact h2⟩
theorem again_s (ws : List Sy) (hws : ws.length ≤ 10000) (p : Rx) (F : List Bool → List Bool) (hF : ∀ bs, bs.length = ws.length + 1 → (F bs).length = ws.length + 1) (hG : ∀ bs, bs.length = ws.length + 1 → joinG bs (F bs) = true → noL (joinL bs (F bs)) < noL bs) (hE : EndsC ws p F) (bs : List Bool) (g : GH) (x : AV) (hb : bs.length = ws.length + 1) (hx : FromOk g x bs) :
    PureC Tryd.prog 132 [rA p, .isl none (Syl ws) .no, x] g (.isl none (Bl (againL F (noL bs + 1) bs)) .no) := by
  obtain ⟨res, hres⟩ : ∃ res, againL F (noL bs + 1) bs = res := ⟨_, rfl⟩
  rw [hres]
  have hrp := rA_eq p
  rw [hrp]
  refine CallC.body (fun _ => none) (fun _ => 0) Tryd.func132 rfl Tryd.results132 Tryd.ntmps132 ?_
  intro n0 hn0
  simp only [go_sem]
  refine WE_effX (fun v : Nat => .osl (n0 + 9) v 1 0 bs.length) (fun v : Nat => [(n0 + 9, .cells v (Bl bs))]) (cloneB_c (n0 + 9) bs (by omega) (by omega) _ (by rw [get_loc]; rfl) x (hx.get hn0 _) _ (by intro j hj; rw [List.mem_singleton] at hj; subst hj; simp only; omega)) ?_ ?_
  · intro x p hp hlt; rw [List.mem_singleton] at hp; subst hp; exact Bl_only _
  · intro v
    simp only [go_sem]
    refine WC_loop (fun b : List Bool => [.any, .isl none (Syl ws) .no, .any, .ptr (n0 + 3) 0 0, .any, .any, .any, .osl (n0 + 9) v 1 0 b.length, .any, .any, .any, .any, .any, .any, .any, .any, .any]) (fun b => ⟨g, [(3, .cells 0 [I64 p.k, SS p.l, BB p.b, .isl none (p.ps.map rA) .no]), (9, .cells v (Bl b))]⟩) (fun b => b.length = ws.length + 1 ∧ ∃ f, noL b < f ∧ againL F f b = res) noL bs ⟨hb, _, Nat.lt_succ_self _, hres⟩ ?_ ?_
    · refine imp_loc (by ((try simp only [cells_agg, cells_lit, leL_cons, leL_nil, leA_any, leA_lits, leA_isl, leA_self, and_self, true_and, and_true, or_true, true_or, Value.int.injEq, Value.bool.injEq, Value.string.injEq, AV.lit.injEq, Option.some.injEq, Blk.cells.injEq, Blk.tok.injEq, List.cons.injEq, Tk.at.injEq, subL_nil, subL_cons, look_nil, look_cons, ↓reduceIte, Nat.reduceEqDiff, Option.isSome_some, reduceCtorEq, or_false, false_or, if_true, if_false]); (try first | done | omega | (simp; done) | (simp; omega)))) (by ((try simp only [cells_agg, cells_lit, leL_cons, leL_nil, leA_any, leA_lits, leA_isl, leA_self, and_self, true_and, and_true, or_true, true_or, Value.int.injEq, Value.bool.injEq, Value.string.injEq, AV.lit.injEq, Option.some.injEq, Blk.cells.injEq, Blk.tok.injEq, List.cons.injEq, Tk.at.injEq, subL_nil, subL_cons, look_nil, look_cons, ↓reduceIte, Nat.reduceEqDiff, Option.isSome_some, reduceCtorEq, or_false, false_or, if_true, if_false]); (try first | done | omega | (simp; done) | (simp; omega)))) (by ((try simp only [cells_agg, cells_lit, List.mem_cons, List.not_mem_nil, or_false, forall_eq_or_imp, forall_eq, only_any, only_lit', only_iptr, only_no, only_full, only_at, only_ptr, only_osl, only_agg, only_tup, only_fn, only_bfn, and_self, implies_true, and_true, true_and, okL_nil, okL_cons, bonly_cells, bonly_tok, keepP_add, look_nil, look_cons, ↓reduceIte, Nat.reduceEqDiff, Option.isSome_some, reduceCtorEq, false_or, if_true, if_false, false_implies]); (try first | done | omega | ((repeat' refine And.intro ?_ ?_) <;> (intro _ hx; obtain ⟨_, -, rfl⟩ := List.mem_map.1 hx; exact .lit _))))) (by ((try simp only [cells_agg, cells_lit, List.mem_cons, List.not_mem_nil, or_false, forall_eq_or_imp, forall_eq, only_any, only_lit', only_iptr, only_no, only_full, only_at, only_ptr, only_osl, only_agg, only_tup, only_fn, only_bfn, and_self, implies_true, and_true, true_and, okL_nil, okL_cons, bonly_cells, bonly_tok, keepP_add, look_nil, look_cons, ↓reduceIte, Nat.reduceEqDiff, Option.isSome_some, reduceCtorEq, false_or, if_true, if_false, false_implies]); (try first | done | omega | ((repeat' refine And.intro ?_ ?_) <;> (intro _ hx; obtain ⟨_, -, rfl⟩ := List.mem_map.1 hx; exact .lit _)))))
    · rintro b ⟨hbl, f, hf, hag⟩
      obtain ⟨f', rfl⟩ : ∃ f', f = f' + 1 := ⟨f - 1, by omega⟩
      rw [againL] at hag
      have hFl := hF b hbl
      have hGl := hG b hbl
      simp only [go_sem]
      rw [← hrp]
      refine WE_pure _ _ _ _ _ _ _ _ (hE b _ (.osl (n0 + 9) v 1 0 b.length) hbl (.inr ⟨n0 + 9, v, rfl, by rw [get_loc]; rfl⟩)) ?_
      simp only [go_sem]
      have hjl := joinL_len b (F b)
      refine WE_eff [(n0 + 9, .cells v (Bl (joinL b (F b))))] (join_c (n0 + 9) v b (F b) none .no (by omega) (by omega) _ (by rw [get_loc]; rfl) _) (fun p hp _ => by rw [List.mem_singleton] at hp; subst hp; exact Bl_only _) ?_
      cases hj : joinG b (F b)
      · rw [hj, if_neg (by decide)] at hag
        simp only [go_sem, hj]
        have hlt : (Bl (joinL b (F b))).take b.length = Bl (joinL b (F b)) := List.take_of_length_le (by simp [hjl])
        rw [← hag]
        refine FnPost_imp (imp_freeze (fr' := [.any, .any, .any, .any, .any, .any, .isl none (Bl (joinL b (F b))) .no, .any, .any, .any, .any, .any, .any, .any, .any, .any, .any]) (loc' := [(3, .cells 0 [I64 p.k, SS p.l, BB p.b, .isl none (p.ps.map rA) .no])]) 9 v (Bl (joinL b (F b))) (by first | rfl | (simp only [look_cons, ↓reduceIte, Nat.reduceEqDiff]; done)) (Bl_idf _) (by ((try simp only [leFL_nil, leFL_cons, leF_any, leF_lit, leF_ptrs, leF_osls, leF_iptrs, leF_islw, leF_islfull, leF_islat, leF_ptr, leF_osl, leFB_cells, leFB_tok, leFH_nil, leFH_cons, and_true, true_and, and_self, ↓reduceIte, Nat.reduceEqDiff, ne_eq, not_false_eq_true, not_true_eq_false, reduceCtorEq, Nat.add_left_cancel_iff, Nat.zero_add, List.drop_zero, Nat.add_eq_left, hjl, hlt, List.length_map, Nat.le_refl]); (try first | done | omega | (simp; done) | (simp; omega)))) (by ((try simp only [leFL_nil, leFL_cons, leF_any, leF_lit, leF_ptrs, leF_osls, leF_iptrs, leF_islw, leF_islfull, leF_islat, leF_ptr, leF_osl, leFB_cells, leFB_tok, leFH_nil, leFH_cons, and_true, true_and, and_self, ↓reduceIte, Nat.reduceEqDiff, ne_eq, not_false_eq_true, not_true_eq_false, reduceCtorEq, Nat.add_left_cancel_iff, Nat.zero_add, List.drop_zero, Nat.add_eq_left, hjl, hlt, List.length_map, Nat.le_refl]); (try first | done | omega | (simp; done) | (simp; omega))))) ?_
        refine FnPost_end hn0 (by simp) rfl (by simp only [only_tup, List.mem_cons, List.not_mem_nil, or_false, forall_eq_or_imp, forall_eq, only_any, only_lit', only_full, only_no, only_iptr, only_agg, only_bfn, and_self, and_true, true_and, implies_true, or_false]) ?_
        simp only [go_sem]
        exact leA_refl _
      · rw [hj, if_pos rfl] at hag
        simp only [go_sem, hj]
        refine LP_next (joinL b (F b)) ⟨by rw [hjl]; exact hbl, f', by have := hGl hj; omega, hag⟩ (hGl hj) ?_
        rw [hjl]
        refine imp_loc (by ((try simp only [cells_agg, cells_lit, leL_cons, leL_nil, leA_any, leA_lits, leA_isl, leA_self, and_self, true_and, and_true, or_true, true_or, Value.int.injEq, Value.bool.injEq, Value.string.injEq, AV.lit.injEq, Option.some.injEq, Blk.cells.injEq, Blk.tok.injEq, List.cons.injEq, Tk.at.injEq, subL_nil, subL_cons, look_nil, look_cons, ↓reduceIte, Nat.reduceEqDiff, Option.isSome_some, reduceCtorEq, or_false, false_or, if_true, if_false]); (try first | done | omega | (simp; done) | (simp; omega)))) (by ((try simp only [cells_agg, cells_lit, leL_cons, leL_nil, leA_any, leA_lits, leA_isl, leA_self, and_self, true_and, and_true, or_true, true_or, Value.int.injEq, Value.bool.injEq, Value.string.injEq, AV.lit.injEq, Option.some.injEq, Blk.cells.injEq, Blk.tok.injEq, List.cons.injEq, Tk.at.injEq, subL_nil, subL_cons, look_nil, look_cons, ↓reduceIte, Nat.reduceEqDiff, Option.isSome_some, reduceCtorEq, or_false, false_or, if_true, if_false]); (try first | done | omega | (simp; done) | (simp; omega)))) (by ((try simp only [cells_agg, cells_lit, List.mem_cons, List.not_mem_nil, or_false, forall_eq_or_imp, forall_eq, only_any, only_lit', only_iptr, only_no, only_full, only_at, only_ptr, only_osl, only_agg, only_tup, only_fn, only_bfn, and_self, implies_true, and_true, true_and, okL_nil, okL_cons, bonly_cells, bonly_tok, keepP_add, look_nil, look_cons, ↓reduceIte, Nat.reduceEqDiff, Option.isSome_some, reduceCtorEq, false_or, if_true, if_false, false_implies]); (try first | done | omega | ((repeat' refine And.intro ?_ ?_) <;> (intro _ hx; obtain ⟨_, -, rfl⟩ := List.mem_map.1 hx; exact .lit _))))) (by ((try simp only [cells_agg, cells_lit, List.mem_cons, List.not_mem_nil, or_false, forall_eq_or_imp, forall_eq, only_any, only_lit', only_iptr, only_no, only_full, only_at, only_ptr, only_osl, only_agg, only_tup, only_fn, only_bfn, and_self, implies_true, and_true, true_and, okL_nil, okL_cons, bonly_cells, bonly_tok, keepP_add, look_nil, look_cons, ↓reduceIte, Nat.reduceEqDiff, Option.isSome_some, reduceCtorEq, false_or, if_true, if_false, false_implies]); (try first | done | omega | ((repeat' refine And.intro ?_ ?_) <;> (intro _ hx; obtain ⟨_, -, rfl⟩ := List.mem_map.1 hx; exact .lit _)))))
end Go.Proofs.YtcnhpclfflcdfaaDoorR.Reg
