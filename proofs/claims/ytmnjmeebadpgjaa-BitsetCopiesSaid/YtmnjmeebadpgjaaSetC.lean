import Derived.Test.YtmnjmeebadpgjaaSetL
/- Sets of small numbers: the law of copies. -/
namespace Go.Proofs.Ytmnjmeebadpgjaa.Set
open Go Go.Av
set_option linter.unusedSimpArgs false
set_option linter.unusedVariables false
theorem low_Sc {n0 c vb d v : Nat} {ws : List W64} {p : Nat × Blk} (hp : p ∈ wrS (n0 + c) vb (n0 + d) ws v) (h : p.1 < n0) : p.2.only (· < n0) := by
  simp only [wrS, List.mem_cons, List.not_mem_nil, or_false] at hp
  rcases hp with rfl | rfl <;> (simp only at h; omega)
theorem free_S {g : GH} {b vb r v : Nat} {ws : List W64} (hb : g b = none) (hr : g r = none) (p : Nat × Blk) (hp : p ∈ wrS b vb r ws v) : g p.1 = none ∧ ∃ ver cs, p.2 = .cells ver cs ∧ ∀ y, y ∈ cs → Free y := by
  simp only [wrS, List.mem_cons, List.not_mem_nil, or_false] at hp
  rcases hp with rfl | rfl
  · exact ⟨hr, _, _, rfl, fun y hy => by obtain ⟨_, -, rfl⟩ := List.mem_map.1 hy; exact .lit _⟩
  · exact ⟨hb, _, _, rfl, fun y hy => by rw [List.mem_singleton] at hy; subst hy; exact .osl _ _ _ _ _⟩
theorem leFL_Wl (id v : Nat) (cs : List AV) (ws : List W64) : leFL id v cs (Wl ws) (Wl ws) = True := by
  induction ws with
  | nil => rfl
  | cons x ws ih => exact eq_true ⟨by rw [leF_lit]; trivial, of_eq_true ih⟩
theorem law_copies (nl : Option Bool) (a : List Int) (tok : Tk) (m : Int) (hL : a.length ≤ 9000000000000000000) (hra : ∀ x, x ∈ a → -9223372036854775808 ≤ x ∧ x ≤ 9223372036854775807) (ha : -9223372036854775808 ≤ m ∧ m ≤ 9223372036854775807) (g : GH) :
    PureC Try.prog 10 [.isl nl (Il a) tok, I64 m] g (BB true) := by
  refine CallC.body (fun _ => none) (fun _ => 0) Try.func10 rfl Try.results10 Try.ntmps10 ?_
  intro n0 hn0
  simp only [go_sem]
  have hla : (a.take 30).length ≤ 30 := by simp; omega
  have hra' : ∀ x, x ∈ a.take 30 → -9223372036854775808 ≤ x ∧ x ≤ 9223372036854775807 := fun x hx => hra x (List.mem_of_mem_take hx)
  have his := newW_is (a.take 30) (a.take 30).length
  rw [List.take_length] at his
  refine WE_pure _ _ _ _ _ _ _ _ (few_c nl a tok 30 (by omega) hL _) ?_
  simp only [go_sem]
  refine WE_effX _ _ (newO_c (n0 + 1) (n0 + 2) (by omega) _ (a.take 30) _ (by omega) hra' _ (by rw [get_loc]; rfl) (by rw [get_loc]; rfl) _ (by simp only [List.mem_cons, List.not_mem_nil, or_false]; rintro k (rfl | rfl) <;> omega)) (fun x p hp hlt => low_Sc hp hlt) fun v0 => ?_
  have hlx : (ofL (a.take 30)).length ≤ 30 := by have := foldl_len (a.take 30) []; unfold ofL; simp at this; simp; omega
  simp only [go_sem, wrS]
  have hw := his.len_le
  refine WE_effX _ _ (CallAt.viewX (args' := [SI (newW (a.take 30) (a.take 30).length)]) _ _ ⟨sees_set (b := n0 + 1) (vb := 0) (r := n0 + 2) (vr := v0) (by rw [get_loc]; rfl) (by rw [get_loc]; rfl), trivial⟩ (CopyO_c (n0 + 3) (n0 + 4) (by omega) (.set _) hw (fun _ => none) rfl rfl _ (by simp only [List.mem_cons, List.not_mem_nil, or_false]; rintro k (rfl | rfl) <;> omega)) (fun _ => .ptr _ _ _) (fun x p hp => free_S (by rw [get_loc]; rfl) (by rw [get_loc]; rfl) p hp)) (fun x p hp hlt => low_Sc hp hlt) fun v1 => ?_
  simp only [go_sem, wrS]
  refine WE_pure _ _ _ _ _ _ _ _ (few_c nl a tok 30 (by omega) hL _) ?_
  simp only [go_sem]
  refine WE_pure _ _ _ _ _ _ _ _ (rOf_c _ (a.take 30) _ (by omega) _) ?_
  simp only [go_sem]
  generalize newW (a.take 30) (a.take 30).length = ws at *
  generalize ofL (a.take 30) = x at *
  refine WE_effX _ _ (add_own (b := n0 + 1) (vb := 0) (r := n0 + 2) (vr := v0) (ws := ws) (by rw [get_loc]; rfl) (by rw [get_loc]; rfl) (by omega) m hw ha.1 ha.2 _) (fun x p hp hlt => low_Sc hp hlt) fun v2 => ?_
  simp only [go_sem, wrS]
  have his2 := his.add m
  refine WE_effX _ _ (cut_own (b := n0 + 1) (vb := 0) (r := n0 + 2) (vr := v2) (ws := addI ws m) (by rw [get_loc]; rfl) (by rw [get_loc]; rfl) (by omega) 5 his2.len_le (by omega) (by omega) _) (fun x p hp hlt => low_Sc hp hlt) fun v3 => ?_
  simp only [go_sem, wrS]
  have his3 := his2.cut 5
  refine WE_effX _ _ (CallAt.viewX (args' := [SI ws]) _ _ ⟨sees_set (b := n0 + 3) (vb := 0) (r := n0 + 4) (vr := v1) (by rw [get_loc]; rfl) (by rw [get_loc]; rfl), trivial⟩ (WordsO_c (n0 + 6) (.set ws) hw (fun _ => none) rfl _ (by intro j hj; rw [List.mem_singleton] at hj; subst hj; simp only; omega)) (fun _ => .osl _ _ _ _ _) (fun x p hp => by
    rw [List.mem_singleton] at hp; subst hp
    exact ⟨by rw [get_loc]; rfl, _, _, rfl, fun y hy => by obtain ⟨_, -, rfl⟩ := List.mem_map.1 hy; exact .lit _⟩)) (fun x p hp hlt => by rw [List.mem_singleton] at hp; subst hp; simp only at hlt; omega) fun v4 => ?_
  simp only [go_sem]
  have hl3 := his3.len_le
  generalize hws3 : cutI (addI ws m) 5 = ws3 at *
  have htw : (Wl ws).take ws.length = Wl ws := by rw [← Wl_len ws, List.take_length]
  have htw3 : (Wl ws3).take ws3.length = Wl ws3 := by rw [← Wl_len ws3, List.take_length]
  have hxa := foldl_len [m] x
  refine WC_loopF (fun p : Nat × List W64 => [.any, I64 m, .any, .any, .any, .ptr (n0 + 1) 0 0, .ptr (n0 + 3) 0 0, .isl none (Il x) .no, .osl (n0 + 6) v4 1 0 ws.length, I64 p.1, .any, .any, .any, .any, .any, .any, .any, .any, .any, .any, .any, .any, .any, .any, .any, .any, .any, .any, .any, .any, .any, .any, .any, .any, .any, .any, .any, .any, .any, .any, .any, .any, .any, .any, .any, .any, .any, .any, .any, .any]) (fun p => ⟨g, [(1, .cells 0 [.osl (n0 + 2) v3 1 0 ws3.length]), (2, .cells v3 (Wl ws3)), (3, .cells 0 [.osl (n0 + 4) v1 1 0 ws.length]), (4, .cells v1 (Wl ws)), (6, .cells v4 (Wl p.2))]⟩) (fun p => p.1 ≤ ws.length ∧ p.2.length = ws.length) (fun p => ws.length - p.1) (0, ws) ⟨by simp, rfl⟩ ?_ ?_
  · refine imp_loc (by ((try simp only [cells_agg, cells_lit, leL_cons, leL_nil, leA_any, leA_lits, leA_isl, leA_self, and_self, true_and, and_true, or_true, true_or, Value.int.injEq, Value.bool.injEq, Value.string.injEq, AV.lit.injEq, Option.some.injEq, Blk.cells.injEq, Blk.tok.injEq, List.cons.injEq, Tk.at.injEq, subL_nil, subL_cons, look_nil, look_cons, ↓reduceIte, Nat.reduceEqDiff, Option.isSome_some, reduceCtorEq, or_false, false_or, if_true, if_false]); (try first | done | omega | (simp; done) | (simp; omega)))) (by ((try simp only [cells_agg, cells_lit, leL_cons, leL_nil, leA_any, leA_lits, leA_isl, leA_self, and_self, true_and, and_true, or_true, true_or, Value.int.injEq, Value.bool.injEq, Value.string.injEq, AV.lit.injEq, Option.some.injEq, Blk.cells.injEq, Blk.tok.injEq, List.cons.injEq, Tk.at.injEq, subL_nil, subL_cons, look_nil, look_cons, ↓reduceIte, Nat.reduceEqDiff, Option.isSome_some, reduceCtorEq, or_false, false_or, if_true, if_false]); (try first | done | omega | (simp; done) | (simp; omega)))) (by ((try simp only [cells_agg, cells_lit, List.mem_cons, List.not_mem_nil, or_false, forall_eq_or_imp, forall_eq, only_any, only_lit', only_iptr, only_no, only_full, only_at, only_ptr, only_osl, only_agg, only_tup, only_fn, and_self, implies_true, and_true, true_and, okL_nil, okL_cons, bonly_cells, bonly_tok, keepP_add, look_nil, look_cons, ↓reduceIte, Nat.reduceEqDiff, Option.isSome_some, reduceCtorEq, false_or, if_true, if_false, false_implies]); (try first | done | omega | ((repeat' refine And.intro ?_ ?_) <;> (intro _ hx; obtain ⟨_, -, rfl⟩ := List.mem_map.1 hx; exact .lit _))))) (by ((try simp only [cells_agg, cells_lit, List.mem_cons, List.not_mem_nil, or_false, forall_eq_or_imp, forall_eq, only_any, only_lit', only_iptr, only_no, only_full, only_at, only_ptr, only_osl, only_agg, only_tup, only_fn, and_self, implies_true, and_true, true_and, okL_nil, okL_cons, bonly_cells, bonly_tok, keepP_add, look_nil, look_cons, ↓reduceIte, Nat.reduceEqDiff, Option.isSome_some, reduceCtorEq, false_or, if_true, if_false, false_implies]); (try first | done | omega | ((repeat' refine And.intro ?_ ?_) <;> (intro _ hx; obtain ⟨_, -, rfl⟩ := List.mem_map.1 hx; exact .lit _)))))
  · rintro ⟨i, W⟩ ⟨hi, hW⟩
    simp only at hi hW
    simp only [go_sem]
    split
    · rename_i hlt
      have hlt : i < ws.length := by omega
      have e1 : IntKind.i64.wrap ((i : Int) + 1) = ((i + 1 : Nat) : Int) := by rw [wrap_i64]; omega
      have hsp : (Wl W).take i ++ [U64 0] ++ (Wl W).drop (i + 1) = Wl (W.set i 0#64) := Wl_splice W i 0#64 (by omega)
      simp only [go_sem, Nat.mul_one, List.length_map, hsp]
      (repeat (refine ⟨by omega, ?_⟩))
      refine LPF_next (i + 1, W.set i 0#64) ⟨by simp only; omega, by simp only [List.length_set]; exact hW⟩ (by simp only; omega) ?_
      rw [e1]
      refine imp_loc (by ((try simp only [cells_agg, cells_lit, leL_cons, leL_nil, leA_any, leA_lits, leA_isl, leA_self, and_self, true_and, and_true, or_true, true_or, Value.int.injEq, Value.bool.injEq, Value.string.injEq, AV.lit.injEq, Option.some.injEq, Blk.cells.injEq, Blk.tok.injEq, List.cons.injEq, Tk.at.injEq, subL_nil, subL_cons, look_nil, look_cons, ↓reduceIte, Nat.reduceEqDiff, Option.isSome_some, reduceCtorEq, or_false, false_or, if_true, if_false]); (try first | done | omega | (simp; done) | (simp; omega)))) (by ((try simp only [cells_agg, cells_lit, leL_cons, leL_nil, leA_any, leA_lits, leA_isl, leA_self, and_self, true_and, and_true, or_true, true_or, Value.int.injEq, Value.bool.injEq, Value.string.injEq, AV.lit.injEq, Option.some.injEq, Blk.cells.injEq, Blk.tok.injEq, List.cons.injEq, Tk.at.injEq, subL_nil, subL_cons, look_nil, look_cons, ↓reduceIte, Nat.reduceEqDiff, Option.isSome_some, reduceCtorEq, or_false, false_or, if_true, if_false]); (try first | done | omega | (simp; done) | (simp; omega)))) (by ((try simp only [cells_agg, cells_lit, List.mem_cons, List.not_mem_nil, or_false, forall_eq_or_imp, forall_eq, only_any, only_lit', only_iptr, only_no, only_full, only_at, only_ptr, only_osl, only_agg, only_tup, only_fn, and_self, implies_true, and_true, true_and, okL_nil, okL_cons, bonly_cells, bonly_tok, keepP_add, look_nil, look_cons, ↓reduceIte, Nat.reduceEqDiff, Option.isSome_some, reduceCtorEq, false_or, if_true, if_false, false_implies]); (try first | done | omega | ((repeat' refine And.intro ?_ ?_) <;> (intro _ hx; obtain ⟨_, -, rfl⟩ := List.mem_map.1 hx; exact .lit _))))) (by ((try simp only [cells_agg, cells_lit, List.mem_cons, List.not_mem_nil, or_false, forall_eq_or_imp, forall_eq, only_any, only_lit', only_iptr, only_no, only_full, only_at, only_ptr, only_osl, only_agg, only_tup, only_fn, and_self, implies_true, and_true, true_and, okL_nil, okL_cons, bonly_cells, bonly_tok, keepP_add, look_nil, look_cons, ↓reduceIte, Nat.reduceEqDiff, Option.isSome_some, reduceCtorEq, false_or, if_true, if_false, false_implies]); (try first | done | omega | ((repeat' refine And.intro ?_ ?_) <;> (intro _ hx; obtain ⟨_, -, rfl⟩ := List.mem_map.1 hx; exact .lit _)))))
    · refine LPF_exit (fr' := [.any, I64 m, .any, .any, .any, SI ws3, SI ws, .isl none (Il x) .no, .any, .any, .any, .any, .any, .any, .any, .any, .any, .any, .any, .any, .any, .any, .any, .any, .any, .any, .any, .any, .any, .any, .any, .any, .any, .any, .any, .any, .any, .any, .any, .any, .any, .any, .any, .any, .any, .any, .any, .any, .any, .any]) (h' := ⟨g, []⟩) ?_ ?_
      · refine Imp.trans (fr' := [.any, I64 m, .any, .any, .any, .ptr (n0 + 1) 0 0, .ptr (n0 + 3) 0 0, .isl none (Il x) .no, .any, .any, .any, .any, .any, .any, .any, .any, .any, .any, .any, .any, .any, .any, .any, .any, .any, .any, .any, .any, .any, .any, .any, .any, .any, .any, .any, .any, .any, .any, .any, .any, .any, .any, .any, .any, .any, .any, .any, .any, .any, .any]) (h' := ⟨g, [(1, .cells 0 [.osl (n0 + 2) v3 1 0 ws3.length]), (2, .cells v3 (Wl ws3)), (3, .cells 0 [.osl (n0 + 4) v1 1 0 ws.length]), (4, .cells v1 (Wl ws))]⟩) (by refine imp_loc (by ((try simp only [cells_agg, cells_lit, leL_cons, leL_nil, leA_any, leA_lits, leA_isl, leA_self, and_self, true_and, and_true, or_true, true_or, Value.int.injEq, Value.bool.injEq, Value.string.injEq, AV.lit.injEq, Option.some.injEq, Blk.cells.injEq, Blk.tok.injEq, List.cons.injEq, Tk.at.injEq, subL_nil, subL_cons, look_nil, look_cons, ↓reduceIte, Nat.reduceEqDiff, Option.isSome_some, reduceCtorEq, or_false, false_or, if_true, if_false]); (try first | done | omega | (simp; done) | (simp; omega)))) (by ((try simp only [cells_agg, cells_lit, leL_cons, leL_nil, leA_any, leA_lits, leA_isl, leA_self, and_self, true_and, and_true, or_true, true_or, Value.int.injEq, Value.bool.injEq, Value.string.injEq, AV.lit.injEq, Option.some.injEq, Blk.cells.injEq, Blk.tok.injEq, List.cons.injEq, Tk.at.injEq, subL_nil, subL_cons, look_nil, look_cons, ↓reduceIte, Nat.reduceEqDiff, Option.isSome_some, reduceCtorEq, or_false, false_or, if_true, if_false]); (try first | done | omega | (simp; done) | (simp; omega)))) (by ((try simp only [cells_agg, cells_lit, List.mem_cons, List.not_mem_nil, or_false, forall_eq_or_imp, forall_eq, only_any, only_lit', only_iptr, only_no, only_full, only_at, only_ptr, only_osl, only_agg, only_tup, only_fn, and_self, implies_true, and_true, true_and, okL_nil, okL_cons, bonly_cells, bonly_tok, keepP_add, look_nil, look_cons, ↓reduceIte, Nat.reduceEqDiff, Option.isSome_some, reduceCtorEq, false_or, if_true, if_false, false_implies]); (try first | done | omega | ((repeat' refine And.intro ?_ ?_) <;> (intro _ hx; obtain ⟨_, -, rfl⟩ := List.mem_map.1 hx; exact .lit _))))) (by ((try simp only [cells_agg, cells_lit, List.mem_cons, List.not_mem_nil, or_false, forall_eq_or_imp, forall_eq, only_any, only_lit', only_iptr, only_no, only_full, only_at, only_ptr, only_osl, only_agg, only_tup, only_fn, and_self, implies_true, and_true, true_and, okL_nil, okL_cons, bonly_cells, bonly_tok, keepP_add, look_nil, look_cons, ↓reduceIte, Nat.reduceEqDiff, Option.isSome_some, reduceCtorEq, false_or, if_true, if_false, false_implies]); (try first | done | omega | ((repeat' refine And.intro ?_ ?_) <;> (intro _ hx; obtain ⟨_, -, rfl⟩ := List.mem_map.1 hx; exact .lit _)))))) ?_
        refine Imp.trans (imp_freeze (fr' := [.any, I64 m, .any, .any, .any, .ptr (n0 + 1) 0 0, .ptr (n0 + 3) 0 0, .isl none (Il x) .no, .any, .any, .any, .any, .any, .any, .any, .any, .any, .any, .any, .any, .any, .any, .any, .any, .any, .any, .any, .any, .any, .any, .any, .any, .any, .any, .any, .any, .any, .any, .any, .any, .any, .any, .any, .any, .any, .any, .any, .any, .any, .any]) (loc' := [(1, .cells 0 [.isl none (Wl ws3) .no]), (3, .cells 0 [.osl (n0 + 4) v1 1 0 ws.length]), (4, .cells v1 (Wl ws))]) 2 v3 (Wl ws3) (by first | rfl | (simp only [look_cons, ↓reduceIte, Nat.reduceEqDiff]; done)) (Wl_idf _) (by ((try simp only [leFL_nil, leFL_cons, leF_any, leF_lit, leF_ptrs, leF_osls, leF_iptrs, leF_islno, leF_islfull, leF_islat, leF_ptr, leF_osl, leFB_cells, leFB_tok, leFH_nil, leFH_cons, and_true, true_and, and_self, ↓reduceIte, Nat.reduceEqDiff, ne_eq, not_false_eq_true, not_true_eq_false, reduceCtorEq, Nat.add_left_cancel_iff, Nat.zero_add, List.drop_zero, Nat.add_eq_left, Wl_len, htw3, Nat.le_refl, leFL_Wl]); (try first | done | omega | (simp; done) | (simp; omega)))) (by ((try simp only [leFL_nil, leFL_cons, leF_any, leF_lit, leF_ptrs, leF_osls, leF_iptrs, leF_islno, leF_islfull, leF_islat, leF_ptr, leF_osl, leFB_cells, leFB_tok, leFH_nil, leFH_cons, and_true, true_and, and_self, ↓reduceIte, Nat.reduceEqDiff, ne_eq, not_false_eq_true, not_true_eq_false, reduceCtorEq, Nat.add_left_cancel_iff, Nat.zero_add, List.drop_zero, Nat.add_eq_left, Wl_len, htw3, Nat.le_refl, leFL_Wl]); (try first | done | omega | (simp; done) | (simp; omega))))) ?_
        refine Imp.trans (imp_freeze (fr' := [.any, I64 m, .any, .any, .any, SI ws3, .ptr (n0 + 3) 0 0, .isl none (Il x) .no, .any, .any, .any, .any, .any, .any, .any, .any, .any, .any, .any, .any, .any, .any, .any, .any, .any, .any, .any, .any, .any, .any, .any, .any, .any, .any, .any, .any, .any, .any, .any, .any, .any, .any, .any, .any, .any, .any, .any, .any, .any, .any]) (loc' := [(3, .cells 0 [.osl (n0 + 4) v1 1 0 ws.length]), (4, .cells v1 (Wl ws))]) 1 0 ([.isl none (Wl ws3) .no]) (by first | rfl | (simp only [look_cons, ↓reduceIte, Nat.reduceEqDiff]; done)) (rfl) (by ((try simp only [leFL_nil, leFL_cons, leF_any, leF_lit, leF_ptrs, leF_osls, leF_iptrs, leF_islno, leF_islfull, leF_islat, leF_ptr, leF_osl, leFB_cells, leFB_tok, leFH_nil, leFH_cons, and_true, true_and, and_self, ↓reduceIte, Nat.reduceEqDiff, ne_eq, not_false_eq_true, not_true_eq_false, reduceCtorEq, Nat.add_left_cancel_iff, Nat.zero_add, List.drop_zero, Nat.add_eq_left, leFL_Wl]); (try first | done | omega | (simp; done) | (simp; omega)))) (by ((try simp only [leFL_nil, leFL_cons, leF_any, leF_lit, leF_ptrs, leF_osls, leF_iptrs, leF_islno, leF_islfull, leF_islat, leF_ptr, leF_osl, leFB_cells, leFB_tok, leFH_nil, leFH_cons, and_true, true_and, and_self, ↓reduceIte, Nat.reduceEqDiff, ne_eq, not_false_eq_true, not_true_eq_false, reduceCtorEq, Nat.add_left_cancel_iff, Nat.zero_add, List.drop_zero, Nat.add_eq_left, leFL_Wl]); (try first | done | omega | (simp; done) | (simp; omega))))) ?_
        refine Imp.trans (imp_freeze (fr' := [.any, I64 m, .any, .any, .any, SI ws3, .ptr (n0 + 3) 0 0, .isl none (Il x) .no, .any, .any, .any, .any, .any, .any, .any, .any, .any, .any, .any, .any, .any, .any, .any, .any, .any, .any, .any, .any, .any, .any, .any, .any, .any, .any, .any, .any, .any, .any, .any, .any, .any, .any, .any, .any, .any, .any, .any, .any, .any, .any]) (loc' := [(3, .cells 0 [.isl none (Wl ws) .no])]) 4 v1 (Wl ws) (by first | rfl | (simp only [look_cons, ↓reduceIte, Nat.reduceEqDiff]; done)) (Wl_idf _) (by ((try simp only [leFL_nil, leFL_cons, leF_any, leF_lit, leF_ptrs, leF_osls, leF_iptrs, leF_islno, leF_islfull, leF_islat, leF_ptr, leF_osl, leFB_cells, leFB_tok, leFH_nil, leFH_cons, and_true, true_and, and_self, ↓reduceIte, Nat.reduceEqDiff, ne_eq, not_false_eq_true, not_true_eq_false, reduceCtorEq, Nat.add_left_cancel_iff, Nat.zero_add, List.drop_zero, Nat.add_eq_left, Wl_len, htw]); (try first | done | omega | (simp; done) | (simp; omega)))) (by ((try simp only [leFL_nil, leFL_cons, leF_any, leF_lit, leF_ptrs, leF_osls, leF_iptrs, leF_islno, leF_islfull, leF_islat, leF_ptr, leF_osl, leFB_cells, leFB_tok, leFH_nil, leFH_cons, and_true, true_and, and_self, ↓reduceIte, Nat.reduceEqDiff, ne_eq, not_false_eq_true, not_true_eq_false, reduceCtorEq, Nat.add_left_cancel_iff, Nat.zero_add, List.drop_zero, Nat.add_eq_left, Wl_len, htw]); (try first | done | omega | (simp; done) | (simp; omega))))) ?_
        refine Imp.trans (imp_freeze (fr' := [.any, I64 m, .any, .any, .any, SI ws3, SI ws, .isl none (Il x) .no, .any, .any, .any, .any, .any, .any, .any, .any, .any, .any, .any, .any, .any, .any, .any, .any, .any, .any, .any, .any, .any, .any, .any, .any, .any, .any, .any, .any, .any, .any, .any, .any, .any, .any, .any, .any, .any, .any, .any, .any, .any, .any]) (loc' := []) 3 0 ([.isl none (Wl ws) .no]) (by first | rfl | (simp only [look_cons, ↓reduceIte, Nat.reduceEqDiff]; done)) (rfl) (by ((try simp only [leFL_nil, leFL_cons, leF_any, leF_lit, leF_ptrs, leF_osls, leF_iptrs, leF_islno, leF_islfull, leF_islat, leF_ptr, leF_osl, leFB_cells, leFB_tok, leFH_nil, leFH_cons, and_true, true_and, and_self, ↓reduceIte, Nat.reduceEqDiff, ne_eq, not_false_eq_true, not_true_eq_false, reduceCtorEq, Nat.add_left_cancel_iff, Nat.zero_add, List.drop_zero, Nat.add_eq_left]); (try first | done | omega | (simp; done) | (simp; omega)))) (by ((try simp only [leFL_nil, leFL_cons, leF_any, leF_lit, leF_ptrs, leF_osls, leF_iptrs, leF_islno, leF_islfull, leF_islat, leF_ptr, leF_osl, leFB_cells, leFB_tok, leFH_nil, leFH_cons, and_true, true_and, and_self, ↓reduceIte, Nat.reduceEqDiff, ne_eq, not_false_eq_true, not_true_eq_false, reduceCtorEq, Nat.add_left_cancel_iff, Nat.zero_add, List.drop_zero, Nat.add_eq_left]); (try first | done | omega | (simp; done) | (simp; omega))))) (Imp.refl _ _ _)
      · simp only [go_sem]
        refine WE_pure _ _ _ _ _ _ _ _ (list_c (.set ws) his hw _) ?_
        simp only [go_sem]
        refine WE_pure _ _ _ _ _ _ _ _ (rSame_c _ _ x x _ _ (by omega) _) ?_
        simp only [go_sem]
        refine WE_pure _ _ _ _ _ _ _ _ (list_c (.set ws3) his3 hl3 _) ?_
        simp only [go_sem]
        refine WE_pure _ _ _ _ _ _ _ _ (rAdd_c _ x _ m (by omega) _) ?_
        simp only [go_sem]
        refine WE_pure _ _ _ _ _ _ _ _ (rCut_c _ (addL x m) _ 5 (by have := addL_len x m; omega) _) ?_
        simp only [go_sem]
        have hcl : (cutL (addL x m) 5).length ≤ 100 := by
          have h1 := addL_len x m
          have h2 := atN_le (addL x m) 5
          unfold cutL; split <;> simp <;> omega
        refine WE_pure _ _ _ _ _ _ _ _ (rSame_c _ _ _ _ _ _ (by omega) _) ?_
        simp only [go_sem]
        refine WE_pure _ _ _ _ _ _ _ _ (lives_c _) ?_
        simp only [go_sem]
        refine FnPost_end hn0 (by simp) rfl (only_lit _ _) ?_
        simp only [go_sem]
        exact leA_refl _
theorem hasI4 {n : Nat} {x : AV} (h : HasA Try.prog (n + 1) 3 x) : ∃ z, x = I64 z ∧ -9223372036854775808 ≤ z ∧ z ≤ 9223372036854775807 := by
  obtain ⟨cs, hx, h⟩ := h
  unfold HasT at h
  rw [Try.underlying3] at h
  obtain ⟨z, rfl, hz⟩ := h
  refine ⟨z, ?_, wf_i64 hz⟩
  rw [hx]; unfold elA HasT.isAggT; rw [Try.underlying3]; rfl
theorem copies_row (x0 x1 : AV) (h0 : HasA Try.prog 5 50 x0) (h1 : HasA Try.prog 5 3 x1) (g : GH) : PureC Try.prog 10 [x0, x1] g (BB true) := by
  obtain ⟨b0, l, rfl, k0, r0⟩ := hasIs h0
  obtain ⟨z, rfl, hz⟩ := hasI4 h1
  exact law_copies _ l _ z k0 r0 hz g
end Go.Proofs.Ytmnjmeebadpgjaa.Set
