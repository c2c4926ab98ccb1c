import Derived.Test.YtmnjmeebadpgjaaSetL
/- Sets of small numbers: the laws of calls one behind another, and of copies. -/
namespace Go.Proofs.Ytmnjmeebadpgjaa.Set
open Go Go.Av
set_option linter.unusedSimpArgs false
set_option linter.unusedVariables false
theorem imx_neg : imx (-1) 0 = 0 := rfl
theorem next_facts {ws : List W64} {l : List Int} (h : IsS ws l) (ask : Int) : ∃ (k : Int) (m : Bool), (if 65536 ≤ ask then 0 else imx (nextI ws (imx ask 0).toNat) 0) = k ∧ (!decide (65536 ≤ ask) && decide (0 ≤ nextI ws (imx ask 0).toNat)) = m ∧
    ((m = true ∧ atN l ask < l.length ∧ l.getD (atN l ask) 0 = k) ∨ (m = false ∧ atN l ask = l.length ∧ k = 0)) := by
  by_cases hb : 65536 ≤ ask
  · exact ⟨0, false, by rw [if_pos hb], by simp [hb], .inr ⟨rfl, h.at_big ask hb, rfl⟩⟩
  · by_cases h0 : 0 ≤ nextI ws (imx ask 0).toNat
    · obtain ⟨h1, h2⟩ := h.next_some ask h0
      refine ⟨nextI ws (imx ask 0).toNat, true, ?_, by simp [hb, h0], .inl ⟨rfl, h1, h2⟩⟩
      rw [if_neg hb]
      generalize nextI ws (imx ask 0).toNat = z at *
      unfold imx; rw [if_neg (by omega)]
    · rcases nextI_cases ws (imx ask 0).toNat with ⟨h1, _⟩ | ⟨m, h1, _⟩
      · refine ⟨0, false, ?_, by simp [h0], .inr ⟨rfl, h.next_none ask h1, rfl⟩⟩
        rw [if_neg hb, h1]; rfl
      · omega
theorem IsS.length_le {ws : List W64} {l : List Int} (h : IsS ws l) : l.length ≤ 65536 := by
  have h1 := memB_le ws (64 * ws.length)
  rw [h.memB _ fun j hj => hasW_big ws j hj] at h1
  have := h.len_le
  omega
def actA (p : Int × Int) : AV := .agg [I64 p.1, I64 p.2]
abbrev Ac (L : List (Int × Int)) : List AV := L.map actA
def acG (L : List (Int × Int)) (i : Nat) : Int × Int := L.getD i (0, 0)
theorem Ac_get (L : List (Int × Int)) (i : Nat) (h : i < L.length) : (Ac L).getD i .any = .agg [I64 (acG L i).1, I64 (acG L i).2] := by
  unfold acG; simp [List.getD_eq_getElem?_getD, h, actA]
theorem out_S {n b vb r v : Nat} (ws : List W64) (hr : r < n) (p : Nat × Blk) (hp : p ∈ wrS b vb r ws v) : p.2.only (· < n) := by
  simp only [wrS, List.mem_cons, List.not_mem_nil, or_false] at hp
  rcases hp with rfl | rfl
  · exact out_Wl _ _
  · exact fun x hx => by rw [List.mem_singleton] at hx; subst hx; exact .osl hr
theorem no_low {n0 d : Nat} {P : Prop} (h : n0 + d < n0) : P := by omega
theorem low_S {n0 c vb d v : Nat} {ws : List W64} {p : Nat × Blk} (hp : p ∈ wrS (n0 + c) vb (n0 + d) ws v) (h : p.1 < n0) : p.2.only (· < n0) := by
  simp only [wrS, List.mem_cons, List.not_mem_nil, or_false] at hp
  rcases hp with rfl | rfl <;> exact no_low h
set_option maxHeartbeats 4000000 in
theorem law_plays (nl : Option Bool) (L : List (Int × Int)) (tok : Tk) (ask : Int) (hL : L.length ≤ 9000000000000000000) (hr : ∀ i, i < L.length → -9223372036854775808 ≤ (acG L i).2 ∧ (acG L i).2 ≤ 9223372036854775807) (ha : -9223372036854775808 ≤ ask ∧ ask ≤ 9223372036854775807) (g : GH) :
    PureC Try.prog 13 [.isl nl (Ac L) tok, I64 ask] g (BB true) := by
  refine CallC.body (fun _ => none) (fun _ => 0) Try.func13 rfl Try.results13 Try.ntmps13 ?_
  intro n0 hn0
  simp only [go_sem]
  refine WE_effX _ _ (newO_c (n0 + 1) (n0 + 2) (by omega) (some true) [] .full (by simp) (by simp) _ (by rw [get_loc]; rfl) (by rw [get_loc]; rfl) _ (by simp only [List.mem_cons, List.not_mem_nil, or_false]; rintro k (rfl | rfl) <;> omega)) (fun x p hp hlt => low_S hp hlt) fun v0 => ?_
  simp only [go_sem, wrS]
  refine WC_loopF (fun p : Nat × Nat × List W64 × List Int => [.isl nl (Ac L) .no, I64 ask, .any, .any, .any, .ptr (n0 + 1) 0 0, .isl none (Il p.2.2.2) .no, I64 p.1, .any, .any, .any, .any, .any, .any, .any, .any, .any, .any, .any, .any, .any, .any, .any, .any, .any, .any, .any, .any, .any, .any, .any, .any, .any, .any, .any, .any, .any, .any, .any, .any, .any, .any, .any, .any, .any, .any, .any, .any, .any, .any, .any, .any, .any, .any, .any, .any, .any, .any, .any, .any, .any, .any, .any, .any, .any, .any, .any, .any, .any, .any, .any, .any, .any, .any, .any, .any, .any, .any, .any, .any, .any, .any, .any, .any, .any, .any, .any, .any, .any, .any, .any, .any, .any, .any, .any, .any, .any, .any, .any, .any, .any, .any, .any, .any, .any, .any, .any, .any, .any, .any, .any, .any, .any, .any, .any, .any, .any, .any, .any, .any, .any, .any, .any, .any, .any, .any, .any, .any, .any, .any, .any, .any]) (fun p => ⟨g, [(1, .cells 0 [.osl (n0 + 2) p.2.1 1 0 p.2.2.1.length]), (2, .cells p.2.1 (Wl p.2.2.1))]⟩) (fun p => p.1 ≤ L.length ∧ p.1 ≤ 60 ∧ IsS p.2.2.1 p.2.2.2) (fun p => 60 - p.1) (0, v0, [], []) ⟨by simp, by simp, IsS.nil⟩ ?_ ?_
  · have e0 : newW [] ([] : List Int).length = [] := rfl
    have e1 : Wl [] = [] := rfl
    have e2 : Il [] = [] := rfl
    refine imp_loc (by ((try simp only [cells_agg, cells_lit, leL_cons, leL_nil, leA_any, leA_lits, leA_isl, leA_self, and_self, true_and, and_true, or_true, true_or, Value.int.injEq, Value.bool.injEq, Value.string.injEq, AV.lit.injEq, Option.some.injEq, Blk.cells.injEq, Blk.tok.injEq, List.cons.injEq, Tk.at.injEq, subL_nil, subL_cons, look_nil, look_cons, ↓reduceIte, Nat.reduceEqDiff, Option.isSome_some, reduceCtorEq, or_false, false_or, if_true, if_false, e0, e1, e2]); (try first | done | omega | (simp; done) | (simp; omega)))) (by ((try simp only [cells_agg, cells_lit, leL_cons, leL_nil, leA_any, leA_lits, leA_isl, leA_self, and_self, true_and, and_true, or_true, true_or, Value.int.injEq, Value.bool.injEq, Value.string.injEq, AV.lit.injEq, Option.some.injEq, Blk.cells.injEq, Blk.tok.injEq, List.cons.injEq, Tk.at.injEq, subL_nil, subL_cons, look_nil, look_cons, ↓reduceIte, Nat.reduceEqDiff, Option.isSome_some, reduceCtorEq, or_false, false_or, if_true, if_false, e0, e1, e2]); (try first | done | omega | (simp; done) | (simp; omega)))) (by ((try simp only [cells_agg, cells_lit, List.mem_cons, List.not_mem_nil, or_false, forall_eq_or_imp, forall_eq, only_any, only_lit', only_iptr, only_no, only_full, only_at, only_ptr, only_osl, only_agg, only_tup, only_fn, and_self, implies_true, and_true, true_and, okL_nil, okL_cons, bonly_cells, bonly_tok, keepP_add, look_nil, look_cons, ↓reduceIte, Nat.reduceEqDiff, Option.isSome_some, reduceCtorEq, false_or, if_true, if_false, false_implies, e0, e1, e2]); (try first | done | omega | (intro _ hx; obtain ⟨_, -, rfl⟩ := List.mem_map.1 hx; exact .lit _)))) (by ((try simp only [cells_agg, cells_lit, List.mem_cons, List.not_mem_nil, or_false, forall_eq_or_imp, forall_eq, only_any, only_lit', only_iptr, only_no, only_full, only_at, only_ptr, only_osl, only_agg, only_tup, only_fn, and_self, implies_true, and_true, true_and, okL_nil, okL_cons, bonly_cells, bonly_tok, keepP_add, look_nil, look_cons, ↓reduceIte, Nat.reduceEqDiff, Option.isSome_some, reduceCtorEq, false_or, if_true, if_false, false_implies, e0, e1, e2]); (try first | done | omega | (intro _ hx; obtain ⟨_, -, rfl⟩ := List.mem_map.1 hx; exact .lit _))))
  · rintro ⟨i, v, ws, l⟩ ⟨hi, hi60, his⟩
    simp only at hi hi60 his
    simp only [go_sem, List.length_map]
    have e1 : IntKind.i64.wrap ((i : Int) + 1) = ((i + 1 : Nat) : Int) := by rw [wrap_i64]; omega
    have hw := his.len_le
    have hll := IsS.length_le his
    by_cases hlt : i < L.length ∧ i < 60
    · obtain ⟨hlt, hlt60⟩ := hlt
      have c1 : (i : Int) < (L.length : Int) := by omega
      have c2 : (i : Int) < 60 := by omega
      have hN := hr i hlt
      have hact := Ac_get L i hlt
      generalize (acG L i).1 = kind at *
      generalize (acG L i).2 = N at *
      simp only [go_sem, c1, c2, hact, List.length_map]
      (repeat (refine ⟨by omega, ?_⟩))
      refine WE_pure _ _ _ _ _ _ _ _ (rAt_c _ l _ N (by omega) _) ?_
      simp only [go_sem, hact, c1, List.length_map]
      (repeat (refine ⟨by omega, ?_⟩))
      split
      · refine WE_effX (fun _ => BB (isN l N)) _ (his.has N ▸ cut_own (b := n0 + 1) (vb := 0) (r := n0 + 2) (vr := v) (ws := ws) (by rw [get_loc]; rfl) (by rw [get_loc]; rfl) (by omega) N hw hN.1 hN.2 _) (fun x p hp hlt => low_S hp hlt) fun v' => ?_
        simp only [go_sem, wrS]
        refine WE_pure _ _ _ _ _ _ _ _ (rCut_c _ l _ N (by omega) _) ?_
        simp only [go_sem]
        have his2 := his.cut N
        have hw2 := his2.len_le
        have hl2 := IsS.length_le his2
        obtain ⟨kk, mm, q1, q2, q3⟩ := next_facts his2 ask
        refine WE_pure _ _ _ _ _ _ _ _ (rAt_c _ (cutL l N) _ ask (by omega) _) ?_
        simp only [go_sem]
        refine WE_pure _ _ _ _ _ _ _ _ (q1 ▸ q2 ▸ Next_own (b := n0 + 1) (vb := 0) (r := n0 + 2) (vr := v') (ws := cutI ws N) (by rw [get_loc]; rfl) (by rw [get_loc]; rfl) ask hw2 ha.1 ha.2) ?_
        simp only [go_sem]
        refine WE_pure _ _ _ _ _ _ _ _ (his2.has ask ▸ Has_own (b := n0 + 1) (vb := 0) (r := n0 + 2) (vr := v') (ws := cutI ws N) (by rw [get_loc]; rfl) (by rw [get_loc]; rfl) ask hw2 ha.1 ha.2) ?_
        simp only [go_sem]
        refine WE_pure _ _ _ _ _ _ _ _ (his2.len ▸ Len_own (b := n0 + 1) (vb := 0) (r := n0 + 2) (vr := v') (ws := cutI ws N) (by rw [get_loc]; rfl) (by rw [get_loc]; rfl) hw2) ?_
        simp only [go_sem, List.length_map]
        rcases q3 with ⟨rfl, q4, q5⟩ | ⟨rfl, q4, q5⟩
        · have q6 : ((atN (cutL l N) ask : Nat) : Int) < (((cutL l N).length : Nat) : Int) := by omega
          simp only [go_sem, q6, Il_get _ _ q4, q5, List.length_map]
          (repeat (refine ⟨by omega, ?_⟩))
          refine LPF_next (i + 1, v', cutI ws N, cutL l N) ⟨by simp only; omega, by simp only; omega, his2⟩ (by simp only; omega) ?_
          rw [e1]
          refine imp_loc (by ((try simp only [cells_agg, cells_lit, leL_cons, leL_nil, leA_any, leA_lits, leA_isl, leA_self, and_self, true_and, and_true, or_true, true_or, Value.int.injEq, Value.bool.injEq, Value.string.injEq, AV.lit.injEq, Option.some.injEq, Blk.cells.injEq, Blk.tok.injEq, List.cons.injEq, Tk.at.injEq, subL_nil, subL_cons, look_nil, look_cons, ↓reduceIte, Nat.reduceEqDiff, Option.isSome_some, reduceCtorEq, or_false, false_or, if_true, if_false]); (try first | done | omega | (simp; done) | (simp; omega)))) (by ((try simp only [cells_agg, cells_lit, leL_cons, leL_nil, leA_any, leA_lits, leA_isl, leA_self, and_self, true_and, and_true, or_true, true_or, Value.int.injEq, Value.bool.injEq, Value.string.injEq, AV.lit.injEq, Option.some.injEq, Blk.cells.injEq, Blk.tok.injEq, List.cons.injEq, Tk.at.injEq, subL_nil, subL_cons, look_nil, look_cons, ↓reduceIte, Nat.reduceEqDiff, Option.isSome_some, reduceCtorEq, or_false, false_or, if_true, if_false]); (try first | done | omega | (simp; done) | (simp; omega)))) (by ((try simp only [cells_agg, cells_lit, List.mem_cons, List.not_mem_nil, or_false, forall_eq_or_imp, forall_eq, only_any, only_lit', only_iptr, only_no, only_full, only_at, only_ptr, only_osl, only_agg, only_tup, only_fn, and_self, implies_true, and_true, true_and, okL_nil, okL_cons, bonly_cells, bonly_tok, keepP_add, look_nil, look_cons, ↓reduceIte, Nat.reduceEqDiff, Option.isSome_some, reduceCtorEq, false_or, if_true, if_false, false_implies]); (try first | done | omega | (intro _ hx; obtain ⟨_, -, rfl⟩ := List.mem_map.1 hx; exact .lit _)))) (by ((try simp only [cells_agg, cells_lit, List.mem_cons, List.not_mem_nil, or_false, forall_eq_or_imp, forall_eq, only_any, only_lit', only_iptr, only_no, only_full, only_at, only_ptr, only_osl, only_agg, only_tup, only_fn, and_self, implies_true, and_true, true_and, okL_nil, okL_cons, bonly_cells, bonly_tok, keepP_add, look_nil, look_cons, ↓reduceIte, Nat.reduceEqDiff, Option.isSome_some, reduceCtorEq, false_or, if_true, if_false, false_implies]); (try first | done | omega | (intro _ hx; obtain ⟨_, -, rfl⟩ := List.mem_map.1 hx; exact .lit _))))
        · subst q5
          have q6 : ¬ ((atN (cutL l N) ask : Nat) : Int) < (((cutL l N).length : Nat) : Int) := by omega
          simp only [go_sem, q6, List.length_map]
          (repeat (refine ⟨by omega, ?_⟩))
          refine LPF_next (i + 1, v', cutI ws N, cutL l N) ⟨by simp only; omega, by simp only; omega, his2⟩ (by simp only; omega) ?_
          rw [e1]
          refine imp_loc (by ((try simp only [cells_agg, cells_lit, leL_cons, leL_nil, leA_any, leA_lits, leA_isl, leA_self, and_self, true_and, and_true, or_true, true_or, Value.int.injEq, Value.bool.injEq, Value.string.injEq, AV.lit.injEq, Option.some.injEq, Blk.cells.injEq, Blk.tok.injEq, List.cons.injEq, Tk.at.injEq, subL_nil, subL_cons, look_nil, look_cons, ↓reduceIte, Nat.reduceEqDiff, Option.isSome_some, reduceCtorEq, or_false, false_or, if_true, if_false]); (try first | done | omega | (simp; done) | (simp; omega)))) (by ((try simp only [cells_agg, cells_lit, leL_cons, leL_nil, leA_any, leA_lits, leA_isl, leA_self, and_self, true_and, and_true, or_true, true_or, Value.int.injEq, Value.bool.injEq, Value.string.injEq, AV.lit.injEq, Option.some.injEq, Blk.cells.injEq, Blk.tok.injEq, List.cons.injEq, Tk.at.injEq, subL_nil, subL_cons, look_nil, look_cons, ↓reduceIte, Nat.reduceEqDiff, Option.isSome_some, reduceCtorEq, or_false, false_or, if_true, if_false]); (try first | done | omega | (simp; done) | (simp; omega)))) (by ((try simp only [cells_agg, cells_lit, List.mem_cons, List.not_mem_nil, or_false, forall_eq_or_imp, forall_eq, only_any, only_lit', only_iptr, only_no, only_full, only_at, only_ptr, only_osl, only_agg, only_tup, only_fn, and_self, implies_true, and_true, true_and, okL_nil, okL_cons, bonly_cells, bonly_tok, keepP_add, look_nil, look_cons, ↓reduceIte, Nat.reduceEqDiff, Option.isSome_some, reduceCtorEq, false_or, if_true, if_false, false_implies]); (try first | done | omega | (intro _ hx; obtain ⟨_, -, rfl⟩ := List.mem_map.1 hx; exact .lit _)))) (by ((try simp only [cells_agg, cells_lit, List.mem_cons, List.not_mem_nil, or_false, forall_eq_or_imp, forall_eq, only_any, only_lit', only_iptr, only_no, only_full, only_at, only_ptr, only_osl, only_agg, only_tup, only_fn, and_self, implies_true, and_true, true_and, okL_nil, okL_cons, bonly_cells, bonly_tok, keepP_add, look_nil, look_cons, ↓reduceIte, Nat.reduceEqDiff, Option.isSome_some, reduceCtorEq, false_or, if_true, if_false, false_implies]); (try first | done | omega | (intro _ hx; obtain ⟨_, -, rfl⟩ := List.mem_map.1 hx; exact .lit _))))
      · have hadd : (!(hasI ws N || !goodN N)) = (goodN N && !isN l N) := by rw [his.has]; cases goodN N <;> cases isN l N <;> rfl
        refine WE_effX (fun _ => BB (goodN N && !isN l N)) _ (hadd ▸ add_own (b := n0 + 1) (vb := 0) (r := n0 + 2) (vr := v) (ws := ws) (by rw [get_loc]; rfl) (by rw [get_loc]; rfl) (by omega) N hw hN.1 hN.2 _) (fun x p hp hlt => low_S hp hlt) fun v' => ?_
        simp only [go_sem, wrS]
        refine WE_pure _ _ _ _ _ _ _ _ (good_c N _) ?_
        simp only [go_sem]
        cases hg : goodN N
        · simp only [go_sem, hg]
          refine WE_pure _ _ _ _ _ _ _ _ (rAdd_c _ l _ N (by omega) _) ?_
          simp only [go_sem]
          have his2 := his.add N
          have hw2 := his2.len_le
          have hl2 := IsS.length_le his2
          obtain ⟨kk, mm, q1, q2, q3⟩ := next_facts his2 ask
          refine WE_pure _ _ _ _ _ _ _ _ (rAt_c _ (addL l N) _ ask (by omega) _) ?_
          simp only [go_sem]
          refine WE_pure _ _ _ _ _ _ _ _ (q1 ▸ q2 ▸ Next_own (b := n0 + 1) (vb := 0) (r := n0 + 2) (vr := v') (ws := addI ws N) (by rw [get_loc]; rfl) (by rw [get_loc]; rfl) ask hw2 ha.1 ha.2) ?_
          simp only [go_sem]
          refine WE_pure _ _ _ _ _ _ _ _ (his2.has ask ▸ Has_own (b := n0 + 1) (vb := 0) (r := n0 + 2) (vr := v') (ws := addI ws N) (by rw [get_loc]; rfl) (by rw [get_loc]; rfl) ask hw2 ha.1 ha.2) ?_
          simp only [go_sem]
          refine WE_pure _ _ _ _ _ _ _ _ (his2.len ▸ Len_own (b := n0 + 1) (vb := 0) (r := n0 + 2) (vr := v') (ws := addI ws N) (by rw [get_loc]; rfl) (by rw [get_loc]; rfl) hw2) ?_
          simp only [go_sem, List.length_map]
          rcases q3 with ⟨rfl, q4, q5⟩ | ⟨rfl, q4, q5⟩
          · have q6 : ((atN (addL l N) ask : Nat) : Int) < (((addL l N).length : Nat) : Int) := by omega
            simp only [go_sem, q6, Il_get _ _ q4, q5, List.length_map]
            (repeat (refine ⟨by omega, ?_⟩))
            refine LPF_next (i + 1, v', addI ws N, addL l N) ⟨by simp only; omega, by simp only; omega, his2⟩ (by simp only; omega) ?_
            rw [e1]
            refine imp_loc (by ((try simp only [cells_agg, cells_lit, leL_cons, leL_nil, leA_any, leA_lits, leA_isl, leA_self, and_self, true_and, and_true, or_true, true_or, Value.int.injEq, Value.bool.injEq, Value.string.injEq, AV.lit.injEq, Option.some.injEq, Blk.cells.injEq, Blk.tok.injEq, List.cons.injEq, Tk.at.injEq, subL_nil, subL_cons, look_nil, look_cons, ↓reduceIte, Nat.reduceEqDiff, Option.isSome_some, reduceCtorEq, or_false, false_or, if_true, if_false]); (try first | done | omega | (simp; done) | (simp; omega)))) (by ((try simp only [cells_agg, cells_lit, leL_cons, leL_nil, leA_any, leA_lits, leA_isl, leA_self, and_self, true_and, and_true, or_true, true_or, Value.int.injEq, Value.bool.injEq, Value.string.injEq, AV.lit.injEq, Option.some.injEq, Blk.cells.injEq, Blk.tok.injEq, List.cons.injEq, Tk.at.injEq, subL_nil, subL_cons, look_nil, look_cons, ↓reduceIte, Nat.reduceEqDiff, Option.isSome_some, reduceCtorEq, or_false, false_or, if_true, if_false]); (try first | done | omega | (simp; done) | (simp; omega)))) (by ((try simp only [cells_agg, cells_lit, List.mem_cons, List.not_mem_nil, or_false, forall_eq_or_imp, forall_eq, only_any, only_lit', only_iptr, only_no, only_full, only_at, only_ptr, only_osl, only_agg, only_tup, only_fn, and_self, implies_true, and_true, true_and, okL_nil, okL_cons, bonly_cells, bonly_tok, keepP_add, look_nil, look_cons, ↓reduceIte, Nat.reduceEqDiff, Option.isSome_some, reduceCtorEq, false_or, if_true, if_false, false_implies]); (try first | done | omega | (intro _ hx; obtain ⟨_, -, rfl⟩ := List.mem_map.1 hx; exact .lit _)))) (by ((try simp only [cells_agg, cells_lit, List.mem_cons, List.not_mem_nil, or_false, forall_eq_or_imp, forall_eq, only_any, only_lit', only_iptr, only_no, only_full, only_at, only_ptr, only_osl, only_agg, only_tup, only_fn, and_self, implies_true, and_true, true_and, okL_nil, okL_cons, bonly_cells, bonly_tok, keepP_add, look_nil, look_cons, ↓reduceIte, Nat.reduceEqDiff, Option.isSome_some, reduceCtorEq, false_or, if_true, if_false, false_implies]); (try first | done | omega | (intro _ hx; obtain ⟨_, -, rfl⟩ := List.mem_map.1 hx; exact .lit _))))
          · subst q5
            have q6 : ¬ ((atN (addL l N) ask : Nat) : Int) < (((addL l N).length : Nat) : Int) := by omega
            simp only [go_sem, q6, List.length_map]
            (repeat (refine ⟨by omega, ?_⟩))
            refine LPF_next (i + 1, v', addI ws N, addL l N) ⟨by simp only; omega, by simp only; omega, his2⟩ (by simp only; omega) ?_
            rw [e1]
            refine imp_loc (by ((try simp only [cells_agg, cells_lit, leL_cons, leL_nil, leA_any, leA_lits, leA_isl, leA_self, and_self, true_and, and_true, or_true, true_or, Value.int.injEq, Value.bool.injEq, Value.string.injEq, AV.lit.injEq, Option.some.injEq, Blk.cells.injEq, Blk.tok.injEq, List.cons.injEq, Tk.at.injEq, subL_nil, subL_cons, look_nil, look_cons, ↓reduceIte, Nat.reduceEqDiff, Option.isSome_some, reduceCtorEq, or_false, false_or, if_true, if_false]); (try first | done | omega | (simp; done) | (simp; omega)))) (by ((try simp only [cells_agg, cells_lit, leL_cons, leL_nil, leA_any, leA_lits, leA_isl, leA_self, and_self, true_and, and_true, or_true, true_or, Value.int.injEq, Value.bool.injEq, Value.string.injEq, AV.lit.injEq, Option.some.injEq, Blk.cells.injEq, Blk.tok.injEq, List.cons.injEq, Tk.at.injEq, subL_nil, subL_cons, look_nil, look_cons, ↓reduceIte, Nat.reduceEqDiff, Option.isSome_some, reduceCtorEq, or_false, false_or, if_true, if_false]); (try first | done | omega | (simp; done) | (simp; omega)))) (by ((try simp only [cells_agg, cells_lit, List.mem_cons, List.not_mem_nil, or_false, forall_eq_or_imp, forall_eq, only_any, only_lit', only_iptr, only_no, only_full, only_at, only_ptr, only_osl, only_agg, only_tup, only_fn, and_self, implies_true, and_true, true_and, okL_nil, okL_cons, bonly_cells, bonly_tok, keepP_add, look_nil, look_cons, ↓reduceIte, Nat.reduceEqDiff, Option.isSome_some, reduceCtorEq, false_or, if_true, if_false, false_implies]); (try first | done | omega | (intro _ hx; obtain ⟨_, -, rfl⟩ := List.mem_map.1 hx; exact .lit _)))) (by ((try simp only [cells_agg, cells_lit, List.mem_cons, List.not_mem_nil, or_false, forall_eq_or_imp, forall_eq, only_any, only_lit', only_iptr, only_no, only_full, only_at, only_ptr, only_osl, only_agg, only_tup, only_fn, and_self, implies_true, and_true, true_and, okL_nil, okL_cons, bonly_cells, bonly_tok, keepP_add, look_nil, look_cons, ↓reduceIte, Nat.reduceEqDiff, Option.isSome_some, reduceCtorEq, false_or, if_true, if_false, false_implies]); (try first | done | omega | (intro _ hx; obtain ⟨_, -, rfl⟩ := List.mem_map.1 hx; exact .lit _))))
        · simp only [go_sem, hg]
          refine WE_pure _ _ _ _ _ _ _ _ (rAdd_c _ l _ N (by omega) _) ?_
          simp only [go_sem]
          have his2 := his.add N
          have hw2 := his2.len_le
          have hl2 := IsS.length_le his2
          obtain ⟨kk, mm, q1, q2, q3⟩ := next_facts his2 ask
          refine WE_pure _ _ _ _ _ _ _ _ (rAt_c _ (addL l N) _ ask (by omega) _) ?_
          simp only [go_sem]
          refine WE_pure _ _ _ _ _ _ _ _ (q1 ▸ q2 ▸ Next_own (b := n0 + 1) (vb := 0) (r := n0 + 2) (vr := v') (ws := addI ws N) (by rw [get_loc]; rfl) (by rw [get_loc]; rfl) ask hw2 ha.1 ha.2) ?_
          simp only [go_sem]
          refine WE_pure _ _ _ _ _ _ _ _ (his2.has ask ▸ Has_own (b := n0 + 1) (vb := 0) (r := n0 + 2) (vr := v') (ws := addI ws N) (by rw [get_loc]; rfl) (by rw [get_loc]; rfl) ask hw2 ha.1 ha.2) ?_
          simp only [go_sem]
          refine WE_pure _ _ _ _ _ _ _ _ (his2.len ▸ Len_own (b := n0 + 1) (vb := 0) (r := n0 + 2) (vr := v') (ws := addI ws N) (by rw [get_loc]; rfl) (by rw [get_loc]; rfl) hw2) ?_
          simp only [go_sem, List.length_map]
          rcases q3 with ⟨rfl, q4, q5⟩ | ⟨rfl, q4, q5⟩
          · have q6 : ((atN (addL l N) ask : Nat) : Int) < (((addL l N).length : Nat) : Int) := by omega
            simp only [go_sem, q6, Il_get _ _ q4, q5, List.length_map]
            (repeat (refine ⟨by omega, ?_⟩))
            refine LPF_next (i + 1, v', addI ws N, addL l N) ⟨by simp only; omega, by simp only; omega, his2⟩ (by simp only; omega) ?_
            rw [e1]
            refine imp_loc (by ((try simp only [cells_agg, cells_lit, leL_cons, leL_nil, leA_any, leA_lits, leA_isl, leA_self, and_self, true_and, and_true, or_true, true_or, Value.int.injEq, Value.bool.injEq, Value.string.injEq, AV.lit.injEq, Option.some.injEq, Blk.cells.injEq, Blk.tok.injEq, List.cons.injEq, Tk.at.injEq, subL_nil, subL_cons, look_nil, look_cons, ↓reduceIte, Nat.reduceEqDiff, Option.isSome_some, reduceCtorEq, or_false, false_or, if_true, if_false]); (try first | done | omega | (simp; done) | (simp; omega)))) (by ((try simp only [cells_agg, cells_lit, leL_cons, leL_nil, leA_any, leA_lits, leA_isl, leA_self, and_self, true_and, and_true, or_true, true_or, Value.int.injEq, Value.bool.injEq, Value.string.injEq, AV.lit.injEq, Option.some.injEq, Blk.cells.injEq, Blk.tok.injEq, List.cons.injEq, Tk.at.injEq, subL_nil, subL_cons, look_nil, look_cons, ↓reduceIte, Nat.reduceEqDiff, Option.isSome_some, reduceCtorEq, or_false, false_or, if_true, if_false]); (try first | done | omega | (simp; done) | (simp; omega)))) (by ((try simp only [cells_agg, cells_lit, List.mem_cons, List.not_mem_nil, or_false, forall_eq_or_imp, forall_eq, only_any, only_lit', only_iptr, only_no, only_full, only_at, only_ptr, only_osl, only_agg, only_tup, only_fn, and_self, implies_true, and_true, true_and, okL_nil, okL_cons, bonly_cells, bonly_tok, keepP_add, look_nil, look_cons, ↓reduceIte, Nat.reduceEqDiff, Option.isSome_some, reduceCtorEq, false_or, if_true, if_false, false_implies]); (try first | done | omega | (intro _ hx; obtain ⟨_, -, rfl⟩ := List.mem_map.1 hx; exact .lit _)))) (by ((try simp only [cells_agg, cells_lit, List.mem_cons, List.not_mem_nil, or_false, forall_eq_or_imp, forall_eq, only_any, only_lit', only_iptr, only_no, only_full, only_at, only_ptr, only_osl, only_agg, only_tup, only_fn, and_self, implies_true, and_true, true_and, okL_nil, okL_cons, bonly_cells, bonly_tok, keepP_add, look_nil, look_cons, ↓reduceIte, Nat.reduceEqDiff, Option.isSome_some, reduceCtorEq, false_or, if_true, if_false, false_implies]); (try first | done | omega | (intro _ hx; obtain ⟨_, -, rfl⟩ := List.mem_map.1 hx; exact .lit _))))
          · subst q5
            have q6 : ¬ ((atN (addL l N) ask : Nat) : Int) < (((addL l N).length : Nat) : Int) := by omega
            simp only [go_sem, q6, List.length_map]
            (repeat (refine ⟨by omega, ?_⟩))
            refine LPF_next (i + 1, v', addI ws N, addL l N) ⟨by simp only; omega, by simp only; omega, his2⟩ (by simp only; omega) ?_
            rw [e1]
            refine imp_loc (by ((try simp only [cells_agg, cells_lit, leL_cons, leL_nil, leA_any, leA_lits, leA_isl, leA_self, and_self, true_and, and_true, or_true, true_or, Value.int.injEq, Value.bool.injEq, Value.string.injEq, AV.lit.injEq, Option.some.injEq, Blk.cells.injEq, Blk.tok.injEq, List.cons.injEq, Tk.at.injEq, subL_nil, subL_cons, look_nil, look_cons, ↓reduceIte, Nat.reduceEqDiff, Option.isSome_some, reduceCtorEq, or_false, false_or, if_true, if_false]); (try first | done | omega | (simp; done) | (simp; omega)))) (by ((try simp only [cells_agg, cells_lit, leL_cons, leL_nil, leA_any, leA_lits, leA_isl, leA_self, and_self, true_and, and_true, or_true, true_or, Value.int.injEq, Value.bool.injEq, Value.string.injEq, AV.lit.injEq, Option.some.injEq, Blk.cells.injEq, Blk.tok.injEq, List.cons.injEq, Tk.at.injEq, subL_nil, subL_cons, look_nil, look_cons, ↓reduceIte, Nat.reduceEqDiff, Option.isSome_some, reduceCtorEq, or_false, false_or, if_true, if_false]); (try first | done | omega | (simp; done) | (simp; omega)))) (by ((try simp only [cells_agg, cells_lit, List.mem_cons, List.not_mem_nil, or_false, forall_eq_or_imp, forall_eq, only_any, only_lit', only_iptr, only_no, only_full, only_at, only_ptr, only_osl, only_agg, only_tup, only_fn, and_self, implies_true, and_true, true_and, okL_nil, okL_cons, bonly_cells, bonly_tok, keepP_add, look_nil, look_cons, ↓reduceIte, Nat.reduceEqDiff, Option.isSome_some, reduceCtorEq, false_or, if_true, if_false, false_implies]); (try first | done | omega | (intro _ hx; obtain ⟨_, -, rfl⟩ := List.mem_map.1 hx; exact .lit _)))) (by ((try simp only [cells_agg, cells_lit, List.mem_cons, List.not_mem_nil, or_false, forall_eq_or_imp, forall_eq, only_any, only_lit', only_iptr, only_no, only_full, only_at, only_ptr, only_osl, only_agg, only_tup, only_fn, and_self, implies_true, and_true, true_and, okL_nil, okL_cons, bonly_cells, bonly_tok, keepP_add, look_nil, look_cons, ↓reduceIte, Nat.reduceEqDiff, Option.isSome_some, reduceCtorEq, false_or, if_true, if_false, false_implies]); (try first | done | omega | (intro _ hx; obtain ⟨_, -, rfl⟩ := List.mem_map.1 hx; exact .lit _))))
    · have htw : (Wl ws).take ws.length = Wl ws := by rw [← Wl_len ws, List.take_length]
      have hwl := IsS.words his.rises his.good l.length (Nat.le_refl _)
      rw [List.take_length] at hwl
      have hwn : decide (ws = wordsL l) = true := decide_eq_true (his.unique hwl)
      by_cases h1 : i < L.length
      · have c1 : (i : Int) < (L.length : Int) := by omega
        have c2 : ¬ (i : Int) < 60 := by omega
        simp only [go_sem, c1, c2]
        refine LPF_exit (fr' := [.any, .any, .any, .any, .any, SI ws, .isl none (Il l) .no, .any, .any, .any, .any, .any, .any, .any, .any, .any, .any, .any, .any, .any, .any, .any, .any, .any, .any, .any, .any, .any, .any, .any, .any, .any, .any, .any, .any, .any, .any, .any, .any, .any, .any, .any, .any, .any, .any, .any, .any, .any, .any, .any, .any, .any, .any, .any, .any, .any, .any, .any, .any, .any, .any, .any, .any, .any, .any, .any, .any, .any, .any, .any, .any, .any, .any, .any, .any, .any, .any, .any, .any, .any, .any, .any, .any, .any, .any, .any, .any, .any, .any, .any, .any, .any, .any, .any, .any, .any, .any, .any, .any, .any, .any, .any, .any, .any, .any, .any, .any, .any, .any, .any, .any, .any, .any, .any, .any, .any, .any, .any, .any, .any, .any, .any, .any, .any, .any, .any, .any, .any, .any, .any, .any, .any]) (h' := ⟨g, []⟩) ?_ ?_
        · refine Imp.trans (fr' := [.any, .any, .any, .any, .any, .ptr (n0 + 1) 0 0, .isl none (Il l) .no, .any, .any, .any, .any, .any, .any, .any, .any, .any, .any, .any, .any, .any, .any, .any, .any, .any, .any, .any, .any, .any, .any, .any, .any, .any, .any, .any, .any, .any, .any, .any, .any, .any, .any, .any, .any, .any, .any, .any, .any, .any, .any, .any, .any, .any, .any, .any, .any, .any, .any, .any, .any, .any, .any, .any, .any, .any, .any, .any, .any, .any, .any, .any, .any, .any, .any, .any, .any, .any, .any, .any, .any, .any, .any, .any, .any, .any, .any, .any, .any, .any, .any, .any, .any, .any, .any, .any, .any, .any, .any, .any, .any, .any, .any, .any, .any, .any, .any, .any, .any, .any, .any, .any, .any, .any, .any, .any, .any, .any, .any, .any, .any, .any, .any, .any, .any, .any, .any, .any, .any, .any, .any, .any, .any, .any]) (h' := ⟨g, [(1, .cells 0 [.osl (n0 + 2) v 1 0 ws.length]), (2, .cells v (Wl ws))]⟩) (by refine imp_loc (by ((try simp only [cells_agg, cells_lit, leL_cons, leL_nil, leA_any, leA_lits, leA_isl, leA_self, and_self, true_and, and_true, or_true, true_or, Value.int.injEq, Value.bool.injEq, Value.string.injEq, AV.lit.injEq, Option.some.injEq, Blk.cells.injEq, Blk.tok.injEq, List.cons.injEq, Tk.at.injEq, subL_nil, subL_cons, look_nil, look_cons, ↓reduceIte, Nat.reduceEqDiff, Option.isSome_some, reduceCtorEq, or_false, false_or, if_true, if_false]); (try first | done | omega | (simp; done) | (simp; omega)))) (by ((try simp only [cells_agg, cells_lit, leL_cons, leL_nil, leA_any, leA_lits, leA_isl, leA_self, and_self, true_and, and_true, or_true, true_or, Value.int.injEq, Value.bool.injEq, Value.string.injEq, AV.lit.injEq, Option.some.injEq, Blk.cells.injEq, Blk.tok.injEq, List.cons.injEq, Tk.at.injEq, subL_nil, subL_cons, look_nil, look_cons, ↓reduceIte, Nat.reduceEqDiff, Option.isSome_some, reduceCtorEq, or_false, false_or, if_true, if_false]); (try first | done | omega | (simp; done) | (simp; omega)))) (by ((try simp only [cells_agg, cells_lit, List.mem_cons, List.not_mem_nil, or_false, forall_eq_or_imp, forall_eq, only_any, only_lit', only_iptr, only_no, only_full, only_at, only_ptr, only_osl, only_agg, only_tup, only_fn, and_self, implies_true, and_true, true_and, okL_nil, okL_cons, bonly_cells, bonly_tok, keepP_add, look_nil, look_cons, ↓reduceIte, Nat.reduceEqDiff, Option.isSome_some, reduceCtorEq, false_or, if_true, if_false, false_implies]); (try first | done | omega | (intro _ hx; obtain ⟨_, -, rfl⟩ := List.mem_map.1 hx; exact .lit _)))) (by ((try simp only [cells_agg, cells_lit, List.mem_cons, List.not_mem_nil, or_false, forall_eq_or_imp, forall_eq, only_any, only_lit', only_iptr, only_no, only_full, only_at, only_ptr, only_osl, only_agg, only_tup, only_fn, and_self, implies_true, and_true, true_and, okL_nil, okL_cons, bonly_cells, bonly_tok, keepP_add, look_nil, look_cons, ↓reduceIte, Nat.reduceEqDiff, Option.isSome_some, reduceCtorEq, false_or, if_true, if_false, false_implies]); (try first | done | omega | (intro _ hx; obtain ⟨_, -, rfl⟩ := List.mem_map.1 hx; exact .lit _))))) ?_
          refine Imp.trans (imp_freeze (fr' := [.any, .any, .any, .any, .any, .ptr (n0 + 1) 0 0, .isl none (Il l) .no, .any, .any, .any, .any, .any, .any, .any, .any, .any, .any, .any, .any, .any, .any, .any, .any, .any, .any, .any, .any, .any, .any, .any, .any, .any, .any, .any, .any, .any, .any, .any, .any, .any, .any, .any, .any, .any, .any, .any, .any, .any, .any, .any, .any, .any, .any, .any, .any, .any, .any, .any, .any, .any, .any, .any, .any, .any, .any, .any, .any, .any, .any, .any, .any, .any, .any, .any, .any, .any, .any, .any, .any, .any, .any, .any, .any, .any, .any, .any, .any, .any, .any, .any, .any, .any, .any, .any, .any, .any, .any, .any, .any, .any, .any, .any, .any, .any, .any, .any, .any, .any, .any, .any, .any, .any, .any, .any, .any, .any, .any, .any, .any, .any, .any, .any, .any, .any, .any, .any, .any, .any, .any, .any, .any, .any]) (loc' := [(1, .cells 0 [.isl none (Wl ws) .no])]) 2 v (Wl ws) (by first | rfl | (simp only [look_cons, ↓reduceIte, Nat.reduceEqDiff]; done)) (Wl_idf _) (by ((try simp only [leFL_nil, leFL_cons, leF_any, leF_lit, leF_ptrs, leF_osls, leF_iptrs, leF_islno, leF_islfull, leF_islat, leF_ptr, leF_osl, leFB_cells, leFB_tok, leFH_nil, leFH_cons, and_true, true_and, and_self, ↓reduceIte, Nat.reduceEqDiff, ne_eq, not_false_eq_true, not_true_eq_false, reduceCtorEq, Nat.add_left_cancel_iff, Nat.zero_add, List.drop_zero, Nat.add_eq_left, Wl_len, htw]); (try first | done | omega | (simp; done) | (simp; omega)))) (by ((try simp only [leFL_nil, leFL_cons, leF_any, leF_lit, leF_ptrs, leF_osls, leF_iptrs, leF_islno, leF_islfull, leF_islat, leF_ptr, leF_osl, leFB_cells, leFB_tok, leFH_nil, leFH_cons, and_true, true_and, and_self, ↓reduceIte, Nat.reduceEqDiff, ne_eq, not_false_eq_true, not_true_eq_false, reduceCtorEq, Nat.add_left_cancel_iff, Nat.zero_add, List.drop_zero, Nat.add_eq_left, Wl_len, htw]); (try first | done | omega | (simp; done) | (simp; omega))))) ?_
          refine Imp.trans (imp_freeze (fr' := [.any, .any, .any, .any, .any, SI ws, .isl none (Il l) .no, .any, .any, .any, .any, .any, .any, .any, .any, .any, .any, .any, .any, .any, .any, .any, .any, .any, .any, .any, .any, .any, .any, .any, .any, .any, .any, .any, .any, .any, .any, .any, .any, .any, .any, .any, .any, .any, .any, .any, .any, .any, .any, .any, .any, .any, .any, .any, .any, .any, .any, .any, .any, .any, .any, .any, .any, .any, .any, .any, .any, .any, .any, .any, .any, .any, .any, .any, .any, .any, .any, .any, .any, .any, .any, .any, .any, .any, .any, .any, .any, .any, .any, .any, .any, .any, .any, .any, .any, .any, .any, .any, .any, .any, .any, .any, .any, .any, .any, .any, .any, .any, .any, .any, .any, .any, .any, .any, .any, .any, .any, .any, .any, .any, .any, .any, .any, .any, .any, .any, .any, .any, .any, .any, .any, .any]) (loc' := []) 1 0 ([.isl none (Wl ws) .no]) (by first | rfl | (simp only [look_cons, ↓reduceIte, Nat.reduceEqDiff]; done)) (rfl) (by ((try simp only [leFL_nil, leFL_cons, leF_any, leF_lit, leF_ptrs, leF_osls, leF_iptrs, leF_islno, leF_islfull, leF_islat, leF_ptr, leF_osl, leFB_cells, leFB_tok, leFH_nil, leFH_cons, and_true, true_and, and_self, ↓reduceIte, Nat.reduceEqDiff, ne_eq, not_false_eq_true, not_true_eq_false, reduceCtorEq, Nat.add_left_cancel_iff, Nat.zero_add, List.drop_zero, Nat.add_eq_left]); (try first | done | omega | (simp; done) | (simp; omega)))) (by ((try simp only [leFL_nil, leFL_cons, leF_any, leF_lit, leF_ptrs, leF_osls, leF_iptrs, leF_islno, leF_islfull, leF_islat, leF_ptr, leF_osl, leFB_cells, leFB_tok, leFH_nil, leFH_cons, and_true, true_and, and_self, ↓reduceIte, Nat.reduceEqDiff, ne_eq, not_false_eq_true, not_true_eq_false, reduceCtorEq, Nat.add_left_cancel_iff, Nat.zero_add, List.drop_zero, Nat.add_eq_left]); (try first | done | omega | (simp; done) | (simp; omega))))) (Imp.refl _ _ _)
        · simp only [go_sem]
          refine WE_pure _ _ _ _ _ _ _ _ (list_c (.set ws) his hw _) ?_
          simp only [go_sem]
          refine WE_pure _ _ _ _ _ _ _ _ (rSame_c _ _ l l _ _ (by omega) _) ?_
          simp only [go_sem]
          refine WE_pure _ _ _ _ _ _ _ _ (Words_c (.set ws) hw _) ?_
          simp only [go_sem]
          refine WE_pure _ _ _ _ _ _ _ _ (rWords_c _ l _ his.rises his.good (by omega) _) ?_
          simp only [go_sem]
          refine WE_pure _ _ _ _ _ _ _ _ (hwn ▸ wSame_c _ _ ws (wordsL l) _ _ (by omega) _) ?_
          simp only [go_sem]
          refine WE_pure _ _ _ _ _ _ _ _ (lives_c _) ?_
          simp only [go_sem]
          refine FnPost_end hn0 (by simp) rfl (only_lit _ _) ?_
          simp only [go_sem]
          exact leA_refl _
      · have c1 : ¬ (i : Int) < (L.length : Int) := by omega
        simp only [go_sem, c1]
        refine LPF_exit (fr' := [.any, .any, .any, .any, .any, SI ws, .isl none (Il l) .no, .any, .any, .any, .any, .any, .any, .any, .any, .any, .any, .any, .any, .any, .any, .any, .any, .any, .any, .any, .any, .any, .any, .any, .any, .any, .any, .any, .any, .any, .any, .any, .any, .any, .any, .any, .any, .any, .any, .any, .any, .any, .any, .any, .any, .any, .any, .any, .any, .any, .any, .any, .any, .any, .any, .any, .any, .any, .any, .any, .any, .any, .any, .any, .any, .any, .any, .any, .any, .any, .any, .any, .any, .any, .any, .any, .any, .any, .any, .any, .any, .any, .any, .any, .any, .any, .any, .any, .any, .any, .any, .any, .any, .any, .any, .any, .any, .any, .any, .any, .any, .any, .any, .any, .any, .any, .any, .any, .any, .any, .any, .any, .any, .any, .any, .any, .any, .any, .any, .any, .any, .any, .any, .any, .any, .any]) (h' := ⟨g, []⟩) ?_ ?_
        · refine Imp.trans (fr' := [.any, .any, .any, .any, .any, .ptr (n0 + 1) 0 0, .isl none (Il l) .no, .any, .any, .any, .any, .any, .any, .any, .any, .any, .any, .any, .any, .any, .any, .any, .any, .any, .any, .any, .any, .any, .any, .any, .any, .any, .any, .any, .any, .any, .any, .any, .any, .any, .any, .any, .any, .any, .any, .any, .any, .any, .any, .any, .any, .any, .any, .any, .any, .any, .any, .any, .any, .any, .any, .any, .any, .any, .any, .any, .any, .any, .any, .any, .any, .any, .any, .any, .any, .any, .any, .any, .any, .any, .any, .any, .any, .any, .any, .any, .any, .any, .any, .any, .any, .any, .any, .any, .any, .any, .any, .any, .any, .any, .any, .any, .any, .any, .any, .any, .any, .any, .any, .any, .any, .any, .any, .any, .any, .any, .any, .any, .any, .any, .any, .any, .any, .any, .any, .any, .any, .any, .any, .any, .any, .any]) (h' := ⟨g, [(1, .cells 0 [.osl (n0 + 2) v 1 0 ws.length]), (2, .cells v (Wl ws))]⟩) (by refine imp_loc (by ((try simp only [cells_agg, cells_lit, leL_cons, leL_nil, leA_any, leA_lits, leA_isl, leA_self, and_self, true_and, and_true, or_true, true_or, Value.int.injEq, Value.bool.injEq, Value.string.injEq, AV.lit.injEq, Option.some.injEq, Blk.cells.injEq, Blk.tok.injEq, List.cons.injEq, Tk.at.injEq, subL_nil, subL_cons, look_nil, look_cons, ↓reduceIte, Nat.reduceEqDiff, Option.isSome_some, reduceCtorEq, or_false, false_or, if_true, if_false]); (try first | done | omega | (simp; done) | (simp; omega)))) (by ((try simp only [cells_agg, cells_lit, leL_cons, leL_nil, leA_any, leA_lits, leA_isl, leA_self, and_self, true_and, and_true, or_true, true_or, Value.int.injEq, Value.bool.injEq, Value.string.injEq, AV.lit.injEq, Option.some.injEq, Blk.cells.injEq, Blk.tok.injEq, List.cons.injEq, Tk.at.injEq, subL_nil, subL_cons, look_nil, look_cons, ↓reduceIte, Nat.reduceEqDiff, Option.isSome_some, reduceCtorEq, or_false, false_or, if_true, if_false]); (try first | done | omega | (simp; done) | (simp; omega)))) (by ((try simp only [cells_agg, cells_lit, List.mem_cons, List.not_mem_nil, or_false, forall_eq_or_imp, forall_eq, only_any, only_lit', only_iptr, only_no, only_full, only_at, only_ptr, only_osl, only_agg, only_tup, only_fn, and_self, implies_true, and_true, true_and, okL_nil, okL_cons, bonly_cells, bonly_tok, keepP_add, look_nil, look_cons, ↓reduceIte, Nat.reduceEqDiff, Option.isSome_some, reduceCtorEq, false_or, if_true, if_false, false_implies]); (try first | done | omega | (intro _ hx; obtain ⟨_, -, rfl⟩ := List.mem_map.1 hx; exact .lit _)))) (by ((try simp only [cells_agg, cells_lit, List.mem_cons, List.not_mem_nil, or_false, forall_eq_or_imp, forall_eq, only_any, only_lit', only_iptr, only_no, only_full, only_at, only_ptr, only_osl, only_agg, only_tup, only_fn, and_self, implies_true, and_true, true_and, okL_nil, okL_cons, bonly_cells, bonly_tok, keepP_add, look_nil, look_cons, ↓reduceIte, Nat.reduceEqDiff, Option.isSome_some, reduceCtorEq, false_or, if_true, if_false, false_implies]); (try first | done | omega | (intro _ hx; obtain ⟨_, -, rfl⟩ := List.mem_map.1 hx; exact .lit _))))) ?_
          refine Imp.trans (imp_freeze (fr' := [.any, .any, .any, .any, .any, .ptr (n0 + 1) 0 0, .isl none (Il l) .no, .any, .any, .any, .any, .any, .any, .any, .any, .any, .any, .any, .any, .any, .any, .any, .any, .any, .any, .any, .any, .any, .any, .any, .any, .any, .any, .any, .any, .any, .any, .any, .any, .any, .any, .any, .any, .any, .any, .any, .any, .any, .any, .any, .any, .any, .any, .any, .any, .any, .any, .any, .any, .any, .any, .any, .any, .any, .any, .any, .any, .any, .any, .any, .any, .any, .any, .any, .any, .any, .any, .any, .any, .any, .any, .any, .any, .any, .any, .any, .any, .any, .any, .any, .any, .any, .any, .any, .any, .any, .any, .any, .any, .any, .any, .any, .any, .any, .any, .any, .any, .any, .any, .any, .any, .any, .any, .any, .any, .any, .any, .any, .any, .any, .any, .any, .any, .any, .any, .any, .any, .any, .any, .any, .any, .any]) (loc' := [(1, .cells 0 [.isl none (Wl ws) .no])]) 2 v (Wl ws) (by first | rfl | (simp only [look_cons, ↓reduceIte, Nat.reduceEqDiff]; done)) (Wl_idf _) (by ((try simp only [leFL_nil, leFL_cons, leF_any, leF_lit, leF_ptrs, leF_osls, leF_iptrs, leF_islno, leF_islfull, leF_islat, leF_ptr, leF_osl, leFB_cells, leFB_tok, leFH_nil, leFH_cons, and_true, true_and, and_self, ↓reduceIte, Nat.reduceEqDiff, ne_eq, not_false_eq_true, not_true_eq_false, reduceCtorEq, Nat.add_left_cancel_iff, Nat.zero_add, List.drop_zero, Nat.add_eq_left, Wl_len, htw]); (try first | done | omega | (simp; done) | (simp; omega)))) (by ((try simp only [leFL_nil, leFL_cons, leF_any, leF_lit, leF_ptrs, leF_osls, leF_iptrs, leF_islno, leF_islfull, leF_islat, leF_ptr, leF_osl, leFB_cells, leFB_tok, leFH_nil, leFH_cons, and_true, true_and, and_self, ↓reduceIte, Nat.reduceEqDiff, ne_eq, not_false_eq_true, not_true_eq_false, reduceCtorEq, Nat.add_left_cancel_iff, Nat.zero_add, List.drop_zero, Nat.add_eq_left, Wl_len, htw]); (try first | done | omega | (simp; done) | (simp; omega))))) ?_
          refine Imp.trans (imp_freeze (fr' := [.any, .any, .any, .any, .any, SI ws, .isl none (Il l) .no, .any, .any, .any, .any, .any, .any, .any, .any, .any, .any, .any, .any, .any, .any, .any, .any, .any, .any, .any, .any, .any, .any, .any, .any, .any, .any, .any, .any, .any, .any, .any, .any, .any, .any, .any, .any, .any, .any, .any, .any, .any, .any, .any, .any, .any, .any, .any, .any, .any, .any, .any, .any, .any, .any, .any, .any, .any, .any, .any, .any, .any, .any, .any, .any, .any, .any, .any, .any, .any, .any, .any, .any, .any, .any, .any, .any, .any, .any, .any, .any, .any, .any, .any, .any, .any, .any, .any, .any, .any, .any, .any, .any, .any, .any, .any, .any, .any, .any, .any, .any, .any, .any, .any, .any, .any, .any, .any, .any, .any, .any, .any, .any, .any, .any, .any, .any, .any, .any, .any, .any, .any, .any, .any, .any, .any]) (loc' := []) 1 0 ([.isl none (Wl ws) .no]) (by first | rfl | (simp only [look_cons, ↓reduceIte, Nat.reduceEqDiff]; done)) (rfl) (by ((try simp only [leFL_nil, leFL_cons, leF_any, leF_lit, leF_ptrs, leF_osls, leF_iptrs, leF_islno, leF_islfull, leF_islat, leF_ptr, leF_osl, leFB_cells, leFB_tok, leFH_nil, leFH_cons, and_true, true_and, and_self, ↓reduceIte, Nat.reduceEqDiff, ne_eq, not_false_eq_true, not_true_eq_false, reduceCtorEq, Nat.add_left_cancel_iff, Nat.zero_add, List.drop_zero, Nat.add_eq_left]); (try first | done | omega | (simp; done) | (simp; omega)))) (by ((try simp only [leFL_nil, leFL_cons, leF_any, leF_lit, leF_ptrs, leF_osls, leF_iptrs, leF_islno, leF_islfull, leF_islat, leF_ptr, leF_osl, leFB_cells, leFB_tok, leFH_nil, leFH_cons, and_true, true_and, and_self, ↓reduceIte, Nat.reduceEqDiff, ne_eq, not_false_eq_true, not_true_eq_false, reduceCtorEq, Nat.add_left_cancel_iff, Nat.zero_add, List.drop_zero, Nat.add_eq_left]); (try first | done | omega | (simp; done) | (simp; omega))))) (Imp.refl _ _ _)
        · simp only [go_sem]
          refine WE_pure _ _ _ _ _ _ _ _ (list_c (.set ws) his hw _) ?_
          simp only [go_sem]
          refine WE_pure _ _ _ _ _ _ _ _ (rSame_c _ _ l l _ _ (by omega) _) ?_
          simp only [go_sem]
          refine WE_pure _ _ _ _ _ _ _ _ (Words_c (.set ws) hw _) ?_
          simp only [go_sem]
          refine WE_pure _ _ _ _ _ _ _ _ (rWords_c _ l _ his.rises his.good (by omega) _) ?_
          simp only [go_sem]
          refine WE_pure _ _ _ _ _ _ _ _ (hwn ▸ wSame_c _ _ ws (wordsL l) _ _ (by omega) _) ?_
          simp only [go_sem]
          refine WE_pure _ _ _ _ _ _ _ _ (lives_c _) ?_
          simp only [go_sem]
          refine FnPost_end hn0 (by simp) rfl (only_lit _ _) ?_
          simp only [go_sem]
          exact leA_refl _
set_option maxRecDepth 100000 in
theorem hasAc {n : Nat} {x : AV} (h : HasA Try.prog (n + 3) 74 x) : ∃ (b : Bool) (L : List (Int × Int)), x = .isl (some b) (Ac L) .no ∧ L.length ≤ 9000000000000000000 ∧ ∀ i, i < L.length → -9223372036854775808 ≤ (acG L i).2 ∧ (acG L i).2 ≤ 9223372036854775807 := by
  obtain ⟨cs, hx, h⟩ := h
  unfold HasT at h
  rw [Try.underlying74] at h
  obtain ⟨b, L, rfl, -, hl, hf⟩ := h
  have b76 : Try.prog.bytesOf 76 = 16 := by kernel_rfl
  have hag : HasT.isAggT Try.prog 76 = true := by unfold HasT.isAggT; rw [Try.underlying76]
  have c3 : Try.prog.cellsOf 3 = 1 := by kernel_rfl
  have c76 : Try.prog.cellsOf 76 = 2 := by kernel_rfl
  rw [b76] at hl
  have one : ∀ cs, HasT Try.prog (n + 2) 76 cs → ∃ k m : Int, cs = [I64 k, I64 m] ∧ -9223372036854775808 ≤ m ∧ m ≤ 9223372036854775807 := by
    intro cs h
    unfold HasT at h
    rw [Try.underlying76] at h
    obtain ⟨hl, hf⟩ := h
    rw [c76] at hl
    simp only [List.mem_cons, List.not_mem_nil, or_false, forall_eq_or_imp, forall_eq, c3] at hf
    obtain ⟨h0, h1⟩ := hf
    match cs, hl with
    | [x, y], _ =>
      unfold HasT at h0 h1
      rw [Try.underlying3] at h0 h1
      obtain ⟨k, hk, wk⟩ := h0
      obtain ⟨m, hm, wm⟩ := h1
      simp at hk hm
      subst hk; subst hm
      exact ⟨k, m, rfl, wf_i64 wm⟩
  have key : ∀ (L : List (List AV)), (∀ x, x ∈ L → x.length = Try.prog.cellsOf 76 ∧ HasT Try.prog (n + 2) 76 x) → ∃ V : List (Int × Int), L.map (elA true) = Ac V ∧ V.length = L.length ∧ ∀ p, p ∈ V → -9223372036854775808 ≤ p.2 ∧ p.2 ≤ 9223372036854775807 := by
    intro L
    induction L with
    | nil => exact fun _ => ⟨[], rfl, rfl, by simp⟩
    | cons y L ih =>
      intro hL
      obtain ⟨V, h1, h2, h3⟩ := ih fun x hx => hL x (by simp [hx])
      obtain ⟨-, hy⟩ := hL y List.mem_cons_self
      obtain ⟨k, m, rfl, hm⟩ := one y hy
      refine ⟨(k, m) :: V, by rw [List.map_cons, h1]; rfl, by simp [h2], ?_⟩
      intro w hw
      rcases List.mem_cons.1 hw with rfl | hw
      · exact hm
      · exact h3 w hw
  obtain ⟨V, h1, h2, h3⟩ := key L hf
  refine ⟨b, V, ?_, ?_, ?_⟩
  · rw [hx, hag, h1]; unfold elA HasT.isAggT; rw [Try.underlying74]; rfl
  · have : reachBytes ≤ 140737488351232 := Nat.le_refl _
    omega
  · intro i hi
    refine h3 _ ?_
    unfold acG; rw [List.getD_eq_getElem?_getD]; simp [hi]
theorem hasI3 {n : Nat} {x : AV} (h : HasA Try.prog (n + 1) 3 x) : ∃ z, x = I64 z ∧ -9223372036854775808 ≤ z ∧ z ≤ 9223372036854775807 := by
  obtain ⟨cs, hx, h⟩ := h
  unfold HasT at h
  rw [Try.underlying3] at h
  obtain ⟨z, rfl, hz⟩ := h
  refine ⟨z, ?_, wf_i64 hz⟩
  rw [hx]; unfold elA HasT.isAggT; rw [Try.underlying3]; rfl
theorem plays_row (x0 x1 : AV) (h0 : HasA Try.prog 5 74 x0) (h1 : HasA Try.prog 5 3 x1) (g : GH) : PureC Try.prog 13 [x0, x1] g (BB true) := by
  obtain ⟨b0, L, rfl, k0, r0⟩ := hasAc h0
  obtain ⟨z, rfl, hz⟩ := hasI3 h1
  exact law_plays _ L _ z k0 r0 hz g
end Go.Proofs.Ytmnjmeebadpgjaa.Set
