import Derived.Test.YtcnhpclfflcdfaaDoorQLexL
import Derived.Test.YtcnhpclfflcdfaaDoorQLexP
import Derived.Test.YtcnhpclfflcdfaaDoorQValBack
/- Which words are the same, and any words' text: the walks. -/
namespace Go.Proofs.YtcnhpclfflcdfaaDoorQ.Lex
open Go Go.Av Go.Proofs.YtcnhpclfflcdfaaDoorQ.Val
set_option linter.unusedSimpArgs false
set_option linter.unusedVariables false
open Go.RowKit
theorem toListE (a b : ByteArray) : a.toList = b.toList ↔ a = b := by
  rw [ByteArray.toList_eq, ByteArray.toList_eq]
  exact ⟨fun h => ByteArray.ext (Array.toList_inj.1 h), fun h => h ▸ rfl⟩
set_option maxHeartbeats 1000000 in
set_option maxRecDepth 100000 in
theorem same1_w (x y : Wd) (W : World) : Calls Tryd.prog 69 #[wV x, wV y] W fun e W' => e = .returned (.bool (decide (stripW x = stripW y))) ∧ Below W.heap.size W W' := by
  obtain ⟨x1, x2, x3, x4, x5, x6⟩ := x
  obtain ⟨y1, y2, y3, y4, y5, y6⟩ := y
  go_enter Tryd.func69, Tryd.ntmps69
  go_wp2
  all_goals (
    go_ret
    refine ⟨?_, ((Below.refl W.heap.size W).alloc (Nat.le_refl _) _).alloc (by simp) _⟩
    refine congrArg (fun b => Ending.returned (Value.bool b)) ?_
    rw [eq_comm]
    simp only [decide_eq_true_eq, decide_eq_false_iff_not, stripW, Prod.mk.injEq, ← toListE]
    simp_all)
/-- as PureC.of_below, at any arguments whose values are known -/
theorem of_belowA {P : Program} {f : FuncId} {av : List AV} {vs0 : List Value} {r : Value} (hl : av.length = vs0.length) (hv : ∀ (M : Mem) (φ : Phi) (i : Nat) (a : AV) (v v0 : Value), av[i]? = some a → vs0[i]? = some v0 → Rep M φ a v → v = v0) (h : ∀ w, BaseW w → Calls P f vs0.toArray w fun e w' => e = .returned r ∧ Below w.heap.size w w') (g : GH) : PureC P f av g (.lit r) := by
  intro n w0 M φ w vs hdom hw hr
  have hvs : vs = vs0.toArray := by
    apply Array.ext'
    have hl1 : av.length = vs.toList.length := hr.1
    apply List.ext_getElem?
    intro i
    by_cases hi : i < av.length
    · have h1 := hr.2 i (av[i]) (vs.toList[i]'(by omega)) (by simp [hi]) (by simp)
      have h2 := hv M φ i _ _ (vs0[i]'(by omega)) (by simp [hi]) (by simp) h1
      rw [List.getElem?_eq_getElem (by omega), h2]
      exact (List.getElem?_eq_getElem (by omega)).symm
    · rw [List.getElem?_eq_none (by omega), List.getElem?_eq_none (by simpa using (by omega : vs0.length ≤ i))]
  subst hvs
  refine (h w hw.baseNow).mono ?_
  rintro e w' ⟨rfl, bel⟩
  have hlt : ∀ r j v, M r j = some v → r < w.heap.size := fun r j v hm => cell_lt (hw.mem r j v hm)
  refine ⟨M, φ, _, _, g, rfl, Mem.le.refl _, Phi.le.refl _, hdom, ?_, .lit _, rfl, rfl⟩
  exact hw.grow (hw.below.trans (bel.mono hw.below.size)) (fun r j v hm => by rw [bel.cell (p := ⟨r, j, none⟩) (hlt r j v hm)]; exact hw.mem r j v hm) (Mem.le.refl _) fun r hr => ⟨bel.block r hr, fun _ => rfl⟩
theorem rep_wA {M : Mem} {φ : Phi} {x : Wd} {v : Value} (h : Rep M φ (wA x) v) : v = wV x := by
  cases h with
  | @agg _ _ vs hl hr =>
    obtain ⟨l⟩ := vs
    match l, hl with
    | [a, b, c, d, e, f], _ =>
      have e0 := lit_inv (hr 0 _ a rfl rfl)
      have e1 := lit_inv (hr 1 _ b rfl rfl)
      have e2 := lit_inv (hr 2 _ c rfl rfl)
      have e3 := lit_inv (hr 3 _ d rfl rfl)
      have e4 := lit_inv (hr 4 _ e rfl rfl)
      have e5 := lit_inv (hr 5 _ f rfl rfl)
      subst e0 e1 e2 e3 e4 e5
      rfl
theorem same1_c (x y : Wd) (g : GH) : PureC Tryd.prog 69 [wA x, wA y] g (BB (decide (stripW x = stripW y))) := by
  refine of_belowA (vs0 := [wV x, wV y]) rfl ?_ (fun w _ => same1_w x y w) g
  intro M φ i a v v0 ha hv hr
  match i, ha, hv with
  | 0, ha, hv => cases ha; cases hv; exact rep_wA hr
  | 1, ha, hv => cases ha; cases hv; exact rep_wA hr
  | i + 2, ha, hv => simp at ha
theorem EqF_c (a b : List Wd) (nl nl2 : Option Bool) (tok tok2 : Tk) (hl : a.length ≤ 9000000000000000000) (g : GH) : PureC Tryd.prog 68 [.isl nl (Wds a) tok, .isl nl2 (Wds b) tok2, .fn 69 []] g (BB (decide (a.map stripW = b.map stripW))) := by
  refine CallC.body (fun _ => none) (fun _ => 0) Tryd.func68 rfl Tryd.results68 Tryd.ntmps68 ?_
  intro n0 hn0
  simp only [go_sem]
  by_cases hab : (a.length : Int) = (b.length : Int)
  · simp only [go_sem, List.length_map, eq_true hab]
    refine WC_loop (fun i : Nat => [.any, .isl nl2 (Wds b) .no, .fn 69 [], .any, .any, .any, .any, .any, .any, .any, .any, .any, .any, .any, .any, .isl nl (Wds a) .no, I64 a.length, I64 i, .any, .any, .any, .any, .any, .any, .any, .any, .any, .any, .any, .any, .any, .any]) (fun i => ⟨g, []⟩) (fun i => i ≤ a.length ∧ ∀ j, j < i → stripW (a.getD j w0) = stripW (b.getD j w0)) (fun i => a.length - i) 0 ⟨by simp, fun j hj => by omega⟩ ?_ ?_
    · refine imp_loc (by ((try simp only [cells_agg, cells_lit, leL_cons, leL_nil, leA_any, leA_lits, leA_isl, leA_self, and_self, true_and, and_true, or_true, true_or, Value.int.injEq, Value.bool.injEq, Value.string.injEq, AV.lit.injEq, Option.some.injEq, Blk.cells.injEq, Blk.tok.injEq, List.cons.injEq, Tk.at.injEq, subL_nil, subL_cons, look_nil, look_cons, ↓reduceIte, Nat.reduceEqDiff, Option.isSome_some, reduceCtorEq, or_false, false_or, if_true, if_false, hab]); (try first | done | omega | (simp; done) | (simp; omega)))) (by ((try simp only [cells_agg, cells_lit, leL_cons, leL_nil, leA_any, leA_lits, leA_isl, leA_self, and_self, true_and, and_true, or_true, true_or, Value.int.injEq, Value.bool.injEq, Value.string.injEq, AV.lit.injEq, Option.some.injEq, Blk.cells.injEq, Blk.tok.injEq, List.cons.injEq, Tk.at.injEq, subL_nil, subL_cons, look_nil, look_cons, ↓reduceIte, Nat.reduceEqDiff, Option.isSome_some, reduceCtorEq, or_false, false_or, if_true, if_false, hab]); (try first | done | omega | (simp; done) | (simp; omega)))) (by ((try simp only [cells_agg, cells_lit, List.mem_cons, List.not_mem_nil, or_false, forall_eq_or_imp, forall_eq, only_any, only_lit', only_iptr, only_no, only_full, only_at, only_ptr, only_osl, only_agg, only_tup, only_fn, and_self, implies_true, and_true, true_and, okL_nil, okL_cons, bonly_cells, bonly_tok, keepP_add, look_nil, look_cons, ↓reduceIte, Nat.reduceEqDiff, Option.isSome_some, reduceCtorEq, false_or, if_true, if_false, false_implies, hab]); (try first | done | omega | ((repeat' refine And.intro ?_ ?_) <;> (intro _ hx; obtain ⟨_, -, rfl⟩ := List.mem_map.1 hx; exact .lit _))))) (by ((try simp only [cells_agg, cells_lit, List.mem_cons, List.not_mem_nil, or_false, forall_eq_or_imp, forall_eq, only_any, only_lit', only_iptr, only_no, only_full, only_at, only_ptr, only_osl, only_agg, only_tup, only_fn, and_self, implies_true, and_true, true_and, okL_nil, okL_cons, bonly_cells, bonly_tok, keepP_add, look_nil, look_cons, ↓reduceIte, Nat.reduceEqDiff, Option.isSome_some, reduceCtorEq, false_or, if_true, if_false, false_implies, hab]); (try first | done | omega | ((repeat' refine And.intro ?_ ?_) <;> (intro _ hx; obtain ⟨_, -, rfl⟩ := List.mem_map.1 hx; exact .lit _)))))
    · rintro i ⟨hi, hi2⟩
      simp only [go_sem, List.length_map]
      split
      · rename_i hlt
        have hlt : i < a.length := by omega
        have hltb : i < b.length := by omega
        have e1 : IntKind.i64.wrap ((i : Int) + 1) = ((i + 1 : Nat) : Int) := by rw [wrap_i64]; omega
        have hgi : ∀ h : a.map stripW = b.map stripW, stripW (a.getD i w0) = stripW (b.getD i w0) := fun h => same_get h i hlt
        have nx : stripW (a.getD i w0) = stripW (b.getD i w0) → ∀ j, j < i + 1 → stripW (a.getD j w0) = stripW (b.getD j w0) := fun h j hj => by
          by_cases e : j = i
          · rw [e]; exact h
          · exact hi2 j (by omega)
        have ga := Wds_get a i hlt
        have gb := Wds_get b i hltb
        generalize a.getD i w0 = x at *
        generalize b.getD i w0 = y at *
        simp only [go_sem, ga, gb, List.length_map]
        (repeat (refine ⟨by omega, ?_⟩))
        refine WE_pure _ _ _ _ _ _ _ _ (same1_c x y _) ?_
        simp only [go_sem]
        split
        · rename_i hne
          refine FnPost_end hn0 (by simp) rfl (only_lit _ _) ?_
          simp only [go_sem]
          exact leA_bool (decide_eq_false fun h => hne (hgi h)).symm
        · rename_i hne
          refine LP_next (i + 1) ⟨by omega, nx (Classical.not_not.1 hne)⟩ (by omega) ?_
          rw [e1]
          refine imp_loc (by ((try simp only [cells_agg, cells_lit, leL_cons, leL_nil, leA_any, leA_lits, leA_isl, leA_self, and_self, true_and, and_true, or_true, true_or, Value.int.injEq, Value.bool.injEq, Value.string.injEq, AV.lit.injEq, Option.some.injEq, Blk.cells.injEq, Blk.tok.injEq, List.cons.injEq, Tk.at.injEq, subL_nil, subL_cons, look_nil, look_cons, ↓reduceIte, Nat.reduceEqDiff, Option.isSome_some, reduceCtorEq, or_false, false_or, if_true, if_false]); (try first | done | omega | (simp; done) | (simp; omega)))) (by ((try simp only [cells_agg, cells_lit, leL_cons, leL_nil, leA_any, leA_lits, leA_isl, leA_self, and_self, true_and, and_true, or_true, true_or, Value.int.injEq, Value.bool.injEq, Value.string.injEq, AV.lit.injEq, Option.some.injEq, Blk.cells.injEq, Blk.tok.injEq, List.cons.injEq, Tk.at.injEq, subL_nil, subL_cons, look_nil, look_cons, ↓reduceIte, Nat.reduceEqDiff, Option.isSome_some, reduceCtorEq, or_false, false_or, if_true, if_false]); (try first | done | omega | (simp; done) | (simp; omega)))) (by ((try simp only [cells_agg, cells_lit, List.mem_cons, List.not_mem_nil, or_false, forall_eq_or_imp, forall_eq, only_any, only_lit', only_iptr, only_no, only_full, only_at, only_ptr, only_osl, only_agg, only_tup, only_fn, and_self, implies_true, and_true, true_and, okL_nil, okL_cons, bonly_cells, bonly_tok, keepP_add, look_nil, look_cons, ↓reduceIte, Nat.reduceEqDiff, Option.isSome_some, reduceCtorEq, false_or, if_true, if_false, false_implies]); (try first | done | omega | ((repeat' refine And.intro ?_ ?_) <;> (intro _ hx; obtain ⟨_, -, rfl⟩ := List.mem_map.1 hx; exact .lit _))))) (by ((try simp only [cells_agg, cells_lit, List.mem_cons, List.not_mem_nil, or_false, forall_eq_or_imp, forall_eq, only_any, only_lit', only_iptr, only_no, only_full, only_at, only_ptr, only_osl, only_agg, only_tup, only_fn, and_self, implies_true, and_true, true_and, okL_nil, okL_cons, bonly_cells, bonly_tok, keepP_add, look_nil, look_cons, ↓reduceIte, Nat.reduceEqDiff, Option.isSome_some, reduceCtorEq, false_or, if_true, if_false, false_implies]); (try first | done | omega | ((repeat' refine And.intro ?_ ?_) <;> (intro _ hx; obtain ⟨_, -, rfl⟩ := List.mem_map.1 hx; exact .lit _)))))
      · have : i = a.length := by omega
        subst this
        refine FnPost_end hn0 (by simp) rfl (only_lit _ _) ?_
        simp only [go_sem]
        exact leA_bool (decide_eq_true (same_ext a b (by omega) hi2)).symm
  · simp only [go_sem, List.length_map, eq_false hab]
    refine FnPost_end hn0 (by simp) rfl (only_lit _ _) ?_
    simp only [go_sem]
    exact leA_bool (decide_eq_false fun h => hab (by have := congrArg List.length h; simp at this; omega)).symm
theorem Same_c (a b : List Wd) (nl nl2 : Option Bool) (tok tok2 : Tk) (hl : a.length ≤ 9000000000000000000) (g : GH) : PureC Tryd.prog 27 [.isl nl (Wds a) tok, .isl nl2 (Wds b) tok2] g (BB (decide (a.map stripW = b.map stripW))) := by
  refine CallC.body (fun _ => none) (fun _ => 0) Tryd.func27 rfl Tryd.results27 Tryd.ntmps27 ?_
  intro n0 hn0
  simp only [go_sem]
  refine WE_pure _ _ _ _ _ _ _ _ (EqF_c a b nl nl2 tok tok2 hl _) ?_
  simp only [go_sem]
  refine FnPost_end hn0 (by simp) rfl (only_lit _ _) ?_
  simp only [go_sem]
  exact leA_refl _
theorem rPrintW_c (ws : List Wd) (hs : ∀ w, w ∈ ws → w.2.2.2.2.1.size ≤ 1000) (ht : ∀ w, w ∈ ws → (txtS w).size ≤ 5000) (hn : ws.length ≤ 1000) (nl : Option Bool) (tok : Tk) (g : GH) : PureC Tryd.prog 25 [.isl nl (Wds ws) tok] g (SS (printS ws)) := by
  refine CallC.body (fun _ => none) (fun _ => 0) Tryd.func25 rfl Tryd.results25 Tryd.ntmps25 ?_
  intro n0 hn0
  simp only [go_sem]
  refine WC_loop (fun i : Nat => [.isl nl (Wds ws) .no, .any, .any, SS (outL ws i), I64 i, .any, .any, .any, .any, .any, .any, .any, .any, .any, .any, .any, .any, .any, .any, .any, .any, .any, .any, .any, .any, .any, .any, .any, .any, .any, .any, .any, .any, .any, .any, .any, .any, .any, .any, .any, .any, .any, .any, .any, .any, .any, .any, .any, .any, .any, .any, .any]) (fun i => ⟨g, []⟩) (fun i => i ≤ ws.length) (fun i => ws.length - i) 0 (by simp) ?_ ?_
  · refine imp_loc (by ((try simp only [cells_agg, cells_lit, leL_cons, leL_nil, leA_any, leA_lits, leA_isl, leA_self, and_self, true_and, and_true, or_true, true_or, Value.int.injEq, Value.bool.injEq, Value.string.injEq, AV.lit.injEq, Option.some.injEq, Blk.cells.injEq, Blk.tok.injEq, List.cons.injEq, Tk.at.injEq, subL_nil, subL_cons, look_nil, look_cons, ↓reduceIte, Nat.reduceEqDiff, Option.isSome_some, reduceCtorEq, or_false, false_or, if_true, if_false, outL]); (try first | done | omega | (simp; done) | (simp; omega)))) (by ((try simp only [cells_agg, cells_lit, leL_cons, leL_nil, leA_any, leA_lits, leA_isl, leA_self, and_self, true_and, and_true, or_true, true_or, Value.int.injEq, Value.bool.injEq, Value.string.injEq, AV.lit.injEq, Option.some.injEq, Blk.cells.injEq, Blk.tok.injEq, List.cons.injEq, Tk.at.injEq, subL_nil, subL_cons, look_nil, look_cons, ↓reduceIte, Nat.reduceEqDiff, Option.isSome_some, reduceCtorEq, or_false, false_or, if_true, if_false, outL]); (try first | done | omega | (simp; done) | (simp; omega)))) (by ((try simp only [cells_agg, cells_lit, List.mem_cons, List.not_mem_nil, or_false, forall_eq_or_imp, forall_eq, only_any, only_lit', only_iptr, only_no, only_full, only_at, only_ptr, only_osl, only_agg, only_tup, only_fn, and_self, implies_true, and_true, true_and, okL_nil, okL_cons, bonly_cells, bonly_tok, keepP_add, look_nil, look_cons, ↓reduceIte, Nat.reduceEqDiff, Option.isSome_some, reduceCtorEq, false_or, if_true, if_false, false_implies, outL]); (try first | done | omega | ((repeat' refine And.intro ?_ ?_) <;> (intro _ hx; obtain ⟨_, -, rfl⟩ := List.mem_map.1 hx; exact .lit _))))) (by ((try simp only [cells_agg, cells_lit, List.mem_cons, List.not_mem_nil, or_false, forall_eq_or_imp, forall_eq, only_any, only_lit', only_iptr, only_no, only_full, only_at, only_ptr, only_osl, only_agg, only_tup, only_fn, and_self, implies_true, and_true, true_and, okL_nil, okL_cons, bonly_cells, bonly_tok, keepP_add, look_nil, look_cons, ↓reduceIte, Nat.reduceEqDiff, Option.isSome_some, reduceCtorEq, false_or, if_true, if_false, false_implies, outL]); (try first | done | omega | ((repeat' refine And.intro ?_ ?_) <;> (intro _ hx; obtain ⟨_, -, rfl⟩ := List.mem_map.1 hx; exact .lit _)))))
  · intro i hi
    simp only [go_sem, List.length_map]
    split
    · rename_i hlt
      have hlt : i < ws.length := by omega
      have e1 : IntKind.i64.wrap ((i : Int) + 1) = ((i + 1 : Nat) : Int) := by rw [wrap_i64]; omega
      have ga := Wds_get ws i hlt
      have hm : ws.getD i w0 ∈ ws := by rw [List.getD_eq_getElem?_getD, List.getElem?_eq_getElem hlt]; exact List.getElem_mem hlt
      have hqs := hs _ hm
      have hqt := ht _ hm
      have hos := outL_size ws ht i hi
      have hout : outL ws (i + 1) = (if 0 < i then outL ws i ++ (⟨#[32]⟩ : ByteArray) else outL ws i) ++ txtS (ws.getD i w0) := rfl
      clear hm
      generalize ws.getD i w0 = q at *
      obtain ⟨qk, qt, vk, vn, vt, qa⟩ := q
      simp only at hqs
      have hz32 : (⟨#[32]⟩ : ByteArray).size = 1 := rfl
      have hB : ∀ o : ByteArray, o = (if 0 < i then outL ws i ++ (⟨#[32]⟩ : ByteArray) else outL ws i) → o.size ≤ 5002000 := by
        intro o h
        rw [h]
        split
        · rw [ByteArray.size_append]; omega
        · omega
      have stp : ∀ o : ByteArray, o = (if 0 < i then outL ws i ++ (⟨#[32]⟩ : ByteArray) else outL ws i) → ∀ t, t = txtS (qk, qt, vk, vn, vt, qa) → outL ws (i + 1) = o ++ t := by
        intro o h t h2
        rw [hout, h, h2]
      have emp : ∀ o : ByteArray, o ++ (⟨#[]⟩ : ByteArray) = o := fun o => by apply ByteArray.ext; rw [ByteArray.data_append]; simp
      have t1 : qk ≠ 3 → qt = txtS (qk, qt, vk, vn, vt, qa) := fun h => by unfold txtS; rw [if_neg h]
      have t2 : qk = 3 → (goodB vk vn vt = false ∨ vk = 0) → (⟨#[]⟩ : ByteArray) = txtS (qk, qt, vk, vn, vt, qa) := fun h h2 => by unfold txtS; rw [if_pos h, if_pos h2]
      have t3 : qk = 3 → ¬ (goodB vk vn vt = false ∨ vk = 0) → prV vk vn vt = txtS (qk, qt, vk, vn, vt, qa) := fun h h2 => by unfold txtS; rw [if_pos h, if_neg h2]
      have hvk : goodB vk vn vt = true → (vk = 0 ∨ 0 < vk) := fun h => by
        have : goodF vk vn vt := by unfold goodB at h; simpa using h
        rcases this with ⟨h, -⟩ | ⟨h, -⟩ | ⟨h, -⟩ <;> omega
      generalize ho : (if 0 < i then outL ws i ++ (⟨#[32]⟩ : ByteArray) else outL ws i) = o' at *
      have hBo := hB _ rfl
      by_cases h0 : 0 < i
      · have c0 : (0 : Int) < (i : Int) := by omega
        rw [if_pos h0] at ho
        simp only [go_sem, List.length_map, ga, c0, ho]
        refine ⟨by show ((((outL ws i).size + 1 : Nat)) : Int) ≤ _; omega, ?_⟩
        (repeat (refine ⟨by omega, ?_⟩))
        by_cases hk : qk = 3
        · rw [if_pos hk]
          (repeat (refine ⟨by omega, ?_⟩))
          cases hg : goodB vk vn vt
          · refine WE_pure _ _ _ _ _ _ _ _ (rGood_c vk vn vt (by omega) _) ?_
            simp only [go_sem, hg, ho]
            have hx := stp _ rfl _ (t2 hk (.inl hg))
            rw [emp] at hx
            refine LP_next (i + 1) (by omega) (by omega) ?_
            rw [e1]
            refine imp_loc (by ((try simp only [cells_agg, cells_lit, leL_cons, leL_nil, leA_any, leA_lits, leA_isl, leA_self, and_self, true_and, and_true, or_true, true_or, Value.int.injEq, Value.bool.injEq, Value.string.injEq, AV.lit.injEq, Option.some.injEq, Blk.cells.injEq, Blk.tok.injEq, List.cons.injEq, Tk.at.injEq, subL_nil, subL_cons, look_nil, look_cons, ↓reduceIte, Nat.reduceEqDiff, Option.isSome_some, reduceCtorEq, or_false, false_or, if_true, if_false, hx, ho]); (try first | done | omega | (simp; done) | (simp; omega)))) (by ((try simp only [cells_agg, cells_lit, leL_cons, leL_nil, leA_any, leA_lits, leA_isl, leA_self, and_self, true_and, and_true, or_true, true_or, Value.int.injEq, Value.bool.injEq, Value.string.injEq, AV.lit.injEq, Option.some.injEq, Blk.cells.injEq, Blk.tok.injEq, List.cons.injEq, Tk.at.injEq, subL_nil, subL_cons, look_nil, look_cons, ↓reduceIte, Nat.reduceEqDiff, Option.isSome_some, reduceCtorEq, or_false, false_or, if_true, if_false, hx, ho]); (try first | done | omega | (simp; done) | (simp; omega)))) (by ((try simp only [cells_agg, cells_lit, List.mem_cons, List.not_mem_nil, or_false, forall_eq_or_imp, forall_eq, only_any, only_lit', only_iptr, only_no, only_full, only_at, only_ptr, only_osl, only_agg, only_tup, only_fn, and_self, implies_true, and_true, true_and, okL_nil, okL_cons, bonly_cells, bonly_tok, keepP_add, look_nil, look_cons, ↓reduceIte, Nat.reduceEqDiff, Option.isSome_some, reduceCtorEq, false_or, if_true, if_false, false_implies, hx, ho]); (try first | done | omega | ((repeat' refine And.intro ?_ ?_) <;> (intro _ hx; obtain ⟨_, -, rfl⟩ := List.mem_map.1 hx; exact .lit _))))) (by ((try simp only [cells_agg, cells_lit, List.mem_cons, List.not_mem_nil, or_false, forall_eq_or_imp, forall_eq, only_any, only_lit', only_iptr, only_no, only_full, only_at, only_ptr, only_osl, only_agg, only_tup, only_fn, and_self, implies_true, and_true, true_and, okL_nil, okL_cons, bonly_cells, bonly_tok, keepP_add, look_nil, look_cons, ↓reduceIte, Nat.reduceEqDiff, Option.isSome_some, reduceCtorEq, false_or, if_true, if_false, false_implies, hx, ho]); (try first | done | omega | ((repeat' refine And.intro ?_ ?_) <;> (intro _ hx; obtain ⟨_, -, rfl⟩ := List.mem_map.1 hx; exact .lit _)))))
          · rcases hvk hg with hz | hz
            · have hz' : ¬ (0 : Int) < vk := by omega
              refine WE_pure _ _ _ _ _ _ _ _ (rGood_c vk vn vt (by omega) _) ?_
              simp only [go_sem, hg, ga, eq_false hz', ho, List.length_map]
              (repeat (refine ⟨by omega, ?_⟩))
              have hx := stp _ rfl _ (t2 hk (.inr hz))
              rw [emp] at hx
              refine LP_next (i + 1) (by omega) (by omega) ?_
              rw [e1]
              refine imp_loc (by ((try simp only [cells_agg, cells_lit, leL_cons, leL_nil, leA_any, leA_lits, leA_isl, leA_self, and_self, true_and, and_true, or_true, true_or, Value.int.injEq, Value.bool.injEq, Value.string.injEq, AV.lit.injEq, Option.some.injEq, Blk.cells.injEq, Blk.tok.injEq, List.cons.injEq, Tk.at.injEq, subL_nil, subL_cons, look_nil, look_cons, ↓reduceIte, Nat.reduceEqDiff, Option.isSome_some, reduceCtorEq, or_false, false_or, if_true, if_false, hx, ho]); (try first | done | omega | (simp; done) | (simp; omega)))) (by ((try simp only [cells_agg, cells_lit, leL_cons, leL_nil, leA_any, leA_lits, leA_isl, leA_self, and_self, true_and, and_true, or_true, true_or, Value.int.injEq, Value.bool.injEq, Value.string.injEq, AV.lit.injEq, Option.some.injEq, Blk.cells.injEq, Blk.tok.injEq, List.cons.injEq, Tk.at.injEq, subL_nil, subL_cons, look_nil, look_cons, ↓reduceIte, Nat.reduceEqDiff, Option.isSome_some, reduceCtorEq, or_false, false_or, if_true, if_false, hx, ho]); (try first | done | omega | (simp; done) | (simp; omega)))) (by ((try simp only [cells_agg, cells_lit, List.mem_cons, List.not_mem_nil, or_false, forall_eq_or_imp, forall_eq, only_any, only_lit', only_iptr, only_no, only_full, only_at, only_ptr, only_osl, only_agg, only_tup, only_fn, and_self, implies_true, and_true, true_and, okL_nil, okL_cons, bonly_cells, bonly_tok, keepP_add, look_nil, look_cons, ↓reduceIte, Nat.reduceEqDiff, Option.isSome_some, reduceCtorEq, false_or, if_true, if_false, false_implies, hx, ho]); (try first | done | omega | ((repeat' refine And.intro ?_ ?_) <;> (intro _ hx; obtain ⟨_, -, rfl⟩ := List.mem_map.1 hx; exact .lit _))))) (by ((try simp only [cells_agg, cells_lit, List.mem_cons, List.not_mem_nil, or_false, forall_eq_or_imp, forall_eq, only_any, only_lit', only_iptr, only_no, only_full, only_at, only_ptr, only_osl, only_agg, only_tup, only_fn, and_self, implies_true, and_true, true_and, okL_nil, okL_cons, bonly_cells, bonly_tok, keepP_add, look_nil, look_cons, ↓reduceIte, Nat.reduceEqDiff, Option.isSome_some, reduceCtorEq, false_or, if_true, if_false, false_implies, hx, ho]); (try first | done | omega | ((repeat' refine And.intro ?_ ?_) <;> (intro _ hx; obtain ⟨_, -, rfl⟩ := List.mem_map.1 hx; exact .lit _)))))
            · refine WE_pure _ _ _ _ _ _ _ _ (rGood_c vk vn vt (by omega) _) ?_
              simp only [go_sem, hg, ga, eq_true hz, ho, List.length_map]
              (repeat (refine ⟨by omega, ?_⟩))
              refine WE_pure _ _ _ _ _ _ _ _ (rPrint_c vk vn vt (by omega) hg (by omega) _) ?_
              simp only [go_sem, ho]
              have ht3 := t3 hk (by rw [hg]; rintro (h | h); cases h; omega)
              refine ⟨by rw [ht3]; omega, ?_⟩
              have hx := stp _ rfl _ (ht3)
              refine LP_next (i + 1) (by omega) (by omega) ?_
              rw [e1]
              refine imp_loc (by ((try simp only [cells_agg, cells_lit, leL_cons, leL_nil, leA_any, leA_lits, leA_isl, leA_self, and_self, true_and, and_true, or_true, true_or, Value.int.injEq, Value.bool.injEq, Value.string.injEq, AV.lit.injEq, Option.some.injEq, Blk.cells.injEq, Blk.tok.injEq, List.cons.injEq, Tk.at.injEq, subL_nil, subL_cons, look_nil, look_cons, ↓reduceIte, Nat.reduceEqDiff, Option.isSome_some, reduceCtorEq, or_false, false_or, if_true, if_false, hx, ho]); (try first | done | omega | (simp; done) | (simp; omega)))) (by ((try simp only [cells_agg, cells_lit, leL_cons, leL_nil, leA_any, leA_lits, leA_isl, leA_self, and_self, true_and, and_true, or_true, true_or, Value.int.injEq, Value.bool.injEq, Value.string.injEq, AV.lit.injEq, Option.some.injEq, Blk.cells.injEq, Blk.tok.injEq, List.cons.injEq, Tk.at.injEq, subL_nil, subL_cons, look_nil, look_cons, ↓reduceIte, Nat.reduceEqDiff, Option.isSome_some, reduceCtorEq, or_false, false_or, if_true, if_false, hx, ho]); (try first | done | omega | (simp; done) | (simp; omega)))) (by ((try simp only [cells_agg, cells_lit, List.mem_cons, List.not_mem_nil, or_false, forall_eq_or_imp, forall_eq, only_any, only_lit', only_iptr, only_no, only_full, only_at, only_ptr, only_osl, only_agg, only_tup, only_fn, and_self, implies_true, and_true, true_and, okL_nil, okL_cons, bonly_cells, bonly_tok, keepP_add, look_nil, look_cons, ↓reduceIte, Nat.reduceEqDiff, Option.isSome_some, reduceCtorEq, false_or, if_true, if_false, false_implies, hx, ho]); (try first | done | omega | ((repeat' refine And.intro ?_ ?_) <;> (intro _ hx; obtain ⟨_, -, rfl⟩ := List.mem_map.1 hx; exact .lit _))))) (by ((try simp only [cells_agg, cells_lit, List.mem_cons, List.not_mem_nil, or_false, forall_eq_or_imp, forall_eq, only_any, only_lit', only_iptr, only_no, only_full, only_at, only_ptr, only_osl, only_agg, only_tup, only_fn, and_self, implies_true, and_true, true_and, okL_nil, okL_cons, bonly_cells, bonly_tok, keepP_add, look_nil, look_cons, ↓reduceIte, Nat.reduceEqDiff, Option.isSome_some, reduceCtorEq, false_or, if_true, if_false, false_implies, hx, ho]); (try first | done | omega | ((repeat' refine And.intro ?_ ?_) <;> (intro _ hx; obtain ⟨_, -, rfl⟩ := List.mem_map.1 hx; exact .lit _)))))
        · rw [if_neg hk]
          (repeat (refine ⟨by omega, ?_⟩))
          have ht1 := t1 hk
          refine ⟨by rw [ht1]; omega, ?_⟩
          have hx := stp _ rfl _ (ht1)
          refine LP_next (i + 1) (by omega) (by omega) ?_
          rw [e1]
          refine imp_loc (by ((try simp only [cells_agg, cells_lit, leL_cons, leL_nil, leA_any, leA_lits, leA_isl, leA_self, and_self, true_and, and_true, or_true, true_or, Value.int.injEq, Value.bool.injEq, Value.string.injEq, AV.lit.injEq, Option.some.injEq, Blk.cells.injEq, Blk.tok.injEq, List.cons.injEq, Tk.at.injEq, subL_nil, subL_cons, look_nil, look_cons, ↓reduceIte, Nat.reduceEqDiff, Option.isSome_some, reduceCtorEq, or_false, false_or, if_true, if_false, hx, ho]); (try first | done | omega | (simp; done) | (simp; omega)))) (by ((try simp only [cells_agg, cells_lit, leL_cons, leL_nil, leA_any, leA_lits, leA_isl, leA_self, and_self, true_and, and_true, or_true, true_or, Value.int.injEq, Value.bool.injEq, Value.string.injEq, AV.lit.injEq, Option.some.injEq, Blk.cells.injEq, Blk.tok.injEq, List.cons.injEq, Tk.at.injEq, subL_nil, subL_cons, look_nil, look_cons, ↓reduceIte, Nat.reduceEqDiff, Option.isSome_some, reduceCtorEq, or_false, false_or, if_true, if_false, hx, ho]); (try first | done | omega | (simp; done) | (simp; omega)))) (by ((try simp only [cells_agg, cells_lit, List.mem_cons, List.not_mem_nil, or_false, forall_eq_or_imp, forall_eq, only_any, only_lit', only_iptr, only_no, only_full, only_at, only_ptr, only_osl, only_agg, only_tup, only_fn, and_self, implies_true, and_true, true_and, okL_nil, okL_cons, bonly_cells, bonly_tok, keepP_add, look_nil, look_cons, ↓reduceIte, Nat.reduceEqDiff, Option.isSome_some, reduceCtorEq, false_or, if_true, if_false, false_implies, hx, ho]); (try first | done | omega | ((repeat' refine And.intro ?_ ?_) <;> (intro _ hx; obtain ⟨_, -, rfl⟩ := List.mem_map.1 hx; exact .lit _))))) (by ((try simp only [cells_agg, cells_lit, List.mem_cons, List.not_mem_nil, or_false, forall_eq_or_imp, forall_eq, only_any, only_lit', only_iptr, only_no, only_full, only_at, only_ptr, only_osl, only_agg, only_tup, only_fn, and_self, implies_true, and_true, true_and, okL_nil, okL_cons, bonly_cells, bonly_tok, keepP_add, look_nil, look_cons, ↓reduceIte, Nat.reduceEqDiff, Option.isSome_some, reduceCtorEq, false_or, if_true, if_false, false_implies, hx, ho]); (try first | done | omega | ((repeat' refine And.intro ?_ ?_) <;> (intro _ hx; obtain ⟨_, -, rfl⟩ := List.mem_map.1 hx; exact .lit _)))))
      · have c0 : ¬ (0 : Int) < (i : Int) := by omega
        rw [if_neg h0] at ho
        simp only [go_sem, List.length_map, ga, eq_false c0, ho]
        (repeat (refine ⟨by omega, ?_⟩))
        by_cases hk : qk = 3
        · rw [if_pos hk]
          (repeat (refine ⟨by omega, ?_⟩))
          cases hg : goodB vk vn vt
          · refine WE_pure _ _ _ _ _ _ _ _ (rGood_c vk vn vt (by omega) _) ?_
            simp only [go_sem, hg, ho]
            have hx := stp _ rfl _ (t2 hk (.inl hg))
            rw [emp] at hx
            refine LP_next (i + 1) (by omega) (by omega) ?_
            rw [e1]
            refine imp_loc (by ((try simp only [cells_agg, cells_lit, leL_cons, leL_nil, leA_any, leA_lits, leA_isl, leA_self, and_self, true_and, and_true, or_true, true_or, Value.int.injEq, Value.bool.injEq, Value.string.injEq, AV.lit.injEq, Option.some.injEq, Blk.cells.injEq, Blk.tok.injEq, List.cons.injEq, Tk.at.injEq, subL_nil, subL_cons, look_nil, look_cons, ↓reduceIte, Nat.reduceEqDiff, Option.isSome_some, reduceCtorEq, or_false, false_or, if_true, if_false, hx, ho]); (try first | done | omega | (simp; done) | (simp; omega)))) (by ((try simp only [cells_agg, cells_lit, leL_cons, leL_nil, leA_any, leA_lits, leA_isl, leA_self, and_self, true_and, and_true, or_true, true_or, Value.int.injEq, Value.bool.injEq, Value.string.injEq, AV.lit.injEq, Option.some.injEq, Blk.cells.injEq, Blk.tok.injEq, List.cons.injEq, Tk.at.injEq, subL_nil, subL_cons, look_nil, look_cons, ↓reduceIte, Nat.reduceEqDiff, Option.isSome_some, reduceCtorEq, or_false, false_or, if_true, if_false, hx, ho]); (try first | done | omega | (simp; done) | (simp; omega)))) (by ((try simp only [cells_agg, cells_lit, List.mem_cons, List.not_mem_nil, or_false, forall_eq_or_imp, forall_eq, only_any, only_lit', only_iptr, only_no, only_full, only_at, only_ptr, only_osl, only_agg, only_tup, only_fn, and_self, implies_true, and_true, true_and, okL_nil, okL_cons, bonly_cells, bonly_tok, keepP_add, look_nil, look_cons, ↓reduceIte, Nat.reduceEqDiff, Option.isSome_some, reduceCtorEq, false_or, if_true, if_false, false_implies, hx, ho]); (try first | done | omega | ((repeat' refine And.intro ?_ ?_) <;> (intro _ hx; obtain ⟨_, -, rfl⟩ := List.mem_map.1 hx; exact .lit _))))) (by ((try simp only [cells_agg, cells_lit, List.mem_cons, List.not_mem_nil, or_false, forall_eq_or_imp, forall_eq, only_any, only_lit', only_iptr, only_no, only_full, only_at, only_ptr, only_osl, only_agg, only_tup, only_fn, and_self, implies_true, and_true, true_and, okL_nil, okL_cons, bonly_cells, bonly_tok, keepP_add, look_nil, look_cons, ↓reduceIte, Nat.reduceEqDiff, Option.isSome_some, reduceCtorEq, false_or, if_true, if_false, false_implies, hx, ho]); (try first | done | omega | ((repeat' refine And.intro ?_ ?_) <;> (intro _ hx; obtain ⟨_, -, rfl⟩ := List.mem_map.1 hx; exact .lit _)))))
          · rcases hvk hg with hz | hz
            · have hz' : ¬ (0 : Int) < vk := by omega
              refine WE_pure _ _ _ _ _ _ _ _ (rGood_c vk vn vt (by omega) _) ?_
              simp only [go_sem, hg, ga, eq_false hz', ho, List.length_map]
              (repeat (refine ⟨by omega, ?_⟩))
              have hx := stp _ rfl _ (t2 hk (.inr hz))
              rw [emp] at hx
              refine LP_next (i + 1) (by omega) (by omega) ?_
              rw [e1]
              refine imp_loc (by ((try simp only [cells_agg, cells_lit, leL_cons, leL_nil, leA_any, leA_lits, leA_isl, leA_self, and_self, true_and, and_true, or_true, true_or, Value.int.injEq, Value.bool.injEq, Value.string.injEq, AV.lit.injEq, Option.some.injEq, Blk.cells.injEq, Blk.tok.injEq, List.cons.injEq, Tk.at.injEq, subL_nil, subL_cons, look_nil, look_cons, ↓reduceIte, Nat.reduceEqDiff, Option.isSome_some, reduceCtorEq, or_false, false_or, if_true, if_false, hx, ho]); (try first | done | omega | (simp; done) | (simp; omega)))) (by ((try simp only [cells_agg, cells_lit, leL_cons, leL_nil, leA_any, leA_lits, leA_isl, leA_self, and_self, true_and, and_true, or_true, true_or, Value.int.injEq, Value.bool.injEq, Value.string.injEq, AV.lit.injEq, Option.some.injEq, Blk.cells.injEq, Blk.tok.injEq, List.cons.injEq, Tk.at.injEq, subL_nil, subL_cons, look_nil, look_cons, ↓reduceIte, Nat.reduceEqDiff, Option.isSome_some, reduceCtorEq, or_false, false_or, if_true, if_false, hx, ho]); (try first | done | omega | (simp; done) | (simp; omega)))) (by ((try simp only [cells_agg, cells_lit, List.mem_cons, List.not_mem_nil, or_false, forall_eq_or_imp, forall_eq, only_any, only_lit', only_iptr, only_no, only_full, only_at, only_ptr, only_osl, only_agg, only_tup, only_fn, and_self, implies_true, and_true, true_and, okL_nil, okL_cons, bonly_cells, bonly_tok, keepP_add, look_nil, look_cons, ↓reduceIte, Nat.reduceEqDiff, Option.isSome_some, reduceCtorEq, false_or, if_true, if_false, false_implies, hx, ho]); (try first | done | omega | ((repeat' refine And.intro ?_ ?_) <;> (intro _ hx; obtain ⟨_, -, rfl⟩ := List.mem_map.1 hx; exact .lit _))))) (by ((try simp only [cells_agg, cells_lit, List.mem_cons, List.not_mem_nil, or_false, forall_eq_or_imp, forall_eq, only_any, only_lit', only_iptr, only_no, only_full, only_at, only_ptr, only_osl, only_agg, only_tup, only_fn, and_self, implies_true, and_true, true_and, okL_nil, okL_cons, bonly_cells, bonly_tok, keepP_add, look_nil, look_cons, ↓reduceIte, Nat.reduceEqDiff, Option.isSome_some, reduceCtorEq, false_or, if_true, if_false, false_implies, hx, ho]); (try first | done | omega | ((repeat' refine And.intro ?_ ?_) <;> (intro _ hx; obtain ⟨_, -, rfl⟩ := List.mem_map.1 hx; exact .lit _)))))
            · refine WE_pure _ _ _ _ _ _ _ _ (rGood_c vk vn vt (by omega) _) ?_
              simp only [go_sem, hg, ga, eq_true hz, ho, List.length_map]
              (repeat (refine ⟨by omega, ?_⟩))
              refine WE_pure _ _ _ _ _ _ _ _ (rPrint_c vk vn vt (by omega) hg (by omega) _) ?_
              simp only [go_sem, ho]
              have ht3 := t3 hk (by rw [hg]; rintro (h | h); cases h; omega)
              refine ⟨by rw [ht3]; omega, ?_⟩
              have hx := stp _ rfl _ (ht3)
              refine LP_next (i + 1) (by omega) (by omega) ?_
              rw [e1]
              refine imp_loc (by ((try simp only [cells_agg, cells_lit, leL_cons, leL_nil, leA_any, leA_lits, leA_isl, leA_self, and_self, true_and, and_true, or_true, true_or, Value.int.injEq, Value.bool.injEq, Value.string.injEq, AV.lit.injEq, Option.some.injEq, Blk.cells.injEq, Blk.tok.injEq, List.cons.injEq, Tk.at.injEq, subL_nil, subL_cons, look_nil, look_cons, ↓reduceIte, Nat.reduceEqDiff, Option.isSome_some, reduceCtorEq, or_false, false_or, if_true, if_false, hx, ho]); (try first | done | omega | (simp; done) | (simp; omega)))) (by ((try simp only [cells_agg, cells_lit, leL_cons, leL_nil, leA_any, leA_lits, leA_isl, leA_self, and_self, true_and, and_true, or_true, true_or, Value.int.injEq, Value.bool.injEq, Value.string.injEq, AV.lit.injEq, Option.some.injEq, Blk.cells.injEq, Blk.tok.injEq, List.cons.injEq, Tk.at.injEq, subL_nil, subL_cons, look_nil, look_cons, ↓reduceIte, Nat.reduceEqDiff, Option.isSome_some, reduceCtorEq, or_false, false_or, if_true, if_false, hx, ho]); (try first | done | omega | (simp; done) | (simp; omega)))) (by ((try simp only [cells_agg, cells_lit, List.mem_cons, List.not_mem_nil, or_false, forall_eq_or_imp, forall_eq, only_any, only_lit', only_iptr, only_no, only_full, only_at, only_ptr, only_osl, only_agg, only_tup, only_fn, and_self, implies_true, and_true, true_and, okL_nil, okL_cons, bonly_cells, bonly_tok, keepP_add, look_nil, look_cons, ↓reduceIte, Nat.reduceEqDiff, Option.isSome_some, reduceCtorEq, false_or, if_true, if_false, false_implies, hx, ho]); (try first | done | omega | ((repeat' refine And.intro ?_ ?_) <;> (intro _ hx; obtain ⟨_, -, rfl⟩ := List.mem_map.1 hx; exact .lit _))))) (by ((try simp only [cells_agg, cells_lit, List.mem_cons, List.not_mem_nil, or_false, forall_eq_or_imp, forall_eq, only_any, only_lit', only_iptr, only_no, only_full, only_at, only_ptr, only_osl, only_agg, only_tup, only_fn, and_self, implies_true, and_true, true_and, okL_nil, okL_cons, bonly_cells, bonly_tok, keepP_add, look_nil, look_cons, ↓reduceIte, Nat.reduceEqDiff, Option.isSome_some, reduceCtorEq, false_or, if_true, if_false, false_implies, hx, ho]); (try first | done | omega | ((repeat' refine And.intro ?_ ?_) <;> (intro _ hx; obtain ⟨_, -, rfl⟩ := List.mem_map.1 hx; exact .lit _)))))
        · rw [if_neg hk]
          (repeat (refine ⟨by omega, ?_⟩))
          have ht1 := t1 hk
          refine ⟨by rw [ht1]; omega, ?_⟩
          have hx := stp _ rfl _ (ht1)
          refine LP_next (i + 1) (by omega) (by omega) ?_
          rw [e1]
          refine imp_loc (by ((try simp only [cells_agg, cells_lit, leL_cons, leL_nil, leA_any, leA_lits, leA_isl, leA_self, and_self, true_and, and_true, or_true, true_or, Value.int.injEq, Value.bool.injEq, Value.string.injEq, AV.lit.injEq, Option.some.injEq, Blk.cells.injEq, Blk.tok.injEq, List.cons.injEq, Tk.at.injEq, subL_nil, subL_cons, look_nil, look_cons, ↓reduceIte, Nat.reduceEqDiff, Option.isSome_some, reduceCtorEq, or_false, false_or, if_true, if_false, hx, ho]); (try first | done | omega | (simp; done) | (simp; omega)))) (by ((try simp only [cells_agg, cells_lit, leL_cons, leL_nil, leA_any, leA_lits, leA_isl, leA_self, and_self, true_and, and_true, or_true, true_or, Value.int.injEq, Value.bool.injEq, Value.string.injEq, AV.lit.injEq, Option.some.injEq, Blk.cells.injEq, Blk.tok.injEq, List.cons.injEq, Tk.at.injEq, subL_nil, subL_cons, look_nil, look_cons, ↓reduceIte, Nat.reduceEqDiff, Option.isSome_some, reduceCtorEq, or_false, false_or, if_true, if_false, hx, ho]); (try first | done | omega | (simp; done) | (simp; omega)))) (by ((try simp only [cells_agg, cells_lit, List.mem_cons, List.not_mem_nil, or_false, forall_eq_or_imp, forall_eq, only_any, only_lit', only_iptr, only_no, only_full, only_at, only_ptr, only_osl, only_agg, only_tup, only_fn, and_self, implies_true, and_true, true_and, okL_nil, okL_cons, bonly_cells, bonly_tok, keepP_add, look_nil, look_cons, ↓reduceIte, Nat.reduceEqDiff, Option.isSome_some, reduceCtorEq, false_or, if_true, if_false, false_implies, hx, ho]); (try first | done | omega | ((repeat' refine And.intro ?_ ?_) <;> (intro _ hx; obtain ⟨_, -, rfl⟩ := List.mem_map.1 hx; exact .lit _))))) (by ((try simp only [cells_agg, cells_lit, List.mem_cons, List.not_mem_nil, or_false, forall_eq_or_imp, forall_eq, only_any, only_lit', only_iptr, only_no, only_full, only_at, only_ptr, only_osl, only_agg, only_tup, only_fn, and_self, implies_true, and_true, true_and, okL_nil, okL_cons, bonly_cells, bonly_tok, keepP_add, look_nil, look_cons, ↓reduceIte, Nat.reduceEqDiff, Option.isSome_some, reduceCtorEq, false_or, if_true, if_false, false_implies, hx, ho]); (try first | done | omega | ((repeat' refine And.intro ?_ ?_) <;> (intro _ hx; obtain ⟨_, -, rfl⟩ := List.mem_map.1 hx; exact .lit _)))))
    · have : i = ws.length := by omega
      subst this
      refine FnPost_end hn0 (by simp) rfl (only_lit _ _) ?_
      simp only [go_sem]
      exact leA_str rfl
def fewW (w : Wd) : Wd := (w.1, cutS w.2.1 40, w.2.2.1, w.2.2.2.1, cutS w.2.2.2.2.1 120, w.2.2.2.2.2)
def fewL (ws : List Wd) (i : Nat) : List Wd := (ws.take i).map fewW
theorem fewL_succ (ws : List Wd) (i : Nat) (h : i < ws.length) : fewL ws (i + 1) = fewL ws i ++ [fewW (ws.getD i w0)] := by
  unfold fewL
  rw [List.take_succ_eq_append_getElem h, List.map_append, List.getD_eq_getElem?_getD, List.getElem?_eq_getElem h]
  rfl
theorem fewL_len (ws : List Wd) (i : Nat) (h : i ≤ ws.length) : (fewL ws i).length = i := by unfold fewL; rw [List.length_map, List.length_take]; omega
def fewN (ws : List Wd) : Nat := min ws.length 10
theorem few_c (ws : List Wd) (nl : Option Bool) (tok : Tk) (g : GH) : PureC Tryd.prog 28 [.isl nl (Wds ws) tok] g (.isl (some false) (Wds (fewL ws (fewN ws))) .no) := by
  refine CallC.body (fun _ => none) (fun d => if d = 6 then 1 else 0) Tryd.func28 rfl Tryd.results28 Tryd.ntmps28 ?_
  intro n0 hn0
  simp only [go_sem]
  refine WC_loop (fun i : Nat => [.isl nl (Wds ws) .no, .any, .any, .isl (some false) (Wds (fewL ws i)) (.at (n0 + 6) i), I64 i, .any, .any, .any, .any, .any, .any, .any, .any, .any, .any, .any, .any, .any, .any, .any, .any, .any, .any, .any, .any, .any, .any, .any, .any, .any, .any, .any, .any, .any, .any, .any]) (fun i => ⟨g, [(6, .tok i)]⟩) (fun i => i ≤ ws.length ∧ i ≤ 10) (fun i => 10 - i) 0 (by simp) ?_ ?_
  · refine imp_loc (by ((try simp only [cells_agg, cells_lit, leL_cons, leL_nil, leA_any, leA_lits, leA_isl, leA_self, and_self, true_and, and_true, or_true, true_or, Value.int.injEq, Value.bool.injEq, Value.string.injEq, AV.lit.injEq, Option.some.injEq, Blk.cells.injEq, Blk.tok.injEq, List.cons.injEq, Tk.at.injEq, subL_nil, subL_cons, look_nil, look_cons, ↓reduceIte, Nat.reduceEqDiff, Option.isSome_some, reduceCtorEq, or_false, false_or, if_true, if_false, fewL]); (try first | done | omega | (simp; done) | (simp; omega)))) (by ((try simp only [cells_agg, cells_lit, leL_cons, leL_nil, leA_any, leA_lits, leA_isl, leA_self, and_self, true_and, and_true, or_true, true_or, Value.int.injEq, Value.bool.injEq, Value.string.injEq, AV.lit.injEq, Option.some.injEq, Blk.cells.injEq, Blk.tok.injEq, List.cons.injEq, Tk.at.injEq, subL_nil, subL_cons, look_nil, look_cons, ↓reduceIte, Nat.reduceEqDiff, Option.isSome_some, reduceCtorEq, or_false, false_or, if_true, if_false, fewL]); (try first | done | omega | (simp; done) | (simp; omega)))) (by ((try simp only [cells_agg, cells_lit, List.mem_cons, List.not_mem_nil, or_false, forall_eq_or_imp, forall_eq, only_any, only_lit', only_iptr, only_no, only_full, only_at, only_ptr, only_osl, only_agg, only_tup, only_fn, and_self, implies_true, and_true, true_and, okL_nil, okL_cons, bonly_cells, bonly_tok, keepP_add, look_nil, look_cons, ↓reduceIte, Nat.reduceEqDiff, Option.isSome_some, reduceCtorEq, false_or, if_true, if_false, false_implies, fewL]); (try first | done | omega | ((repeat' refine And.intro ?_ ?_) <;> (intro _ hx; obtain ⟨_, -, rfl⟩ := List.mem_map.1 hx; exact .lit _))))) (by ((try simp only [cells_agg, cells_lit, List.mem_cons, List.not_mem_nil, or_false, forall_eq_or_imp, forall_eq, only_any, only_lit', only_iptr, only_no, only_full, only_at, only_ptr, only_osl, only_agg, only_tup, only_fn, and_self, implies_true, and_true, true_and, okL_nil, okL_cons, bonly_cells, bonly_tok, keepP_add, look_nil, look_cons, ↓reduceIte, Nat.reduceEqDiff, Option.isSome_some, reduceCtorEq, false_or, if_true, if_false, false_implies, fewL]); (try first | done | omega | ((repeat' refine And.intro ?_ ?_) <;> (intro _ hx; obtain ⟨_, -, rfl⟩ := List.mem_map.1 hx; exact .lit _)))))
  · rintro i ⟨hi, hi2⟩
    simp only [go_sem, List.length_map]
    have hl := fewL_len ws i hi
    have fin : (¬ i < ws.length ∨ ¬ i < 10) → fewN ws = i := fun h => by unfold fewN; omega
    (repeat' (refine WG_split _ _ _ _ _ _ _ _ _ (fun hh => ?_) (fun hh => ?_) <;> (try simp only [decide_eq_true_eq, decide_eq_false_iff_not, Bool.not_eq_true', Bool.not_eq_false', Bool.not_eq_true, Bool.not_eq_false] at hh) <;> (first | simp only [go_sem, boolEqH hh, List.length_map] | simp only [go_sem, eq_false hh, List.length_map] | simp only [go_sem, eq_true hh, List.length_map])))
    · split
      · rename_i hlt10
        have hlt : i < ws.length := by omega
        have e1 : IntKind.i64.wrap ((i : Int) + 1) = ((i + 1 : Nat) : Int) := by rw [wrap_i64]; omega
        have ga := Wds_get ws i hlt
        have hsu := fewL_succ ws i hlt
        generalize ws.getD i w0 = q at *
        obtain ⟨q1, q2, q3, q4, q5, q6⟩ := q
        simp only [go_sem, ga]
        (repeat (refine ⟨by omega, ?_⟩))
        refine WC_draw Ty.mixed (by kernel_rfl) ?_
        simp only [go_sem]
        refine DE_pure _ _ _ _ _ _ _ _ _ [] (fun g' _ => Cut_c _ _ _) ?_
        simp only [go_sem]
        refine DE_pure _ _ _ _ _ _ _ _ _ [] (fun g' _ => Cut_c _ _ _) ?_
        simp only [go_sem]
        refine WD_end (by (simp only [POL, PO1, List.take_succ_cons, List.take_zero, List.take_nil, and_true, true_and]; (repeat' apply And.intro) <;> first | exact trivial | (right; unfold HA; simp; done) | (left; kernel_rfl))) ?_
        simp only [go_sem]
        refine ⟨⟨by rw [List.length_map, hl]; omega, (elsOk_Wds _).2 trivial⟩, ?_⟩
        refine LP_next (i + 1) ⟨by omega, by omega⟩ (by omega) ?_
        have e2 : Wds (fewL ws (i + 1)) = Wds (fewL ws i) ++ [AV.agg [I64 q1, AV.lit (Value.string (cutS q2 40)), I64 q3, I64 q4, AV.lit (Value.string (cutS q5 120)), I64 q6]] := by
          rw [hsu, ← Wds_app]; rfl
        rw [e1, e2]
        refine imp_loc (by ((try simp only [cells_agg, cells_lit, leL_cons, leL_nil, leA_any, leA_lits, leA_isl, leA_self, and_self, true_and, and_true, or_true, true_or, Value.int.injEq, Value.bool.injEq, Value.string.injEq, AV.lit.injEq, Option.some.injEq, Blk.cells.injEq, Blk.tok.injEq, List.cons.injEq, Tk.at.injEq, subL_nil, subL_cons, look_nil, look_cons, ↓reduceIte, Nat.reduceEqDiff, Option.isSome_some, reduceCtorEq, or_false, false_or, if_true, if_false]); (try first | done | omega | (simp; done) | (simp; omega)))) (by ((try simp only [cells_agg, cells_lit, leL_cons, leL_nil, leA_any, leA_lits, leA_isl, leA_self, and_self, true_and, and_true, or_true, true_or, Value.int.injEq, Value.bool.injEq, Value.string.injEq, AV.lit.injEq, Option.some.injEq, Blk.cells.injEq, Blk.tok.injEq, List.cons.injEq, Tk.at.injEq, subL_nil, subL_cons, look_nil, look_cons, ↓reduceIte, Nat.reduceEqDiff, Option.isSome_some, reduceCtorEq, or_false, false_or, if_true, if_false]); (try first | done | omega | (simp; done) | (simp; omega)))) (by ((try simp only [cells_agg, cells_lit, List.mem_cons, List.not_mem_nil, or_false, forall_eq_or_imp, forall_eq, only_any, only_lit', only_iptr, only_no, only_full, only_at, only_ptr, only_osl, only_agg, only_tup, only_fn, and_self, implies_true, and_true, true_and, okL_nil, okL_cons, bonly_cells, bonly_tok, keepP_add, look_nil, look_cons, ↓reduceIte, Nat.reduceEqDiff, Option.isSome_some, reduceCtorEq, false_or, if_true, if_false, false_implies]); (try first | done | omega | ((repeat' refine And.intro ?_ ?_) <;> (intro _ hx; obtain ⟨_, -, rfl⟩ := List.mem_map.1 hx; exact .lit _))))) (by ((try simp only [cells_agg, cells_lit, List.mem_cons, List.not_mem_nil, or_false, forall_eq_or_imp, forall_eq, only_any, only_lit', only_iptr, only_no, only_full, only_at, only_ptr, only_osl, only_agg, only_tup, only_fn, and_self, implies_true, and_true, true_and, okL_nil, okL_cons, bonly_cells, bonly_tok, keepP_add, look_nil, look_cons, ↓reduceIte, Nat.reduceEqDiff, Option.isSome_some, reduceCtorEq, false_or, if_true, if_false, false_implies]); (try first | done | omega | ((repeat' refine And.intro ?_ ?_) <;> (intro _ hx; obtain ⟨_, -, rfl⟩ := List.mem_map.1 hx; exact .lit _)))))
      · rename_i hlt10
        rw [fin (.inr (by omega))]
        refine FnPost_imp (fr' := [.any, .any, .isl (some false) (Wds (fewL ws i)) .no, .any, .any, .any, .any, .any, .any, .any, .any, .any, .any, .any, .any, .any, .any, .any, .any, .any, .any, .any, .any, .any, .any, .any, .any, .any, .any, .any, .any, .any, .any, .any, .any, .any]) (h' := ⟨g, []⟩) (by refine imp_loc (by ((try simp only [cells_agg, cells_lit, leL_cons, leL_nil, leA_any, leA_lits, leA_isl, leA_self, and_self, true_and, and_true, or_true, true_or, Value.int.injEq, Value.bool.injEq, Value.string.injEq, AV.lit.injEq, Option.some.injEq, Blk.cells.injEq, Blk.tok.injEq, List.cons.injEq, Tk.at.injEq, subL_nil, subL_cons, look_nil, look_cons, ↓reduceIte, Nat.reduceEqDiff, Option.isSome_some, reduceCtorEq, or_false, false_or, if_true, if_false]); (try first | done | omega | (simp; done) | (simp; omega)))) (by ((try simp only [cells_agg, cells_lit, leL_cons, leL_nil, leA_any, leA_lits, leA_isl, leA_self, and_self, true_and, and_true, or_true, true_or, Value.int.injEq, Value.bool.injEq, Value.string.injEq, AV.lit.injEq, Option.some.injEq, Blk.cells.injEq, Blk.tok.injEq, List.cons.injEq, Tk.at.injEq, subL_nil, subL_cons, look_nil, look_cons, ↓reduceIte, Nat.reduceEqDiff, Option.isSome_some, reduceCtorEq, or_false, false_or, if_true, if_false]); (try first | done | omega | (simp; done) | (simp; omega)))) (by ((try simp only [cells_agg, cells_lit, List.mem_cons, List.not_mem_nil, or_false, forall_eq_or_imp, forall_eq, only_any, only_lit', only_iptr, only_no, only_full, only_at, only_ptr, only_osl, only_agg, only_tup, only_fn, and_self, implies_true, and_true, true_and, okL_nil, okL_cons, bonly_cells, bonly_tok, keepP_add, look_nil, look_cons, ↓reduceIte, Nat.reduceEqDiff, Option.isSome_some, reduceCtorEq, false_or, if_true, if_false, false_implies]); (try first | done | omega | ((repeat' refine And.intro ?_ ?_) <;> (intro _ hx; obtain ⟨_, -, rfl⟩ := List.mem_map.1 hx; exact .lit _))))) (by ((try simp only [cells_agg, cells_lit, List.mem_cons, List.not_mem_nil, or_false, forall_eq_or_imp, forall_eq, only_any, only_lit', only_iptr, only_no, only_full, only_at, only_ptr, only_osl, only_agg, only_tup, only_fn, and_self, implies_true, and_true, true_and, okL_nil, okL_cons, bonly_cells, bonly_tok, keepP_add, look_nil, look_cons, ↓reduceIte, Nat.reduceEqDiff, Option.isSome_some, reduceCtorEq, false_or, if_true, if_false, false_implies]); (try first | done | omega | ((repeat' refine And.intro ?_ ?_) <;> (intro _ hx; obtain ⟨_, -, rfl⟩ := List.mem_map.1 hx; exact .lit _)))))) ?_
        refine FnPost_end hn0 (by simp) rfl (by simp only [only_tup, List.mem_cons, List.not_mem_nil, or_false, forall_eq_or_imp, forall_eq, only_any, only_lit', only_full, only_no, only_iptr, only_agg, and_self, and_true, true_and, implies_true, or_false]) ?_
        simp only [go_sem]
        exact leA_refl _
    · rw [fin (.inl (by omega))]
      refine FnPost_imp (fr' := [.any, .any, .isl (some false) (Wds (fewL ws i)) .no, .any, .any, .any, .any, .any, .any, .any, .any, .any, .any, .any, .any, .any, .any, .any, .any, .any, .any, .any, .any, .any, .any, .any, .any, .any, .any, .any, .any, .any, .any, .any, .any, .any]) (h' := ⟨g, []⟩) (by refine imp_loc (by ((try simp only [cells_agg, cells_lit, leL_cons, leL_nil, leA_any, leA_lits, leA_isl, leA_self, and_self, true_and, and_true, or_true, true_or, Value.int.injEq, Value.bool.injEq, Value.string.injEq, AV.lit.injEq, Option.some.injEq, Blk.cells.injEq, Blk.tok.injEq, List.cons.injEq, Tk.at.injEq, subL_nil, subL_cons, look_nil, look_cons, ↓reduceIte, Nat.reduceEqDiff, Option.isSome_some, reduceCtorEq, or_false, false_or, if_true, if_false]); (try first | done | omega | (simp; done) | (simp; omega)))) (by ((try simp only [cells_agg, cells_lit, leL_cons, leL_nil, leA_any, leA_lits, leA_isl, leA_self, and_self, true_and, and_true, or_true, true_or, Value.int.injEq, Value.bool.injEq, Value.string.injEq, AV.lit.injEq, Option.some.injEq, Blk.cells.injEq, Blk.tok.injEq, List.cons.injEq, Tk.at.injEq, subL_nil, subL_cons, look_nil, look_cons, ↓reduceIte, Nat.reduceEqDiff, Option.isSome_some, reduceCtorEq, or_false, false_or, if_true, if_false]); (try first | done | omega | (simp; done) | (simp; omega)))) (by ((try simp only [cells_agg, cells_lit, List.mem_cons, List.not_mem_nil, or_false, forall_eq_or_imp, forall_eq, only_any, only_lit', only_iptr, only_no, only_full, only_at, only_ptr, only_osl, only_agg, only_tup, only_fn, and_self, implies_true, and_true, true_and, okL_nil, okL_cons, bonly_cells, bonly_tok, keepP_add, look_nil, look_cons, ↓reduceIte, Nat.reduceEqDiff, Option.isSome_some, reduceCtorEq, false_or, if_true, if_false, false_implies]); (try first | done | omega | ((repeat' refine And.intro ?_ ?_) <;> (intro _ hx; obtain ⟨_, -, rfl⟩ := List.mem_map.1 hx; exact .lit _))))) (by ((try simp only [cells_agg, cells_lit, List.mem_cons, List.not_mem_nil, or_false, forall_eq_or_imp, forall_eq, only_any, only_lit', only_iptr, only_no, only_full, only_at, only_ptr, only_osl, only_agg, only_tup, only_fn, and_self, implies_true, and_true, true_and, okL_nil, okL_cons, bonly_cells, bonly_tok, keepP_add, look_nil, look_cons, ↓reduceIte, Nat.reduceEqDiff, Option.isSome_some, reduceCtorEq, false_or, if_true, if_false, false_implies]); (try first | done | omega | ((repeat' refine And.intro ?_ ?_) <;> (intro _ hx; obtain ⟨_, -, rfl⟩ := List.mem_map.1 hx; exact .lit _)))))) ?_
      refine FnPost_end hn0 (by simp) rfl (by simp only [only_tup, List.mem_cons, List.not_mem_nil, or_false, forall_eq_or_imp, forall_eq, only_any, only_lit', only_full, only_no, only_iptr, only_agg, and_self, and_true, true_and, implies_true, or_false]) ?_
      simp only [go_sem]
      exact leA_refl _
theorem fewW_ok (ws : List Wd) (i : Nat) : (∀ w, w ∈ fewL ws i → w.2.2.2.2.1.size ≤ 120 ∧ w.2.1.size ≤ 40) := by
  intro w hw
  unfold fewL at hw
  obtain ⟨x, -, rfl⟩ := List.mem_map.1 hw
  exact ⟨cutS_size _ _, cutS_size _ _⟩
theorem txtS_le {w : Wd} (h : w.2.1.size ≤ 5000) : (txtS w).size ≤ 5000 := by
  unfold txtS
  split
  · split
    · exact Nat.zero_le _
    · rename_i hn
      have hg : goodB w.2.2.1 w.2.2.2.1 w.2.2.2.2.1 = true := by
        cases e : goodB w.2.2.1 w.2.2.2.1 w.2.2.2.2.1
        · exact absurd (.inl e) hn
        · rfl
      have : goodF w.2.2.1 w.2.2.2.1 w.2.2.2.2.1 := by unfold goodB at hg; simpa using hg
      rcases this with h | h
      · exact absurd (.inr h.1) hn
      · have := prV_size h; omega
  · exact h
theorem law_same (a b : List Wd) (nl nl2 : Option Bool) (tok tok2 : Tk) (g : GH) : PureC Tryd.prog 5 [.isl nl (Wds a) tok, .isl nl2 (Wds b) tok2] g (BB true) := by
  refine CallC.body (fun _ => none) (fun _ => 0) Tryd.func5 rfl Tryd.results5 Tryd.ntmps5 ?_
  intro n0 hn0
  simp only [go_sem]
  have hfa := fewW_ok a (fewN a)
  have hfb := fewW_ok b (fewN b)
  have hla : (fewL a (fewN a)).length ≤ 10 := by unfold fewL fewN; rw [List.length_map, List.length_take]; omega
  have ca := few_c a nl tok
  have cb := few_c b nl2 tok2
  generalize fewL a (fewN a) = x at *
  generalize fewL b (fewN b) = y at *
  refine WE_pure _ _ _ _ _ _ _ _ (ca _) ?_
  simp only [go_sem]
  refine WE_pure _ _ _ _ _ _ _ _ (cb _) ?_
  simp only [go_sem]
  refine WE_pure _ _ _ _ _ _ _ _ (ca _) ?_
  simp only [go_sem]
  refine WE_pure _ _ _ _ _ _ _ _ (cb _) ?_
  simp only [go_sem]
  refine WE_pure _ _ _ _ _ _ _ _ (Same_c x y (some false) (some false) .no .no (by omega) _) ?_
  simp only [go_sem]
  refine WE_pure _ _ _ _ _ _ _ _ (rSameW_c (some false) (some false) x y .no .no (by omega) _) ?_
  simp only [go_sem, beq_self_eq_true]
  have h1 : ∀ w, w ∈ x → w.2.2.2.2.1.size ≤ 1000 := fun w hw => by have := (hfa w hw).1; omega
  have h2 : ∀ w, w ∈ x → (txtS w).size ≤ 5000 := fun w hw => txtS_le (by have := (hfa w hw).2; omega)
  refine WE_pure _ _ _ _ _ _ _ _ (ca _) ?_
  simp only [go_sem]
  refine WE_pure _ _ _ _ _ _ _ _ (Print_c x h1 h2 (by omega) (some false) .no _) ?_
  simp only [go_sem]
  refine WE_pure _ _ _ _ _ _ _ _ (rPrintW_c x h1 h2 (by omega) (some false) .no _) ?_
  simp only [go_sem, beq_self_eq_true]
  refine WE_pure _ _ _ _ _ _ _ _ (lives_c _) ?_
  simp only [go_sem]
  refine FnPost_end hn0 (by simp) rfl (only_lit _ _) ?_
  simp only [go_sem]
  exact leA_refl _
end Go.Proofs.YtcnhpclfflcdfaaDoorQ.Lex
