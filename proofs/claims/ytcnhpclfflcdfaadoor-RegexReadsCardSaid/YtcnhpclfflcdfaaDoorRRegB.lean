import Derived.Test.YtcnhpclfflcdfaaDoorRRegA
/- Expressions: pieces, items, rows. -/
namespace Go.Proofs.YtcnhpclfflcdfaaDoorR.Reg
open Go Go.Av Go.Proofs.YtcnhpclfflcdfaaDoorR.Val Go.Proofs.YtcnhpclfflcdfaaDoorR.Lex
set_option linter.unusedSimpArgs false
set_option linter.unusedVariables false
/-- a method of the reader that comes to this -/
def RowsC (f : FuncId) (nl : Option Bool) (ws : List Wd) (st : RS) (res : Rd2) : Prop := ∀ (id : Nat) (g : GH), g id = some (.cells 0 (rc nl ws st)) → CallC Tryd.prog f [.ptr id 0 0] g (fun r g' => r = rA res.1 ∧ g' = gputs g [(id, .cells 0 (rc nl ws res.2))])
theorem hPut {g : GH} {n0 id : Nat} (hid : id < n0) (b : Blk) (l : List (Nat × Blk)) : HP.get ⟨gput g id b, l⟩ n0 id = some b := by rw [get_out _ _ _ _ hid, gput_same]
theorem rxB_mk' (r : Rx) : rxB r [.lit (.int .i64 r.k), .lit (.string r.l), .lit (.bool r.b), .isl none (r.ps.map rA) .no] := leL_refl _
set_option maxHeartbeats 1000000 in
theorem piece_c (nl : Option Bool) (ws : List Wd) (R : RS → Rd2) (st : RS) (hat : st.1 ≤ ws.length) (hl : ws.length ≤ 1000000) (hM : ∀ st' : RS, st.1 < st'.1 → st'.1 ≤ ws.length → Mo ws st' (R st'))
    (hR : ∀ st' : RS, st.1 < st'.1 → st'.1 ≤ ws.length → RowsC 105 nl ws st' (R st')) : RowsC 171 nl ws st (pieceF ws R st) := by
  intro id g hg
  refine CallC.body (fun _ => none) (fun _ => 0) Tryd.func171 rfl Tryd.results171 Tryd.ntmps171 ?_
  intro n0 hn0
  simp only [go_sem]
  have hid : id < n0 := lt_of_named hn0 hg
  have hG : ∀ l, HP.get ⟨g, l⟩ n0 id = some (.cells 0 (rc nl ws st)) := fun l => by rw [get_out _ _ _ _ hid]; exact hg
  have hle : ∀ (s : ByteArray) (st : RS), st.1 ≤ ws.length → (isS ws st s).1 ≤ ws.length := fun s st h => by
    cases hb : isB ws st s
    · rw [isS_f hb]; exact h
    · rw [isS_t hb]; exact (isB_lt hb).1
  cases hb1 : isB ws st ⟨#[94]⟩
  · have hS1 := isS_f hb1
    cases hb2 : isB ws st ⟨#[40]⟩
    · have hS2 := isS_f hb2
      have hF : pieceF ws R st = (stepR ws st false, stepS ws st) := by unfold pieceF; rw [if_neg (by rw [hb1]; decide), if_pos hb2]
      rw [hF]
      refine WE_eff [(id, .cells 0 (rc nl ws (isS ws st ⟨#[94]⟩)))] (is_c id nl ws st ⟨#[94]⟩ _ (hG _) hat hl _) (ok_rc) ?_
      simp only [go_sem, put_out _ _ _ _ _ hid, gput_gput, hb1, hS1]
      refine WE_eff [(id, .cells 0 (rc nl ws (isS ws st ⟨#[40]⟩)))] (is_c id nl ws st ⟨#[40]⟩ _ (hPut hid _ _) hat hl _) (ok_rc) ?_
      simp only [go_sem, put_out _ _ _ _ _ hid, gput_gput, hb2, hS2]
      refine WE_eff [(id, .cells 0 (rc nl ws (stepS ws st)))] (step_c id nl ws st false _ (hPut hid _ _) hat hl _) (ok_rc) ?_
      simp only [go_sem, put_out _ _ _ _ _ hid, gput_gput, rA_cells]
      refine FnPost_rx hn0 (by simp) ((stepR ws st false)) _ (mem_one hid) (rfl) _ rfl (rxB_mk' _) (fun loc' hl' => ?_)
      simp only [go_sem, get_loc, hl']
      exact rA_res _
    · have hS2 := isS_t hb2
      have hlt := (isB_lt hb2).1
      cases hb3 : isB ws (st.1 + 1, st.2) ⟨#[41]⟩
      · have hS3 := isS_f hb3
        have hm := hM (st.1 + 1, st.2) (by simp only; omega) hlt
        have hr := hR (st.1 + 1, st.2) (by simp only; omega) hlt
        have hF : pieceF ws R st = ((R (st.1 + 1, st.2)).1, if isB ws (R (st.1 + 1, st.2)).2 ⟨#[41]⟩ = true then isS ws (R (st.1 + 1, st.2)).2 ⟨#[41]⟩ else failS ws (R (st.1 + 1, st.2)).2) := by
          unfold pieceF; rw [if_neg (by rw [hb1]; decide), if_neg (by rw [hb2]; decide), hS2, if_neg (by rw [hb3]; decide)]
        rw [hF]
        generalize R (st.1 + 1, st.2) = q at *
        obtain ⟨m1, m2, m3⟩ := hm
        refine WE_eff [(id, .cells 0 (rc nl ws (isS ws st ⟨#[94]⟩)))] (is_c id nl ws st ⟨#[94]⟩ _ (hG _) hat hl _) (ok_rc) ?_
        simp only [go_sem, put_out _ _ _ _ _ hid, gput_gput, hb1, hS1]
        refine WE_eff [(id, .cells 0 (rc nl ws (isS ws st ⟨#[40]⟩)))] (is_c id nl ws st ⟨#[40]⟩ _ (hPut hid _ _) hat hl _) (ok_rc) ?_
        simp only [go_sem, put_out _ _ _ _ _ hid, gput_gput, hb2, hS2]
        refine WE_eff [(id, .cells 0 (rc nl ws (isS ws (st.1 + 1, st.2) ⟨#[41]⟩)))] (is_c id nl ws (st.1 + 1, st.2) ⟨#[41]⟩ _ (hPut hid _ _) hlt hl _) (ok_rc) ?_
        simp only [go_sem, put_out _ _ _ _ _ hid, gput_gput, hb3, hS3]
        refine WE_eff [(id, .cells 0 (rc nl ws (q.2)))] (hr id _ (hPut hid _ _) _) (ok_rc) ?_
        simp only [go_sem, put_out _ _ _ _ _ hid, gput_gput, rA_cells]
        cases hb4 : isB ws q.2 ⟨#[41]⟩
        · have hS4 := isS_f hb4
          refine WE_eff [(id, .cells 0 (rc nl ws (isS ws q.2 ⟨#[41]⟩)))] (is_c id nl ws q.2 ⟨#[41]⟩ _ (hPut hid _ _) m2 hl _) (ok_rc) ?_
          simp only [go_sem, put_out _ _ _ _ _ hid, gput_gput, hb4, hS4]
          refine WE_eff [(id, .cells 0 (rc nl ws (failS ws q.2)))] (fail_c id nl ws q.2 _ (hPut hid _ _) m2 hl _) (ok_rc) ?_
          simp only [go_sem, put_out _ _ _ _ _ hid, gput_gput]
          refine FnPost_rx hn0 (by simp) ((q.1)) _ (mem_one hid) (rfl) _ rfl (rxB_mk' _) (fun loc' hl' => ?_)
          simp only [go_sem, get_loc, hl']
          exact rA_res _
        · refine WE_eff [(id, .cells 0 (rc nl ws (isS ws q.2 ⟨#[41]⟩)))] (is_c id nl ws q.2 ⟨#[41]⟩ _ (hPut hid _ _) m2 hl _) (ok_rc) ?_
          simp only [go_sem, put_out _ _ _ _ _ hid, gput_gput, hb4]
          refine FnPost_rx hn0 (by simp) ((q.1)) _ (mem_one hid) (rfl) _ rfl (rxB_mk' _) (fun loc' hl' => ?_)
          simp only [go_sem, get_loc, hl']
          exact rA_res _
      · have hF : pieceF ws R st = (.mk 1 ⟨#[]⟩ false [], isS ws (st.1 + 1, st.2) ⟨#[41]⟩) := by
          unfold pieceF; rw [if_neg (by rw [hb1]; decide), if_neg (by rw [hb2]; decide), hS2, if_pos hb3]
        rw [hF]
        refine WE_eff [(id, .cells 0 (rc nl ws (isS ws st ⟨#[94]⟩)))] (is_c id nl ws st ⟨#[94]⟩ _ (hG _) hat hl _) (ok_rc) ?_
        simp only [go_sem, put_out _ _ _ _ _ hid, gput_gput, hb1, hS1]
        refine WE_eff [(id, .cells 0 (rc nl ws (isS ws st ⟨#[40]⟩)))] (is_c id nl ws st ⟨#[40]⟩ _ (hPut hid _ _) hat hl _) (ok_rc) ?_
        simp only [go_sem, put_out _ _ _ _ _ hid, gput_gput, hb2, hS2]
        refine WE_eff [(id, .cells 0 (rc nl ws (isS ws (st.1 + 1, st.2) ⟨#[41]⟩)))] (is_c id nl ws (st.1 + 1, st.2) ⟨#[41]⟩ _ (hPut hid _ _) hlt hl _) (ok_rc) ?_
        simp only [go_sem, put_out _ _ _ _ _ hid, gput_gput, hb3]
        refine FnPost_rx hn0 (by simp) ((.mk 1 ⟨#[]⟩ false [])) _ (mem_one hid) (rfl) _ rfl (rxB_mk _ _ _ _ [] _) (fun loc' hl' => ?_)
        simp only [go_sem, get_loc, hl']
        exact rA_res _
  · have hS1 := isS_t hb1
    have hlt := (isB_lt hb1).1
    have hF : pieceF ws R st = (stepR ws (st.1 + 1, st.2) true, stepS ws (st.1 + 1, st.2)) := by unfold pieceF; rw [if_pos hb1, hS1]
    rw [hF]
    refine WE_eff [(id, .cells 0 (rc nl ws (isS ws st ⟨#[94]⟩)))] (is_c id nl ws st ⟨#[94]⟩ _ (hG _) hat hl _) (ok_rc) ?_
    simp only [go_sem, put_out _ _ _ _ _ hid, gput_gput, hb1, hS1]
    refine WE_eff [(id, .cells 0 (rc nl ws (stepS ws (st.1 + 1, st.2))))] (step_c id nl ws (st.1 + 1, st.2) true _ (hPut hid _ _) hlt hl _) (ok_rc) ?_
    simp only [go_sem, put_out _ _ _ _ _ hid, gput_gput, rA_cells]
    refine FnPost_rx hn0 (by simp) ((stepR ws (st.1 + 1, st.2) true)) _ (mem_one hid) (rfl) _ rfl (rxB_mk' _) (fun loc' hl' => ?_)
    simp only [go_sem, get_loc, hl']
    exact rA_res _
set_option maxHeartbeats 1000000 in
theorem item_c (nl : Option Bool) (ws : List Wd) (R : RS → Rd2) (st : RS) (hat : st.1 ≤ ws.length) (hl : ws.length ≤ 1000000) (hM : ∀ st' : RS, st.1 < st'.1 → st'.1 ≤ ws.length → Mo ws st' (R st'))
    (hR : ∀ st' : RS, st.1 < st'.1 → st'.1 ≤ ws.length → RowsC 105 nl ws st' (R st')) : RowsC 158 nl ws st (itemF ws R st) := by
  intro id g hg
  have hpc := piece_c nl ws R st hat hl hM hR
  have hpm := piece_mo ws R st hat hM
  have hI : itemF ws R st = starL ws (ws.length + 1) (pieceF ws R st).1 (pieceF ws R st).2 := rfl
  generalize itemF ws R st = res at *
  generalize pieceF ws R st = q at *
  obtain ⟨m1, m2, m3⟩ := hpm
  refine CallC.body (fun _ => none) (fun _ => 0) Tryd.func158 rfl Tryd.results158 Tryd.ntmps158 ?_
  intro n0 hn0
  simp only [go_sem]
  have hid : id < n0 := lt_of_named hn0 hg
  have hG : ∀ l, HP.get ⟨g, l⟩ n0 id = some (.cells 0 (rc nl ws st)) := fun l => by rw [get_out _ _ _ _ hid]; exact hg
  refine WC_scope2 0 rfl (fun s : Rd2 => [.ptr id 0 0, .any, .ptr (n0 + 2) 0 0, .ptr (n0 + 3) 0 0, .any, .any, .any, .any, .any, .any, .any, .any, .any, .any, .any, .any, .any, .any, .any, .any, .any, .any, .any, .any]) (fun s => ⟨gput g id (.cells 0 (rc nl ws s.2)), [(2, .cells 0 [I64 0, SS ⟨#[]⟩, BB false, .isl (some true) [] .full]), (3, .cells 0 (rA s.1).cells)]⟩)
    (fun s => s.2.1 ≤ ws.length ∧ ∃ f, ws.length - s.2.1 < f ∧ starL ws f s.1 s.2 = res) (fun s => ws.length - s.2.1) ?_ ?_
  · simp only [go_sem]
    refine WE_eff [(id, .cells 0 (rc nl ws (q.2)))] (hpc id _ (hG _) _) (ok_rc) ?_
    simp only [go_sem, put_out _ _ _ _ _ hid, gput_gput, rA_cells]
    refine GI_mk q ⟨m2, ws.length + 1, by omega, hI.symm⟩ ?_
    refine imp_loc (by ((try simp only [cells_agg, cells_lit, leL_cons, leL_nil, leA_any, leA_lits, leA_isl, leA_self, and_self, true_and, and_true, or_true, true_or, Value.int.injEq, Value.bool.injEq, Value.string.injEq, AV.lit.injEq, Option.some.injEq, Blk.cells.injEq, Blk.tok.injEq, List.cons.injEq, Tk.at.injEq, subL_nil, subL_cons, look_nil, look_cons, ↓reduceIte, Nat.reduceEqDiff, Option.isSome_some, reduceCtorEq, or_false, false_or, if_true, if_false, keepP_out hid]); (try first | done | omega | (simp; done) | (simp; omega)))) (by ((try simp only [cells_agg, cells_lit, leL_cons, leL_nil, leA_any, leA_lits, leA_isl, leA_self, and_self, true_and, and_true, or_true, true_or, Value.int.injEq, Value.bool.injEq, Value.string.injEq, AV.lit.injEq, Option.some.injEq, Blk.cells.injEq, Blk.tok.injEq, List.cons.injEq, Tk.at.injEq, subL_nil, subL_cons, look_nil, look_cons, ↓reduceIte, Nat.reduceEqDiff, Option.isSome_some, reduceCtorEq, or_false, false_or, if_true, if_false, keepP_out hid]); (try first | done | omega | (simp; done) | (simp; omega)))) (by ((try simp only [cells_agg, cells_lit, List.mem_cons, List.not_mem_nil, or_false, forall_eq_or_imp, forall_eq, only_any, only_lit', only_iptr, only_no, only_full, only_at, only_ptr, only_osl, only_agg, only_tup, only_fn, only_bfn, and_self, implies_true, and_true, true_and, okL_nil, okL_cons, bonly_cells, bonly_tok, keepP_add, look_nil, look_cons, ↓reduceIte, Nat.reduceEqDiff, Option.isSome_some, reduceCtorEq, false_or, if_true, if_false, false_implies, keepP_out hid]); (try first | done | omega | ((repeat' refine And.intro ?_ ?_) <;> (intro _ hx; obtain ⟨_, -, rfl⟩ := List.mem_map.1 hx; exact .lit _))))) (by ((try simp only [cells_agg, cells_lit, List.mem_cons, List.not_mem_nil, or_false, forall_eq_or_imp, forall_eq, only_any, only_lit', only_iptr, only_no, only_full, only_at, only_ptr, only_osl, only_agg, only_tup, only_fn, only_bfn, and_self, implies_true, and_true, true_and, okL_nil, okL_cons, bonly_cells, bonly_tok, keepP_add, look_nil, look_cons, ↓reduceIte, Nat.reduceEqDiff, Option.isSome_some, reduceCtorEq, false_or, if_true, if_false, false_implies, keepP_out hid]); (try first | done | omega | ((repeat' refine And.intro ?_ ?_) <;> (intro _ hx; obtain ⟨_, -, rfl⟩ := List.mem_map.1 hx; exact .lit _)))))
  · rintro ⟨x, s⟩ m ⟨hs, f, hf, hres⟩ hm
    simp only at hs hf hres hm
    simp only [go_sem, rA_cells]
    refine WC_loop (fun i : Nat => [.ptr id 0 0, .any, .ptr (n0 + 2) 0 0, .ptr (n0 + 3) 0 0, .any, .any, .any, .any, .isl (some false) [I64 5, I64 6, I64 7] .no, I64 3, I64 i, .any, .any, .any, .any, .any, .any, .any, .any, .any, .any, .any, .any, .any]) (fun i => ⟨gput g id (.cells 0 (rc nl ws s)), [(2, .cells 0 [I64 0, SS ⟨#[]⟩, BB false, .isl (some true) [] .full]), (3, .cells 0 [I64 x.k, SS x.l, BB x.b, .isl none (x.ps.map rA) .no])]⟩)
      (fun i => i ≤ 3 ∧ ∀ j : Nat, j < i → isB ws s (signR ((5 + j : Nat) : Int)) = false) (fun i => 3 - i) 0 ⟨by omega, fun j hj => by omega⟩ ?_ ?_
    · refine imp_loc (by ((try simp only [cells_agg, cells_lit, leL_cons, leL_nil, leA_any, leA_lits, leA_isl, leA_self, and_self, true_and, and_true, or_true, true_or, Value.int.injEq, Value.bool.injEq, Value.string.injEq, AV.lit.injEq, Option.some.injEq, Blk.cells.injEq, Blk.tok.injEq, List.cons.injEq, Tk.at.injEq, subL_nil, subL_cons, look_nil, look_cons, ↓reduceIte, Nat.reduceEqDiff, Option.isSome_some, reduceCtorEq, or_false, false_or, if_true, if_false, keepP_out hid]); (try first | done | omega | (simp; done) | (simp; omega)))) (by ((try simp only [cells_agg, cells_lit, leL_cons, leL_nil, leA_any, leA_lits, leA_isl, leA_self, and_self, true_and, and_true, or_true, true_or, Value.int.injEq, Value.bool.injEq, Value.string.injEq, AV.lit.injEq, Option.some.injEq, Blk.cells.injEq, Blk.tok.injEq, List.cons.injEq, Tk.at.injEq, subL_nil, subL_cons, look_nil, look_cons, ↓reduceIte, Nat.reduceEqDiff, Option.isSome_some, reduceCtorEq, or_false, false_or, if_true, if_false, keepP_out hid]); (try first | done | omega | (simp; done) | (simp; omega)))) (by ((try simp only [cells_agg, cells_lit, List.mem_cons, List.not_mem_nil, or_false, forall_eq_or_imp, forall_eq, only_any, only_lit', only_iptr, only_no, only_full, only_at, only_ptr, only_osl, only_agg, only_tup, only_fn, only_bfn, and_self, implies_true, and_true, true_and, okL_nil, okL_cons, bonly_cells, bonly_tok, keepP_add, look_nil, look_cons, ↓reduceIte, Nat.reduceEqDiff, Option.isSome_some, reduceCtorEq, false_or, if_true, if_false, false_implies, keepP_out hid]); (try first | done | omega | ((repeat' refine And.intro ?_ ?_) <;> (intro _ hx; obtain ⟨_, -, rfl⟩ := List.mem_map.1 hx; exact .lit _))))) (by ((try simp only [cells_agg, cells_lit, List.mem_cons, List.not_mem_nil, or_false, forall_eq_or_imp, forall_eq, only_any, only_lit', only_iptr, only_no, only_full, only_at, only_ptr, only_osl, only_agg, only_tup, only_fn, only_bfn, and_self, implies_true, and_true, true_and, okL_nil, okL_cons, bonly_cells, bonly_tok, keepP_add, look_nil, look_cons, ↓reduceIte, Nat.reduceEqDiff, Option.isSome_some, reduceCtorEq, false_or, if_true, if_false, false_implies, keepP_out hid]); (try first | done | omega | ((repeat' refine And.intro ?_ ?_) <;> (intro _ hx; obtain ⟨_, -, rfl⟩ := List.mem_map.1 hx; exact .lit _)))))
    · rintro i ⟨hi, hi2⟩
      simp only [go_sem]
      split
      · rename_i hlt
        have hlt : i < 3 := by omega
        have e1 : IntKind.i64.wrap ((i : Int) + 1) = ((i + 1 : Nat) : Int) := by rw [wrap_i64]; omega
        have eg : ([I64 5, I64 6, I64 7] : List AV).getD i .any = I64 ((5 + i : Nat) : Int) := by
          match i, hlt with
          | 0, _ => rfl
          | 1, _ => rfl
          | 2, _ => rfl
        simp only [go_sem, eg]
        (repeat (refine ⟨by omega, ?_⟩))
        refine WE_pure _ _ _ _ _ _ _ _ (sign_c ((5 + i : Nat) : Int) _) ?_
        simp only [go_sem]
        cases hb : isB ws s (signR ((5 + i : Nat) : Int))
        · refine WE_eff [(id, .cells 0 (rc nl ws (isS ws s (signR ((5 + i : Nat) : Int)))))] (is_c id nl ws s (signR ((5 + i : Nat) : Int)) _ (hPut hid _ _) hs hl _) (ok_rc) ?_
          simp only [go_sem, put_out _ _ _ _ _ hid, gput_gput, hb, isS_f hb]
          refine LP_next (i + 1) ⟨by omega, fun j hj => by
            by_cases e : j = i
            · rw [e]; exact hb
            · exact hi2 j (by omega)⟩ (by omega) ?_
          rw [e1]
          refine imp_loc (by ((try simp only [cells_agg, cells_lit, leL_cons, leL_nil, leA_any, leA_lits, leA_isl, leA_self, and_self, true_and, and_true, or_true, true_or, Value.int.injEq, Value.bool.injEq, Value.string.injEq, AV.lit.injEq, Option.some.injEq, Blk.cells.injEq, Blk.tok.injEq, List.cons.injEq, Tk.at.injEq, subL_nil, subL_cons, look_nil, look_cons, ↓reduceIte, Nat.reduceEqDiff, Option.isSome_some, reduceCtorEq, or_false, false_or, if_true, if_false, keepP_out hid]); (try first | done | omega | (simp; done) | (simp; omega)))) (by ((try simp only [cells_agg, cells_lit, leL_cons, leL_nil, leA_any, leA_lits, leA_isl, leA_self, and_self, true_and, and_true, or_true, true_or, Value.int.injEq, Value.bool.injEq, Value.string.injEq, AV.lit.injEq, Option.some.injEq, Blk.cells.injEq, Blk.tok.injEq, List.cons.injEq, Tk.at.injEq, subL_nil, subL_cons, look_nil, look_cons, ↓reduceIte, Nat.reduceEqDiff, Option.isSome_some, reduceCtorEq, or_false, false_or, if_true, if_false, keepP_out hid]); (try first | done | omega | (simp; done) | (simp; omega)))) (by ((try simp only [cells_agg, cells_lit, List.mem_cons, List.not_mem_nil, or_false, forall_eq_or_imp, forall_eq, only_any, only_lit', only_iptr, only_no, only_full, only_at, only_ptr, only_osl, only_agg, only_tup, only_fn, only_bfn, and_self, implies_true, and_true, true_and, okL_nil, okL_cons, bonly_cells, bonly_tok, keepP_add, look_nil, look_cons, ↓reduceIte, Nat.reduceEqDiff, Option.isSome_some, reduceCtorEq, false_or, if_true, if_false, false_implies, keepP_out hid]); (try first | done | omega | ((repeat' refine And.intro ?_ ?_) <;> (intro _ hx; obtain ⟨_, -, rfl⟩ := List.mem_map.1 hx; exact .lit _))))) (by ((try simp only [cells_agg, cells_lit, List.mem_cons, List.not_mem_nil, or_false, forall_eq_or_imp, forall_eq, only_any, only_lit', only_iptr, only_no, only_full, only_at, only_ptr, only_osl, only_agg, only_tup, only_fn, only_bfn, and_self, implies_true, and_true, true_and, okL_nil, okL_cons, bonly_cells, bonly_tok, keepP_add, look_nil, look_cons, ↓reduceIte, Nat.reduceEqDiff, Option.isSome_some, reduceCtorEq, false_or, if_true, if_false, false_implies, keepP_out hid]); (try first | done | omega | ((repeat' refine And.intro ?_ ?_) <;> (intro _ hx; obtain ⟨_, -, rfl⟩ := List.mem_map.1 hx; exact .lit _)))))
        · have hb1 := isB_lt hb
          obtain ⟨f', rfl⟩ : ∃ f', f = f' + 1 := ⟨f - 1, by omega⟩
          have hst : starL ws f' (.mk ((5 + i : Nat) : Int) ⟨#[]⟩ false [x]) (s.1 + 1, s.2) = res := by
            rw [← hres, starL]
            match i, hlt, hb, hi2 with
            | 0, _, hb, hi2 =>
              have h5 : isB ws s (signR 5) = true := hb
              rw [if_pos h5, isS_t h5]; rfl
            | 1, _, hb, hi2 =>
              have h5 : isB ws s (signR 5) = false := hi2 0 (by omega)
              have h6 : isB ws s (signR 6) = true := hb
              rw [if_neg (by rw [h5]; decide), if_pos h6, isS_t h6]; rfl
            | 2, _, hb, hi2 =>
              have h5 : isB ws s (signR 5) = false := hi2 0 (by omega)
              have h6 : isB ws s (signR 6) = false := hi2 1 (by omega)
              have h7 : isB ws s (signR 7) = true := hb
              rw [if_neg (by rw [h5]; decide), if_neg (by rw [h6]; decide), if_pos h7, isS_t h7]; rfl
          refine WE_eff [(id, .cells 0 (rc nl ws (isS ws s (signR ((5 + i : Nat) : Int)))))] (is_c id nl ws s (signR ((5 + i : Nat) : Int)) _ (hPut hid _ _) hs hl _) (ok_rc) ?_
          simp only [go_sem, put_out _ _ _ _ _ hid, gput_gput, hb, isS_t hb]
          refine WC_goto 0 ?_
          simp only [go_sem]
          refine GX_jump (.mk ((5 + i : Nat) : Int) ⟨#[]⟩ false [x], (s.1 + 1, s.2)) ⟨hb1.1, f', by simp only; omega, hst⟩ (fun y hy => by rw [hm y hy]; simp only; omega) ?_
          refine Imp.trans (imp_cells (loc' := [(2, .cells 0 [I64 0, SS ⟨#[]⟩, BB false, .isl (some true) [] .full]), (3, .cells 0 [I64 ((5 + i : Nat) : Int), SS ⟨#[]⟩, BB false, .isl none ([x].map rA) .no])]) ⟨rfl, leB_refl _, rfl, ⟨rfl, leA_refl _, leA_refl _, leA_refl _, ⟨.inl rfl, by rw [List.map_cons, rA_eq]; rfl, .inl rfl⟩, trivial⟩, trivial⟩) ?_
          refine imp_loc (by ((try simp only [cells_agg, cells_lit, leL_cons, leL_nil, leA_any, leA_lits, leA_isl, leA_self, and_self, true_and, and_true, or_true, true_or, Value.int.injEq, Value.bool.injEq, Value.string.injEq, AV.lit.injEq, Option.some.injEq, Blk.cells.injEq, Blk.tok.injEq, List.cons.injEq, Tk.at.injEq, subL_nil, subL_cons, look_nil, look_cons, ↓reduceIte, Nat.reduceEqDiff, Option.isSome_some, reduceCtorEq, or_false, false_or, if_true, if_false, keepP_out hid, Rx.k, Rx.l, Rx.b, Rx.ps]); (try first | done | omega | (simp; done) | (simp; omega)))) (by ((try simp only [cells_agg, cells_lit, leL_cons, leL_nil, leA_any, leA_lits, leA_isl, leA_self, and_self, true_and, and_true, or_true, true_or, Value.int.injEq, Value.bool.injEq, Value.string.injEq, AV.lit.injEq, Option.some.injEq, Blk.cells.injEq, Blk.tok.injEq, List.cons.injEq, Tk.at.injEq, subL_nil, subL_cons, look_nil, look_cons, ↓reduceIte, Nat.reduceEqDiff, Option.isSome_some, reduceCtorEq, or_false, false_or, if_true, if_false, keepP_out hid, Rx.k, Rx.l, Rx.b, Rx.ps]); (try first | done | omega | (simp; done) | (simp; omega)))) (by ((try simp only [cells_agg, cells_lit, List.mem_cons, List.not_mem_nil, or_false, forall_eq_or_imp, forall_eq, only_any, only_lit', only_iptr, only_no, only_full, only_at, only_ptr, only_osl, only_agg, only_tup, only_fn, only_bfn, and_self, implies_true, and_true, true_and, okL_nil, okL_cons, bonly_cells, bonly_tok, keepP_add, look_nil, look_cons, ↓reduceIte, Nat.reduceEqDiff, Option.isSome_some, reduceCtorEq, false_or, if_true, if_false, false_implies, keepP_out hid, Rx.k, Rx.l, Rx.b, Rx.ps]); (try first | done | omega | ((repeat' refine And.intro ?_ ?_) <;> (intro _ hx; obtain ⟨_, -, rfl⟩ := List.mem_map.1 hx; exact .lit _))))) (by ((try simp only [cells_agg, cells_lit, List.mem_cons, List.not_mem_nil, or_false, forall_eq_or_imp, forall_eq, only_any, only_lit', only_iptr, only_no, only_full, only_at, only_ptr, only_osl, only_agg, only_tup, only_fn, only_bfn, and_self, implies_true, and_true, true_and, okL_nil, okL_cons, bonly_cells, bonly_tok, keepP_add, look_nil, look_cons, ↓reduceIte, Nat.reduceEqDiff, Option.isSome_some, reduceCtorEq, false_or, if_true, if_false, false_implies, keepP_out hid, Rx.k, Rx.l, Rx.b, Rx.ps]); (try first | done | omega | ((repeat' refine And.intro ?_ ?_) <;> (intro _ hx; obtain ⟨_, -, rfl⟩ := List.mem_map.1 hx; exact .lit _)))))
      · have : i = 3 := by omega
        subst this
        simp only [go_sem]
        obtain ⟨f', rfl⟩ : ∃ f', f = f' + 1 := ⟨f - 1, by omega⟩
        have hst : res = (x, s) := by
          have h5 : isB ws s (signR 5) = false := hi2 0 (by omega)
          have h6 : isB ws s (signR 6) = false := hi2 1 (by omega)
          have h7 : isB ws s (signR 7) = false := hi2 2 (by omega)
          rw [← hres, starL, if_neg (by rw [h5]; decide), if_neg (by rw [h6]; decide), if_neg (by rw [h7]; decide)]
        rw [hst]
        refine FnPost_rx hn0 (by simp) ((x)) _ (mem_one hid) (rfl) _ rfl (rxB_mk' _) (fun loc' hl' => ?_)
        simp only [go_sem, get_loc, hl']
        exact rA_res _
set_option maxHeartbeats 1000000 in
theorem parts_c (nl : Option Bool) (ws : List Wd) (kind : Int) (f1 : FuncId) (one : RS → Rd2) (st0 : RS) (hat : st0.1 ≤ ws.length) (hl : ws.length ≤ 1000000) (hcl : callable Tryd.prog f1 = true) (hM : ∀ st : RS, st0.1 ≤ st.1 → st.1 ≤ ws.length → Mo ws st (one st))
    (hR : ∀ st : RS, st0.1 ≤ st.1 → st.1 ≤ ws.length → RowsC f1 nl ws st (one st)) (id : Nat) (g : GH) (hg : g id = some (.cells 0 (rc nl ws st0))) :
    CallC Tryd.prog 133 [.ptr id 0 0, I64 kind, .bfn f1 [.ptr id 0 0]] g (fun r g' => r = rA (partsF ws kind one st0).1 ∧ g' = gputs g [(id, .cells 0 (rc nl ws (partsF ws kind one st0).2))]) := by
  have hI : partsF ws kind one st0 = partsL ws kind one (ws.length + 1) [] st0 := rfl
  generalize partsF ws kind one st0 = res at *
  refine CallC.body (fun _ => none) (fun d => if d = 7 then 1 else 0) Tryd.func133 rfl Tryd.results133 Tryd.ntmps133 ?_
  intro n0 hn0
  simp only [go_sem]
  have hid : id < n0 := lt_of_named hn0 hg
  have hG : ∀ l, HP.get ⟨g, l⟩ n0 id = some (.cells 0 (rc nl ws st0)) := fun l => by rw [get_out _ _ _ _ hid]; exact hg
  have hg0 : gput g id (.cells 0 (rc nl ws st0)) = g := gput_self hg
  refine WC_loop (fun p : List Rx × RS × Nat => [.ptr id 0 0, I64 kind, .bfn f1 [.ptr id 0 0], .any, .any, .any, .ptr (n0 + 6) 0 0, .isl none (p.1.map rA) (.at (n0 + 7) p.2.2), .any, .any, .any, .any, .any, .any, .any, .any, .any, .any, .any, .any, .any, .any, .any, .any, .any, .any, .any, .any, .any, .any, .any, .any, .any, .any, .any, .any, .any]) (fun p => ⟨gput g id (.cells 0 (rc nl ws p.2.1)), [(6, .cells 0 [I64 0, SS ⟨#[]⟩, BB false, .isl (some true) [] .full]), (7, .tok p.2.2)]⟩)
    (fun p => st0.1 ≤ p.2.1.1 ∧ p.2.1.1 ≤ ws.length ∧ nodesL p.1 ≤ 2 * (p.2.1.1 - st0.1) ∧ ∃ f, ws.length - p.2.1.1 < f ∧ partsL ws kind one f p.1 p.2.1 = res) (fun p => ws.length - p.2.1.1) ([], st0, 0) ⟨Nat.le_refl _, hat, by simp only [nodesL]; omega, ws.length + 1, by simp only; omega, hI.symm⟩ ?_ ?_
  · simp only [hg0, List.map_nil]
    refine imp_loc (by ((try simp only [cells_agg, cells_lit, leL_cons, leL_nil, leA_any, leA_lits, leA_isl, leA_self, and_self, true_and, and_true, or_true, true_or, Value.int.injEq, Value.bool.injEq, Value.string.injEq, AV.lit.injEq, Option.some.injEq, Blk.cells.injEq, Blk.tok.injEq, List.cons.injEq, Tk.at.injEq, subL_nil, subL_cons, look_nil, look_cons, ↓reduceIte, Nat.reduceEqDiff, Option.isSome_some, reduceCtorEq, or_false, false_or, if_true, if_false, keepP_out hid]); (try first | done | omega | (simp; done) | (simp; omega)))) (by ((try simp only [cells_agg, cells_lit, leL_cons, leL_nil, leA_any, leA_lits, leA_isl, leA_self, and_self, true_and, and_true, or_true, true_or, Value.int.injEq, Value.bool.injEq, Value.string.injEq, AV.lit.injEq, Option.some.injEq, Blk.cells.injEq, Blk.tok.injEq, List.cons.injEq, Tk.at.injEq, subL_nil, subL_cons, look_nil, look_cons, ↓reduceIte, Nat.reduceEqDiff, Option.isSome_some, reduceCtorEq, or_false, false_or, if_true, if_false, keepP_out hid]); (try first | done | omega | (simp; done) | (simp; omega)))) (by ((try simp only [cells_agg, cells_lit, List.mem_cons, List.not_mem_nil, or_false, forall_eq_or_imp, forall_eq, only_any, only_lit', only_iptr, only_no, only_full, only_at, only_ptr, only_osl, only_agg, only_tup, only_fn, only_bfn, and_self, implies_true, and_true, true_and, okL_nil, okL_cons, bonly_cells, bonly_tok, keepP_add, look_nil, look_cons, ↓reduceIte, Nat.reduceEqDiff, Option.isSome_some, reduceCtorEq, false_or, if_true, if_false, false_implies, keepP_out hid]); (try first | done | omega | ((repeat' refine And.intro ?_ ?_) <;> (intro _ hx; obtain ⟨_, -, rfl⟩ := List.mem_map.1 hx; exact .lit _))))) (by ((try simp only [cells_agg, cells_lit, List.mem_cons, List.not_mem_nil, or_false, forall_eq_or_imp, forall_eq, only_any, only_lit', only_iptr, only_no, only_full, only_at, only_ptr, only_osl, only_agg, only_tup, only_fn, only_bfn, and_self, implies_true, and_true, true_and, okL_nil, okL_cons, bonly_cells, bonly_tok, keepP_add, look_nil, look_cons, ↓reduceIte, Nat.reduceEqDiff, Option.isSome_some, reduceCtorEq, false_or, if_true, if_false, false_implies, keepP_out hid]); (try first | done | omega | ((repeat' refine And.intro ?_ ?_) <;> (intro _ hx; obtain ⟨_, -, rfl⟩ := List.mem_map.1 hx; exact .lit _)))))
  · rintro ⟨l, st, v⟩ ⟨h1, h2, h3, f, hf, hres⟩
    simp only at h1 h2 h3 hf hres
    have hone := hR st h1 h2
    have hmo := hM st h1 h2
    obtain ⟨f', rfl⟩ : ∃ f', f = f' + 1 := ⟨f - 1, by omega⟩
    rw [partsL] at hres
    generalize one st = q at *
    obtain ⟨m1, m2, m3⟩ := hmo
    have htl := takeL_nodes kind l q.1
    simp only [go_sem, hcl]
    (repeat (refine ⟨by omega, ?_⟩))
    refine WE_eff [(id, .cells 0 (rc nl ws (q.2)))] (hone id _ (hPut hid _ _) _) (ok_rc) ?_
    simp only [go_sem, put_out _ _ _ _ _ hid, gput_gput, rA_cells]
    have hll : ∀ l : List Rx, l.length ≤ nodesL l := fun l => by rw [nodesL_eq]; exact len_le_sum l
    have hl1 := hll l
    have hl2 := q.1.len_lt
    by_cases hk : q.1.k = kind
    · simp only [go_sem, eq_true hk]
      refine ⟨⟨by rw [List.length_map, List.length_map]; omega, (elsOk_rA _).2 trivial, (elsOk_rA _).2 trivial⟩, ?_⟩
      have e2 : (takeL kind l q.1).map rA = l.map rA ++ q.1.ps.map rA := by unfold takeL; rw [if_pos hk, List.map_append]
      refine WE_pure _ _ _ _ _ _ _ _ (sign_c kind _) ?_
      simp only [go_sem]
      cases hb : isB ws q.2 (signR kind)
      · rw [hb] at hres
        rw [if_neg (by decide)] at hres
        refine WE_eff [(id, .cells 0 (rc nl ws (isS ws q.2 (signR kind))))] (is_c id nl ws q.2 (signR kind) _ (hPut hid _ _) m2 hl _) (ok_rc) ?_
        simp only [go_sem, put_out _ _ _ _ _ hid, gput_gput, hb, isS_f hb, ← e2]
        subst hres
        generalize takeL kind l q.1 = L at *
        by_cases hone1 : L.length = 1
        · have hw : wholeR kind L = L.getD 0 rx0 := by unfold wholeR; rw [if_pos hone1]
          have hi1 : ((L.length : Nat) : Int) = 1 := by omega
          rw [hw]
          simp only [go_sem, List.length_map, hi1, rA_getD L 0 (by omega), rA_cells]
          (repeat (refine ⟨by omega, ?_⟩))
          refine FnPost_rx hn0 (by simp) ((L.getD 0 rx0)) _ (mem_one hid) (rfl) _ rfl (rxB_mk' _) (fun loc' hl' => ?_)
          simp only [go_sem, get_loc, hl']
          exact rA_res _
        · have hw : wholeR kind L = .mk kind ⟨#[]⟩ false L := by unfold wholeR; rw [if_neg hone1]
          have hi1 : ¬ ((L.length : Nat) : Int) = 1 := by omega
          rw [hw]
          simp only [go_sem, List.length_map, eq_false hi1]
          refine FnPost_rx hn0 (by simp) ((.mk kind ⟨#[]⟩ false L)) _ (mem_one hid) (rfl) _ rfl (rxB_mk _ _ _ _ L _) (fun loc' hl' => ?_)
          simp only [go_sem, get_loc, hl']
          exact rA_res _
      · have hb1 := isB_lt hb
        rw [hb] at hres
        rw [if_pos rfl, isS_t hb] at hres
        refine WE_eff [(id, .cells 0 (rc nl ws (isS ws q.2 (signR kind))))] (is_c id nl ws q.2 (signR kind) _ (hPut hid _ _) m2 hl _) (ok_rc) ?_
        simp only [go_sem, put_out _ _ _ _ _ hid, gput_gput, hb, isS_t hb, ← e2]
        refine LP_next (takeL kind l q.1, (q.2.1 + 1, q.2.2), v + 1) ⟨by simp only; omega, hb1.1, by simp only; omega, f', by simp only; omega, hres⟩ (by simp only; omega) ?_
        refine imp_loc (by ((try simp only [cells_agg, cells_lit, leL_cons, leL_nil, leA_any, leA_lits, leA_isl, leA_self, and_self, true_and, and_true, or_true, true_or, Value.int.injEq, Value.bool.injEq, Value.string.injEq, AV.lit.injEq, Option.some.injEq, Blk.cells.injEq, Blk.tok.injEq, List.cons.injEq, Tk.at.injEq, subL_nil, subL_cons, look_nil, look_cons, ↓reduceIte, Nat.reduceEqDiff, Option.isSome_some, reduceCtorEq, or_false, false_or, if_true, if_false, keepP_out hid]); (try first | done | omega | (simp; done) | (simp; omega)))) (by ((try simp only [cells_agg, cells_lit, leL_cons, leL_nil, leA_any, leA_lits, leA_isl, leA_self, and_self, true_and, and_true, or_true, true_or, Value.int.injEq, Value.bool.injEq, Value.string.injEq, AV.lit.injEq, Option.some.injEq, Blk.cells.injEq, Blk.tok.injEq, List.cons.injEq, Tk.at.injEq, subL_nil, subL_cons, look_nil, look_cons, ↓reduceIte, Nat.reduceEqDiff, Option.isSome_some, reduceCtorEq, or_false, false_or, if_true, if_false, keepP_out hid]); (try first | done | omega | (simp; done) | (simp; omega)))) (by ((try simp only [cells_agg, cells_lit, List.mem_cons, List.not_mem_nil, or_false, forall_eq_or_imp, forall_eq, only_any, only_lit', only_iptr, only_no, only_full, only_at, only_ptr, only_osl, only_agg, only_tup, only_fn, only_bfn, and_self, implies_true, and_true, true_and, okL_nil, okL_cons, bonly_cells, bonly_tok, keepP_add, look_nil, look_cons, ↓reduceIte, Nat.reduceEqDiff, Option.isSome_some, reduceCtorEq, false_or, if_true, if_false, false_implies, keepP_out hid]); (try first | done | omega | ((repeat' refine And.intro ?_ ?_) <;> (intro _ hx; obtain ⟨_, -, rfl⟩ := List.mem_map.1 hx; exact .lit _))))) (by ((try simp only [cells_agg, cells_lit, List.mem_cons, List.not_mem_nil, or_false, forall_eq_or_imp, forall_eq, only_any, only_lit', only_iptr, only_no, only_full, only_at, only_ptr, only_osl, only_agg, only_tup, only_fn, only_bfn, and_self, implies_true, and_true, true_and, okL_nil, okL_cons, bonly_cells, bonly_tok, keepP_add, look_nil, look_cons, ↓reduceIte, Nat.reduceEqDiff, Option.isSome_some, reduceCtorEq, false_or, if_true, if_false, false_implies, keepP_out hid]); (try first | done | omega | ((repeat' refine And.intro ?_ ?_) <;> (intro _ hx; obtain ⟨_, -, rfl⟩ := List.mem_map.1 hx; exact .lit _)))))
    · simp only [go_sem, eq_false hk]
      refine ⟨⟨by rw [List.length_map]; omega, (elsOk_rA _).2 trivial⟩, ?_⟩
      have e2 : (takeL kind l q.1).map rA = l.map rA ++ [AV.agg [I64 q.1.k, SS q.1.l, BB q.1.b, .isl none (q.1.ps.map rA) .no]] := by unfold takeL; rw [if_neg hk, List.map_append, ← rA_eq]; rfl
      refine WE_pure _ _ _ _ _ _ _ _ (sign_c kind _) ?_
      simp only [go_sem]
      cases hb : isB ws q.2 (signR kind)
      · rw [hb] at hres
        rw [if_neg (by decide)] at hres
        refine WE_eff [(id, .cells 0 (rc nl ws (isS ws q.2 (signR kind))))] (is_c id nl ws q.2 (signR kind) _ (hPut hid _ _) m2 hl _) (ok_rc) ?_
        simp only [go_sem, put_out _ _ _ _ _ hid, gput_gput, hb, isS_f hb, ← e2]
        subst hres
        generalize takeL kind l q.1 = L at *
        by_cases hone1 : L.length = 1
        · have hw : wholeR kind L = L.getD 0 rx0 := by unfold wholeR; rw [if_pos hone1]
          have hi1 : ((L.length : Nat) : Int) = 1 := by omega
          rw [hw]
          simp only [go_sem, List.length_map, hi1, rA_getD L 0 (by omega), rA_cells]
          (repeat (refine ⟨by omega, ?_⟩))
          refine FnPost_rx hn0 (by simp) ((L.getD 0 rx0)) _ (mem_one hid) (rfl) _ rfl (rxB_mk' _) (fun loc' hl' => ?_)
          simp only [go_sem, get_loc, hl']
          exact rA_res _
        · have hw : wholeR kind L = .mk kind ⟨#[]⟩ false L := by unfold wholeR; rw [if_neg hone1]
          have hi1 : ¬ ((L.length : Nat) : Int) = 1 := by omega
          rw [hw]
          simp only [go_sem, List.length_map, eq_false hi1]
          refine FnPost_rx hn0 (by simp) ((.mk kind ⟨#[]⟩ false L)) _ (mem_one hid) (rfl) _ rfl (rxB_mk _ _ _ _ L _) (fun loc' hl' => ?_)
          simp only [go_sem, get_loc, hl']
          exact rA_res _
      · have hb1 := isB_lt hb
        rw [hb] at hres
        rw [if_pos rfl, isS_t hb] at hres
        refine WE_eff [(id, .cells 0 (rc nl ws (isS ws q.2 (signR kind))))] (is_c id nl ws q.2 (signR kind) _ (hPut hid _ _) m2 hl _) (ok_rc) ?_
        simp only [go_sem, put_out _ _ _ _ _ hid, gput_gput, hb, isS_t hb, ← e2]
        refine LP_next (takeL kind l q.1, (q.2.1 + 1, q.2.2), v + 1) ⟨by simp only; omega, hb1.1, by simp only; omega, f', by simp only; omega, hres⟩ (by simp only; omega) ?_
        refine imp_loc (by ((try simp only [cells_agg, cells_lit, leL_cons, leL_nil, leA_any, leA_lits, leA_isl, leA_self, and_self, true_and, and_true, or_true, true_or, Value.int.injEq, Value.bool.injEq, Value.string.injEq, AV.lit.injEq, Option.some.injEq, Blk.cells.injEq, Blk.tok.injEq, List.cons.injEq, Tk.at.injEq, subL_nil, subL_cons, look_nil, look_cons, ↓reduceIte, Nat.reduceEqDiff, Option.isSome_some, reduceCtorEq, or_false, false_or, if_true, if_false, keepP_out hid]); (try first | done | omega | (simp; done) | (simp; omega)))) (by ((try simp only [cells_agg, cells_lit, leL_cons, leL_nil, leA_any, leA_lits, leA_isl, leA_self, and_self, true_and, and_true, or_true, true_or, Value.int.injEq, Value.bool.injEq, Value.string.injEq, AV.lit.injEq, Option.some.injEq, Blk.cells.injEq, Blk.tok.injEq, List.cons.injEq, Tk.at.injEq, subL_nil, subL_cons, look_nil, look_cons, ↓reduceIte, Nat.reduceEqDiff, Option.isSome_some, reduceCtorEq, or_false, false_or, if_true, if_false, keepP_out hid]); (try first | done | omega | (simp; done) | (simp; omega)))) (by ((try simp only [cells_agg, cells_lit, List.mem_cons, List.not_mem_nil, or_false, forall_eq_or_imp, forall_eq, only_any, only_lit', only_iptr, only_no, only_full, only_at, only_ptr, only_osl, only_agg, only_tup, only_fn, only_bfn, and_self, implies_true, and_true, true_and, okL_nil, okL_cons, bonly_cells, bonly_tok, keepP_add, look_nil, look_cons, ↓reduceIte, Nat.reduceEqDiff, Option.isSome_some, reduceCtorEq, false_or, if_true, if_false, false_implies, keepP_out hid]); (try first | done | omega | ((repeat' refine And.intro ?_ ?_) <;> (intro _ hx; obtain ⟨_, -, rfl⟩ := List.mem_map.1 hx; exact .lit _))))) (by ((try simp only [cells_agg, cells_lit, List.mem_cons, List.not_mem_nil, or_false, forall_eq_or_imp, forall_eq, only_any, only_lit', only_iptr, only_no, only_full, only_at, only_ptr, only_osl, only_agg, only_tup, only_fn, only_bfn, and_self, implies_true, and_true, true_and, okL_nil, okL_cons, bonly_cells, bonly_tok, keepP_add, look_nil, look_cons, ↓reduceIte, Nat.reduceEqDiff, Option.isSome_some, reduceCtorEq, false_or, if_true, if_false, false_implies, keepP_out hid]); (try first | done | omega | ((repeat' refine And.intro ?_ ?_) <;> (intro _ hx; obtain ⟨_, -, rfl⟩ := List.mem_map.1 hx; exact .lit _)))))
theorem row_c (nl : Option Bool) (ws : List Wd) (R : RS → Rd2) (st : RS) (hat : st.1 ≤ ws.length) (hl : ws.length ≤ 1000000) (hM : ∀ st' : RS, st.1 < st'.1 → st'.1 ≤ ws.length → Mo ws st' (R st'))
    (hR : ∀ st' : RS, st.1 < st'.1 → st'.1 ≤ ws.length → RowsC 105 nl ws st' (R st')) : RowsC 134 nl ws st (rowF ws R st) := by
  intro id g hg
  have hpc := fun g hg => parts_c nl ws 3 158 (itemF ws R) st hat hl (by kernel_rfl) (fun st1 h1 h2 => item_mo ws R st1 h2 fun st' h3 h4 => hM st' (by omega) h4)
    (fun st1 h1 h2 => item_c nl ws R st1 h2 hl (fun st' h3 h4 => hM st' (by omega) h4) (fun st' h3 h4 => hR st' (by omega) h4)) id g hg
  have hF : partsF ws 3 (itemF ws R) st = rowF ws R st := rfl
  rw [hF] at hpc
  generalize rowF ws R st = q at *
  refine CallC.body (fun _ => none) (fun _ => 0) Tryd.func134 rfl Tryd.results134 Tryd.ntmps134 ?_
  intro n0 hn0
  simp only [go_sem]
  have hid : id < n0 := lt_of_named hn0 hg
  have hG : ∀ l, HP.get ⟨g, l⟩ n0 id = some (.cells 0 (rc nl ws st)) := fun l => by rw [get_out _ _ _ _ hid]; exact hg
  refine WE_eff [(id, .cells 0 (rc nl ws (q.2)))] (hpc _ (hG _) _) (ok_rc) ?_
  simp only [go_sem, put_out _ _ _ _ _ hid, gput_gput, rA_cells]
  refine FnPost_rx hn0 (by simp) ((q.1)) _ (mem_one hid) (rfl) _ rfl (rxB_mk' _) (fun loc' hl' => ?_)
  simp only [go_sem, get_loc, hl']
  exact rA_res _
theorem rows_c (nl : Option Bool) (ws : List Wd) (R : RS → Rd2) (st : RS) (hat : st.1 ≤ ws.length) (hl : ws.length ≤ 1000000) (hM : ∀ st' : RS, st.1 < st'.1 → st'.1 ≤ ws.length → Mo ws st' (R st'))
    (hR : ∀ st' : RS, st.1 < st'.1 → st'.1 ≤ ws.length → RowsC 105 nl ws st' (R st')) : RowsC 105 nl ws st (rowsF ws R st) := by
  intro id g hg
  have hpc := fun g hg => parts_c nl ws 4 134 (rowF ws R) st hat hl (by kernel_rfl) (fun st1 h1 h2 => row_mo ws R st1 h2 fun st' h3 h4 => hM st' (by omega) h4)
    (fun st1 h1 h2 => row_c nl ws R st1 h2 hl (fun st' h3 h4 => hM st' (by omega) h4) (fun st' h3 h4 => hR st' (by omega) h4)) id g hg
  have hF : partsF ws 4 (rowF ws R) st = rowsF ws R st := rfl
  rw [hF] at hpc
  generalize rowsF ws R st = q at *
  refine CallC.body (fun _ => none) (fun _ => 0) Tryd.func105 rfl Tryd.results105 Tryd.ntmps105 ?_
  intro n0 hn0
  simp only [go_sem]
  have hid : id < n0 := lt_of_named hn0 hg
  have hG : ∀ l, HP.get ⟨g, l⟩ n0 id = some (.cells 0 (rc nl ws st)) := fun l => by rw [get_out _ _ _ _ hid]; exact hg
  refine WE_eff [(id, .cells 0 (rc nl ws (q.2)))] (hpc _ (hG _) _) (ok_rc) ?_
  simp only [go_sem, put_out _ _ _ _ _ hid, gput_gput, rA_cells]
  refine FnPost_rx hn0 (by simp) ((q.1)) _ (mem_one hid) (rfl) _ rfl (rxB_mk' _) (fun loc' hl' => ?_)
  simp only [go_sem, get_loc, hl']
  exact rA_res _
theorem rowsN_c (nl : Option Bool) (ws : List Wd) (hl : ws.length ≤ 1000000) : ∀ (n : Nat) (st : RS), st.1 ≤ ws.length → ws.length - st.1 < n → RowsC 105 nl ws st (rowsN ws n st)
  | 0, st, h, hn => by omega
  | n + 1, st, h, hn => rows_c nl ws _ st h hl (fun st' h1 h2 => rowsN_mo ws n st' h2 (by omega)) (fun st' h1 h2 => rowsN_c nl ws hl n st' h2 (by omega))
end Go.Proofs.YtcnhpclfflcdfaaDoorR.Reg
