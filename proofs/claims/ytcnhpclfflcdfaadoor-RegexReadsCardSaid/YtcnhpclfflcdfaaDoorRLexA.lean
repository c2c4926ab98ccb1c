import Derived.Test.YtcnhpclfflcdfaaDoorRValReads
import Derived.Test.YtcnhpclfflcdfaaDoorRLexN
import Derived.Test.YtcnhpclfflcdfaaDoorShelf
/- A query's words: the table of white bytes, signs, keys. -/
namespace Go.Proofs.YtcnhpclfflcdfaaDoorR.Lex
open Go Go.Av Go.Proofs.YtcnhpclfflcdfaaDoorR.Val
set_option linter.unusedSimpArgs false
set_option linter.unusedVariables false
theorem table {w : World} (h : BaseW w) : Lib.TabIs Tryd.prog w "strings.asciiSpace" .u8 Lib.asciiSpaceTab := by
  obtain ⟨t, fz, h1⟩ := h _ (by first | exact List.mem_singleton.2 rfl | exact List.mem_cons_self)
  have hg : Tryd.prog.globalNamed "strings.asciiSpace" = some 1 := by kernel_rfl
  unfold Lib.TabIs World.var?
  rw [hg, Option.bind_some, h1]
theorem fields_c (s : ByteArray) (hs : s.size < 4294967281) (ha : asciiB s = true) (g : GH) : PureC Tryd.prog 128 [SS s] g (.isl (some false) (Tl (fieldsB s)) .full) := by
  intro n w0 M φ w vs hdom hw hargs
  obtain ⟨l⟩ := vs
  have h0 := hargs.1
  match l, h0 with
  | [v], _ =>
    have hv := hargs.2 0 _ v rfl rfl
    have hv := lit_inv hv
    subst hv
    have hascii : ∀ (j : Nat) b, s.data.toList[j]? = some b → b.toNat < 128 := fun j b hj => by
      have := List.all_eq_true.1 ha b (List.mem_of_getElem? hj)
      simpa using this
    refine (Tryd.strings_Fields s w hs hascii (table hw.baseNow)).mono ?_
    rintro e w' ⟨rfl, rfl⟩
    have hlen : (Tl (fieldsB s)).length = (Lib.fields s.data.toList).length := by simp [fieldsB]
    refine ⟨memAdd M w.heap.size ((((Lib.fields s.data.toList).map fun l => Value.string ⟨l.toArray⟩).toArray)[·]?), φ, _, _, g, rfl, memAdd_le fun j _ _ => hw.none_new j, Phi.le.refl _, hdom, hw.alloc_imm _ _, ?_, rfl, rfl⟩
    refine Rep.isl 1 (fun i _ => .string ((fieldsB s).getD i ⟨#[]⟩)) hlen.symm (by omega) (by simp) (by simp) ?_ ?_ ?_ ?_ (fun _ => rfl) (by simp)
    · intro e he
      obtain ⟨x, -, rfl⟩ := List.mem_map.1 he
      rfl
    · intro r hr _; cases hr; rfl
    · intro r hr i e c x hi hc
      cases hr
      have hil : i < (fieldsB s).length := by have := (List.getElem?_eq_some_iff.1 hi).1; simpa using this
      have hil2 : i < (Lib.fields s.data.toList).length := by simpa [fieldsB] using hil
      have he : e = SS ((fieldsB s).getD i ⟨#[]⟩) := by
        have := hi
        simp only [List.getElem?_map] at this
        rw [List.getElem?_eq_getElem hil] at this
        simp only [Option.map_some, Option.some.injEq] at this
        rw [← this]; simp [List.getD_eq_getElem?_getD, hil]
      subst he
      have hc0 : c = 0 := by have := (List.getElem?_eq_some_iff.1 hc).1; simp [AV.cells] at this; exact this
      subst hc0
      refine memAdd_same (f := ((((Lib.fields s.data.toList).map fun l => Value.string ⟨l.toArray⟩).toArray)[·]?)) ?_
      simp [fieldsB, bytesOf, List.getD_eq_getElem?_getD, hil2]
    · intro i e c x hi hc
      have hil : i < (fieldsB s).length := by have := (List.getElem?_eq_some_iff.1 hi).1; simpa using this
      have he : e = SS ((fieldsB s).getD i ⟨#[]⟩) := by
        have := hi
        simp only [List.getElem?_map] at this
        rw [List.getElem?_eq_getElem hil] at this
        simp only [Option.map_some, Option.some.injEq] at this
        rw [← this]; simp [List.getD_eq_getElem?_getD, hil]
      subst he
      have hc0 : c = 0 := by have := (List.getElem?_eq_some_iff.1 hc).1; simp [AV.cells] at this; exact this
      subst hc0
      simp [AV.cells] at hc
      subst hc
      exact .lit _
theorem signs_eq : fieldsB ⟨#[45, 91, 32, 93, 45, 62, 32, 60, 45, 91, 32, 93, 45, 32, 40, 32, 41, 32, 123, 32, 125, 32, 44, 32, 58, 32, 46, 32, 124, 32, 94, 32, 42, 32, 43, 32, 63, 32, 61, 32, 60, 62, 32, 60, 32, 60, 61, 32, 62, 32, 62, 61]⟩ = signsT := by decide +kernel
theorem keys_eq : fieldsB ⟨#[77, 65, 84, 67, 72, 32, 82, 69, 84, 85, 82, 78, 32, 79, 82, 68, 69, 82, 32, 66, 89, 32, 67, 79, 83, 84, 32, 83, 75, 73, 80, 32, 76, 73, 77, 73, 84, 32, 67, 79, 85, 78, 84, 32, 83, 72, 79, 82, 84, 69, 83, 84]⟩ = keysT := by decide +kernel
theorem signs_c (g : GH) : PureC Tryd.prog 129 [] g (.isl (some false) (Tl signsT) .full) := by
  refine CallC.body (fun _ => none) (fun _ => 0) Tryd.func129 rfl Tryd.results129 Tryd.ntmps129 ?_
  intro n0 hn0
  simp only [go_sem]
  refine WE_pure _ _ _ _ _ _ _ _ (signs_eq ▸ fields_c _ (by decide) (by decide +kernel) _) ?_
  simp only [go_sem]
  refine FnPost_end hn0 (by simp) rfl (by simp only [only_tup, List.mem_cons, List.not_mem_nil, or_false, forall_eq_or_imp, forall_eq, only_any, only_lit', only_full, only_no, only_iptr, only_agg, only_bfn, and_self, and_true, true_and, implies_true, or_false]) ?_
  simp only [go_sem]
  exact leA_refl _
theorem rSigns_c (g : GH) : PureC Tryd.prog 123 [] g (.isl (some false) (Tl signsT) .full) := by
  refine CallC.body (fun _ => none) (fun _ => 0) Tryd.func123 rfl Tryd.results123 Tryd.ntmps123 ?_
  intro n0 hn0
  simp only [go_sem]
  refine FnPost_end hn0 (by simp) rfl (by simp only [only_tup, List.mem_cons, List.not_mem_nil, or_false, forall_eq_or_imp, forall_eq, only_any, only_lit', only_full, only_no, only_iptr, only_agg, only_bfn, and_self, and_true, true_and, implies_true, or_false]) ?_
  simp only [go_sem]
  exact leA_of_eq rfl
theorem rKeys_c (g : GH) : PureC Tryd.prog 117 [] g (.isl (some false) (Tl keysT) .full) := by
  refine CallC.body (fun _ => none) (fun _ => 0) Tryd.func117 rfl Tryd.results117 Tryd.ntmps117 ?_
  intro n0 hn0
  simp only [go_sem]
  refine FnPost_end hn0 (by simp) rfl (by simp only [only_tup, List.mem_cons, List.not_mem_nil, or_false, forall_eq_or_imp, forall_eq, only_any, only_lit', only_full, only_no, only_iptr, only_agg, only_bfn, and_self, and_true, true_and, implies_true, or_false]) ?_
  simp only [go_sem]
  exact leA_of_eq rfl
theorem str_eq (s t : ByteArray) : (s.data.toList == t.data.toList) = decide (s = t) := by
  rw [Bool.eq_iff_iff, beq_iff_eq, decide_eq_true_eq]
  constructor
  · intro h; apply ByteArray.ext; apply Array.ext'; exact h
  · intro h; rw [h]
theorem index_c (nl : Option Bool) (l : List ByteArray) (tok : Tk) (s : ByteArray) (hl : l.length ≤ 1000000) (g : GH) : PureC Tryd.prog 152 [.isl nl (Tl l) tok, SS s] g (I64 (match l.findIdx? (fun k => decide (k = s)) with | some i => (i : Int) | none => -1)) := by
  refine CallC.body (fun _ => none) (fun _ => 0) Tryd.func152 rfl Tryd.results152 Tryd.ntmps152 ?_
  intro n0 hn0
  simp only [go_sem]
  simp only [go_sem, List.length_map]
  refine WC_loop (fun i : Nat => [.isl nl (Tl l) .no, SS s, .any, .any, .any, .any, .isl nl (Tl l) .no, I64 l.length, I64 i, .any, .any, .any, .any, .any, .any, .any, .any, .any, .any]) (fun i => ⟨g, []⟩) (fun i => i ≤ l.length ∧ ∀ j, j < i → ¬ l.getD j ⟨#[]⟩ = s) (fun i => l.length - i) 0 ⟨by simp, fun j hj => by omega⟩ ?_ ?_
  · refine imp_loc (by ((try simp only [cells_agg, cells_lit, leL_cons, leL_nil, leA_any, leA_lits, leA_isl, leA_self, and_self, true_and, and_true, or_true, true_or, Value.int.injEq, Value.bool.injEq, Value.string.injEq, AV.lit.injEq, Option.some.injEq, Blk.cells.injEq, Blk.tok.injEq, List.cons.injEq, Tk.at.injEq, subL_nil, subL_cons, look_nil, look_cons, ↓reduceIte, Nat.reduceEqDiff, Option.isSome_some, reduceCtorEq, or_false, false_or, if_true, if_false]); (try first | done | omega | (simp; done) | (simp; omega)))) (by ((try simp only [cells_agg, cells_lit, leL_cons, leL_nil, leA_any, leA_lits, leA_isl, leA_self, and_self, true_and, and_true, or_true, true_or, Value.int.injEq, Value.bool.injEq, Value.string.injEq, AV.lit.injEq, Option.some.injEq, Blk.cells.injEq, Blk.tok.injEq, List.cons.injEq, Tk.at.injEq, subL_nil, subL_cons, look_nil, look_cons, ↓reduceIte, Nat.reduceEqDiff, Option.isSome_some, reduceCtorEq, or_false, false_or, if_true, if_false]); (try first | done | omega | (simp; done) | (simp; omega)))) (by ((try simp only [cells_agg, cells_lit, List.mem_cons, List.not_mem_nil, or_false, forall_eq_or_imp, forall_eq, only_any, only_lit', only_iptr, only_no, only_full, only_at, only_ptr, only_osl, only_agg, only_tup, only_fn, only_bfn, and_self, implies_true, and_true, true_and, okL_nil, okL_cons, bonly_cells, bonly_tok, keepP_add, look_nil, look_cons, ↓reduceIte, Nat.reduceEqDiff, Option.isSome_some, reduceCtorEq, false_or, if_true, if_false, false_implies]); (try first | done | omega | ((repeat' refine And.intro ?_ ?_) <;> (intro _ hx; obtain ⟨_, -, rfl⟩ := List.mem_map.1 hx; exact .lit _))))) (by ((try simp only [cells_agg, cells_lit, List.mem_cons, List.not_mem_nil, or_false, forall_eq_or_imp, forall_eq, only_any, only_lit', only_iptr, only_no, only_full, only_at, only_ptr, only_osl, only_agg, only_tup, only_fn, only_bfn, and_self, implies_true, and_true, true_and, okL_nil, okL_cons, bonly_cells, bonly_tok, keepP_add, look_nil, look_cons, ↓reduceIte, Nat.reduceEqDiff, Option.isSome_some, reduceCtorEq, false_or, if_true, if_false, false_implies]); (try first | done | omega | ((repeat' refine And.intro ?_ ?_) <;> (intro _ hx; obtain ⟨_, -, rfl⟩ := List.mem_map.1 hx; exact .lit _)))))
  · rintro i ⟨hi, hi2⟩
    simp only [go_sem]
    split
    · rename_i hlt
      have hlt : i < l.length := by omega
      have e1 : IntKind.i64.wrap ((i : Int) + 1) = ((i + 1 : Nat) : Int) := by rw [wrap_i64]; omega
      simp only [go_sem, List.length_map, Tl_get l i hlt, str_eq]
      (repeat (refine ⟨by omega, ?_⟩))
      by_cases hc : s = l.getD i ⟨#[]⟩
      · simp only [go_sem, eq_true hc]
        refine FnPost_end hn0 (by simp) rfl (only_lit _ _) ?_
        simp only [go_sem]
        refine leA_int ?_
        have : l.findIdx? (fun k => decide (k = s)) = some i := by
          rw [List.findIdx?_eq_some_iff_getElem]
          refine ⟨hlt, by simpa [List.getD_eq_getElem?_getD, hlt] using hc.symm, fun j hj => ?_⟩
          have := hi2 j hj
          simpa [List.getD_eq_getElem?_getD, show j < l.length by omega] using this
        rw [this]
      · simp only [go_sem, eq_false hc]
        refine LP_next (i + 1) ⟨by omega, fun j hj => by
          by_cases e : j = i
          · rw [e]; exact fun h => hc h.symm
          · exact hi2 j (by omega)⟩ (by omega) ?_
        rw [e1]
        refine imp_loc (by ((try simp only [cells_agg, cells_lit, leL_cons, leL_nil, leA_any, leA_lits, leA_isl, leA_self, and_self, true_and, and_true, or_true, true_or, Value.int.injEq, Value.bool.injEq, Value.string.injEq, AV.lit.injEq, Option.some.injEq, Blk.cells.injEq, Blk.tok.injEq, List.cons.injEq, Tk.at.injEq, subL_nil, subL_cons, look_nil, look_cons, ↓reduceIte, Nat.reduceEqDiff, Option.isSome_some, reduceCtorEq, or_false, false_or, if_true, if_false]); (try first | done | omega | (simp; done) | (simp; omega)))) (by ((try simp only [cells_agg, cells_lit, leL_cons, leL_nil, leA_any, leA_lits, leA_isl, leA_self, and_self, true_and, and_true, or_true, true_or, Value.int.injEq, Value.bool.injEq, Value.string.injEq, AV.lit.injEq, Option.some.injEq, Blk.cells.injEq, Blk.tok.injEq, List.cons.injEq, Tk.at.injEq, subL_nil, subL_cons, look_nil, look_cons, ↓reduceIte, Nat.reduceEqDiff, Option.isSome_some, reduceCtorEq, or_false, false_or, if_true, if_false]); (try first | done | omega | (simp; done) | (simp; omega)))) (by ((try simp only [cells_agg, cells_lit, List.mem_cons, List.not_mem_nil, or_false, forall_eq_or_imp, forall_eq, only_any, only_lit', only_iptr, only_no, only_full, only_at, only_ptr, only_osl, only_agg, only_tup, only_fn, only_bfn, and_self, implies_true, and_true, true_and, okL_nil, okL_cons, bonly_cells, bonly_tok, keepP_add, look_nil, look_cons, ↓reduceIte, Nat.reduceEqDiff, Option.isSome_some, reduceCtorEq, false_or, if_true, if_false, false_implies]); (try first | done | omega | ((repeat' refine And.intro ?_ ?_) <;> (intro _ hx; obtain ⟨_, -, rfl⟩ := List.mem_map.1 hx; exact .lit _))))) (by ((try simp only [cells_agg, cells_lit, List.mem_cons, List.not_mem_nil, or_false, forall_eq_or_imp, forall_eq, only_any, only_lit', only_iptr, only_no, only_full, only_at, only_ptr, only_osl, only_agg, only_tup, only_fn, only_bfn, and_self, implies_true, and_true, true_and, okL_nil, okL_cons, bonly_cells, bonly_tok, keepP_add, look_nil, look_cons, ↓reduceIte, Nat.reduceEqDiff, Option.isSome_some, reduceCtorEq, false_or, if_true, if_false, false_implies]); (try first | done | omega | ((repeat' refine And.intro ?_ ?_) <;> (intro _ hx; obtain ⟨_, -, rfl⟩ := List.mem_map.1 hx; exact .lit _)))))
    · have : i = l.length := by omega
      subst this
      refine FnPost_end hn0 (by simp) rfl (only_lit _ _) ?_
      simp only [go_sem]
      refine leA_int ?_
      have : l.findIdx? (fun k => decide (k = s)) = none := by
        rw [List.findIdx?_eq_none_iff]
        intro x hx
        obtain ⟨j, hj, rfl⟩ := List.getElem_of_mem hx
        have := hi2 j hj
        simpa [List.getD_eq_getElem?_getD, hj] using this
      rw [this]
theorem contains_c (nl : Option Bool) (l : List ByteArray) (tok : Tk) (s : ByteArray) (hl : l.length ≤ 1000000) (g : GH) : PureC Tryd.prog 127 [.isl nl (Tl l) tok, SS s] g (BB (l.any fun k => decide (k = s))) := by
  refine CallC.body (fun _ => none) (fun _ => 0) Tryd.func127 rfl Tryd.results127 Tryd.ntmps127 ?_
  intro n0 hn0
  simp only [go_sem]
  refine WE_pure _ _ _ _ _ _ _ _ (index_c nl l tok s hl _) ?_
  simp only [go_sem]
  cases h : l.findIdx? (fun k => decide (k = s)) with
  | none =>
    refine FnPost_end hn0 (by simp) rfl (only_lit _ _) ?_
    simp only [go_sem]
    refine leA_bool ?_
    rw [List.findIdx?_eq_none_iff] at h
    have : (l.any fun k => decide (k = s)) = false := by rw [List.any_eq_false]; intro x hx; simp [h x hx]
    rw [this]
  | some i =>
    refine FnPost_end hn0 (by simp) rfl (only_lit _ _) ?_
    simp only [go_sem]
    refine leA_bool ?_
    obtain ⟨hi, hp, _⟩ := List.findIdx?_eq_some_iff_getElem.1 h
    have : (l.any fun k => decide (k = s)) = true := List.any_eq_true.2 ⟨l[i], List.getElem_mem hi, hp⟩
    rw [this]
theorem key_c (s : ByteArray) (g : GH) : PureC Tryd.prog 100 [SS s] g (BB (keyB s)) := by
  refine CallC.body (fun _ => none) (fun _ => 0) Tryd.func100 rfl Tryd.results100 Tryd.ntmps100 ?_
  intro n0 hn0
  simp only [go_sem]
  refine WE_pure _ _ _ _ _ _ _ _ (keys_eq ▸ fields_c _ (by decide) (by decide +kernel) _) ?_
  simp only [go_sem]
  refine WE_pure _ _ _ _ _ _ _ _ (contains_c _ keysT _ s (by decide) _) ?_
  simp only [go_sem]
  refine FnPost_end hn0 (by simp) rfl (only_lit _ _) ?_
  simp only [go_sem]
  exact leA_bool rfl
theorem rKey_c (s : ByteArray) (g : GH) : PureC Tryd.prog 80 [SS s] g (BB (keyB s)) := by
  refine CallC.body (fun _ => none) (fun _ => 0) Tryd.func80 rfl Tryd.results80 Tryd.ntmps80 ?_
  intro n0 hn0
  simp only [go_sem]
  refine WE_pure _ _ _ _ _ _ _ _ (rKeys_c _) ?_
  simp only [go_sem]
  have hl : keysT.length = 9 := rfl
  refine WC_loop (fun i : Nat => [SS s, .any, .any, .isl none (Tl keysT) .no, I64 i, .any, .any, .any, .any, .any, .any, .any, .any, .any, .any, .any, .any, .any]) (fun i => ⟨g, []⟩) (fun i => i ≤ 9 ∧ ∀ j, j < i → ¬ keysT.getD j ⟨#[]⟩ = s) (fun i => 9 - i) 0 ⟨by simp, fun j hj => by omega⟩ ?_ ?_
  · refine imp_loc (by ((try simp only [cells_agg, cells_lit, leL_cons, leL_nil, leA_any, leA_lits, leA_isl, leA_self, and_self, true_and, and_true, or_true, true_or, Value.int.injEq, Value.bool.injEq, Value.string.injEq, AV.lit.injEq, Option.some.injEq, Blk.cells.injEq, Blk.tok.injEq, List.cons.injEq, Tk.at.injEq, subL_nil, subL_cons, look_nil, look_cons, ↓reduceIte, Nat.reduceEqDiff, Option.isSome_some, reduceCtorEq, or_false, false_or, if_true, if_false]); (try first | done | omega | (simp; done) | (simp; omega)))) (by ((try simp only [cells_agg, cells_lit, leL_cons, leL_nil, leA_any, leA_lits, leA_isl, leA_self, and_self, true_and, and_true, or_true, true_or, Value.int.injEq, Value.bool.injEq, Value.string.injEq, AV.lit.injEq, Option.some.injEq, Blk.cells.injEq, Blk.tok.injEq, List.cons.injEq, Tk.at.injEq, subL_nil, subL_cons, look_nil, look_cons, ↓reduceIte, Nat.reduceEqDiff, Option.isSome_some, reduceCtorEq, or_false, false_or, if_true, if_false]); (try first | done | omega | (simp; done) | (simp; omega)))) (by ((try simp only [cells_agg, cells_lit, List.mem_cons, List.not_mem_nil, or_false, forall_eq_or_imp, forall_eq, only_any, only_lit', only_iptr, only_no, only_full, only_at, only_ptr, only_osl, only_agg, only_tup, only_fn, only_bfn, and_self, implies_true, and_true, true_and, okL_nil, okL_cons, bonly_cells, bonly_tok, keepP_add, look_nil, look_cons, ↓reduceIte, Nat.reduceEqDiff, Option.isSome_some, reduceCtorEq, false_or, if_true, if_false, false_implies]); (try first | done | omega | ((repeat' refine And.intro ?_ ?_) <;> (intro _ hx; obtain ⟨_, -, rfl⟩ := List.mem_map.1 hx; exact .lit _))))) (by ((try simp only [cells_agg, cells_lit, List.mem_cons, List.not_mem_nil, or_false, forall_eq_or_imp, forall_eq, only_any, only_lit', only_iptr, only_no, only_full, only_at, only_ptr, only_osl, only_agg, only_tup, only_fn, only_bfn, and_self, implies_true, and_true, true_and, okL_nil, okL_cons, bonly_cells, bonly_tok, keepP_add, look_nil, look_cons, ↓reduceIte, Nat.reduceEqDiff, Option.isSome_some, reduceCtorEq, false_or, if_true, if_false, false_implies]); (try first | done | omega | ((repeat' refine And.intro ?_ ?_) <;> (intro _ hx; obtain ⟨_, -, rfl⟩ := List.mem_map.1 hx; exact .lit _)))))
  · rintro i ⟨hi, hi2⟩
    simp only [go_sem, List.length_map, hl]
    split
    · rename_i hlt
      have hlt : i < 9 := by omega
      have e1 : IntKind.i64.wrap ((i : Int) + 1) = ((i + 1 : Nat) : Int) := by rw [wrap_i64]; omega
      simp only [go_sem, List.length_map, hl, Tl_get keysT i hlt, str_eq]
      (repeat (refine ⟨by omega, ?_⟩))
      by_cases hc : keysT.getD i ⟨#[]⟩ = s
      · simp only [go_sem, eq_true hc]
        refine FnPost_end hn0 (by simp) rfl (only_lit _ _) ?_
        simp only [go_sem]
        exact leA_bool (any_at (fun k => decide (k = s)) keysT i hlt ⟨#[]⟩ (decide_eq_true hc)).symm
      · simp only [go_sem, eq_false hc]
        refine LP_next (i + 1) ⟨by omega, fun j hj => by
          by_cases e : j = i
          · rw [e]; exact hc
          · exact hi2 j (by omega)⟩ (by omega) ?_
        rw [e1]
        refine imp_loc (by ((try simp only [cells_agg, cells_lit, leL_cons, leL_nil, leA_any, leA_lits, leA_isl, leA_self, and_self, true_and, and_true, or_true, true_or, Value.int.injEq, Value.bool.injEq, Value.string.injEq, AV.lit.injEq, Option.some.injEq, Blk.cells.injEq, Blk.tok.injEq, List.cons.injEq, Tk.at.injEq, subL_nil, subL_cons, look_nil, look_cons, ↓reduceIte, Nat.reduceEqDiff, Option.isSome_some, reduceCtorEq, or_false, false_or, if_true, if_false]); (try first | done | omega | (simp; done) | (simp; omega)))) (by ((try simp only [cells_agg, cells_lit, leL_cons, leL_nil, leA_any, leA_lits, leA_isl, leA_self, and_self, true_and, and_true, or_true, true_or, Value.int.injEq, Value.bool.injEq, Value.string.injEq, AV.lit.injEq, Option.some.injEq, Blk.cells.injEq, Blk.tok.injEq, List.cons.injEq, Tk.at.injEq, subL_nil, subL_cons, look_nil, look_cons, ↓reduceIte, Nat.reduceEqDiff, Option.isSome_some, reduceCtorEq, or_false, false_or, if_true, if_false]); (try first | done | omega | (simp; done) | (simp; omega)))) (by ((try simp only [cells_agg, cells_lit, List.mem_cons, List.not_mem_nil, or_false, forall_eq_or_imp, forall_eq, only_any, only_lit', only_iptr, only_no, only_full, only_at, only_ptr, only_osl, only_agg, only_tup, only_fn, only_bfn, and_self, implies_true, and_true, true_and, okL_nil, okL_cons, bonly_cells, bonly_tok, keepP_add, look_nil, look_cons, ↓reduceIte, Nat.reduceEqDiff, Option.isSome_some, reduceCtorEq, false_or, if_true, if_false, false_implies]); (try first | done | omega | ((repeat' refine And.intro ?_ ?_) <;> (intro _ hx; obtain ⟨_, -, rfl⟩ := List.mem_map.1 hx; exact .lit _))))) (by ((try simp only [cells_agg, cells_lit, List.mem_cons, List.not_mem_nil, or_false, forall_eq_or_imp, forall_eq, only_any, only_lit', only_iptr, only_no, only_full, only_at, only_ptr, only_osl, only_agg, only_tup, only_fn, only_bfn, and_self, implies_true, and_true, true_and, okL_nil, okL_cons, bonly_cells, bonly_tok, keepP_add, look_nil, look_cons, ↓reduceIte, Nat.reduceEqDiff, Option.isSome_some, reduceCtorEq, false_or, if_true, if_false, false_implies]); (try first | done | omega | ((repeat' refine And.intro ?_ ?_) <;> (intro _ hx; obtain ⟨_, -, rfl⟩ := List.mem_map.1 hx; exact .lit _)))))
    · have : i = 9 := by omega
      subst this
      refine FnPost_end hn0 (by simp) rfl (only_lit _ _) ?_
      simp only [go_sem]
      exact leA_bool (any_not (fun k => decide (k = s)) keysT ⟨#[]⟩ fun j hj => decide_eq_false (hi2 j hj)).symm
theorem sign_c (s : ByteArray) (g : GH) : PureC Tryd.prog 102 [SS s] g (SS (signF s)) := by
  refine CallC.body (fun _ => none) (fun _ => 0) Tryd.func102 rfl Tryd.results102 Tryd.ntmps102 ?_
  intro n0 hn0
  simp only [go_sem]
  have hl : signsT.length = 22 := rfl
  refine WE_pure _ _ _ _ _ _ _ _ (signs_c _) ?_
  simp only [go_sem, List.length_map, hl]
  refine WC_loop (fun i : Nat => [SS s, .any, .any, SS ((signsT.take i).foldl (signStep s) ⟨#[]⟩), .any, .any, .isl none (Tl signsT) .no, I64 22, I64 i, .any, .any, .any, .any, .any, .any, .any, .any, .any, .any, .any, .any, .any, .any, .any, .any]) (fun i => ⟨g, []⟩) (fun i => i ≤ 22) (fun i => 22 - i) 0 (by simp) ?_ ?_
  · refine imp_loc (by ((try simp only [cells_agg, cells_lit, leL_cons, leL_nil, leA_any, leA_lits, leA_isl, leA_self, and_self, true_and, and_true, or_true, true_or, Value.int.injEq, Value.bool.injEq, Value.string.injEq, AV.lit.injEq, Option.some.injEq, Blk.cells.injEq, Blk.tok.injEq, List.cons.injEq, Tk.at.injEq, subL_nil, subL_cons, look_nil, look_cons, ↓reduceIte, Nat.reduceEqDiff, Option.isSome_some, reduceCtorEq, or_false, false_or, if_true, if_false, List.take_zero, List.foldl_nil, hl]); (try first | done | omega | (simp; done) | (simp; omega)))) (by ((try simp only [cells_agg, cells_lit, leL_cons, leL_nil, leA_any, leA_lits, leA_isl, leA_self, and_self, true_and, and_true, or_true, true_or, Value.int.injEq, Value.bool.injEq, Value.string.injEq, AV.lit.injEq, Option.some.injEq, Blk.cells.injEq, Blk.tok.injEq, List.cons.injEq, Tk.at.injEq, subL_nil, subL_cons, look_nil, look_cons, ↓reduceIte, Nat.reduceEqDiff, Option.isSome_some, reduceCtorEq, or_false, false_or, if_true, if_false, List.take_zero, List.foldl_nil, hl]); (try first | done | omega | (simp; done) | (simp; omega)))) (by ((try simp only [cells_agg, cells_lit, List.mem_cons, List.not_mem_nil, or_false, forall_eq_or_imp, forall_eq, only_any, only_lit', only_iptr, only_no, only_full, only_at, only_ptr, only_osl, only_agg, only_tup, only_fn, only_bfn, and_self, implies_true, and_true, true_and, okL_nil, okL_cons, bonly_cells, bonly_tok, keepP_add, look_nil, look_cons, ↓reduceIte, Nat.reduceEqDiff, Option.isSome_some, reduceCtorEq, false_or, if_true, if_false, false_implies, List.take_zero, List.foldl_nil, hl]); (try first | done | omega | ((repeat' refine And.intro ?_ ?_) <;> (intro _ hx; obtain ⟨_, -, rfl⟩ := List.mem_map.1 hx; exact .lit _))))) (by ((try simp only [cells_agg, cells_lit, List.mem_cons, List.not_mem_nil, or_false, forall_eq_or_imp, forall_eq, only_any, only_lit', only_iptr, only_no, only_full, only_at, only_ptr, only_osl, only_agg, only_tup, only_fn, only_bfn, and_self, implies_true, and_true, true_and, okL_nil, okL_cons, bonly_cells, bonly_tok, keepP_add, look_nil, look_cons, ↓reduceIte, Nat.reduceEqDiff, Option.isSome_some, reduceCtorEq, false_or, if_true, if_false, false_implies, List.take_zero, List.foldl_nil, hl]); (try first | done | omega | ((repeat' refine And.intro ?_ ?_) <;> (intro _ hx; obtain ⟨_, -, rfl⟩ := List.mem_map.1 hx; exact .lit _)))))
  · intro i hi
    simp only [go_sem, List.length_map, hl]
    split
    · rename_i hlt
      have hlt : i < signsT.length := by rw [hl]; omega
      have e1 : IntKind.i64.wrap ((i : Int) + 1) = ((i + 1 : Nat) : Int) := by rw [wrap_i64]; omega
      have hst := foldl_at (signStep s) ⟨#[]⟩ signsT i hlt ⟨#[]⟩
      generalize (signsT.take i).foldl (signStep s) ⟨#[]⟩ = o at *
      simp only [go_sem, List.length_map, hl, Tl_get signsT i hlt]
      (repeat (refine ⟨by omega, ?_⟩))
      generalize signsT.getD i ⟨#[]⟩ = t at *
      refine WE_pure _ _ _ _ _ _ _ _ (hasPre_c s t _) ?_
      simp only [go_sem]
      by_cases hp : preB s t = true
      · by_cases hsz : (o.size : Int) < (t.size : Int)
        · simp only [go_sem, hp, hsz]
          refine LP_next (i + 1) (by omega) (by omega) ?_
          rw [e1, hst, signStep, if_pos ⟨hp, by omega⟩]
          refine imp_loc (by ((try simp only [cells_agg, cells_lit, leL_cons, leL_nil, leA_any, leA_lits, leA_isl, leA_self, and_self, true_and, and_true, or_true, true_or, Value.int.injEq, Value.bool.injEq, Value.string.injEq, AV.lit.injEq, Option.some.injEq, Blk.cells.injEq, Blk.tok.injEq, List.cons.injEq, Tk.at.injEq, subL_nil, subL_cons, look_nil, look_cons, ↓reduceIte, Nat.reduceEqDiff, Option.isSome_some, reduceCtorEq, or_false, false_or, if_true, if_false, hl]); (try first | done | omega | (simp; done) | (simp; omega)))) (by ((try simp only [cells_agg, cells_lit, leL_cons, leL_nil, leA_any, leA_lits, leA_isl, leA_self, and_self, true_and, and_true, or_true, true_or, Value.int.injEq, Value.bool.injEq, Value.string.injEq, AV.lit.injEq, Option.some.injEq, Blk.cells.injEq, Blk.tok.injEq, List.cons.injEq, Tk.at.injEq, subL_nil, subL_cons, look_nil, look_cons, ↓reduceIte, Nat.reduceEqDiff, Option.isSome_some, reduceCtorEq, or_false, false_or, if_true, if_false, hl]); (try first | done | omega | (simp; done) | (simp; omega)))) (by ((try simp only [cells_agg, cells_lit, List.mem_cons, List.not_mem_nil, or_false, forall_eq_or_imp, forall_eq, only_any, only_lit', only_iptr, only_no, only_full, only_at, only_ptr, only_osl, only_agg, only_tup, only_fn, only_bfn, and_self, implies_true, and_true, true_and, okL_nil, okL_cons, bonly_cells, bonly_tok, keepP_add, look_nil, look_cons, ↓reduceIte, Nat.reduceEqDiff, Option.isSome_some, reduceCtorEq, false_or, if_true, if_false, false_implies, hl]); (try first | done | omega | ((repeat' refine And.intro ?_ ?_) <;> (intro _ hx; obtain ⟨_, -, rfl⟩ := List.mem_map.1 hx; exact .lit _))))) (by ((try simp only [cells_agg, cells_lit, List.mem_cons, List.not_mem_nil, or_false, forall_eq_or_imp, forall_eq, only_any, only_lit', only_iptr, only_no, only_full, only_at, only_ptr, only_osl, only_agg, only_tup, only_fn, only_bfn, and_self, implies_true, and_true, true_and, okL_nil, okL_cons, bonly_cells, bonly_tok, keepP_add, look_nil, look_cons, ↓reduceIte, Nat.reduceEqDiff, Option.isSome_some, reduceCtorEq, false_or, if_true, if_false, false_implies, hl]); (try first | done | omega | ((repeat' refine And.intro ?_ ?_) <;> (intro _ hx; obtain ⟨_, -, rfl⟩ := List.mem_map.1 hx; exact .lit _)))))
        · simp only [go_sem, hp, hsz]
          refine LP_next (i + 1) (by omega) (by omega) ?_
          rw [e1, hst, signStep, if_neg (fun h => hsz (by omega))]
          refine imp_loc (by ((try simp only [cells_agg, cells_lit, leL_cons, leL_nil, leA_any, leA_lits, leA_isl, leA_self, and_self, true_and, and_true, or_true, true_or, Value.int.injEq, Value.bool.injEq, Value.string.injEq, AV.lit.injEq, Option.some.injEq, Blk.cells.injEq, Blk.tok.injEq, List.cons.injEq, Tk.at.injEq, subL_nil, subL_cons, look_nil, look_cons, ↓reduceIte, Nat.reduceEqDiff, Option.isSome_some, reduceCtorEq, or_false, false_or, if_true, if_false, hl]); (try first | done | omega | (simp; done) | (simp; omega)))) (by ((try simp only [cells_agg, cells_lit, leL_cons, leL_nil, leA_any, leA_lits, leA_isl, leA_self, and_self, true_and, and_true, or_true, true_or, Value.int.injEq, Value.bool.injEq, Value.string.injEq, AV.lit.injEq, Option.some.injEq, Blk.cells.injEq, Blk.tok.injEq, List.cons.injEq, Tk.at.injEq, subL_nil, subL_cons, look_nil, look_cons, ↓reduceIte, Nat.reduceEqDiff, Option.isSome_some, reduceCtorEq, or_false, false_or, if_true, if_false, hl]); (try first | done | omega | (simp; done) | (simp; omega)))) (by ((try simp only [cells_agg, cells_lit, List.mem_cons, List.not_mem_nil, or_false, forall_eq_or_imp, forall_eq, only_any, only_lit', only_iptr, only_no, only_full, only_at, only_ptr, only_osl, only_agg, only_tup, only_fn, only_bfn, and_self, implies_true, and_true, true_and, okL_nil, okL_cons, bonly_cells, bonly_tok, keepP_add, look_nil, look_cons, ↓reduceIte, Nat.reduceEqDiff, Option.isSome_some, reduceCtorEq, false_or, if_true, if_false, false_implies, hl]); (try first | done | omega | ((repeat' refine And.intro ?_ ?_) <;> (intro _ hx; obtain ⟨_, -, rfl⟩ := List.mem_map.1 hx; exact .lit _))))) (by ((try simp only [cells_agg, cells_lit, List.mem_cons, List.not_mem_nil, or_false, forall_eq_or_imp, forall_eq, only_any, only_lit', only_iptr, only_no, only_full, only_at, only_ptr, only_osl, only_agg, only_tup, only_fn, only_bfn, and_self, implies_true, and_true, true_and, okL_nil, okL_cons, bonly_cells, bonly_tok, keepP_add, look_nil, look_cons, ↓reduceIte, Nat.reduceEqDiff, Option.isSome_some, reduceCtorEq, false_or, if_true, if_false, false_implies, hl]); (try first | done | omega | ((repeat' refine And.intro ?_ ?_) <;> (intro _ hx; obtain ⟨_, -, rfl⟩ := List.mem_map.1 hx; exact .lit _)))))
      · have hp : preB s t = false := by simpa using hp
        simp only [go_sem, hp]
        refine LP_next (i + 1) (by omega) (by omega) ?_
        rw [e1, hst, signStep, if_neg (fun h => by rw [hp] at h; cases h.1)]
        refine imp_loc (by ((try simp only [cells_agg, cells_lit, leL_cons, leL_nil, leA_any, leA_lits, leA_isl, leA_self, and_self, true_and, and_true, or_true, true_or, Value.int.injEq, Value.bool.injEq, Value.string.injEq, AV.lit.injEq, Option.some.injEq, Blk.cells.injEq, Blk.tok.injEq, List.cons.injEq, Tk.at.injEq, subL_nil, subL_cons, look_nil, look_cons, ↓reduceIte, Nat.reduceEqDiff, Option.isSome_some, reduceCtorEq, or_false, false_or, if_true, if_false, hl]); (try first | done | omega | (simp; done) | (simp; omega)))) (by ((try simp only [cells_agg, cells_lit, leL_cons, leL_nil, leA_any, leA_lits, leA_isl, leA_self, and_self, true_and, and_true, or_true, true_or, Value.int.injEq, Value.bool.injEq, Value.string.injEq, AV.lit.injEq, Option.some.injEq, Blk.cells.injEq, Blk.tok.injEq, List.cons.injEq, Tk.at.injEq, subL_nil, subL_cons, look_nil, look_cons, ↓reduceIte, Nat.reduceEqDiff, Option.isSome_some, reduceCtorEq, or_false, false_or, if_true, if_false, hl]); (try first | done | omega | (simp; done) | (simp; omega)))) (by ((try simp only [cells_agg, cells_lit, List.mem_cons, List.not_mem_nil, or_false, forall_eq_or_imp, forall_eq, only_any, only_lit', only_iptr, only_no, only_full, only_at, only_ptr, only_osl, only_agg, only_tup, only_fn, only_bfn, and_self, implies_true, and_true, true_and, okL_nil, okL_cons, bonly_cells, bonly_tok, keepP_add, look_nil, look_cons, ↓reduceIte, Nat.reduceEqDiff, Option.isSome_some, reduceCtorEq, false_or, if_true, if_false, false_implies, hl]); (try first | done | omega | ((repeat' refine And.intro ?_ ?_) <;> (intro _ hx; obtain ⟨_, -, rfl⟩ := List.mem_map.1 hx; exact .lit _))))) (by ((try simp only [cells_agg, cells_lit, List.mem_cons, List.not_mem_nil, or_false, forall_eq_or_imp, forall_eq, only_any, only_lit', only_iptr, only_no, only_full, only_at, only_ptr, only_osl, only_agg, only_tup, only_fn, only_bfn, and_self, implies_true, and_true, true_and, okL_nil, okL_cons, bonly_cells, bonly_tok, keepP_add, look_nil, look_cons, ↓reduceIte, Nat.reduceEqDiff, Option.isSome_some, reduceCtorEq, false_or, if_true, if_false, false_implies, hl]); (try first | done | omega | ((repeat' refine And.intro ?_ ?_) <;> (intro _ hx; obtain ⟨_, -, rfl⟩ := List.mem_map.1 hx; exact .lit _)))))
    · have : i = 22 := by omega
      subst this
      refine FnPost_end hn0 (by simp) rfl (only_lit _ _) ?_
      simp only [go_sem]
      exact leA_str rfl
theorem preB_eq (s t : ByteArray) : preB s t = (decide (t.size ≤ s.size) && decide (s.extract 0 t.size = t)) := by unfold preB; rw [str_eq]
set_option maxHeartbeats 1000000 in
theorem rSign_c (s : ByteArray) (g : GH) : PureC Tryd.prog 97 [SS s] g (SS (signF s)) := by
  refine CallC.body (fun _ => none) (fun _ => 0) Tryd.func97 rfl Tryd.results97 Tryd.ntmps97 ?_
  intro n0 hn0
  simp only [go_sem]
  have hl : signsT.length = 22 := rfl
  refine WE_pure _ _ _ _ _ _ _ _ (rSigns_c _) ?_
  simp only [go_sem, List.length_map, hl]
  refine WC_loop (fun i : Nat => [SS s, .any, .any, .isl none (Tl signsT) .no, SS ((signsT.take i).foldl (signStep s) ⟨#[]⟩), I64 i, .any, .any, .any, .any, .any, .any, .any, .any, .any, .any, .any, .any, .any, .any, .any, .any, .any, .any, .any, .any, .any, .any, .any, .any, .any, .any, .any, .any, .any, .any, .any, .any, .any, .any, .any, .any, .any, .any]) (fun i => ⟨g, []⟩) (fun i => i ≤ 22) (fun i => 22 - i) 0 (by simp) ?_ ?_
  · refine imp_loc (by ((try simp only [cells_agg, cells_lit, leL_cons, leL_nil, leA_any, leA_lits, leA_isl, leA_self, and_self, true_and, and_true, or_true, true_or, Value.int.injEq, Value.bool.injEq, Value.string.injEq, AV.lit.injEq, Option.some.injEq, Blk.cells.injEq, Blk.tok.injEq, List.cons.injEq, Tk.at.injEq, subL_nil, subL_cons, look_nil, look_cons, ↓reduceIte, Nat.reduceEqDiff, Option.isSome_some, reduceCtorEq, or_false, false_or, if_true, if_false, List.take_zero, List.foldl_nil, hl]); (try first | done | omega | (simp; done) | (simp; omega)))) (by ((try simp only [cells_agg, cells_lit, leL_cons, leL_nil, leA_any, leA_lits, leA_isl, leA_self, and_self, true_and, and_true, or_true, true_or, Value.int.injEq, Value.bool.injEq, Value.string.injEq, AV.lit.injEq, Option.some.injEq, Blk.cells.injEq, Blk.tok.injEq, List.cons.injEq, Tk.at.injEq, subL_nil, subL_cons, look_nil, look_cons, ↓reduceIte, Nat.reduceEqDiff, Option.isSome_some, reduceCtorEq, or_false, false_or, if_true, if_false, List.take_zero, List.foldl_nil, hl]); (try first | done | omega | (simp; done) | (simp; omega)))) (by ((try simp only [cells_agg, cells_lit, List.mem_cons, List.not_mem_nil, or_false, forall_eq_or_imp, forall_eq, only_any, only_lit', only_iptr, only_no, only_full, only_at, only_ptr, only_osl, only_agg, only_tup, only_fn, only_bfn, and_self, implies_true, and_true, true_and, okL_nil, okL_cons, bonly_cells, bonly_tok, keepP_add, look_nil, look_cons, ↓reduceIte, Nat.reduceEqDiff, Option.isSome_some, reduceCtorEq, false_or, if_true, if_false, false_implies, List.take_zero, List.foldl_nil, hl]); (try first | done | omega | ((repeat' refine And.intro ?_ ?_) <;> (intro _ hx; obtain ⟨_, -, rfl⟩ := List.mem_map.1 hx; exact .lit _))))) (by ((try simp only [cells_agg, cells_lit, List.mem_cons, List.not_mem_nil, or_false, forall_eq_or_imp, forall_eq, only_any, only_lit', only_iptr, only_no, only_full, only_at, only_ptr, only_osl, only_agg, only_tup, only_fn, only_bfn, and_self, implies_true, and_true, true_and, okL_nil, okL_cons, bonly_cells, bonly_tok, keepP_add, look_nil, look_cons, ↓reduceIte, Nat.reduceEqDiff, Option.isSome_some, reduceCtorEq, false_or, if_true, if_false, false_implies, List.take_zero, List.foldl_nil, hl]); (try first | done | omega | ((repeat' refine And.intro ?_ ?_) <;> (intro _ hx; obtain ⟨_, -, rfl⟩ := List.mem_map.1 hx; exact .lit _)))))
  · intro i hi
    simp only [go_sem, List.length_map, hl]
    split
    · rename_i hlt
      have hlt : i < signsT.length := by rw [hl]; omega
      have e1 : IntKind.i64.wrap ((i : Int) + 1) = ((i + 1 : Nat) : Int) := by rw [wrap_i64]; omega
      have hst := foldl_at (signStep s) ⟨#[]⟩ signsT i hlt ⟨#[]⟩
      have hget := Tl_get signsT i hlt
      generalize (signsT.take i).foldl (signStep s) ⟨#[]⟩ = o at *
      generalize signsT.getD i ⟨#[]⟩ = t at *
      simp only [go_sem, List.length_map, hl, hget]
      (repeat (refine ⟨by omega, ?_⟩))
      have h4 : (4 : Nat) = 4 := rfl
      by_cases hc : (t.size : Int) ≤ (s.size : Int)
      · by_cases he : s.extract 0 t.size = t
        · have hp : preB s t = true := by rw [preB_eq, decide_eq_true (by omega : t.size ≤ s.size), decide_eq_true he]; rfl
          by_cases hsz : (o.size : Int) < (t.size : Int)
          · refine WC_draw Ty.mixed (by kernel_rfl) ?_
            simp only [go_sem, hc, hget, List.length_map, hl, Int.toNat_natCast, str_eq, eq_true he, hsz]
            (repeat (refine ⟨by omega, ?_⟩))
            refine LP_next (i + 1) (by omega) (by omega) ?_
            rw [e1, hst, signStep, if_pos ⟨hp, by omega⟩]
            refine imp_loc (by ((try simp only [cells_agg, cells_lit, leL_cons, leL_nil, leA_any, leA_lits, leA_isl, leA_self, and_self, true_and, and_true, or_true, true_or, Value.int.injEq, Value.bool.injEq, Value.string.injEq, AV.lit.injEq, Option.some.injEq, Blk.cells.injEq, Blk.tok.injEq, List.cons.injEq, Tk.at.injEq, subL_nil, subL_cons, look_nil, look_cons, ↓reduceIte, Nat.reduceEqDiff, Option.isSome_some, reduceCtorEq, or_false, false_or, if_true, if_false, hl]); (try first | done | omega | (simp; done) | (simp; omega)))) (by ((try simp only [cells_agg, cells_lit, leL_cons, leL_nil, leA_any, leA_lits, leA_isl, leA_self, and_self, true_and, and_true, or_true, true_or, Value.int.injEq, Value.bool.injEq, Value.string.injEq, AV.lit.injEq, Option.some.injEq, Blk.cells.injEq, Blk.tok.injEq, List.cons.injEq, Tk.at.injEq, subL_nil, subL_cons, look_nil, look_cons, ↓reduceIte, Nat.reduceEqDiff, Option.isSome_some, reduceCtorEq, or_false, false_or, if_true, if_false, hl]); (try first | done | omega | (simp; done) | (simp; omega)))) (by ((try simp only [cells_agg, cells_lit, List.mem_cons, List.not_mem_nil, or_false, forall_eq_or_imp, forall_eq, only_any, only_lit', only_iptr, only_no, only_full, only_at, only_ptr, only_osl, only_agg, only_tup, only_fn, only_bfn, and_self, implies_true, and_true, true_and, okL_nil, okL_cons, bonly_cells, bonly_tok, keepP_add, look_nil, look_cons, ↓reduceIte, Nat.reduceEqDiff, Option.isSome_some, reduceCtorEq, false_or, if_true, if_false, false_implies, hl]); (try first | done | omega | ((repeat' refine And.intro ?_ ?_) <;> (intro _ hx; obtain ⟨_, -, rfl⟩ := List.mem_map.1 hx; exact .lit _))))) (by ((try simp only [cells_agg, cells_lit, List.mem_cons, List.not_mem_nil, or_false, forall_eq_or_imp, forall_eq, only_any, only_lit', only_iptr, only_no, only_full, only_at, only_ptr, only_osl, only_agg, only_tup, only_fn, only_bfn, and_self, implies_true, and_true, true_and, okL_nil, okL_cons, bonly_cells, bonly_tok, keepP_add, look_nil, look_cons, ↓reduceIte, Nat.reduceEqDiff, Option.isSome_some, reduceCtorEq, false_or, if_true, if_false, false_implies, hl]); (try first | done | omega | ((repeat' refine And.intro ?_ ?_) <;> (intro _ hx; obtain ⟨_, -, rfl⟩ := List.mem_map.1 hx; exact .lit _)))))
          · refine WC_draw Ty.mixed (by kernel_rfl) ?_
            simp only [go_sem, hc, hget, List.length_map, hl, Int.toNat_natCast, str_eq, eq_true he, hsz]
            (repeat (refine ⟨by omega, ?_⟩))
            refine LP_next (i + 1) (by omega) (by omega) ?_
            rw [e1, hst, signStep, if_neg (fun h => hsz (by omega))]
            refine imp_loc (by ((try simp only [cells_agg, cells_lit, leL_cons, leL_nil, leA_any, leA_lits, leA_isl, leA_self, and_self, true_and, and_true, or_true, true_or, Value.int.injEq, Value.bool.injEq, Value.string.injEq, AV.lit.injEq, Option.some.injEq, Blk.cells.injEq, Blk.tok.injEq, List.cons.injEq, Tk.at.injEq, subL_nil, subL_cons, look_nil, look_cons, ↓reduceIte, Nat.reduceEqDiff, Option.isSome_some, reduceCtorEq, or_false, false_or, if_true, if_false, hl]); (try first | done | omega | (simp; done) | (simp; omega)))) (by ((try simp only [cells_agg, cells_lit, leL_cons, leL_nil, leA_any, leA_lits, leA_isl, leA_self, and_self, true_and, and_true, or_true, true_or, Value.int.injEq, Value.bool.injEq, Value.string.injEq, AV.lit.injEq, Option.some.injEq, Blk.cells.injEq, Blk.tok.injEq, List.cons.injEq, Tk.at.injEq, subL_nil, subL_cons, look_nil, look_cons, ↓reduceIte, Nat.reduceEqDiff, Option.isSome_some, reduceCtorEq, or_false, false_or, if_true, if_false, hl]); (try first | done | omega | (simp; done) | (simp; omega)))) (by ((try simp only [cells_agg, cells_lit, List.mem_cons, List.not_mem_nil, or_false, forall_eq_or_imp, forall_eq, only_any, only_lit', only_iptr, only_no, only_full, only_at, only_ptr, only_osl, only_agg, only_tup, only_fn, only_bfn, and_self, implies_true, and_true, true_and, okL_nil, okL_cons, bonly_cells, bonly_tok, keepP_add, look_nil, look_cons, ↓reduceIte, Nat.reduceEqDiff, Option.isSome_some, reduceCtorEq, false_or, if_true, if_false, false_implies, hl]); (try first | done | omega | ((repeat' refine And.intro ?_ ?_) <;> (intro _ hx; obtain ⟨_, -, rfl⟩ := List.mem_map.1 hx; exact .lit _))))) (by ((try simp only [cells_agg, cells_lit, List.mem_cons, List.not_mem_nil, or_false, forall_eq_or_imp, forall_eq, only_any, only_lit', only_iptr, only_no, only_full, only_at, only_ptr, only_osl, only_agg, only_tup, only_fn, only_bfn, and_self, implies_true, and_true, true_and, okL_nil, okL_cons, bonly_cells, bonly_tok, keepP_add, look_nil, look_cons, ↓reduceIte, Nat.reduceEqDiff, Option.isSome_some, reduceCtorEq, false_or, if_true, if_false, false_implies, hl]); (try first | done | omega | ((repeat' refine And.intro ?_ ?_) <;> (intro _ hx; obtain ⟨_, -, rfl⟩ := List.mem_map.1 hx; exact .lit _)))))
        · have hp : preB s t = false := by rw [preB_eq, decide_eq_false he, Bool.and_false]
          refine WC_draw Ty.mixed (by kernel_rfl) ?_
          simp only [go_sem, hc, hget, List.length_map, hl, Int.toNat_natCast, str_eq, eq_false he]
          (repeat (refine ⟨by omega, ?_⟩))
          refine LP_next (i + 1) (by omega) (by omega) ?_
          rw [e1, hst, signStep, if_neg (fun h => by rw [hp] at h; cases h.1)]
          refine imp_loc (by ((try simp only [cells_agg, cells_lit, leL_cons, leL_nil, leA_any, leA_lits, leA_isl, leA_self, and_self, true_and, and_true, or_true, true_or, Value.int.injEq, Value.bool.injEq, Value.string.injEq, AV.lit.injEq, Option.some.injEq, Blk.cells.injEq, Blk.tok.injEq, List.cons.injEq, Tk.at.injEq, subL_nil, subL_cons, look_nil, look_cons, ↓reduceIte, Nat.reduceEqDiff, Option.isSome_some, reduceCtorEq, or_false, false_or, if_true, if_false, hl]); (try first | done | omega | (simp; done) | (simp; omega)))) (by ((try simp only [cells_agg, cells_lit, leL_cons, leL_nil, leA_any, leA_lits, leA_isl, leA_self, and_self, true_and, and_true, or_true, true_or, Value.int.injEq, Value.bool.injEq, Value.string.injEq, AV.lit.injEq, Option.some.injEq, Blk.cells.injEq, Blk.tok.injEq, List.cons.injEq, Tk.at.injEq, subL_nil, subL_cons, look_nil, look_cons, ↓reduceIte, Nat.reduceEqDiff, Option.isSome_some, reduceCtorEq, or_false, false_or, if_true, if_false, hl]); (try first | done | omega | (simp; done) | (simp; omega)))) (by ((try simp only [cells_agg, cells_lit, List.mem_cons, List.not_mem_nil, or_false, forall_eq_or_imp, forall_eq, only_any, only_lit', only_iptr, only_no, only_full, only_at, only_ptr, only_osl, only_agg, only_tup, only_fn, only_bfn, and_self, implies_true, and_true, true_and, okL_nil, okL_cons, bonly_cells, bonly_tok, keepP_add, look_nil, look_cons, ↓reduceIte, Nat.reduceEqDiff, Option.isSome_some, reduceCtorEq, false_or, if_true, if_false, false_implies, hl]); (try first | done | omega | ((repeat' refine And.intro ?_ ?_) <;> (intro _ hx; obtain ⟨_, -, rfl⟩ := List.mem_map.1 hx; exact .lit _))))) (by ((try simp only [cells_agg, cells_lit, List.mem_cons, List.not_mem_nil, or_false, forall_eq_or_imp, forall_eq, only_any, only_lit', only_iptr, only_no, only_full, only_at, only_ptr, only_osl, only_agg, only_tup, only_fn, only_bfn, and_self, implies_true, and_true, true_and, okL_nil, okL_cons, bonly_cells, bonly_tok, keepP_add, look_nil, look_cons, ↓reduceIte, Nat.reduceEqDiff, Option.isSome_some, reduceCtorEq, false_or, if_true, if_false, false_implies, hl]); (try first | done | omega | ((repeat' refine And.intro ?_ ?_) <;> (intro _ hx; obtain ⟨_, -, rfl⟩ := List.mem_map.1 hx; exact .lit _)))))
      · have hp : preB s t = false := by rw [preB_eq, decide_eq_false (by omega : ¬ t.size ≤ s.size)]; rfl
        refine WC_draw Ty.mixed (by kernel_rfl) ?_
        simp only [go_sem, hc]
        refine LP_next (i + 1) (by omega) (by omega) ?_
        rw [e1, hst, signStep, if_neg (fun h => by rw [hp] at h; cases h.1)]
        refine imp_loc (by ((try simp only [cells_agg, cells_lit, leL_cons, leL_nil, leA_any, leA_lits, leA_isl, leA_self, and_self, true_and, and_true, or_true, true_or, Value.int.injEq, Value.bool.injEq, Value.string.injEq, AV.lit.injEq, Option.some.injEq, Blk.cells.injEq, Blk.tok.injEq, List.cons.injEq, Tk.at.injEq, subL_nil, subL_cons, look_nil, look_cons, ↓reduceIte, Nat.reduceEqDiff, Option.isSome_some, reduceCtorEq, or_false, false_or, if_true, if_false, hl]); (try first | done | omega | (simp; done) | (simp; omega)))) (by ((try simp only [cells_agg, cells_lit, leL_cons, leL_nil, leA_any, leA_lits, leA_isl, leA_self, and_self, true_and, and_true, or_true, true_or, Value.int.injEq, Value.bool.injEq, Value.string.injEq, AV.lit.injEq, Option.some.injEq, Blk.cells.injEq, Blk.tok.injEq, List.cons.injEq, Tk.at.injEq, subL_nil, subL_cons, look_nil, look_cons, ↓reduceIte, Nat.reduceEqDiff, Option.isSome_some, reduceCtorEq, or_false, false_or, if_true, if_false, hl]); (try first | done | omega | (simp; done) | (simp; omega)))) (by ((try simp only [cells_agg, cells_lit, List.mem_cons, List.not_mem_nil, or_false, forall_eq_or_imp, forall_eq, only_any, only_lit', only_iptr, only_no, only_full, only_at, only_ptr, only_osl, only_agg, only_tup, only_fn, only_bfn, and_self, implies_true, and_true, true_and, okL_nil, okL_cons, bonly_cells, bonly_tok, keepP_add, look_nil, look_cons, ↓reduceIte, Nat.reduceEqDiff, Option.isSome_some, reduceCtorEq, false_or, if_true, if_false, false_implies, hl]); (try first | done | omega | ((repeat' refine And.intro ?_ ?_) <;> (intro _ hx; obtain ⟨_, -, rfl⟩ := List.mem_map.1 hx; exact .lit _))))) (by ((try simp only [cells_agg, cells_lit, List.mem_cons, List.not_mem_nil, or_false, forall_eq_or_imp, forall_eq, only_any, only_lit', only_iptr, only_no, only_full, only_at, only_ptr, only_osl, only_agg, only_tup, only_fn, only_bfn, and_self, implies_true, and_true, true_and, okL_nil, okL_cons, bonly_cells, bonly_tok, keepP_add, look_nil, look_cons, ↓reduceIte, Nat.reduceEqDiff, Option.isSome_some, reduceCtorEq, false_or, if_true, if_false, false_implies, hl]); (try first | done | omega | ((repeat' refine And.intro ?_ ?_) <;> (intro _ hx; obtain ⟨_, -, rfl⟩ := List.mem_map.1 hx; exact .lit _)))))
    · have : i = 22 := by omega
      subst this
      refine FnPost_end hn0 (by simp) rfl (only_lit _ _) ?_
      simp only [go_sem]
      exact leA_str rfl
end Go.Proofs.YtcnhpclfflcdfaaDoorR.Lex
