import Derived.Test.YtcnhpclfflcdfaaDoorQValCmp
/- How two values stand to one another, by any sign: the law. -/
namespace Go.Proofs.YtcnhpclfflcdfaaDoorQ.Val
open Go Go.Av
set_option linter.unusedSimpArgs false
set_option linter.unusedVariables false
theorem cb_zero : ∀ (a b : List UInt8), Lib.compareBytes a b = 0 ↔ a = b
  | [], [] => by simp [Lib.compareBytes]
  | [], _ :: _ => by simp [Lib.compareBytes]
  | _ :: _, [] => by simp [Lib.compareBytes]
  | a :: x, b :: y => by
    rw [Lib.compareBytes]
    split
    · rename_i h
      simp only [List.cons.injEq]
      constructor
      · intro e; omega
      · rintro ⟨rfl, -⟩; exact absurd h (UInt8.lt_irrefl _)
    · split
      · rename_i h
        simp only [List.cons.injEq]
        constructor
        · intro e; omega
        · rintro ⟨rfl, -⟩; exact absurd h (UInt8.lt_irrefl _)
      · rename_i h1 h2
        have e : a = b := UInt8.le_antisymm (UInt8.not_lt.1 h2) (UInt8.not_lt.1 h1)
        rw [cb_zero x y]
        simp [e]
theorem cb_less : ∀ (a b : List UInt8), Op.bytesLess a b = true ↔ Lib.compareBytes a b < 0
  | [], [] => by simp [Lib.compareBytes, Op.bytesLess]
  | [], _ :: _ => by simp [Lib.compareBytes, Op.bytesLess]
  | _ :: _, [] => by simp [Lib.compareBytes, Op.bytesLess]
  | a :: x, b :: y => by
    rw [Lib.compareBytes, Op.bytesLess]
    split
    · rename_i h; simp [h]
    · rename_i h
      split
      · rename_i h2
        have hne : ¬ a = b := fun e => by subst e; exact h h2
        simp [h, hne]
      · rename_i h2
        have e : a = b := UInt8.le_antisymm (UInt8.not_lt.1 h2) (UInt8.not_lt.1 h)
        subst e
        simp [h, cb_less x y]
theorem cb_vals : ∀ (a b : List UInt8), Lib.compareBytes a b = -1 ∨ Lib.compareBytes a b = 0 ∨ Lib.compareBytes a b = 1
  | [], [] => by simp [Lib.compareBytes]
  | [], _ :: _ => by simp [Lib.compareBytes]
  | _ :: _, [] => by simp [Lib.compareBytes]
  | a :: x, b :: y => by
    rw [Lib.compareBytes]
    split
    · exact .inl rfl
    · split
      · exact .inr (.inr rfl)
      · exact cb_vals x y
theorem cb_eq (t t' : ByteArray) : (t.data.toList == t'.data.toList) = decide (cbI t t' = 0) := by
  rw [Bool.eq_iff_iff]
  simp only [beq_iff_eq, decide_eq_true_eq]
  exact (cb_zero _ _).symm
theorem cb_lt (t t' : ByteArray) : Op.bytesLess t.data.toList t'.data.toList = decide (cbI t t' < 0) := by
  rw [Bool.eq_iff_iff]
  simp only [decide_eq_true_eq]
  exact cb_less _ _
theorem cmI_zero (a b : Int) : cmI a b = 0 ↔ a = b := by unfold cmI; (repeat' split) <;> omega
def tstP (op k k' c : Int) : Prop := k ≠ 0 ∧ k' ≠ 0 ∧ ((k ≠ k' ∧ op = 2) ∨ (k = k' ∧ ((op = 1 ∧ c = 0) ∨ (op = 2 ∧ c ≠ 0) ∨ (op = 3 ∧ c < 0) ∨ (op = 4 ∧ c ≤ 0) ∨ (op = 5 ∧ 0 < c) ∨ (op = 6 ∧ 0 ≤ c))))
instance (op k k' c : Int) : Decidable (tstP op k k' c) := by unfold tstP; infer_instance
def tstB (op k k' c : Int) : Bool := decide (tstP op k k' c)
theorem tstB_eq {op k k' c : Int} {b : Bool} (h : b = true ↔ tstP op k k' c) : b = tstB op k k' c := by
  rw [Bool.eq_iff_iff, h]; unfold tstB; rw [decide_eq_true_eq]
theorem cmV_zero (k n : Int) (t : ByteArray) (k' n' : Int) (t' : ByteArray) : (decide (k = k') && (decide (n = n') && (t.data.toList == t'.data.toList))) = decide (cmV k n t k' n' t' = 0) := by
  rw [cb_eq, Bool.eq_iff_iff]
  simp only [Bool.and_eq_true, decide_eq_true_eq]
  have h1 := cmI_zero k k'
  have h2 := cmI_zero n n'
  unfold cmV
  (repeat' split) <;> omega
def sgS (op : Int) : ByteArray := if 1 ≤ op ∧ op ≤ 6 then sgn (op - 1).toNat else ⟨#[]⟩
theorem rGood_c (k n : Int) (t : ByteArray) (hs : t.size ≤ 140737488351232) (g : GH) : PureC Tryd.prog 16 [vlA k n t] g (BB (goodB k n t)) := by
  refine CallC.body (fun _ => none) (fun _ => 0) Tryd.func16 rfl Tryd.results16 Tryd.ntmps16 ?_
  intro n0 hn0
  simp only [go_sem]
  split
  · rename_i hk
    (repeat' (refine WG_split _ _ _ _ _ _ _ _ _ (fun hh => ?_) (fun hh => ?_) <;> (try simp only [decide_eq_true_eq, decide_eq_false_iff_not, Bool.not_eq_true', Bool.not_eq_false', Bool.not_eq_true, Bool.not_eq_false] at hh) <;> (first | simp only [go_sem, boolEqH hh] | simp only [go_sem, eq_false hh] | simp only [go_sem, eq_true hh])))
    all_goals
      refine FnPost_end hn0 (by simp) rfl (only_lit _ _) ?_
      simp only [go_sem]
      refine leA_bool ?_
      unfold goodB
      rw [Bool.eq_iff_iff]
      simp only [decide_eq_true_eq, Bool.false_eq_true, false_iff]
      unfold goodF goodV
      omega
  · split
    · rename_i hk
      (repeat' (refine WG_split _ _ _ _ _ _ _ _ _ (fun hh => ?_) (fun hh => ?_) <;> (try simp only [decide_eq_true_eq, decide_eq_false_iff_not, Bool.not_eq_true', Bool.not_eq_false', Bool.not_eq_true, Bool.not_eq_false] at hh) <;> (first | simp only [go_sem, boolEqH hh] | simp only [go_sem, eq_false hh] | simp only [go_sem, eq_true hh])))
      all_goals
        refine FnPost_end hn0 (by simp) rfl (only_lit _ _) ?_
        simp only [go_sem]
        refine leA_bool ?_
        unfold goodB
        rw [Bool.eq_iff_iff]
        simp only [decide_eq_true_eq, Bool.false_eq_true, false_iff]
        unfold goodF goodV
        omega
    · rename_i hk0 hk1
      refine WC_loop (fun i : Nat => [.any, .ptr (n0 + 1) 0 0, .any, I64 i, .any, .any, .any, .any, .any, .any, .any, .any, .any, .any, .any, .any, .any, .any, .any, .any, .any, .any, .any, .any, .any, .any, .any, .any, .any, .any, .any, .any, .any, .any, .any, .any, .any, .any, .any, .any, .any, .any, .any, .any, .any, .any, .any, .any, .any, .any, .any, .any, .any, .any, .any, .any, .any, .any, .any, .any, .any, .any, .any, .any]) (fun _ => ⟨g, [(1, .cells 0 [I64 k, I64 n, SS t])]⟩) (fun i => i ≤ t.size ∧ ∀ j, j < i → plB (byteAt t j) = true) (fun i => t.size - i) 0 (by simp) ?_ ?_
      · refine imp_loc (by ((try simp only [cells_agg, cells_lit, leL_cons, leL_nil, leA_any, leA_lits, leA_isl, leA_self, and_self, true_and, and_true, or_true, true_or, Value.int.injEq, Value.bool.injEq, Value.string.injEq, AV.lit.injEq, Option.some.injEq, Blk.cells.injEq, Blk.tok.injEq, List.cons.injEq, Tk.at.injEq, subL_nil, subL_cons, look_nil, look_cons, ↓reduceIte, Nat.reduceEqDiff, Option.isSome_some, reduceCtorEq, or_false, false_or, if_true, if_false]); (try first | done | omega | (simp; done) | (simp; omega)))) (by ((try simp only [cells_agg, cells_lit, leL_cons, leL_nil, leA_any, leA_lits, leA_isl, leA_self, and_self, true_and, and_true, or_true, true_or, Value.int.injEq, Value.bool.injEq, Value.string.injEq, AV.lit.injEq, Option.some.injEq, Blk.cells.injEq, Blk.tok.injEq, List.cons.injEq, Tk.at.injEq, subL_nil, subL_cons, look_nil, look_cons, ↓reduceIte, Nat.reduceEqDiff, Option.isSome_some, reduceCtorEq, or_false, false_or, if_true, if_false]); (try first | done | omega | (simp; done) | (simp; omega)))) (by ((try simp only [cells_agg, cells_lit, List.mem_cons, List.not_mem_nil, or_false, forall_eq_or_imp, forall_eq, only_any, only_lit', only_iptr, only_no, only_full, only_at, only_ptr, only_osl, only_agg, only_tup, only_fn, and_self, implies_true, and_true, true_and, okL_nil, okL_cons, bonly_cells, bonly_tok, keepP_add, look_nil, look_cons, ↓reduceIte, Nat.reduceEqDiff, Option.isSome_some, reduceCtorEq, false_or, if_true, if_false, false_implies]); (try first | done | omega | ((repeat' refine And.intro ?_ ?_) <;> (intro _ hx; obtain ⟨_, -, rfl⟩ := List.mem_map.1 hx; exact .lit _))))) (by ((try simp only [cells_agg, cells_lit, List.mem_cons, List.not_mem_nil, or_false, forall_eq_or_imp, forall_eq, only_any, only_lit', only_iptr, only_no, only_full, only_at, only_ptr, only_osl, only_agg, only_tup, only_fn, and_self, implies_true, and_true, true_and, okL_nil, okL_cons, bonly_cells, bonly_tok, keepP_add, look_nil, look_cons, ↓reduceIte, Nat.reduceEqDiff, Option.isSome_some, reduceCtorEq, false_or, if_true, if_false, false_implies]); (try first | done | omega | ((repeat' refine And.intro ?_ ?_) <;> (intro _ hx; obtain ⟨_, -, rfl⟩ := List.mem_map.1 hx; exact .lit _)))))
      · rintro i ⟨hi, hok⟩
        simp only [go_sem]
        split
        · rename_i hlt
          have hlt : i < t.size := by omega
          have e1 : IntKind.i64.wrap ((i : Int) + 1) = ((i + 1 : Nat) : Int) := by rw [wrap_i64]; omega
          have bad : ¬ plB (byteAt t i) = true → goodB k n t = false := fun hp => goodB_no (by
            unfold goodF goodV
            rintro (h | h | h)
            · omega
            · omega
            · exact hp (h.2.2.2 i hlt))
          (repeat (refine ⟨by omega, ?_⟩))
          (repeat' (refine WG_split _ _ _ _ _ _ _ _ _ (fun hh => ?_) (fun hh => ?_) <;> (try simp only [decide_eq_true_eq, decide_eq_false_iff_not, Bool.not_eq_true', Bool.not_eq_false', Bool.not_eq_true, Bool.not_eq_false] at hh) <;> (first | simp only [go_sem, boolEqH hh] | simp only [go_sem, eq_false hh] | simp only [go_sem, eq_true hh])))
          · refine FnPost_end hn0 (by simp) rfl (only_lit _ _) ?_
            simp only [go_sem]
            exact leA_bool (bad (by unfold plB; simp; omega)).symm
          · (repeat (refine ⟨by omega, ?_⟩))
            split
            · refine FnPost_end hn0 (by simp) rfl (only_lit _ _) ?_
              simp only [go_sem]
              exact leA_bool (bad (by unfold plB; simp; omega)).symm
            · refine LP_next (i + 1) ⟨by omega, fun j hj => by
                by_cases e : j = i
                · subst e; unfold plB; simp; omega
                · exact hok j (by omega)⟩ (by omega) ?_
              rw [e1]
              refine imp_loc (by ((try simp only [cells_agg, cells_lit, leL_cons, leL_nil, leA_any, leA_lits, leA_isl, leA_self, and_self, true_and, and_true, or_true, true_or, Value.int.injEq, Value.bool.injEq, Value.string.injEq, AV.lit.injEq, Option.some.injEq, Blk.cells.injEq, Blk.tok.injEq, List.cons.injEq, Tk.at.injEq, subL_nil, subL_cons, look_nil, look_cons, ↓reduceIte, Nat.reduceEqDiff, Option.isSome_some, reduceCtorEq, or_false, false_or, if_true, if_false]); (try first | done | omega | (simp; done) | (simp; omega)))) (by ((try simp only [cells_agg, cells_lit, leL_cons, leL_nil, leA_any, leA_lits, leA_isl, leA_self, and_self, true_and, and_true, or_true, true_or, Value.int.injEq, Value.bool.injEq, Value.string.injEq, AV.lit.injEq, Option.some.injEq, Blk.cells.injEq, Blk.tok.injEq, List.cons.injEq, Tk.at.injEq, subL_nil, subL_cons, look_nil, look_cons, ↓reduceIte, Nat.reduceEqDiff, Option.isSome_some, reduceCtorEq, or_false, false_or, if_true, if_false]); (try first | done | omega | (simp; done) | (simp; omega)))) (by ((try simp only [cells_agg, cells_lit, List.mem_cons, List.not_mem_nil, or_false, forall_eq_or_imp, forall_eq, only_any, only_lit', only_iptr, only_no, only_full, only_at, only_ptr, only_osl, only_agg, only_tup, only_fn, and_self, implies_true, and_true, true_and, okL_nil, okL_cons, bonly_cells, bonly_tok, keepP_add, look_nil, look_cons, ↓reduceIte, Nat.reduceEqDiff, Option.isSome_some, reduceCtorEq, false_or, if_true, if_false, false_implies]); (try first | done | omega | ((repeat' refine And.intro ?_ ?_) <;> (intro _ hx; obtain ⟨_, -, rfl⟩ := List.mem_map.1 hx; exact .lit _))))) (by ((try simp only [cells_agg, cells_lit, List.mem_cons, List.not_mem_nil, or_false, forall_eq_or_imp, forall_eq, only_any, only_lit', only_iptr, only_no, only_full, only_at, only_ptr, only_osl, only_agg, only_tup, only_fn, and_self, implies_true, and_true, true_and, okL_nil, okL_cons, bonly_cells, bonly_tok, keepP_add, look_nil, look_cons, ↓reduceIte, Nat.reduceEqDiff, Option.isSome_some, reduceCtorEq, false_or, if_true, if_false, false_implies]); (try first | done | omega | ((repeat' refine And.intro ?_ ?_) <;> (intro _ hx; obtain ⟨_, -, rfl⟩ := List.mem_map.1 hx; exact .lit _)))))
        · have : i = t.size := by omega
          subst this
          (repeat' (refine WG_split _ _ _ _ _ _ _ _ _ (fun hh => ?_) (fun hh => ?_) <;> (try simp only [decide_eq_true_eq, decide_eq_false_iff_not, Bool.not_eq_true', Bool.not_eq_false', Bool.not_eq_true, Bool.not_eq_false] at hh) <;> (first | simp only [go_sem, boolEqH hh] | simp only [go_sem, eq_false hh] | simp only [go_sem, eq_true hh])))
          all_goals
            refine FnPost_end hn0 (by simp) rfl (only_lit _ _) ?_
            simp only [go_sem]
            refine leA_bool ?_
            unfold goodB
            rw [Bool.eq_iff_iff]
            simp only [decide_eq_true_eq, Bool.false_eq_true, false_iff]
            unfold goodF goodV
            try omega
          rename_i hk2
          constructor
          · intro h; exact .inr (.inr ⟨by omega, by omega, by omega, hok⟩)
          · rintro (h | h | h)
            · omega
            · omega
            · have := h.2.2.1; omega
theorem Few_c (k n : Int) (t : ByteArray) (g : GH) : PureC Tryd.prog 13 [vlA k n t] g (vlA k n (cutS t 120)) := by
  refine CallC.body (fun _ => none) (fun _ => 0) Tryd.func13 rfl Tryd.results13 Tryd.ntmps13 ?_
  intro n0 hn0
  simp only [go_sem]
  refine WE_pure _ _ _ _ _ _ _ _ (Cut_c t 120 _) ?_
  simp only [go_sem]
  refine FnPost_end hn0 (by simp) rfl (by simp only [only_tup, List.mem_cons, List.not_mem_nil, or_false, forall_eq_or_imp, forall_eq, only_any, only_lit', only_full, only_no, only_iptr, only_agg, and_self, and_true, true_and, implies_true, or_false]) ?_
  simp only [go_sem]
  exact leA_refl _
end Go.Proofs.YtcnhpclfflcdfaaDoorQ.Val
