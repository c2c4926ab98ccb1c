import Derived.Test.YtcnhpclfflcdfaaDoorRValNames
/- Which value a text begins with, or why with none: the code against the words. -/
namespace Go.Proofs.YtcnhpclfflcdfaaDoorR.Val
open Go Go.Av
set_option linter.unusedSimpArgs false
set_option linter.unusedVariables false
/-- a value's three cells -/
abbrev vlA (k n : Int) (t : ByteArray) : AV := .agg [I64 k, I64 n, SS t]
/-- what reading tells: a value, how many bytes, and what is wrong -/
abbrev rdA (k n : Int) (t : ByteArray) (m e : Int) : AV := .tup [vlA k n t, I64 m, I64 e]
abbrev noA (e : Int) : AV := rdA 0 0 ⟨#[]⟩ 0 e
def numL (s : ByteArray) : Nat → Nat → Int → Option (Int × Nat)
  | 0, i, n => some (n, i)
  | f + 1, i, n => if digB (byteAt s i) = true then (if n * 10 + (byteAt s i - 48) > 1000000000000 then none else numL s f (i + 1) (n * 10 + (byteAt s i - 48))) else some (n, i)
def sgnV (s : ByteArray) (n : Int) : Int := if byteAt s 0 = 45 then -n else n
def numE (s : ByteArray) : Option (Int × Nat) → AV
  | none => noA 5
  | some (n, i) => rdA 1 (sgnV s n) ⟨#[]⟩ i 0
def numI (s : ByteArray) : Nat := if byteAt s 0 = 45 then 1 else 0
def numR (s : ByteArray) : AV := if numI s = s.size then noA 7 else if digB (byteAt s (numI s)) = false then noA 2 else numE s (numL s (s.size - numI s) (numI s) 0)
theorem numL_stop {s : ByteArray} {f i : Nat} {n : Int} (h : digB (byteAt s i) = false) : numL s f i n = some (n, i) := by
  cases f with
  | zero => rfl
  | succ f => rw [numL, if_neg (by simp [h])]
theorem numL_long {s : ByteArray} {f i : Nat} {n : Int} (h : digB (byteAt s i) = true) (h2 : n * 10 + (byteAt s i - 48) > 1000000000000) : numL s (f + 1) i n = none := by
  rw [numL, if_pos h, if_pos h2]
theorem numL_next {s : ByteArray} {f i : Nat} {n : Int} (h : digB (byteAt s i) = true) (h2 : ¬ n * 10 + (byteAt s i - 48) > 1000000000000) : numL s (f + 1) i n = numL s f (i + 1) (n * 10 + (byteAt s i - 48)) := by
  rw [numL, if_pos h, if_neg h2]
theorem digB_true {b : Int} (h : digB b = true) : 48 ≤ b ∧ b ≤ 57 := by simpa [digB] using h
theorem number_c (s : ByteArray) (hs0 : s.size ≠ 0) (hs : s.size ≤ 140737488351232) (g : GH) : PureC Tryd.prog 60 [SS s] g (numR s) := by
  obtain ⟨i0, hi0⟩ : ∃ i0 : Nat, i0 = numI s := ⟨_, rfl⟩
  refine CallC.body (fun _ => none) (fun _ => 0) Tryd.func60 rfl Tryd.results60 Tryd.ntmps60 ?_
  intro n0 hn0
  simp only [go_sem]
  refine ⟨by omega, ?_⟩
  split
  all_goals
    rename_i hneg
    have hnum : numI s = i0 := hi0.symm
    unfold numI at hi0
    simp only [hneg, if_true, if_false] at hi0
    split
    · rw [show numR s = noA 7 by unfold numR; rw [if_pos (by omega)]]
      refine FnPost_end hn0 (by simp) rfl (by simp only [only_tup, List.mem_cons, List.not_mem_nil, or_false, forall_eq_or_imp, forall_eq, only_any, only_lit', only_full, only_no, only_iptr, only_agg, only_bfn, and_self, and_true, true_and, implies_true, or_false]) ?_
      simp only [go_sem]
      exact leA_refl _
    · refine ⟨by omega, ?_⟩
      refine WE_pure _ _ _ _ _ _ _ _ (digit_c _ _) ?_
      simp only [go_sem]
      have hsz : i0 < s.size := by omega
      split
      · rename_i hd
        rw [show numR s = noA 2 by unfold numR; rw [if_neg (by omega), if_pos (by rw [hnum, hi0]; exact hd)]]
        refine FnPost_end hn0 (by simp) rfl (by simp only [only_tup, List.mem_cons, List.not_mem_nil, or_false, forall_eq_or_imp, forall_eq, only_any, only_lit', only_full, only_no, only_iptr, only_agg, only_bfn, and_self, and_true, true_and, implies_true, or_false]) ?_
        simp only [go_sem]
        exact leA_refl _
      · rename_i hd
        have hd : ¬ digB (byteAt s i0) = false := by rw [hi0]; exact hd
        have hR : numR s = numE s (numL s (s.size - i0) i0 0) := by unfold numR; rw [if_neg (by omega), if_neg (by rw [hnum]; exact hd), hnum]
        rw [hR]
        refine WC_loop (fun p : Nat × Int => [SS s, .any, .ptr (n0 + 2) 0 0, .any, .any, I64 p.1, I64 p.2, .any, .any, .any, .any, .any, .any, .any, .any, .any, .any, .any, .any, .any, .any, .any, .any, .any, .any, .any, .any, .any, .any, .any, .any, .any, .any, .any, .any, .any, .any, .any, .any, .any, .any, .any, .any, .any, .any, .any, .any, .any, .any, .any, .any, .any, .any, .any]) (fun _ => ⟨g, [(2, .cells 0 [I64 0, I64 0, SS ⟨#[]⟩])]⟩) (fun p => p.1 ≤ s.size ∧ 0 ≤ p.2 ∧ p.2 ≤ 1000000000000 ∧ numL s (s.size - p.1) p.1 p.2 = numL s (s.size - i0) i0 0) (fun p => s.size - p.1) (i0, 0) ⟨by simp only; omega, by simp, by simp, rfl⟩ ?_ ?_
        · refine imp_loc (by ((try simp only [cells_agg, cells_lit, leL_cons, leL_nil, leA_any, leA_lits, leA_isl, leA_self, and_self, true_and, and_true, or_true, true_or, Value.int.injEq, Value.bool.injEq, Value.string.injEq, AV.lit.injEq, Option.some.injEq, Blk.cells.injEq, Blk.tok.injEq, List.cons.injEq, Tk.at.injEq, subL_nil, subL_cons, look_nil, look_cons, ↓reduceIte, Nat.reduceEqDiff, Option.isSome_some, reduceCtorEq, or_false, false_or, if_true, if_false]); (try first | done | omega | (simp; done) | (simp; omega)))) (by ((try simp only [cells_agg, cells_lit, leL_cons, leL_nil, leA_any, leA_lits, leA_isl, leA_self, and_self, true_and, and_true, or_true, true_or, Value.int.injEq, Value.bool.injEq, Value.string.injEq, AV.lit.injEq, Option.some.injEq, Blk.cells.injEq, Blk.tok.injEq, List.cons.injEq, Tk.at.injEq, subL_nil, subL_cons, look_nil, look_cons, ↓reduceIte, Nat.reduceEqDiff, Option.isSome_some, reduceCtorEq, or_false, false_or, if_true, if_false]); (try first | done | omega | (simp; done) | (simp; omega)))) (by ((try simp only [cells_agg, cells_lit, List.mem_cons, List.not_mem_nil, or_false, forall_eq_or_imp, forall_eq, only_any, only_lit', only_iptr, only_no, only_full, only_at, only_ptr, only_osl, only_agg, only_tup, only_fn, only_bfn, and_self, implies_true, and_true, true_and, okL_nil, okL_cons, bonly_cells, bonly_tok, keepP_add, look_nil, look_cons, ↓reduceIte, Nat.reduceEqDiff, Option.isSome_some, reduceCtorEq, false_or, if_true, if_false, false_implies]); (try first | done | omega | ((repeat' refine And.intro ?_ ?_) <;> (intro _ hx; obtain ⟨_, -, rfl⟩ := List.mem_map.1 hx; exact .lit _))))) (by ((try simp only [cells_agg, cells_lit, List.mem_cons, List.not_mem_nil, or_false, forall_eq_or_imp, forall_eq, only_any, only_lit', only_iptr, only_no, only_full, only_at, only_ptr, only_osl, only_agg, only_tup, only_fn, only_bfn, and_self, implies_true, and_true, true_and, okL_nil, okL_cons, bonly_cells, bonly_tok, keepP_add, look_nil, look_cons, ↓reduceIte, Nat.reduceEqDiff, Option.isSome_some, reduceCtorEq, false_or, if_true, if_false, false_implies]); (try first | done | omega | ((repeat' refine And.intro ?_ ?_) <;> (intro _ hx; obtain ⟨_, -, rfl⟩ := List.mem_map.1 hx; exact .lit _)))))
        · rintro ⟨i, n⟩ ⟨h1, h2, h3, h4⟩
          simp only at h1 h2 h3 h4
          simp only [go_sem]
          have fin : digB (byteAt s i) = false ∨ i = s.size → numE s (numL s (s.size - i0) i0 0) = rdA 1 (sgnV s n) ⟨#[]⟩ i 0 := fun h => by
            rw [← h4]
            rcases h with h | h
            · rw [numL_stop h]; rfl
            · subst h; rw [Nat.sub_self]; rfl
          (repeat' (refine WG_split _ _ _ _ _ _ _ _ _ (fun hh => ?_) (fun hh => ?_) <;> (try simp only [decide_eq_true_eq, decide_eq_false_iff_not, Bool.not_eq_true', Bool.not_eq_false', Bool.not_eq_true, Bool.not_eq_false] at hh) <;> (first | simp only [go_sem, boolEqH hh] | simp only [go_sem, eq_false hh] | simp only [go_sem, eq_true hh])))
          · (repeat (refine ⟨by omega, ?_⟩))
            refine WE_pure _ _ _ _ _ _ _ _ (digit_c _ _) ?_
            simp only [go_sem]
            split
            · rename_i hdg
              have hb := digB_true hdg
              obtain ⟨f, hf⟩ : ∃ f, s.size - i = f + 1 := ⟨s.size - i - 1, by omega⟩
              have e1 : IntKind.i64.wrap (IntKind.i64.wrap (n * 10) + IntKind.i64.wrap (IntKind.u8.wrap (byteAt s i - 48))) = n * 10 + (byteAt s i - 48) := by
                rw [wrap_u8, wrap_i64, wrap_i64, wrap_i64]; omega
              have e2 : IntKind.i64.wrap ((i : Int) + 1) = ((i + 1 : Nat) : Int) := by rw [wrap_i64]; omega
              (repeat (refine ⟨by omega, ?_⟩))
              rw [e1]
              split
              · rename_i hl
                rw [show numE s (numL s (s.size - i0) i0 0) = noA 5 by rw [← h4, hf, numL_long hdg hl]; rfl]
                refine FnPost_end hn0 (by simp) rfl (by simp only [only_tup, List.mem_cons, List.not_mem_nil, or_false, forall_eq_or_imp, forall_eq, only_any, only_lit', only_full, only_no, only_iptr, only_agg, only_bfn, and_self, and_true, true_and, implies_true, or_false]) ?_
                simp only [go_sem]
                exact leA_refl _
              · rename_i hl
                refine LP_next (i + 1, n * 10 + (byteAt s i - 48)) ⟨by simp only; omega, by simp only; omega, by simp only; omega, ?_⟩ (by simp only; omega) ?_
                · simp only
                  rw [← h4, hf, numL_next hdg hl]; congr 1; omega
                · rw [e2]
                  refine imp_loc (by ((try simp only [cells_agg, cells_lit, leL_cons, leL_nil, leA_any, leA_lits, leA_isl, leA_self, and_self, true_and, and_true, or_true, true_or, Value.int.injEq, Value.bool.injEq, Value.string.injEq, AV.lit.injEq, Option.some.injEq, Blk.cells.injEq, Blk.tok.injEq, List.cons.injEq, Tk.at.injEq, subL_nil, subL_cons, look_nil, look_cons, ↓reduceIte, Nat.reduceEqDiff, Option.isSome_some, reduceCtorEq, or_false, false_or, if_true, if_false]); (try first | done | omega | (simp; done) | (simp; omega)))) (by ((try simp only [cells_agg, cells_lit, leL_cons, leL_nil, leA_any, leA_lits, leA_isl, leA_self, and_self, true_and, and_true, or_true, true_or, Value.int.injEq, Value.bool.injEq, Value.string.injEq, AV.lit.injEq, Option.some.injEq, Blk.cells.injEq, Blk.tok.injEq, List.cons.injEq, Tk.at.injEq, subL_nil, subL_cons, look_nil, look_cons, ↓reduceIte, Nat.reduceEqDiff, Option.isSome_some, reduceCtorEq, or_false, false_or, if_true, if_false]); (try first | done | omega | (simp; done) | (simp; omega)))) (by ((try simp only [cells_agg, cells_lit, List.mem_cons, List.not_mem_nil, or_false, forall_eq_or_imp, forall_eq, only_any, only_lit', only_iptr, only_no, only_full, only_at, only_ptr, only_osl, only_agg, only_tup, only_fn, only_bfn, and_self, implies_true, and_true, true_and, okL_nil, okL_cons, bonly_cells, bonly_tok, keepP_add, look_nil, look_cons, ↓reduceIte, Nat.reduceEqDiff, Option.isSome_some, reduceCtorEq, false_or, if_true, if_false, false_implies]); (try first | done | omega | ((repeat' refine And.intro ?_ ?_) <;> (intro _ hx; obtain ⟨_, -, rfl⟩ := List.mem_map.1 hx; exact .lit _))))) (by ((try simp only [cells_agg, cells_lit, List.mem_cons, List.not_mem_nil, or_false, forall_eq_or_imp, forall_eq, only_any, only_lit', only_iptr, only_no, only_full, only_at, only_ptr, only_osl, only_agg, only_tup, only_fn, only_bfn, and_self, implies_true, and_true, true_and, okL_nil, okL_cons, bonly_cells, bonly_tok, keepP_add, look_nil, look_cons, ↓reduceIte, Nat.reduceEqDiff, Option.isSome_some, reduceCtorEq, false_or, if_true, if_false, false_implies]); (try first | done | omega | ((repeat' refine And.intro ?_ ?_) <;> (intro _ hx; obtain ⟨_, -, rfl⟩ := List.mem_map.1 hx; exact .lit _)))))
            · rename_i hdg
              rw [fin (.inl (by simpa using hdg))]
              (repeat (refine ⟨by omega, ?_⟩))
              have e3 : IntKind.i64.wrap (0 - n) = -n := by rw [wrap_i64]; omega
              unfold sgnV
              simp only [go_sem, hneg]
              (repeat (refine ⟨by omega, ?_⟩))
              refine FnPost_end hn0 (by simp) rfl (by simp only [only_tup, List.mem_cons, List.not_mem_nil, or_false, forall_eq_or_imp, forall_eq, only_any, only_lit', only_full, only_no, only_iptr, only_agg, only_bfn, and_self, and_true, true_and, implies_true, or_false]) ?_
              simp only [go_sem, e3]
              exact leA_refl _
          · rw [fin (.inr (by omega))]
            (repeat (refine ⟨by omega, ?_⟩))
            have e3 : IntKind.i64.wrap (0 - n) = -n := by rw [wrap_i64]; omega
            unfold sgnV
            simp only [go_sem, hneg]
            (repeat (refine ⟨by omega, ?_⟩))
            refine FnPost_end hn0 (by simp) rfl (by simp only [only_tup, List.mem_cons, List.not_mem_nil, or_false, forall_eq_or_imp, forall_eq, only_any, only_lit', only_full, only_no, only_iptr, only_agg, only_bfn, and_self, and_true, true_and, implies_true, or_false]) ?_
            simp only [go_sem, e3]
            exact leA_refl _
def quoL (s : ByteArray) : Nat → Nat → ByteArray → AV
  | 0, i, o => noA 7
  | f + 1, i, o =>
    if i < s.size then
      if byteAt s i = 39 then rdA 2 0 o (i + 1) 0
      else if byteAt s i = 92 then
        if i + 1 = s.size then noA 7
        else if byteAt s (i + 1) ≠ 39 ∧ byteAt s (i + 1) ≠ 92 then noA 2
        else if o.size = 100 then noA 5 else quoL s f (i + 2) (o ++ ⟨#[byt s (i + 1)]⟩)
      else if plB (byteAt s i) = false then noA 2
      else if o.size = 100 then noA 5 else quoL s f (i + 1) (o ++ ⟨#[byt s i]⟩)
    else noA 7
theorem quoL_end {s : ByteArray} {f i : Nat} {o : ByteArray} (h : s.size ≤ i) : quoL s f i o = noA 7 := by
  cases f with
  | zero => rfl
  | succ f => rw [quoL, if_neg (by omega)]
theorem quoL_step (s : ByteArray) (f i : Nat) (o : ByteArray) (h : i < s.size) : quoL s (f + 1) i o =
    if byteAt s i = 39 then rdA 2 0 o (i + 1) 0
      else if byteAt s i = 92 then
        if i + 1 = s.size then noA 7
        else if byteAt s (i + 1) ≠ 39 ∧ byteAt s (i + 1) ≠ 92 then noA 2
        else if o.size = 100 then noA 5 else quoL s f (i + 2) (o ++ ⟨#[byt s (i + 1)]⟩)
      else if plB (byteAt s i) = false then noA 2
      else if o.size = 100 then noA 5 else quoL s f (i + 1) (o ++ ⟨#[byt s i]⟩) := by rw [quoL, if_pos h]
def quoR (s : ByteArray) : AV := quoL s s.size 1 ⟨#[]⟩
theorem quoted_c (s : ByteArray) (hs : s.size ≤ 140737488351232) (g : GH) : PureC Tryd.prog 59 [SS s] g (quoR s) := by
  refine CallC.body (fun _ => none) (fun d => if d = 5 then 1 else 0) Tryd.func59 rfl Tryd.results59 Tryd.ntmps59 ?_
  intro n0 hn0
  simp only [go_sem]
  refine WC_loop (fun p : Nat × ByteArray × Nat => [SS s, .any, .ptr (n0 + 2) 0 0, .any, .any, .isl none (encB p.2.1) (.at (n0 + 5) p.2.2), I64 p.1, .any, .any, .any, .any, .any, .any, .any, .any, .any, .any, .any, .any, .any, .any, .any, .any, .any, .any, .any, .any, .any, .any, .any, .any, .any, .any, .any, .any, .any, .any, .any, .any, .any, .any, .any, .any, .any, .any, .any, .any, .any, .any, .any, .any, .any, .any, .any, .any, .any, .any]) (fun p => ⟨g, [(2, .cells 0 [I64 0, I64 0, SS ⟨#[]⟩]), (5, .tok p.2.2)]⟩) (fun p => p.2.1.size ≤ 100 ∧ p.1 ≤ s.size + 1 ∧ ∃ f, s.size ≤ p.1 + f ∧ quoL s f p.1 p.2.1 = quoR s) (fun p => s.size + 1 - p.1) (1, ⟨#[]⟩, 0) ⟨by decide, by simp only; omega, s.size, by simp only; omega, rfl⟩ ?_ ?_
  · refine imp_loc (by ((try simp only [cells_agg, cells_lit, leL_cons, leL_nil, leA_any, leA_lits, leA_isl, leA_self, and_self, true_and, and_true, or_true, true_or, Value.int.injEq, Value.bool.injEq, Value.string.injEq, AV.lit.injEq, Option.some.injEq, Blk.cells.injEq, Blk.tok.injEq, List.cons.injEq, Tk.at.injEq, subL_nil, subL_cons, look_nil, look_cons, ↓reduceIte, Nat.reduceEqDiff, Option.isSome_some, reduceCtorEq, or_false, false_or, if_true, if_false, encB]); (try first | done | omega | (simp; done) | (simp; omega)))) (by ((try simp only [cells_agg, cells_lit, leL_cons, leL_nil, leA_any, leA_lits, leA_isl, leA_self, and_self, true_and, and_true, or_true, true_or, Value.int.injEq, Value.bool.injEq, Value.string.injEq, AV.lit.injEq, Option.some.injEq, Blk.cells.injEq, Blk.tok.injEq, List.cons.injEq, Tk.at.injEq, subL_nil, subL_cons, look_nil, look_cons, ↓reduceIte, Nat.reduceEqDiff, Option.isSome_some, reduceCtorEq, or_false, false_or, if_true, if_false, encB]); (try first | done | omega | (simp; done) | (simp; omega)))) (by ((try simp only [cells_agg, cells_lit, List.mem_cons, List.not_mem_nil, or_false, forall_eq_or_imp, forall_eq, only_any, only_lit', only_iptr, only_no, only_full, only_at, only_ptr, only_osl, only_agg, only_tup, only_fn, only_bfn, and_self, implies_true, and_true, true_and, okL_nil, okL_cons, bonly_cells, bonly_tok, keepP_add, look_nil, look_cons, ↓reduceIte, Nat.reduceEqDiff, Option.isSome_some, reduceCtorEq, false_or, if_true, if_false, false_implies, encB]); (try first | done | omega | ((repeat' refine And.intro ?_ ?_) <;> (intro _ hx; obtain ⟨_, -, rfl⟩ := List.mem_map.1 hx; exact .lit _))))) (by ((try simp only [cells_agg, cells_lit, List.mem_cons, List.not_mem_nil, or_false, forall_eq_or_imp, forall_eq, only_any, only_lit', only_iptr, only_no, only_full, only_at, only_ptr, only_osl, only_agg, only_tup, only_fn, only_bfn, and_self, implies_true, and_true, true_and, okL_nil, okL_cons, bonly_cells, bonly_tok, keepP_add, look_nil, look_cons, ↓reduceIte, Nat.reduceEqDiff, Option.isSome_some, reduceCtorEq, false_or, if_true, if_false, false_implies, encB]); (try first | done | omega | ((repeat' refine And.intro ?_ ?_) <;> (intro _ hx; obtain ⟨_, -, rfl⟩ := List.mem_map.1 hx; exact .lit _)))))
  · rintro ⟨i, o, ver⟩ ⟨h1, h2, f, h3, h4⟩
    simp only at h1 h2 h3 h4
    simp only [go_sem]
    split
    · rename_i hlt
      obtain ⟨f', rfl⟩ : ∃ f', f = f' + 1 := ⟨f - 1, by omega⟩
      have hlt' : i < s.size := by omega
      rw [quoL_step s f' i o hlt'] at h4
      have e1 : IntKind.i64.wrap ((i : Int) + 1) = ((i + 1 : Nat) : Int) := by rw [wrap_i64]; omega
      simp only [go_sem, e1]
      (repeat (refine ⟨by omega, ?_⟩))
      split
      · rename_i hq
        rw [if_pos hq] at h4
        rw [← h4]
        refine FnPost_end hn0 (by simp) rfl (by simp only [only_tup, List.mem_cons, List.not_mem_nil, or_false, forall_eq_or_imp, forall_eq, only_any, only_lit', only_full, only_no, only_iptr, only_agg, only_bfn, and_self, and_true, true_and, implies_true, or_false]) ?_
        simp only [go_sem]
        exact leA_refl _
      · rename_i hq
        rw [if_neg hq] at h4
        split
        · rename_i hb
          rw [if_pos hb] at h4
          split
          · rename_i he
            rw [if_pos (by omega)] at h4
            rw [← h4]
            refine FnPost_end hn0 (by simp) rfl (by simp only [only_tup, List.mem_cons, List.not_mem_nil, or_false, forall_eq_or_imp, forall_eq, only_any, only_lit', only_full, only_no, only_iptr, only_agg, only_bfn, and_self, and_true, true_and, implies_true, or_false]) ?_
            simp only [go_sem]
            exact leA_refl _
          · rename_i he
            rw [if_neg (by omega)] at h4
            have e2 : IntKind.i64.wrap (((i + 1 : Nat) : Int) + 1) = ((i + 2 : Nat) : Int) := by rw [wrap_i64]; omega
            (repeat (refine ⟨by omega, ?_⟩))
            (repeat' (refine WG_split _ _ _ _ _ _ _ _ _ (fun hh => ?_) (fun hh => ?_) <;> (try simp only [decide_eq_true_eq, decide_eq_false_iff_not, Bool.not_eq_true', Bool.not_eq_false', Bool.not_eq_true, Bool.not_eq_false] at hh) <;> (first | simp only [go_sem, boolEqH hh] | simp only [go_sem, eq_false hh] | simp only [go_sem, eq_true hh])))
            · split
              · rename_i h92
                rw [if_pos ⟨hh, by simpa using h92⟩] at h4
                rw [← h4]
                refine FnPost_end hn0 (by simp) rfl (by simp only [only_tup, List.mem_cons, List.not_mem_nil, or_false, forall_eq_or_imp, forall_eq, only_any, only_lit', only_full, only_no, only_iptr, only_agg, only_bfn, and_self, and_true, true_and, implies_true, or_false]) ?_
                simp only [go_sem]
                exact leA_refl _
              · rename_i h92
                have hc : ¬ (byteAt s (i + 1) ≠ 39 ∧ byteAt s (i + 1) ≠ 92) := fun h => h92 h.2
                rw [if_neg hc] at h4
                have hpl : plB (byteAt s (i + 1)) = true := by
                  have : byteAt s (i + 1) = 39 ∨ byteAt s (i + 1) = 92 := by
                    by_cases h39 : byteAt s (i + 1) = 39
                    · exact .inl h39
                    · by_cases h92 : byteAt s (i + 1) = 92
                      · exact .inr h92
                      · exact absurd ⟨h39, h92⟩ hc
                  unfold plB; simp; omega
                refine WE_pure _ _ _ _ _ _ _ _ (plain_c _ _) ?_
                simp only [go_sem, hpl]
                split
                · rename_i hl
                  rw [if_pos (by omega)] at h4
                  rw [← h4]
                  refine FnPost_end hn0 (by simp) rfl (by simp only [only_tup, List.mem_cons, List.not_mem_nil, or_false, forall_eq_or_imp, forall_eq, only_any, only_lit', only_full, only_no, only_iptr, only_agg, only_bfn, and_self, and_true, true_and, implies_true, or_false]) ?_
                  simp only [go_sem]
                  exact leA_refl _
                · rename_i hl
                  rw [if_neg (by omega)] at h4
                  (repeat (refine ⟨by omega, ?_⟩))
                  refine LP_next (i + 2, o ++ ⟨#[byt s (i + 1)]⟩, ver + 1) ⟨by simp only [size_push]; omega, by simp only; omega, f', by simp only; omega, h4⟩ (by simp only; omega) ?_
                  rw [e2]
                  refine imp_loc (by ((try simp only [cells_agg, cells_lit, leL_cons, leL_nil, leA_any, leA_lits, leA_isl, leA_self, and_self, true_and, and_true, or_true, true_or, Value.int.injEq, Value.bool.injEq, Value.string.injEq, AV.lit.injEq, Option.some.injEq, Blk.cells.injEq, Blk.tok.injEq, List.cons.injEq, Tk.at.injEq, subL_nil, subL_cons, look_nil, look_cons, ↓reduceIte, Nat.reduceEqDiff, Option.isSome_some, reduceCtorEq, or_false, false_or, if_true, if_false]); (try first | done | omega | (simp; done) | (simp; omega)))) (by ((try simp only [cells_agg, cells_lit, leL_cons, leL_nil, leA_any, leA_lits, leA_isl, leA_self, and_self, true_and, and_true, or_true, true_or, Value.int.injEq, Value.bool.injEq, Value.string.injEq, AV.lit.injEq, Option.some.injEq, Blk.cells.injEq, Blk.tok.injEq, List.cons.injEq, Tk.at.injEq, subL_nil, subL_cons, look_nil, look_cons, ↓reduceIte, Nat.reduceEqDiff, Option.isSome_some, reduceCtorEq, or_false, false_or, if_true, if_false]); (try first | done | omega | (simp; done) | (simp; omega)))) (by ((try simp only [cells_agg, cells_lit, List.mem_cons, List.not_mem_nil, or_false, forall_eq_or_imp, forall_eq, only_any, only_lit', only_iptr, only_no, only_full, only_at, only_ptr, only_osl, only_agg, only_tup, only_fn, only_bfn, and_self, implies_true, and_true, true_and, okL_nil, okL_cons, bonly_cells, bonly_tok, keepP_add, look_nil, look_cons, ↓reduceIte, Nat.reduceEqDiff, Option.isSome_some, reduceCtorEq, false_or, if_true, if_false, false_implies]); (try first | done | omega | ((repeat' refine And.intro ?_ ?_) <;> (intro _ hx; obtain ⟨_, -, rfl⟩ := List.mem_map.1 hx; exact .lit _))))) (by ((try simp only [cells_agg, cells_lit, List.mem_cons, List.not_mem_nil, or_false, forall_eq_or_imp, forall_eq, only_any, only_lit', only_iptr, only_no, only_full, only_at, only_ptr, only_osl, only_agg, only_tup, only_fn, only_bfn, and_self, implies_true, and_true, true_and, okL_nil, okL_cons, bonly_cells, bonly_tok, keepP_add, look_nil, look_cons, ↓reduceIte, Nat.reduceEqDiff, Option.isSome_some, reduceCtorEq, false_or, if_true, if_false, false_implies]); (try first | done | omega | ((repeat' refine And.intro ?_ ?_) <;> (intro _ hx; obtain ⟨_, -, rfl⟩ := List.mem_map.1 hx; exact .lit _)))))
            · have hc : ¬ (byteAt s (i + 1) ≠ 39 ∧ byteAt s (i + 1) ≠ 92) := fun h => h.1 hh
              rw [if_neg hc] at h4
              have hpl : plB (byteAt s (i + 1)) = true := by
                have : byteAt s (i + 1) = 39 ∨ byteAt s (i + 1) = 92 := by
                  by_cases h39 : byteAt s (i + 1) = 39
                  · exact .inl h39
                  · by_cases h92 : byteAt s (i + 1) = 92
                    · exact .inr h92
                    · exact absurd ⟨h39, h92⟩ hc
                unfold plB; simp; omega
              refine WE_pure _ _ _ _ _ _ _ _ (plain_c _ _) ?_
              simp only [go_sem, hpl]
              split
              · rename_i hl
                rw [if_pos (by omega)] at h4
                rw [← h4]
                refine FnPost_end hn0 (by simp) rfl (by simp only [only_tup, List.mem_cons, List.not_mem_nil, or_false, forall_eq_or_imp, forall_eq, only_any, only_lit', only_full, only_no, only_iptr, only_agg, only_bfn, and_self, and_true, true_and, implies_true, or_false]) ?_
                simp only [go_sem]
                exact leA_refl _
              · rename_i hl
                rw [if_neg (by omega)] at h4
                (repeat (refine ⟨by omega, ?_⟩))
                refine LP_next (i + 2, o ++ ⟨#[byt s (i + 1)]⟩, ver + 1) ⟨by simp only [size_push]; omega, by simp only; omega, f', by simp only; omega, h4⟩ (by simp only; omega) ?_
                rw [e2]
                refine imp_loc (by ((try simp only [cells_agg, cells_lit, leL_cons, leL_nil, leA_any, leA_lits, leA_isl, leA_self, and_self, true_and, and_true, or_true, true_or, Value.int.injEq, Value.bool.injEq, Value.string.injEq, AV.lit.injEq, Option.some.injEq, Blk.cells.injEq, Blk.tok.injEq, List.cons.injEq, Tk.at.injEq, subL_nil, subL_cons, look_nil, look_cons, ↓reduceIte, Nat.reduceEqDiff, Option.isSome_some, reduceCtorEq, or_false, false_or, if_true, if_false]); (try first | done | omega | (simp; done) | (simp; omega)))) (by ((try simp only [cells_agg, cells_lit, leL_cons, leL_nil, leA_any, leA_lits, leA_isl, leA_self, and_self, true_and, and_true, or_true, true_or, Value.int.injEq, Value.bool.injEq, Value.string.injEq, AV.lit.injEq, Option.some.injEq, Blk.cells.injEq, Blk.tok.injEq, List.cons.injEq, Tk.at.injEq, subL_nil, subL_cons, look_nil, look_cons, ↓reduceIte, Nat.reduceEqDiff, Option.isSome_some, reduceCtorEq, or_false, false_or, if_true, if_false]); (try first | done | omega | (simp; done) | (simp; omega)))) (by ((try simp only [cells_agg, cells_lit, List.mem_cons, List.not_mem_nil, or_false, forall_eq_or_imp, forall_eq, only_any, only_lit', only_iptr, only_no, only_full, only_at, only_ptr, only_osl, only_agg, only_tup, only_fn, only_bfn, and_self, implies_true, and_true, true_and, okL_nil, okL_cons, bonly_cells, bonly_tok, keepP_add, look_nil, look_cons, ↓reduceIte, Nat.reduceEqDiff, Option.isSome_some, reduceCtorEq, false_or, if_true, if_false, false_implies]); (try first | done | omega | ((repeat' refine And.intro ?_ ?_) <;> (intro _ hx; obtain ⟨_, -, rfl⟩ := List.mem_map.1 hx; exact .lit _))))) (by ((try simp only [cells_agg, cells_lit, List.mem_cons, List.not_mem_nil, or_false, forall_eq_or_imp, forall_eq, only_any, only_lit', only_iptr, only_no, only_full, only_at, only_ptr, only_osl, only_agg, only_tup, only_fn, only_bfn, and_self, implies_true, and_true, true_and, okL_nil, okL_cons, bonly_cells, bonly_tok, keepP_add, look_nil, look_cons, ↓reduceIte, Nat.reduceEqDiff, Option.isSome_some, reduceCtorEq, false_or, if_true, if_false, false_implies]); (try first | done | omega | ((repeat' refine And.intro ?_ ?_) <;> (intro _ hx; obtain ⟨_, -, rfl⟩ := List.mem_map.1 hx; exact .lit _)))))
        · rename_i hb
          rw [if_neg hb] at h4
          refine WE_pure _ _ _ _ _ _ _ _ (plain_c _ _) ?_
          simp only [go_sem]
          split
          · rename_i hp
            rw [if_pos hp] at h4
            rw [← h4]
            refine FnPost_end hn0 (by simp) rfl (by simp only [only_tup, List.mem_cons, List.not_mem_nil, or_false, forall_eq_or_imp, forall_eq, only_any, only_lit', only_full, only_no, only_iptr, only_agg, only_bfn, and_self, and_true, true_and, implies_true, or_false]) ?_
            simp only [go_sem]
            exact leA_refl _
          · rename_i hp
            rw [if_neg hp] at h4
            split
            · rename_i hl
              rw [if_pos (by omega)] at h4
              rw [← h4]
              refine FnPost_end hn0 (by simp) rfl (by simp only [only_tup, List.mem_cons, List.not_mem_nil, or_false, forall_eq_or_imp, forall_eq, only_any, only_lit', only_full, only_no, only_iptr, only_agg, only_bfn, and_self, and_true, true_and, implies_true, or_false]) ?_
              simp only [go_sem]
              exact leA_refl _
            · rename_i hl
              rw [if_neg (by omega)] at h4
              (repeat (refine ⟨by omega, ?_⟩))
              refine LP_next (i + 1, o ++ ⟨#[byt s i]⟩, ver + 1) ⟨by simp only [size_push]; omega, by simp only; omega, f', by simp only; omega, h4⟩ (by simp only; omega) ?_
              rw [e1]
              refine imp_loc (by ((try simp only [cells_agg, cells_lit, leL_cons, leL_nil, leA_any, leA_lits, leA_isl, leA_self, and_self, true_and, and_true, or_true, true_or, Value.int.injEq, Value.bool.injEq, Value.string.injEq, AV.lit.injEq, Option.some.injEq, Blk.cells.injEq, Blk.tok.injEq, List.cons.injEq, Tk.at.injEq, subL_nil, subL_cons, look_nil, look_cons, ↓reduceIte, Nat.reduceEqDiff, Option.isSome_some, reduceCtorEq, or_false, false_or, if_true, if_false]); (try first | done | omega | (simp; done) | (simp; omega)))) (by ((try simp only [cells_agg, cells_lit, leL_cons, leL_nil, leA_any, leA_lits, leA_isl, leA_self, and_self, true_and, and_true, or_true, true_or, Value.int.injEq, Value.bool.injEq, Value.string.injEq, AV.lit.injEq, Option.some.injEq, Blk.cells.injEq, Blk.tok.injEq, List.cons.injEq, Tk.at.injEq, subL_nil, subL_cons, look_nil, look_cons, ↓reduceIte, Nat.reduceEqDiff, Option.isSome_some, reduceCtorEq, or_false, false_or, if_true, if_false]); (try first | done | omega | (simp; done) | (simp; omega)))) (by ((try simp only [cells_agg, cells_lit, List.mem_cons, List.not_mem_nil, or_false, forall_eq_or_imp, forall_eq, only_any, only_lit', only_iptr, only_no, only_full, only_at, only_ptr, only_osl, only_agg, only_tup, only_fn, only_bfn, and_self, implies_true, and_true, true_and, okL_nil, okL_cons, bonly_cells, bonly_tok, keepP_add, look_nil, look_cons, ↓reduceIte, Nat.reduceEqDiff, Option.isSome_some, reduceCtorEq, false_or, if_true, if_false, false_implies]); (try first | done | omega | ((repeat' refine And.intro ?_ ?_) <;> (intro _ hx; obtain ⟨_, -, rfl⟩ := List.mem_map.1 hx; exact .lit _))))) (by ((try simp only [cells_agg, cells_lit, List.mem_cons, List.not_mem_nil, or_false, forall_eq_or_imp, forall_eq, only_any, only_lit', only_iptr, only_no, only_full, only_at, only_ptr, only_osl, only_agg, only_tup, only_fn, only_bfn, and_self, implies_true, and_true, true_and, okL_nil, okL_cons, bonly_cells, bonly_tok, keepP_add, look_nil, look_cons, ↓reduceIte, Nat.reduceEqDiff, Option.isSome_some, reduceCtorEq, false_or, if_true, if_false, false_implies]); (try first | done | omega | ((repeat' refine And.intro ?_ ?_) <;> (intro _ hx; obtain ⟨_, -, rfl⟩ := List.mem_map.1 hx; exact .lit _)))))
    · rw [← h4, quoL_end (by omega)]
      refine FnPost_end hn0 (by simp) rfl (by simp only [only_tup, List.mem_cons, List.not_mem_nil, or_false, forall_eq_or_imp, forall_eq, only_any, only_lit', only_full, only_no, only_iptr, only_agg, only_bfn, and_self, and_true, true_and, implies_true, or_false]) ?_
      simp only [go_sem]
      exact leA_refl _
theorem text_c (s : ByteArray) (hs : s.size ≤ 140737488351232) (g : GH) : PureC Tryd.prog 122 [SS s] g (quoR s) := by
  refine CallC.body (fun _ => none) (fun _ => 0) Tryd.func122 rfl Tryd.results122 Tryd.ntmps122 ?_
  intro n0 hn0
  simp only [go_sem]
  refine WC_loop (fun p : Nat × ByteArray => [SS s, .any, .ptr (n0 + 2) 0 0, .any, .any, SS p.2, I64 p.1, .any, .any, .any, .any, .any, .any, .any, .any, .any, .any, .any, .any, .any, .any, .any, .any, .any, .any, .any, .any, .any, .any, .any, .any, .any, .any, .any, .any, .any, .any, .any, .any, .any, .any, .any, .any, .any, .any, .any, .any, .any, .any, .any, .any, .any, .any, .any, .any, .any, .any, .any, .any]) (fun p => ⟨g, [(2, .cells 0 [I64 0, I64 0, SS ⟨#[]⟩])]⟩) (fun p => p.2.size ≤ 100 ∧ p.1 ≤ s.size + 1 ∧ ∃ f, s.size ≤ p.1 + f ∧ quoL s f p.1 p.2 = quoR s) (fun p => s.size + 1 - p.1) (1, ⟨#[]⟩) ⟨by decide, by simp only; omega, s.size, by simp only; omega, rfl⟩ ?_ ?_
  · refine imp_loc (by ((try simp only [cells_agg, cells_lit, leL_cons, leL_nil, leA_any, leA_lits, leA_isl, leA_self, and_self, true_and, and_true, or_true, true_or, Value.int.injEq, Value.bool.injEq, Value.string.injEq, AV.lit.injEq, Option.some.injEq, Blk.cells.injEq, Blk.tok.injEq, List.cons.injEq, Tk.at.injEq, subL_nil, subL_cons, look_nil, look_cons, ↓reduceIte, Nat.reduceEqDiff, Option.isSome_some, reduceCtorEq, or_false, false_or, if_true, if_false]); (try first | done | omega | (simp; done) | (simp; omega)))) (by ((try simp only [cells_agg, cells_lit, leL_cons, leL_nil, leA_any, leA_lits, leA_isl, leA_self, and_self, true_and, and_true, or_true, true_or, Value.int.injEq, Value.bool.injEq, Value.string.injEq, AV.lit.injEq, Option.some.injEq, Blk.cells.injEq, Blk.tok.injEq, List.cons.injEq, Tk.at.injEq, subL_nil, subL_cons, look_nil, look_cons, ↓reduceIte, Nat.reduceEqDiff, Option.isSome_some, reduceCtorEq, or_false, false_or, if_true, if_false]); (try first | done | omega | (simp; done) | (simp; omega)))) (by ((try simp only [cells_agg, cells_lit, List.mem_cons, List.not_mem_nil, or_false, forall_eq_or_imp, forall_eq, only_any, only_lit', only_iptr, only_no, only_full, only_at, only_ptr, only_osl, only_agg, only_tup, only_fn, only_bfn, and_self, implies_true, and_true, true_and, okL_nil, okL_cons, bonly_cells, bonly_tok, keepP_add, look_nil, look_cons, ↓reduceIte, Nat.reduceEqDiff, Option.isSome_some, reduceCtorEq, false_or, if_true, if_false, false_implies]); (try first | done | omega | ((repeat' refine And.intro ?_ ?_) <;> (intro _ hx; obtain ⟨_, -, rfl⟩ := List.mem_map.1 hx; exact .lit _))))) (by ((try simp only [cells_agg, cells_lit, List.mem_cons, List.not_mem_nil, or_false, forall_eq_or_imp, forall_eq, only_any, only_lit', only_iptr, only_no, only_full, only_at, only_ptr, only_osl, only_agg, only_tup, only_fn, only_bfn, and_self, implies_true, and_true, true_and, okL_nil, okL_cons, bonly_cells, bonly_tok, keepP_add, look_nil, look_cons, ↓reduceIte, Nat.reduceEqDiff, Option.isSome_some, reduceCtorEq, false_or, if_true, if_false, false_implies]); (try first | done | omega | ((repeat' refine And.intro ?_ ?_) <;> (intro _ hx; obtain ⟨_, -, rfl⟩ := List.mem_map.1 hx; exact .lit _)))))
  · rintro ⟨i, o⟩ ⟨h1, h2, f, h3, h4⟩
    simp only at h1 h2 h3 h4
    simp only [go_sem]
    split
    · rename_i hlt
      obtain ⟨f', rfl⟩ : ∃ f', f = f' + 1 := ⟨f - 1, by omega⟩
      have hlt' : i < s.size := by omega
      rw [quoL_step s f' i o hlt'] at h4
      have e1 : IntKind.i64.wrap ((i : Int) + 1) = ((i + 1 : Nat) : Int) := by rw [wrap_i64]; omega
      simp only [go_sem, e1]
      (repeat (refine ⟨by omega, ?_⟩))
      split
      · rename_i hq
        rw [if_pos hq] at h4
        rw [← h4]
        refine FnPost_end hn0 (by simp) rfl (by simp only [only_tup, List.mem_cons, List.not_mem_nil, or_false, forall_eq_or_imp, forall_eq, only_any, only_lit', only_full, only_no, only_iptr, only_agg, only_bfn, and_self, and_true, true_and, implies_true, or_false]) ?_
        simp only [go_sem]
        exact leA_refl _
      · rename_i hq
        rw [if_neg hq] at h4
        split
        · rename_i hb
          rw [if_pos hb] at h4
          split
          · rename_i he
            rw [if_pos (by omega)] at h4
            rw [← h4]
            refine FnPost_end hn0 (by simp) rfl (by simp only [only_tup, List.mem_cons, List.not_mem_nil, or_false, forall_eq_or_imp, forall_eq, only_any, only_lit', only_full, only_no, only_iptr, only_agg, only_bfn, and_self, and_true, true_and, implies_true, or_false]) ?_
            simp only [go_sem]
            exact leA_refl _
          · rename_i he
            rw [if_neg (by omega)] at h4
            have e2 : IntKind.i64.wrap (((i + 1 : Nat) : Int) + 1) = ((i + 2 : Nat) : Int) := by rw [wrap_i64]; omega
            (repeat (refine ⟨by omega, ?_⟩))
            refine WG_split _ _ _ _ _ _ _ _ _ (fun hh => ?_) (fun hh => ?_) <;> (try simp only [decide_eq_true_eq, decide_eq_false_iff_not, Bool.not_eq_true', Bool.not_eq_false', Bool.not_eq_true, Bool.not_eq_false] at hh) <;> (first | simp only [go_sem, boolEqH hh] | simp only [go_sem, eq_false hh] | simp only [go_sem, eq_true hh])
            · split
              · rename_i h92
                rw [if_pos ⟨hh, by simpa using h92⟩] at h4
                rw [← h4]
                refine FnPost_end hn0 (by simp) rfl (by simp only [only_tup, List.mem_cons, List.not_mem_nil, or_false, forall_eq_or_imp, forall_eq, only_any, only_lit', only_full, only_no, only_iptr, only_agg, only_bfn, and_self, and_true, true_and, implies_true, or_false]) ?_
                simp only [go_sem]
                exact leA_refl _
              · rename_i h92
                have hc : ¬ (byteAt s (i + 1) ≠ 39 ∧ byteAt s (i + 1) ≠ 92) := fun h => h92 h.2
                rw [if_neg hc] at h4
                have h39 : byteAt s (i + 1) = 39 ∨ byteAt s (i + 1) = 92 := by omega
                have hlo : ¬ byteAt s (i + 1) < 32 := by omega
                have hhi : ¬ 126 < byteAt s (i + 1) := by omega
                simp only [go_sem, eq_false hlo, eq_false hhi]
                split
                · rename_i hl
                  rw [if_pos (by omega)] at h4
                  rw [← h4]
                  refine FnPost_end hn0 (by simp) rfl (by simp only [only_tup, List.mem_cons, List.not_mem_nil, or_false, forall_eq_or_imp, forall_eq, only_any, only_lit', only_full, only_no, only_iptr, only_agg, only_bfn, and_self, and_true, true_and, implies_true, or_false]) ?_
                  simp only [go_sem]
                  exact leA_refl _
                · rename_i hl
                  rw [if_neg (by omega)] at h4
                  refine ⟨by rw [show (⟨#[byt s (i + 1)]⟩ : ByteArray).size = 1 from rfl]; omega, ?_⟩
                  refine LP_next (i + 2, o ++ ⟨#[byt s (i + 1)]⟩) ⟨by simp only [size_push]; omega, by simp only; omega, f', by simp only; omega, h4⟩ (by simp only; omega) ?_
                  rw [e2]
                  refine imp_loc (by ((try simp only [cells_agg, cells_lit, leL_cons, leL_nil, leA_any, leA_lits, leA_isl, leA_self, and_self, true_and, and_true, or_true, true_or, Value.int.injEq, Value.bool.injEq, Value.string.injEq, AV.lit.injEq, Option.some.injEq, Blk.cells.injEq, Blk.tok.injEq, List.cons.injEq, Tk.at.injEq, subL_nil, subL_cons, look_nil, look_cons, ↓reduceIte, Nat.reduceEqDiff, Option.isSome_some, reduceCtorEq, or_false, false_or, if_true, if_false]); (try first | done | omega | (simp; done) | (simp; omega)))) (by ((try simp only [cells_agg, cells_lit, leL_cons, leL_nil, leA_any, leA_lits, leA_isl, leA_self, and_self, true_and, and_true, or_true, true_or, Value.int.injEq, Value.bool.injEq, Value.string.injEq, AV.lit.injEq, Option.some.injEq, Blk.cells.injEq, Blk.tok.injEq, List.cons.injEq, Tk.at.injEq, subL_nil, subL_cons, look_nil, look_cons, ↓reduceIte, Nat.reduceEqDiff, Option.isSome_some, reduceCtorEq, or_false, false_or, if_true, if_false]); (try first | done | omega | (simp; done) | (simp; omega)))) (by ((try simp only [cells_agg, cells_lit, List.mem_cons, List.not_mem_nil, or_false, forall_eq_or_imp, forall_eq, only_any, only_lit', only_iptr, only_no, only_full, only_at, only_ptr, only_osl, only_agg, only_tup, only_fn, only_bfn, and_self, implies_true, and_true, true_and, okL_nil, okL_cons, bonly_cells, bonly_tok, keepP_add, look_nil, look_cons, ↓reduceIte, Nat.reduceEqDiff, Option.isSome_some, reduceCtorEq, false_or, if_true, if_false, false_implies]); (try first | done | omega | ((repeat' refine And.intro ?_ ?_) <;> (intro _ hx; obtain ⟨_, -, rfl⟩ := List.mem_map.1 hx; exact .lit _))))) (by ((try simp only [cells_agg, cells_lit, List.mem_cons, List.not_mem_nil, or_false, forall_eq_or_imp, forall_eq, only_any, only_lit', only_iptr, only_no, only_full, only_at, only_ptr, only_osl, only_agg, only_tup, only_fn, only_bfn, and_self, implies_true, and_true, true_and, okL_nil, okL_cons, bonly_cells, bonly_tok, keepP_add, look_nil, look_cons, ↓reduceIte, Nat.reduceEqDiff, Option.isSome_some, reduceCtorEq, false_or, if_true, if_false, false_implies]); (try first | done | omega | ((repeat' refine And.intro ?_ ?_) <;> (intro _ hx; obtain ⟨_, -, rfl⟩ := List.mem_map.1 hx; exact .lit _)))))
            · have hc : ¬ (byteAt s (i + 1) ≠ 39 ∧ byteAt s (i + 1) ≠ 92) := fun h => h.1 hh
              rw [if_neg hc] at h4
              have h39 : byteAt s (i + 1) = 39 ∨ byteAt s (i + 1) = 92 := by omega
              have hlo : ¬ byteAt s (i + 1) < 32 := by omega
              have hhi : ¬ 126 < byteAt s (i + 1) := by omega
              simp only [go_sem, eq_false hlo, eq_false hhi]
              split
              · rename_i hl
                rw [if_pos (by omega)] at h4
                rw [← h4]
                refine FnPost_end hn0 (by simp) rfl (by simp only [only_tup, List.mem_cons, List.not_mem_nil, or_false, forall_eq_or_imp, forall_eq, only_any, only_lit', only_full, only_no, only_iptr, only_agg, only_bfn, and_self, and_true, true_and, implies_true, or_false]) ?_
                simp only [go_sem]
                exact leA_refl _
              · rename_i hl
                rw [if_neg (by omega)] at h4
                refine ⟨by rw [show (⟨#[byt s (i + 1)]⟩ : ByteArray).size = 1 from rfl]; omega, ?_⟩
                refine LP_next (i + 2, o ++ ⟨#[byt s (i + 1)]⟩) ⟨by simp only [size_push]; omega, by simp only; omega, f', by simp only; omega, h4⟩ (by simp only; omega) ?_
                rw [e2]
                refine imp_loc (by ((try simp only [cells_agg, cells_lit, leL_cons, leL_nil, leA_any, leA_lits, leA_isl, leA_self, and_self, true_and, and_true, or_true, true_or, Value.int.injEq, Value.bool.injEq, Value.string.injEq, AV.lit.injEq, Option.some.injEq, Blk.cells.injEq, Blk.tok.injEq, List.cons.injEq, Tk.at.injEq, subL_nil, subL_cons, look_nil, look_cons, ↓reduceIte, Nat.reduceEqDiff, Option.isSome_some, reduceCtorEq, or_false, false_or, if_true, if_false]); (try first | done | omega | (simp; done) | (simp; omega)))) (by ((try simp only [cells_agg, cells_lit, leL_cons, leL_nil, leA_any, leA_lits, leA_isl, leA_self, and_self, true_and, and_true, or_true, true_or, Value.int.injEq, Value.bool.injEq, Value.string.injEq, AV.lit.injEq, Option.some.injEq, Blk.cells.injEq, Blk.tok.injEq, List.cons.injEq, Tk.at.injEq, subL_nil, subL_cons, look_nil, look_cons, ↓reduceIte, Nat.reduceEqDiff, Option.isSome_some, reduceCtorEq, or_false, false_or, if_true, if_false]); (try first | done | omega | (simp; done) | (simp; omega)))) (by ((try simp only [cells_agg, cells_lit, List.mem_cons, List.not_mem_nil, or_false, forall_eq_or_imp, forall_eq, only_any, only_lit', only_iptr, only_no, only_full, only_at, only_ptr, only_osl, only_agg, only_tup, only_fn, only_bfn, and_self, implies_true, and_true, true_and, okL_nil, okL_cons, bonly_cells, bonly_tok, keepP_add, look_nil, look_cons, ↓reduceIte, Nat.reduceEqDiff, Option.isSome_some, reduceCtorEq, false_or, if_true, if_false, false_implies]); (try first | done | omega | ((repeat' refine And.intro ?_ ?_) <;> (intro _ hx; obtain ⟨_, -, rfl⟩ := List.mem_map.1 hx; exact .lit _))))) (by ((try simp only [cells_agg, cells_lit, List.mem_cons, List.not_mem_nil, or_false, forall_eq_or_imp, forall_eq, only_any, only_lit', only_iptr, only_no, only_full, only_at, only_ptr, only_osl, only_agg, only_tup, only_fn, only_bfn, and_self, implies_true, and_true, true_and, okL_nil, okL_cons, bonly_cells, bonly_tok, keepP_add, look_nil, look_cons, ↓reduceIte, Nat.reduceEqDiff, Option.isSome_some, reduceCtorEq, false_or, if_true, if_false, false_implies]); (try first | done | omega | ((repeat' refine And.intro ?_ ?_) <;> (intro _ hx; obtain ⟨_, -, rfl⟩ := List.mem_map.1 hx; exact .lit _)))))
        · rename_i hb
          rw [if_neg hb] at h4
          refine WG_split _ _ _ _ _ _ _ _ _ (fun hh => ?_) (fun hh => ?_) <;> (try simp only [decide_eq_true_eq, decide_eq_false_iff_not, Bool.not_eq_true', Bool.not_eq_false', Bool.not_eq_true, Bool.not_eq_false] at hh) <;> (first | simp only [go_sem, boolEqH hh] | simp only [go_sem, eq_false hh] | simp only [go_sem, eq_true hh])
          · rw [if_pos (by unfold plB; simp; omega)] at h4
            rw [← h4]
            refine FnPost_end hn0 (by simp) rfl (by simp only [only_tup, List.mem_cons, List.not_mem_nil, or_false, forall_eq_or_imp, forall_eq, only_any, only_lit', only_full, only_no, only_iptr, only_agg, only_bfn, and_self, and_true, true_and, implies_true, or_false]) ?_
            simp only [go_sem]
            exact leA_refl _
          · split
            · rename_i hp
              rw [if_pos (by unfold plB; simp; omega)] at h4
              rw [← h4]
              refine FnPost_end hn0 (by simp) rfl (by simp only [only_tup, List.mem_cons, List.not_mem_nil, or_false, forall_eq_or_imp, forall_eq, only_any, only_lit', only_full, only_no, only_iptr, only_agg, only_bfn, and_self, and_true, true_and, implies_true, or_false]) ?_
              simp only [go_sem]
              exact leA_refl _
            · rename_i hp
              rw [if_neg (by unfold plB; simp; omega)] at h4
              split
              · rename_i hl
                rw [if_pos (by omega)] at h4
                rw [← h4]
                refine FnPost_end hn0 (by simp) rfl (by simp only [only_tup, List.mem_cons, List.not_mem_nil, or_false, forall_eq_or_imp, forall_eq, only_any, only_lit', only_full, only_no, only_iptr, only_agg, only_bfn, and_self, and_true, true_and, implies_true, or_false]) ?_
                simp only [go_sem]
                exact leA_refl _
              · rename_i hl
                rw [if_neg (by omega)] at h4
                refine ⟨by rw [show (⟨#[byt s i]⟩ : ByteArray).size = 1 from rfl]; omega, ?_⟩
                refine LP_next (i + 1, o ++ ⟨#[byt s i]⟩) ⟨by simp only [size_push]; omega, by simp only; omega, f', by simp only; omega, h4⟩ (by simp only; omega) ?_
                rw [e1]
                refine imp_loc (by ((try simp only [cells_agg, cells_lit, leL_cons, leL_nil, leA_any, leA_lits, leA_isl, leA_self, and_self, true_and, and_true, or_true, true_or, Value.int.injEq, Value.bool.injEq, Value.string.injEq, AV.lit.injEq, Option.some.injEq, Blk.cells.injEq, Blk.tok.injEq, List.cons.injEq, Tk.at.injEq, subL_nil, subL_cons, look_nil, look_cons, ↓reduceIte, Nat.reduceEqDiff, Option.isSome_some, reduceCtorEq, or_false, false_or, if_true, if_false]); (try first | done | omega | (simp; done) | (simp; omega)))) (by ((try simp only [cells_agg, cells_lit, leL_cons, leL_nil, leA_any, leA_lits, leA_isl, leA_self, and_self, true_and, and_true, or_true, true_or, Value.int.injEq, Value.bool.injEq, Value.string.injEq, AV.lit.injEq, Option.some.injEq, Blk.cells.injEq, Blk.tok.injEq, List.cons.injEq, Tk.at.injEq, subL_nil, subL_cons, look_nil, look_cons, ↓reduceIte, Nat.reduceEqDiff, Option.isSome_some, reduceCtorEq, or_false, false_or, if_true, if_false]); (try first | done | omega | (simp; done) | (simp; omega)))) (by ((try simp only [cells_agg, cells_lit, List.mem_cons, List.not_mem_nil, or_false, forall_eq_or_imp, forall_eq, only_any, only_lit', only_iptr, only_no, only_full, only_at, only_ptr, only_osl, only_agg, only_tup, only_fn, only_bfn, and_self, implies_true, and_true, true_and, okL_nil, okL_cons, bonly_cells, bonly_tok, keepP_add, look_nil, look_cons, ↓reduceIte, Nat.reduceEqDiff, Option.isSome_some, reduceCtorEq, false_or, if_true, if_false, false_implies]); (try first | done | omega | ((repeat' refine And.intro ?_ ?_) <;> (intro _ hx; obtain ⟨_, -, rfl⟩ := List.mem_map.1 hx; exact .lit _))))) (by ((try simp only [cells_agg, cells_lit, List.mem_cons, List.not_mem_nil, or_false, forall_eq_or_imp, forall_eq, only_any, only_lit', only_iptr, only_no, only_full, only_at, only_ptr, only_osl, only_agg, only_tup, only_fn, only_bfn, and_self, implies_true, and_true, true_and, okL_nil, okL_cons, bonly_cells, bonly_tok, keepP_add, look_nil, look_cons, ↓reduceIte, Nat.reduceEqDiff, Option.isSome_some, reduceCtorEq, false_or, if_true, if_false, false_implies]); (try first | done | omega | ((repeat' refine And.intro ?_ ?_) <;> (intro _ hx; obtain ⟨_, -, rfl⟩ := List.mem_map.1 hx; exact .lit _)))))
    · rw [← h4, quoL_end (by omega)]
      refine FnPost_end hn0 (by simp) rfl (by simp only [only_tup, List.mem_cons, List.not_mem_nil, or_false, forall_eq_or_imp, forall_eq, only_any, only_lit', only_full, only_no, only_iptr, only_agg, only_bfn, and_self, and_true, true_and, implies_true, or_false]) ?_
      simp only [go_sem]
      exact leA_refl _
def goodV (k n : Int) (t : ByteArray) : Prop := (k = 1 ∧ t.size = 0 ∧ -1000000000000 ≤ n ∧ n ≤ 1000000000000) ∨ (k = 2 ∧ n = 0 ∧ t.size ≤ 100 ∧ ∀ i, i < t.size → plB (byteAt t i) = true)
/-- a reading's form: and what was read is good -/
def RdOk (x : AV) : Prop := ∃ k n t m e, x = rdA k n t m e ∧ (e = 0 → goodV k n t)
theorem rdOk_no (e : Int) (h : e ≠ 0) : RdOk (noA e) := ⟨0, 0, ⟨#[]⟩, 0, e, rfl, fun he => absurd he h⟩
theorem byteAt_push (o : ByteArray) (x : UInt8) (i : Nat) (hi : i < o.size + 1) : byteAt (o ++ ⟨#[x]⟩) i = if i < o.size then byteAt o i else (x.toNat : Int) := by
  obtain ⟨⟨l⟩⟩ := o
  have hd : (⟨⟨l⟩⟩ ++ ⟨#[x]⟩ : ByteArray).data.toList = l ++ [x] := by rw [ByteArray.data_append]; simp
  have hs : (⟨⟨l⟩⟩ : ByteArray).size = l.length := rfl
  rw [hs] at hi ⊢
  unfold byteAt
  rw [hd]
  show ((((l ++ [x]).getD i 0).toNat : Nat) : Int) = _
  split
  · rename_i h
    rw [List.getD_eq_getElem?_getD, List.getElem?_append_left h, ← List.getD_eq_getElem?_getD]
  · rename_i h
    have : i = l.length := by omega
    subst this
    simp
theorem quoL_ok (s : ByteArray) : ∀ (f i : Nat) (o : ByteArray), o.size ≤ 100 → (∀ j, j < o.size → plB (byteAt o j) = true) → RdOk (quoL s f i o)
  | 0, i, o, h, hp => rdOk_no 7 (by decide)
  | f + 1, i, o, h, hp => by
    have push : ∀ k, plB (byteAt s k) = true → ∀ j, j < (o ++ ⟨#[byt s k]⟩ : ByteArray).size → plB (byteAt (o ++ ⟨#[byt s k]⟩) j) = true := by
      intro k hk j hj
      rw [size_push] at hj
      rw [byteAt_push o _ j hj]
      split
      · exact hp j ‹_›
      · exact hk
    rw [quoL]
    split
    · split
      · exact ⟨2, 0, o, _, 0, rfl, fun _ => .inr ⟨rfl, rfl, h, hp⟩⟩
      · split
        · split
          · exact rdOk_no 7 (by decide)
          · split
            · exact rdOk_no 2 (by decide)
            · rename_i hc
              split
              · exact rdOk_no 5 (by decide)
              · exact quoL_ok s f _ _ (by rw [size_push]; omega) (push _ (by
                  have : byteAt s (i + 1) = 39 ∨ byteAt s (i + 1) = 92 := by omega
                  unfold plB; simp; omega))
        · split
          · exact rdOk_no 2 (by decide)
          · rename_i hpl
            split
            · exact rdOk_no 5 (by decide)
            · exact quoL_ok s f _ _ (by rw [size_push]; omega) (push _ (by simpa using hpl))
    · exact rdOk_no 7 (by decide)
theorem quoR_ok (s : ByteArray) : RdOk (quoR s) := quoL_ok s _ _ _ (by decide) (by intro j hj; exact absurd hj (by decide +revert))
theorem numL_ok (s : ByteArray) : ∀ (f i : Nat) (n : Int), 0 ≤ n → n ≤ 1000000000000 → ∀ m j, numL s f i n = some (m, j) → 0 ≤ m ∧ m ≤ 1000000000000
  | 0, i, n, h0, h1, m, j, h => by simp [numL] at h; omega
  | f + 1, i, n, h0, h1, m, j, h => by
    rw [numL] at h
    split at h
    · rename_i hd
      have := digB_true hd
      split at h
      · cases h
      · exact numL_ok s f _ _ (by omega) (by omega) m j h
    · simp at h; omega
theorem numR_ok (s : ByteArray) : RdOk (numR s) := by
  unfold numR
  split
  · exact rdOk_no 7 (by decide)
  · split
    · exact rdOk_no 2 (by decide)
    · cases hn : numL s (s.size - numI s) (numI s) 0 with
      | none => exact rdOk_no 5 (by decide)
      | some p =>
        obtain ⟨n, i⟩ := p
        have := numL_ok s _ _ _ (by omega) (by omega) n i hn
        refine ⟨1, sgnV s n, ⟨#[]⟩, _, 0, rfl, fun _ => .inl ⟨rfl, rfl, ?_⟩⟩
        unfold sgnV; split <;> omega
def readR (s : ByteArray) : AV := if s.size = 0 then noA 7 else if byteAt s 0 = 39 then quoR s else numR s
theorem readR_ok (s : ByteArray) : RdOk (readR s) := by
  unfold readR
  split
  · exact rdOk_no 7 (by decide)
  · split
    · exact quoR_ok s
    · exact numR_ok s
theorem read_c (s : ByteArray) (hs : s.size ≤ 140737488351232) (g : GH) : PureC Tryd.prog 20 [SS s] g (readR s) := by
  refine CallC.body (fun _ => none) (fun _ => 0) Tryd.func20 rfl Tryd.results20 Tryd.ntmps20 ?_
  intro n0 hn0
  simp only [go_sem]
  split
  · rename_i h0
    rw [show readR s = noA 7 by unfold readR; rw [if_pos (by omega)]]
    refine FnPost_end hn0 (by simp) rfl (by simp only [only_tup, List.mem_cons, List.not_mem_nil, or_false, forall_eq_or_imp, forall_eq, only_any, only_lit', only_full, only_no, only_iptr, only_agg, only_bfn, and_self, and_true, true_and, implies_true, or_false]) ?_
    simp only [go_sem]
    exact leA_refl _
  · rename_i h0
    (repeat (refine ⟨by omega, ?_⟩))
    split
    · rename_i hq
      rw [show readR s = quoR s by unfold readR; rw [if_neg (by omega), if_pos hq]]
      obtain ⟨k, n, t, m, e, hr, -⟩ := quoR_ok s
      rw [hr]
      refine WE_pure _ _ _ _ _ _ _ _ (hr ▸ quoted_c s hs _) ?_
      simp only [go_sem]
      refine FnPost_end hn0 (by simp) rfl (by simp only [only_tup, List.mem_cons, List.not_mem_nil, or_false, forall_eq_or_imp, forall_eq, only_any, only_lit', only_full, only_no, only_iptr, only_agg, only_bfn, and_self, and_true, true_and, implies_true, or_false]) ?_
      simp only [go_sem]
      exact leA_refl _
    · rename_i hq
      rw [show readR s = numR s by unfold readR; rw [if_neg (by omega), if_neg hq]]
      obtain ⟨k, n, t, m, e, hr, -⟩ := numR_ok s
      rw [hr]
      refine WE_pure _ _ _ _ _ _ _ _ (hr ▸ number_c s (by omega) hs _) ?_
      simp only [go_sem]
      refine FnPost_end hn0 (by simp) rfl (by simp only [only_tup, List.mem_cons, List.not_mem_nil, or_false, forall_eq_or_imp, forall_eq, only_any, only_lit', only_full, only_no, only_iptr, only_agg, only_bfn, and_self, and_true, true_and, implies_true, or_false]) ?_
      simp only [go_sem]
      exact leA_refl _
theorem rread_c (s : ByteArray) (hs : s.size ≤ 140737488351232) (g : GH) : PureC Tryd.prog 96 [SS s] g (readR s) := by
  refine CallC.body (fun _ => none) (fun _ => 0) Tryd.func96 rfl Tryd.results96 Tryd.ntmps96 ?_
  intro n0 hn0
  simp only [go_sem]
  refine WG_split _ _ _ _ _ _ _ _ _ (fun hh => ?_) (fun hh => ?_) <;> (try simp only [decide_eq_true_eq, decide_eq_false_iff_not, Bool.not_eq_true', Bool.not_eq_false', Bool.not_eq_true, Bool.not_eq_false] at hh) <;> (first | simp only [go_sem, boolEqH hh, str_dash] | simp only [go_sem, eq_false hh, str_dash] | simp only [go_sem, eq_true hh, str_dash])
  · rw [show readR s = noA 7 by unfold readR; rw [if_pos (by omega)]]
    refine FnPost_end hn0 (by simp) rfl (by simp only [only_tup, List.mem_cons, List.not_mem_nil, or_false, forall_eq_or_imp, forall_eq, only_any, only_lit', only_full, only_no, only_iptr, only_agg, only_bfn, and_self, and_true, true_and, implies_true, or_false]) ?_
    simp only [go_sem]
    exact leA_refl _
  · split
    · rename_i hd
      rw [show readR s = noA 7 by unfold readR; rw [if_neg (by omega), if_neg (by omega)]; unfold numR numI; rw [if_pos (by rw [if_pos hd.2]; omega)]]
      refine FnPost_end hn0 (by simp) rfl (by simp only [only_tup, List.mem_cons, List.not_mem_nil, or_false, forall_eq_or_imp, forall_eq, only_any, only_lit', only_full, only_no, only_iptr, only_agg, only_bfn, and_self, and_true, true_and, implies_true, or_false]) ?_
      simp only [go_sem]
      exact leA_refl _
    · rename_i hd
      (repeat (refine ⟨by omega, ?_⟩))
      split
      · rename_i hq
        rw [show readR s = quoR s by unfold readR; rw [if_neg (by omega), if_pos hq]]
        obtain ⟨k, n, t, m, e, hr, -⟩ := quoR_ok s
        rw [hr]
        refine WE_pure _ _ _ _ _ _ _ _ (hr ▸ text_c s hs _) ?_
        simp only [go_sem]
        refine FnPost_end hn0 (by simp) rfl (by simp only [only_tup, List.mem_cons, List.not_mem_nil, or_false, forall_eq_or_imp, forall_eq, only_any, only_lit', only_full, only_no, only_iptr, only_agg, only_bfn, and_self, and_true, true_and, implies_true, or_false]) ?_
        simp only [go_sem]
        exact leA_refl _
      · rename_i hq
        rw [show readR s = numR s by unfold readR; rw [if_neg (by omega), if_neg hq]]
        refine WC_draw Ty.mixed (by kernel_rfl) ?_
        simp only [go_sem]
        (repeat (refine ⟨by omega, ?_⟩))
        obtain ⟨i0, hi0⟩ : ∃ i0 : Nat, i0 = numI s := ⟨_, rfl⟩
        obtain ⟨ng, hng⟩ : ∃ ng : Bool, ng = decide (byteAt s 0 = 45) := ⟨_, rfl⟩
        split
        all_goals
          rename_i hneg
          have hnum : numI s = i0 := hi0.symm
          unfold numI at hi0
          simp only [hneg, if_true, if_false] at hi0
          simp only [hneg, decide_true, decide_false] at hng
          have hend : ¬ numI s = s.size := by omega
          have hsz : i0 < s.size := by omega
          (repeat (refine ⟨by omega, ?_⟩))
          refine WE_pure _ _ _ _ _ _ _ _ (rDigit_c _ _) ?_
          simp only [go_sem]
          split
          · rename_i hdg
            rw [show numR s = noA 2 by unfold numR; rw [if_neg hend, if_pos (by rw [hnum, hi0]; exact hdg)]]
            refine FnPost_end hn0 (by simp) rfl (by simp only [only_tup, List.mem_cons, List.not_mem_nil, or_false, forall_eq_or_imp, forall_eq, only_any, only_lit', only_full, only_no, only_iptr, only_agg, only_bfn, and_self, and_true, true_and, implies_true, or_false]) ?_
            simp only [go_sem]
            exact leA_refl _
          · rename_i hdg
            have hdg : ¬ digB (byteAt s i0) = false := by rw [hi0]; exact hdg
            have hR : numR s = numE s (numL s (s.size - i0) i0 0) := by unfold numR; rw [if_neg hend, if_neg (by rw [hnum]; exact hdg), hnum]
            rw [hR]
            refine WC_loop (fun p : Nat × Int => [SS s, .any, .ptr (n0 + 2) 0 0, .any, .any, .ptr (n0 + 5) 0 0, I64 p.1, I64 p.2, BB ng, .any, .any, .any, .any, .any, .any, .any, .any, .any, .any, .any, .any, .any, .any, .any, .any, .any, .any, .any, .any, .any, .any, .any, .any, .any, .any, .any, .any, .any, .any, .any, .any, .any, .any, .any, .any, .any, .any, .any, .any, .any, .any, .any, .any, .any, .any, .any, .any, .any, .any, .any, .any, .any, .any, .any]) (fun _ => ⟨g, [(2, .cells 0 [I64 0, I64 0, SS ⟨#[]⟩]), (5, .cells 0 [I64 0, I64 0, SS ⟨#[]⟩])]⟩) (fun p => p.1 ≤ s.size ∧ 0 ≤ p.2 ∧ p.2 ≤ 1000000000000 ∧ numL s (s.size - p.1) p.1 p.2 = numL s (s.size - i0) i0 0) (fun p => s.size - p.1) (i0, 0) ⟨by simp only; omega, by simp, by simp, rfl⟩ ?_ ?_
            · refine imp_loc (by ((try simp only [cells_agg, cells_lit, leL_cons, leL_nil, leA_any, leA_lits, leA_isl, leA_self, and_self, true_and, and_true, or_true, true_or, Value.int.injEq, Value.bool.injEq, Value.string.injEq, AV.lit.injEq, Option.some.injEq, Blk.cells.injEq, Blk.tok.injEq, List.cons.injEq, Tk.at.injEq, subL_nil, subL_cons, look_nil, look_cons, ↓reduceIte, Nat.reduceEqDiff, Option.isSome_some, reduceCtorEq, or_false, false_or, if_true, if_false, hneg, hng, decide_true, decide_false]); (try first | done | omega | (simp; done) | (simp; omega)))) (by ((try simp only [cells_agg, cells_lit, leL_cons, leL_nil, leA_any, leA_lits, leA_isl, leA_self, and_self, true_and, and_true, or_true, true_or, Value.int.injEq, Value.bool.injEq, Value.string.injEq, AV.lit.injEq, Option.some.injEq, Blk.cells.injEq, Blk.tok.injEq, List.cons.injEq, Tk.at.injEq, subL_nil, subL_cons, look_nil, look_cons, ↓reduceIte, Nat.reduceEqDiff, Option.isSome_some, reduceCtorEq, or_false, false_or, if_true, if_false, hneg, hng, decide_true, decide_false]); (try first | done | omega | (simp; done) | (simp; omega)))) (by ((try simp only [cells_agg, cells_lit, List.mem_cons, List.not_mem_nil, or_false, forall_eq_or_imp, forall_eq, only_any, only_lit', only_iptr, only_no, only_full, only_at, only_ptr, only_osl, only_agg, only_tup, only_fn, only_bfn, and_self, implies_true, and_true, true_and, okL_nil, okL_cons, bonly_cells, bonly_tok, keepP_add, look_nil, look_cons, ↓reduceIte, Nat.reduceEqDiff, Option.isSome_some, reduceCtorEq, false_or, if_true, if_false, false_implies, hneg, hng, decide_true, decide_false]); (try first | done | omega | ((repeat' refine And.intro ?_ ?_) <;> (intro _ hx; obtain ⟨_, -, rfl⟩ := List.mem_map.1 hx; exact .lit _))))) (by ((try simp only [cells_agg, cells_lit, List.mem_cons, List.not_mem_nil, or_false, forall_eq_or_imp, forall_eq, only_any, only_lit', only_iptr, only_no, only_full, only_at, only_ptr, only_osl, only_agg, only_tup, only_fn, only_bfn, and_self, implies_true, and_true, true_and, okL_nil, okL_cons, bonly_cells, bonly_tok, keepP_add, look_nil, look_cons, ↓reduceIte, Nat.reduceEqDiff, Option.isSome_some, reduceCtorEq, false_or, if_true, if_false, false_implies, hneg, hng, decide_true, decide_false]); (try first | done | omega | ((repeat' refine And.intro ?_ ?_) <;> (intro _ hx; obtain ⟨_, -, rfl⟩ := List.mem_map.1 hx; exact .lit _)))))
            · rintro ⟨i, n⟩ ⟨h1, h2, h3, h4⟩
              simp only at h1 h2 h3 h4
              simp only [go_sem]
              have fin : digB (byteAt s i) = false ∨ i = s.size → numE s (numL s (s.size - i0) i0 0) = rdA 1 (sgnV s n) ⟨#[]⟩ i 0 := fun h => by
                rw [← h4]
                rcases h with h | h
                · rw [numL_stop h]; rfl
                · subst h; rw [Nat.sub_self]; rfl
              have e3 : IntKind.i64.wrap (0 - n) = -n := by rw [wrap_i64]; omega
              refine WG_split _ _ _ _ _ _ _ _ _ (fun hh => ?_) (fun hh => ?_) <;> (try simp only [decide_eq_true_eq, decide_eq_false_iff_not, Bool.not_eq_true', Bool.not_eq_false', Bool.not_eq_true, Bool.not_eq_false] at hh) <;> (first | simp only [go_sem, boolEqH hh] | simp only [go_sem, eq_false hh] | simp only [go_sem, eq_true hh])
              · (repeat (refine ⟨by omega, ?_⟩))
                refine WE_pure _ _ _ _ _ _ _ _ (rDigit_c _ _) ?_
                simp only [go_sem]
                split
                · rename_i hdg
                  have hb := digB_true hdg
                  obtain ⟨f, hf⟩ : ∃ f, s.size - i = f + 1 := ⟨s.size - i - 1, by omega⟩
                  have e1 : IntKind.i64.wrap (IntKind.i64.wrap (10 * n) + IntKind.i64.wrap (IntKind.u8.wrap (byteAt s i - 48))) = n * 10 + (byteAt s i - 48) := by
                    rw [wrap_u8, wrap_i64, wrap_i64, wrap_i64]; omega
                  have e2 : IntKind.i64.wrap ((i : Int) + 1) = ((i + 1 : Nat) : Int) := by rw [wrap_i64]; omega
                  (repeat (refine ⟨by omega, ?_⟩))
                  rw [e1]
                  split
                  · rename_i hl
                    rw [show numE s (numL s (s.size - i0) i0 0) = noA 5 by rw [← h4, hf, numL_long hdg hl]; rfl]
                    refine FnPost_end hn0 (by simp) rfl (by simp only [only_tup, List.mem_cons, List.not_mem_nil, or_false, forall_eq_or_imp, forall_eq, only_any, only_lit', only_full, only_no, only_iptr, only_agg, only_bfn, and_self, and_true, true_and, implies_true, or_false]) ?_
                    simp only [go_sem]
                    exact leA_refl _
                  · rename_i hl
                    refine LP_next (i + 1, n * 10 + (byteAt s i - 48)) ⟨by simp only; omega, by simp only; omega, by simp only; omega, ?_⟩ (by simp only; omega) ?_
                    · simp only
                      rw [← h4, hf, numL_next hdg hl]; congr 1; omega
                    · rw [e2]
                      refine imp_loc (by ((try simp only [cells_agg, cells_lit, leL_cons, leL_nil, leA_any, leA_lits, leA_isl, leA_self, and_self, true_and, and_true, or_true, true_or, Value.int.injEq, Value.bool.injEq, Value.string.injEq, AV.lit.injEq, Option.some.injEq, Blk.cells.injEq, Blk.tok.injEq, List.cons.injEq, Tk.at.injEq, subL_nil, subL_cons, look_nil, look_cons, ↓reduceIte, Nat.reduceEqDiff, Option.isSome_some, reduceCtorEq, or_false, false_or, if_true, if_false]); (try first | done | omega | (simp; done) | (simp; omega)))) (by ((try simp only [cells_agg, cells_lit, leL_cons, leL_nil, leA_any, leA_lits, leA_isl, leA_self, and_self, true_and, and_true, or_true, true_or, Value.int.injEq, Value.bool.injEq, Value.string.injEq, AV.lit.injEq, Option.some.injEq, Blk.cells.injEq, Blk.tok.injEq, List.cons.injEq, Tk.at.injEq, subL_nil, subL_cons, look_nil, look_cons, ↓reduceIte, Nat.reduceEqDiff, Option.isSome_some, reduceCtorEq, or_false, false_or, if_true, if_false]); (try first | done | omega | (simp; done) | (simp; omega)))) (by ((try simp only [cells_agg, cells_lit, List.mem_cons, List.not_mem_nil, or_false, forall_eq_or_imp, forall_eq, only_any, only_lit', only_iptr, only_no, only_full, only_at, only_ptr, only_osl, only_agg, only_tup, only_fn, only_bfn, and_self, implies_true, and_true, true_and, okL_nil, okL_cons, bonly_cells, bonly_tok, keepP_add, look_nil, look_cons, ↓reduceIte, Nat.reduceEqDiff, Option.isSome_some, reduceCtorEq, false_or, if_true, if_false, false_implies]); (try first | done | omega | ((repeat' refine And.intro ?_ ?_) <;> (intro _ hx; obtain ⟨_, -, rfl⟩ := List.mem_map.1 hx; exact .lit _))))) (by ((try simp only [cells_agg, cells_lit, List.mem_cons, List.not_mem_nil, or_false, forall_eq_or_imp, forall_eq, only_any, only_lit', only_iptr, only_no, only_full, only_at, only_ptr, only_osl, only_agg, only_tup, only_fn, only_bfn, and_self, implies_true, and_true, true_and, okL_nil, okL_cons, bonly_cells, bonly_tok, keepP_add, look_nil, look_cons, ↓reduceIte, Nat.reduceEqDiff, Option.isSome_some, reduceCtorEq, false_or, if_true, if_false, false_implies]); (try first | done | omega | ((repeat' refine And.intro ?_ ?_) <;> (intro _ hx; obtain ⟨_, -, rfl⟩ := List.mem_map.1 hx; exact .lit _)))))
                · rename_i hdg
                  rw [fin (.inl (by simpa using hdg))]
                  subst hng
                  unfold sgnV
                  simp only [go_sem, hneg]
                  refine FnPost_end hn0 (by simp) rfl (by simp only [only_tup, List.mem_cons, List.not_mem_nil, or_false, forall_eq_or_imp, forall_eq, only_any, only_lit', only_full, only_no, only_iptr, only_agg, only_bfn, and_self, and_true, true_and, implies_true, or_false]) ?_
                  simp only [go_sem, e3]
                  exact leA_refl _
              · rw [fin (.inr (by omega))]
                subst hng
                unfold sgnV
                simp only [go_sem, hneg]
                refine FnPost_end hn0 (by simp) rfl (by simp only [only_tup, List.mem_cons, List.not_mem_nil, or_false, forall_eq_or_imp, forall_eq, only_any, only_lit', only_full, only_no, only_iptr, only_agg, only_bfn, and_self, and_true, true_and, implies_true, or_false]) ?_
                simp only [go_sem, e3]
                exact leA_refl _
end Go.Proofs.YtcnhpclfflcdfaaDoorR.Val
