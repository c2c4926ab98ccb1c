import Derived.Test.YtmnjmeebadpgjabBitsPlaces
import Derived.Test.YtmnjmeebadpgjabAvZ
import Derived.Test.YtmnjmeebadpgjabSetM
/- Sets of small numbers: what is only read. -/
namespace Go.Proofs.Ytmnjmeebadpgjab.Set
open Go Go.Av
open Go.Proofs.Ytmnjmeebadpgjab.Bits (andI_NB orI_NB)
set_option linter.unusedSimpArgs false
set_option linter.unusedVariables false
abbrev SI (ws : List W64) : AV := .iptr [.isl none (Wl ws) .no]
theorem Wl_get (ws : List W64) (i : Nat) (h : i < ws.length) : (Wl ws).getD i .any = U64 (NB (ws.getD i 0#64)) := by
  simp [List.getD_eq_getElem?_getD, h]
theorem and63 (a : Nat) (ha : a < 9223372036854775808) : andI .i64 (a : Int) 63 = ((a % 64 : Nat) : Int) := by
  show IntKind.i64.wrap ((BitVec.ofInt 64 (a : Int) &&& BitVec.ofInt 64 (63 : Int)).toNat : Int) = _
  rw [BitVec.toNat_and, BitVec.toNat_ofInt, show (BitVec.ofInt 64 63).toNat = 2 ^ 6 - 1 from rfl, Nat.and_two_pow_sub_one_eq_mod, show ((a : Int) % ((2 ^ 64 : Nat) : Int)).toNat = a by omega, wrap_i64]
  omega
theorem shl1 (k : Nat) (hk : k < 64) : IntKind.u64.wrap (1 * 2 ^ (min (IntKind.u64.wrap ((k : Nat) : Int)).toNat 64)) = NB (BitVec.twoPow 64 k) := by
  rw [show IntKind.u64.wrap ((k : Nat) : Int) = (k : Int) by rw [wrap_u64]; omega, Int.toNat_natCast, show min k 64 = k by omega, wrap_u64]
  unfold NB
  rw [BitVec.toNat_twoPow]
  rw [Int.one_mul, show ((2 ^ k % 2 ^ 64 : Nat) : Int) = ((2 ^ k : Nat) : Int) % 18446744073709551616 by omega, Int.natCast_pow]; rfl
theorem u64_mod (n : Nat) : IntKind.u64.wrap ((n % 64 : Nat) : Int) = ((n % 64 : Nat) : Int) := by rw [wrap_u64]; omega
theorem bit_c (n : Nat) (hn : n < 9223372036854775808) (g : GH) : PureC Try.prog 26 [I64 n] g (U64 (NB (bitW n))) := by
  refine CallC.body (fun _ => none) (fun _ => 0) Try.func26 rfl Try.results26 Try.ntmps26 ?_
  intro n0 hn0
  simp only [go_sem]
  simp only [go_sem, and63 n hn, u64_mod]
  rw [if_pos (show n % 64 ≤ 64 by omega)]
  (repeat (refine ⟨by omega, ?_⟩))
  refine FnPost_end hn0 (by simp) rfl (only_lit _ _) ?_
  simp only [go_sem]
  have := shl1 (n % 64) (Nat.mod_lt n (by omega))
  rw [u64_mod, Int.toNat_natCast, show min (n % 64) 64 = n % 64 by omega] at this
  exact leA_int this
theorem words_c (ws : List W64) (g : GH) : PureC Try.prog 28 [SI ws] g (.isl none (Wl ws) .no) := by
  refine CallC.body (fun _ => none) (fun _ => 0) Try.func28 rfl Try.results28 Try.ntmps28 ?_
  intro n0 hn0
  simp only [go_sem]
  refine FnPost_end hn0 (by simp) rfl (by simp only [only_tup, List.mem_cons, List.not_mem_nil, or_false, forall_eq_or_imp, forall_eq, only_any, only_lit', only_full, only_no, only_iptr, only_agg, and_self, and_true, true_and, implies_true, or_false]) ?_
  simp only [go_sem]
  exact leA_refl _
theorem words0_c (g : GH) : PureC Try.prog 28 [.lit (.pointer none)] g (.isl none (Wl []) .no) := by
  refine CallC.body (fun _ => none) (fun _ => 0) Try.func28 rfl Try.results28 Try.ntmps28 ?_
  intro n0 hn0
  simp only [go_sem]
  refine FnPost_end hn0 (by simp) rfl (by simp only [only_tup, List.mem_cons, List.not_mem_nil, or_false, forall_eq_or_imp, forall_eq, only_any, only_lit', only_full, only_no, only_iptr, only_agg, and_self, and_true, true_and, implies_true, or_false]) ?_
  simp only [go_sem]
  exact ⟨.inl rfl, rfl, .inl rfl⟩
/-- a set, or none -/
inductive AnyS : List W64 → AV → Prop where
  | set (ws) : AnyS ws (SI ws)
  | none : AnyS [] (.lit (.pointer .none))
theorem AnyS.only {ws : List W64} {s : AV} (h : AnyS ws s) (p : Nat → Prop) : s.only p ↔ True := by
  cases h with
  | set => exact only_iptr _ _
  | none => exact only_lit' _ _
theorem wordsA_c {ws : List W64} {s : AV} (h : AnyS ws s) (g : GH) : PureC Try.prog 28 [s] g (.isl none (Wl ws) .no) := by
  cases h with
  | set => exact words_c ws g
  | none => exact words0_c g
theorem has_c {ws : List W64} {s : AV} (h : AnyS ws s) (n : Int) (hl : ws.length ≤ 1024) (hn : -9223372036854775808 ≤ n) (hn1 : n ≤ 9223372036854775807) (g : GH) : PureC Try.prog 25 [s, I64 n] g (BB (hasI ws n)) := by
  refine CallC.body (fun _ => none) (fun _ => 0) Try.func25 rfl Try.results25 Try.ntmps25 ?_
  intro n0 hn0
  simp only [go_sem]
  refine WE_pure _ _ _ _ _ _ _ _ (wordsA_c h _) ?_
  simp only [go_sem]
  have e64 : IntKind.i64.wrap ((ws.length : Int) * 64) = (ws.length : Int) * 64 := by rw [wrap_i64]; omega
  refine WC_draw Ty.mixed (by kernel_rfl) ?_
  simp only [go_sem, List.length_map, e64]
  refine DG_split _ _ _ _ _ _ _ _ _ _ (fun hh => ?_) (fun hh => ?_) <;> (try simp only [decide_eq_true_eq, decide_eq_false_iff_not, Bool.not_eq_true', Bool.not_eq_false', Bool.not_eq_true, Bool.not_eq_false] at hh) <;> (first | simp only [go_sem, boolEqH hh, List.length_map, e64] | simp only [go_sem, eq_false hh, List.length_map, e64] | simp only [go_sem, eq_true hh, List.length_map, e64])
  · refine DG_split _ _ _ _ _ _ _ _ _ _ (fun hh => ?_) (fun hh => ?_) <;> (try simp only [decide_eq_true_eq, decide_eq_false_iff_not, Bool.not_eq_true', Bool.not_eq_false', Bool.not_eq_true, Bool.not_eq_false] at hh) <;> (first | simp only [go_sem, boolEqH hh, List.length_map, e64] | simp only [go_sem, eq_false hh, List.length_map, e64] | simp only [go_sem, eq_true hh, List.length_map, e64])
    · obtain ⟨k, rfl⟩ := Int.eq_ofNat_of_zero_le (show 0 ≤ n by assumption)
      have hk : k / 64 < ws.length := by omega
      have ek : ((k : Int) / 64).toNat = k / 64 := by omega
      simp only [go_sem, List.length_map, ek, Wl_get ws _ hk]
      (repeat (refine ⟨by omega, ?_⟩))
      refine DE_pure _ _ _ _ _ _ _ _ _ [] (fun g' _ => bit_c k (by omega) _) ?_
      simp only [go_sem, andI_NB]
      refine FnPost_end hn0 (by simp) rfl (only_lit _ _) ?_
      simp only [go_sem]
      refine leA_bool ?_
      rw [Bool.eq_iff_iff]
      have := and_bitW (ws.getD (k / 64) 0#64) k
      simp only [Bool.not_eq_true', decide_eq_false_iff_not, NB_eq_zero, this, hasI, hasW, Bool.and_eq_true, decide_eq_true_eq, Int.toNat_natCast, Bool.not_eq_false]
      exact ⟨fun h => ⟨by omega, h⟩, fun h => h.2⟩
    · refine FnPost_end hn0 (by simp) rfl (only_lit _ _) ?_
      simp only [go_sem]
      refine leA_bool ?_
      rw [eq_comm, hasI, hasW_big ws n.toNat (by omega), Bool.and_false]
  · refine FnPost_end hn0 (by simp) rfl (only_lit _ _) ?_
    simp only [go_sem]
    refine leA_bool ?_
    simp [hasI, hh]
theorem Has_c {ws : List W64} {s : AV} (h : AnyS ws s) (n : Int) (hl : ws.length ≤ 1024) (hn : -9223372036854775808 ≤ n) (hn1 : n ≤ 9223372036854775807) (g : GH) : PureC Try.prog 10 [s, I64 n] g (BB (hasI ws n)) := by
  refine CallC.body (fun _ => none) (fun _ => 0) Try.func10 rfl Try.results10 Try.ntmps10 ?_
  intro n0 hn0
  simp only [go_sem]
  refine WE_pure _ _ _ _ _ _ _ _ (has_c h n hl hn hn1 _) ?_
  simp only [go_sem]
  refine FnPost_end hn0 (by simp) rfl (only_lit _ _) ?_
  simp only [go_sem]
  exact leA_refl _
theorem at_c (ws : List W64) (i : Nat) (hl : ws.length ≤ 1024) (tok : Tk) (g : GH) : PureC Try.prog 40 [.isl none (Wl ws) tok, I64 i] g (U64 (NB (ws.getD i 0#64))) := by
  refine CallC.body (fun _ => none) (fun _ => 0) Try.func40 rfl Try.results40 Try.ntmps40 ?_
  intro n0 hn0
  simp only [go_sem]
  simp only [go_sem, List.length_map]
  split
  · rename_i h
    refine FnPost_end hn0 (by simp) rfl (only_lit _ _) ?_
    simp only [go_sem]
    rw [getD_len ws _ _ (by omega)]
    exact leA_refl _
  · rename_i h
    simp only [go_sem, List.length_map, Wl_get ws i (by omega)]
    (repeat (refine ⟨by omega, ?_⟩))
    refine FnPost_end hn0 (by simp) rfl (only_lit _ _) ?_
    simp only [go_sem]
    exact leA_refl _
theorem or1_c (x y : W64) (g : GH) : PureC Try.prog 32 [U64 (NB x), U64 (NB y)] g (U64 (NB (orW x y))) := by
  refine CallC.body (fun _ => none) (fun _ => 0) Try.func32 rfl Try.results32 Try.ntmps32 ?_
  intro n0 hn0
  simp only [go_sem]
  refine FnPost_end hn0 (by simp) rfl (only_lit _ _) ?_
  simp only [go_sem]
  exact leA_int (orI_NB x y)
theorem and1_c (x y : W64) (g : GH) : PureC Try.prog 33 [U64 (NB x), U64 (NB y)] g (U64 (NB (andW x y))) := by
  refine CallC.body (fun _ => none) (fun _ => 0) Try.func33 rfl Try.results33 Try.ntmps33 ?_
  intro n0 hn0
  simp only [go_sem]
  refine FnPost_end hn0 (by simp) rfl (only_lit _ _) ?_
  simp only [go_sem]
  exact leA_int (andI_NB x y)
theorem min1_c (x y : W64) (g : GH) : PureC Try.prog 41 [U64 (NB x), U64 (NB y)] g (U64 (NB (minW x y))) := by
  refine CallC.body (fun _ => none) (fun _ => 0) Try.func41 rfl Try.results41 Try.ntmps41 ?_
  intro n0 hn0
  simp only [go_sem]
  refine FnPost_end hn0 (by simp) rfl (only_lit _ _) ?_
  simp only [go_sem]
  refine leA_int ?_
  show IntKind.u64.wrap ((BitVec.ofInt 64 (NB x) &&& ~~~ BitVec.ofInt 64 (NB y)).toNat : Int) = _
  rw [NB_ofInt, NB_ofInt, NB_wrap]; rfl
theorem len_c {ws : List W64} {s : AV} (h : AnyS ws s) (hl : ws.length ≤ 1024) (g : GH) : PureC Try.prog 11 [s] g (I64 (lenK ws ws.length)) := by
  refine CallC.body (fun _ => none) (fun _ => 0) Try.func11 rfl Try.results11 Try.ntmps11 ?_
  intro n0 hn0
  simp only [go_sem]
  refine WE_pure _ _ _ _ _ _ _ _ (wordsA_c h _) ?_
  simp only [go_sem, List.length_map]
  refine WC_loop (fun i : Nat => [.any, .any, .any, I64 (lenK ws i), .any, .any, .any, .isl none (Wl ws) .no, I64 ws.length, I64 i, .any, .any, .any, .any, .any, .any, .any, .any, .any]) (fun i => ⟨g, []⟩) (fun i => i ≤ ws.length) (fun i => ws.length - i) 0 (by simp) ?_ ?_
  · refine imp_loc (by ((try simp only [cells_agg, cells_lit, leL_cons, leL_nil, leA_any, leA_lits, leA_isl, leA_self, and_self, true_and, and_true, or_true, true_or, Value.int.injEq, Value.bool.injEq, Value.string.injEq, AV.lit.injEq, Option.some.injEq, Blk.cells.injEq, Blk.tok.injEq, List.cons.injEq, Tk.at.injEq, subL_nil, subL_cons, look_nil, look_cons, ↓reduceIte, Nat.reduceEqDiff, Option.isSome_some, reduceCtorEq, or_false, false_or, if_true, if_false, lenK]); (try first | done | omega | (simp; done) | (simp; omega)))) (by ((try simp only [cells_agg, cells_lit, leL_cons, leL_nil, leA_any, leA_lits, leA_isl, leA_self, and_self, true_and, and_true, or_true, true_or, Value.int.injEq, Value.bool.injEq, Value.string.injEq, AV.lit.injEq, Option.some.injEq, Blk.cells.injEq, Blk.tok.injEq, List.cons.injEq, Tk.at.injEq, subL_nil, subL_cons, look_nil, look_cons, ↓reduceIte, Nat.reduceEqDiff, Option.isSome_some, reduceCtorEq, or_false, false_or, if_true, if_false, lenK]); (try first | done | omega | (simp; done) | (simp; omega)))) (by ((try simp only [cells_agg, cells_lit, List.mem_cons, List.not_mem_nil, or_false, forall_eq_or_imp, forall_eq, only_any, only_lit', only_iptr, only_no, only_full, only_at, only_ptr, only_osl, only_agg, only_tup, only_fn, and_self, implies_true, and_true, true_and, okL_nil, okL_cons, bonly_cells, bonly_tok, keepP_add, look_nil, look_cons, ↓reduceIte, Nat.reduceEqDiff, Option.isSome_some, reduceCtorEq, false_or, if_true, if_false, false_implies, lenK]); (try first | done | omega | ((repeat' refine And.intro ?_ ?_) <;> (intro _ hx; obtain ⟨_, -, rfl⟩ := List.mem_map.1 hx; exact .lit _))))) (by ((try simp only [cells_agg, cells_lit, List.mem_cons, List.not_mem_nil, or_false, forall_eq_or_imp, forall_eq, only_any, only_lit', only_iptr, only_no, only_full, only_at, only_ptr, only_osl, only_agg, only_tup, only_fn, and_self, implies_true, and_true, true_and, okL_nil, okL_cons, bonly_cells, bonly_tok, keepP_add, look_nil, look_cons, ↓reduceIte, Nat.reduceEqDiff, Option.isSome_some, reduceCtorEq, false_or, if_true, if_false, false_implies, lenK]); (try first | done | omega | ((repeat' refine And.intro ?_ ?_) <;> (intro _ hx; obtain ⟨_, -, rfl⟩ := List.mem_map.1 hx; exact .lit _)))))
  · intro i hi
    simp only [go_sem]
    split
    · rename_i hlt
      have hlt : i < ws.length := by omega
      have e1 : IntKind.i64.wrap ((i : Int) + 1) = ((i + 1 : Nat) : Int) := by rw [wrap_i64]; omega
      simp only [go_sem, List.length_map, Wl_get ws i hlt]
      (repeat (refine ⟨by omega, ?_⟩))
      obtain ⟨b0, b1⟩ := NB_range (ws.getD i 0#64)
      refine WE_pure _ _ _ _ _ _ _ _ (Bits.count_c (NB (ws.getD i 0#64)) b0 b1 _) ?_
      simp only [go_sem]
      refine LP_next (i + 1) (by omega) (by omega) ?_
      have e2 : IntKind.i64.wrap ((lenK ws i : Int) + (pcK 64 (NB (ws.getD i 0#64)).toNat : Int)) = ((lenK ws (i + 1) : Nat) : Int) := by
        have h1 := lenK_le ws i
        have h2 := pcK_le 64 (ws.getD i 0#64).toNat
        rw [lenK, wrap_i64]; unfold NB; rw [Int.toNat_natCast]; omega
      rw [e1, e2]
      refine imp_loc (by ((try simp only [cells_agg, cells_lit, leL_cons, leL_nil, leA_any, leA_lits, leA_isl, leA_self, and_self, true_and, and_true, or_true, true_or, Value.int.injEq, Value.bool.injEq, Value.string.injEq, AV.lit.injEq, Option.some.injEq, Blk.cells.injEq, Blk.tok.injEq, List.cons.injEq, Tk.at.injEq, subL_nil, subL_cons, look_nil, look_cons, ↓reduceIte, Nat.reduceEqDiff, Option.isSome_some, reduceCtorEq, or_false, false_or, if_true, if_false]); (try first | done | omega | (simp; done) | (simp; omega)))) (by ((try simp only [cells_agg, cells_lit, leL_cons, leL_nil, leA_any, leA_lits, leA_isl, leA_self, and_self, true_and, and_true, or_true, true_or, Value.int.injEq, Value.bool.injEq, Value.string.injEq, AV.lit.injEq, Option.some.injEq, Blk.cells.injEq, Blk.tok.injEq, List.cons.injEq, Tk.at.injEq, subL_nil, subL_cons, look_nil, look_cons, ↓reduceIte, Nat.reduceEqDiff, Option.isSome_some, reduceCtorEq, or_false, false_or, if_true, if_false]); (try first | done | omega | (simp; done) | (simp; omega)))) (by ((try simp only [cells_agg, cells_lit, List.mem_cons, List.not_mem_nil, or_false, forall_eq_or_imp, forall_eq, only_any, only_lit', only_iptr, only_no, only_full, only_at, only_ptr, only_osl, only_agg, only_tup, only_fn, and_self, implies_true, and_true, true_and, okL_nil, okL_cons, bonly_cells, bonly_tok, keepP_add, look_nil, look_cons, ↓reduceIte, Nat.reduceEqDiff, Option.isSome_some, reduceCtorEq, false_or, if_true, if_false, false_implies]); (try first | done | omega | ((repeat' refine And.intro ?_ ?_) <;> (intro _ hx; obtain ⟨_, -, rfl⟩ := List.mem_map.1 hx; exact .lit _))))) (by ((try simp only [cells_agg, cells_lit, List.mem_cons, List.not_mem_nil, or_false, forall_eq_or_imp, forall_eq, only_any, only_lit', only_iptr, only_no, only_full, only_at, only_ptr, only_osl, only_agg, only_tup, only_fn, and_self, implies_true, and_true, true_and, okL_nil, okL_cons, bonly_cells, bonly_tok, keepP_add, look_nil, look_cons, ↓reduceIte, Nat.reduceEqDiff, Option.isSome_some, reduceCtorEq, false_or, if_true, if_false, false_implies]); (try first | done | omega | ((repeat' refine And.intro ?_ ?_) <;> (intro _ hx; obtain ⟨_, -, rfl⟩ := List.mem_map.1 hx; exact .lit _)))))
    · have : i = ws.length := by omega
      subst this
      refine FnPost_end hn0 (by simp) rfl (only_lit _ _) ?_
      simp only [go_sem]
      exact leA_refl _
theorem trim_c (id ver : Nat) (ws : List W64) (hl : ws.length ≤ 4096) (g : GH) (hg : g id = some (.cells ver (Wl ws))) : PureC Try.prog 27 [.osl id ver 1 0 ws.length] g (.osl id ver 1 0 (trimN ws ws.length)) := by
  refine CallC.body (fun _ => none) (fun _ => 0) Try.func27 rfl Try.results27 Try.ntmps27 ?_
  intro n0 hn0
  simp only [go_sem]
  have hid : id < n0 := by
    apply Nat.lt_of_not_le
    intro h; rw [hn0 id h] at hg; cases hg
  refine WC_loop (fun m : Nat => [.osl id ver 1 0 m, .any, .any, .any, .any, .any, .any, .any, .any, .any, .any, .any, .any, .any, .any, .any, .any, .any, .any, .any, .any]) (fun i => ⟨g, []⟩) (fun m => m ≤ ws.length ∧ trimN ws ws.length = trimN ws m) (fun i => i) ws.length (by simp) ?_ ?_
  · refine imp_loc (by ((try simp only [cells_agg, cells_lit, leL_cons, leL_nil, leA_any, leA_lits, leA_isl, leA_self, and_self, true_and, and_true, or_true, true_or, Value.int.injEq, Value.bool.injEq, Value.string.injEq, AV.lit.injEq, Option.some.injEq, Blk.cells.injEq, Blk.tok.injEq, List.cons.injEq, Tk.at.injEq, subL_nil, subL_cons, look_nil, look_cons, ↓reduceIte, Nat.reduceEqDiff, Option.isSome_some, reduceCtorEq, or_false, false_or, if_true, if_false, keepP_out hid]); (try first | done | omega | (simp; done) | (simp; omega)))) (by ((try simp only [cells_agg, cells_lit, leL_cons, leL_nil, leA_any, leA_lits, leA_isl, leA_self, and_self, true_and, and_true, or_true, true_or, Value.int.injEq, Value.bool.injEq, Value.string.injEq, AV.lit.injEq, Option.some.injEq, Blk.cells.injEq, Blk.tok.injEq, List.cons.injEq, Tk.at.injEq, subL_nil, subL_cons, look_nil, look_cons, ↓reduceIte, Nat.reduceEqDiff, Option.isSome_some, reduceCtorEq, or_false, false_or, if_true, if_false, keepP_out hid]); (try first | done | omega | (simp; done) | (simp; omega)))) (by ((try simp only [cells_agg, cells_lit, List.mem_cons, List.not_mem_nil, or_false, forall_eq_or_imp, forall_eq, only_any, only_lit', only_iptr, only_no, only_full, only_at, only_ptr, only_osl, only_agg, only_tup, only_fn, and_self, implies_true, and_true, true_and, okL_nil, okL_cons, bonly_cells, bonly_tok, keepP_add, look_nil, look_cons, ↓reduceIte, Nat.reduceEqDiff, Option.isSome_some, reduceCtorEq, false_or, if_true, if_false, false_implies, keepP_out hid]); (try first | done | omega | ((repeat' refine And.intro ?_ ?_) <;> (intro _ hx; obtain ⟨_, -, rfl⟩ := List.mem_map.1 hx; exact .lit _))))) (by ((try simp only [cells_agg, cells_lit, List.mem_cons, List.not_mem_nil, or_false, forall_eq_or_imp, forall_eq, only_any, only_lit', only_iptr, only_no, only_full, only_at, only_ptr, only_osl, only_agg, only_tup, only_fn, and_self, implies_true, and_true, true_and, okL_nil, okL_cons, bonly_cells, bonly_tok, keepP_add, look_nil, look_cons, ↓reduceIte, Nat.reduceEqDiff, Option.isSome_some, reduceCtorEq, false_or, if_true, if_false, false_implies, keepP_out hid]); (try first | done | omega | ((repeat' refine And.intro ?_ ?_) <;> (intro _ hx; obtain ⟨_, -, rfl⟩ := List.mem_map.1 hx; exact .lit _)))))
  · rintro m ⟨hm, hm2⟩
    simp only [go_sem]
    cases m with
    | zero =>
      simp only [go_sem]
      refine FnPost_end hn0 (by simp) rfl (by simp only [only_osl]; exact hid) ?_
      simp only [go_sem, hm2, trimN]
      exact leA_refl _
    | succ m =>
      have e0 : IntKind.i64.wrap (((m + 1 : Nat) : Int) - 1) = (m : Int) := by rw [wrap_i64]; omega
      have h0 : (0 : Int) < ((m + 1 : Nat) : Int) := by omega
      have hc : (Wl ws).getD m .any = U64 (NB (ws.getD m 0#64)) := Wl_get ws m (by omega)
      simp only [go_sem, h0, e0, get_out _ _ _ _ hid, hg, Nat.mul_one, hc, List.length_map]
      (repeat (refine ⟨by omega, ?_⟩))
      split
      · rename_i hz
        rw [NB_eq_zero] at hz
        (repeat (refine ⟨by omega, ?_⟩))
        refine LP_next m ⟨by omega, by rw [hm2]; exact trim_step ws m hz⟩ (by omega) ?_
        refine imp_loc (by ((try simp only [cells_agg, cells_lit, leL_cons, leL_nil, leA_any, leA_lits, leA_isl, leA_self, and_self, true_and, and_true, or_true, true_or, Value.int.injEq, Value.bool.injEq, Value.string.injEq, AV.lit.injEq, Option.some.injEq, Blk.cells.injEq, Blk.tok.injEq, List.cons.injEq, Tk.at.injEq, subL_nil, subL_cons, look_nil, look_cons, ↓reduceIte, Nat.reduceEqDiff, Option.isSome_some, reduceCtorEq, or_false, false_or, if_true, if_false, keepP_out hid, Nat.sub_zero]); (try first | done | omega | (simp; done) | (simp; omega)))) (by ((try simp only [cells_agg, cells_lit, leL_cons, leL_nil, leA_any, leA_lits, leA_isl, leA_self, and_self, true_and, and_true, or_true, true_or, Value.int.injEq, Value.bool.injEq, Value.string.injEq, AV.lit.injEq, Option.some.injEq, Blk.cells.injEq, Blk.tok.injEq, List.cons.injEq, Tk.at.injEq, subL_nil, subL_cons, look_nil, look_cons, ↓reduceIte, Nat.reduceEqDiff, Option.isSome_some, reduceCtorEq, or_false, false_or, if_true, if_false, keepP_out hid, Nat.sub_zero]); (try first | done | omega | (simp; done) | (simp; omega)))) (by ((try simp only [cells_agg, cells_lit, List.mem_cons, List.not_mem_nil, or_false, forall_eq_or_imp, forall_eq, only_any, only_lit', only_iptr, only_no, only_full, only_at, only_ptr, only_osl, only_agg, only_tup, only_fn, and_self, implies_true, and_true, true_and, okL_nil, okL_cons, bonly_cells, bonly_tok, keepP_add, look_nil, look_cons, ↓reduceIte, Nat.reduceEqDiff, Option.isSome_some, reduceCtorEq, false_or, if_true, if_false, false_implies, keepP_out hid, Nat.sub_zero]); (try first | done | omega | ((repeat' refine And.intro ?_ ?_) <;> (intro _ hx; obtain ⟨_, -, rfl⟩ := List.mem_map.1 hx; exact .lit _))))) (by ((try simp only [cells_agg, cells_lit, List.mem_cons, List.not_mem_nil, or_false, forall_eq_or_imp, forall_eq, only_any, only_lit', only_iptr, only_no, only_full, only_at, only_ptr, only_osl, only_agg, only_tup, only_fn, and_self, implies_true, and_true, true_and, okL_nil, okL_cons, bonly_cells, bonly_tok, keepP_add, look_nil, look_cons, ↓reduceIte, Nat.reduceEqDiff, Option.isSome_some, reduceCtorEq, false_or, if_true, if_false, false_implies, keepP_out hid, Nat.sub_zero]); (try first | done | omega | ((repeat' refine And.intro ?_ ?_) <;> (intro _ hx; obtain ⟨_, -, rfl⟩ := List.mem_map.1 hx; exact .lit _)))))
      · rename_i hz
        rw [NB_eq_zero] at hz
        refine FnPost_end hn0 (by simp) rfl (by simp only [only_osl]; exact hid) ?_
        simp only [go_sem, hm2, trim_stop ws m hz]
        exact leA_refl _
theorem next_c {ws : List W64} {s : AV} (h : AnyS ws s) (n : Int) (hl : ws.length ≤ 1024) (hn : -9223372036854775808 ≤ n) (hn1 : n ≤ 9223372036854775807) (g : GH) : PureC Try.prog 24 [s, I64 n] g (I64 (nextI ws (imx n 0).toNat)) := by
  refine CallC.body (fun _ => none) (fun _ => 0) Try.func24 rfl Try.results24 Try.ntmps24 ?_
  intro n0 hn0
  simp only [go_sem]
  refine WE_pure _ _ _ _ _ _ _ _ (wordsA_c h _) ?_
  simp only [go_sem, List.length_map]
  have hk : 0 ≤ imx n 0 ∧ imx n 0 ≤ 9223372036854775807 := by unfold imx; split <;> omega
  generalize imx n 0 = n at *
  obtain ⟨k, rfl⟩ := Int.eq_ofNat_of_zero_le hk.1
  rw [Int.toNat_natCast]
  have ek : (k : Int) / 64 = ((k / 64 : Nat) : Int) := by omega
  simp only [go_sem, ek]
  refine WC_loop (fun i : Nat => [.any, I64 k, .any, .any, .any, .isl none (Wl ws) .no, I64 i, .any, .any, .any, .any, .any, .any, .any, .any, .any, .any, .any, .any, .any, .any, .any, .any, .any, .any, .any, .any, .any, .any, .any, .any, .any, .any, .any, .any, .any, .any, .any, .any, .any, .any, .any, .any, .any]) (fun i => ⟨g, []⟩) (fun i => k / 64 ≤ i ∧ ∀ j, k ≤ j → j < 64 * i → hasW ws j = false) (fun i => ws.length - i) (k / 64) ⟨Nat.le_refl _, fun j h1 h2 => by omega⟩ ?_ ?_
  · refine imp_loc (by ((try simp only [cells_agg, cells_lit, leL_cons, leL_nil, leA_any, leA_lits, leA_isl, leA_self, and_self, true_and, and_true, or_true, true_or, Value.int.injEq, Value.bool.injEq, Value.string.injEq, AV.lit.injEq, Option.some.injEq, Blk.cells.injEq, Blk.tok.injEq, List.cons.injEq, Tk.at.injEq, subL_nil, subL_cons, look_nil, look_cons, ↓reduceIte, Nat.reduceEqDiff, Option.isSome_some, reduceCtorEq, or_false, false_or, if_true, if_false]); (try first | done | omega | (simp; done) | (simp; omega)))) (by ((try simp only [cells_agg, cells_lit, leL_cons, leL_nil, leA_any, leA_lits, leA_isl, leA_self, and_self, true_and, and_true, or_true, true_or, Value.int.injEq, Value.bool.injEq, Value.string.injEq, AV.lit.injEq, Option.some.injEq, Blk.cells.injEq, Blk.tok.injEq, List.cons.injEq, Tk.at.injEq, subL_nil, subL_cons, look_nil, look_cons, ↓reduceIte, Nat.reduceEqDiff, Option.isSome_some, reduceCtorEq, or_false, false_or, if_true, if_false]); (try first | done | omega | (simp; done) | (simp; omega)))) (by ((try simp only [cells_agg, cells_lit, List.mem_cons, List.not_mem_nil, or_false, forall_eq_or_imp, forall_eq, only_any, only_lit', only_iptr, only_no, only_full, only_at, only_ptr, only_osl, only_agg, only_tup, only_fn, and_self, implies_true, and_true, true_and, okL_nil, okL_cons, bonly_cells, bonly_tok, keepP_add, look_nil, look_cons, ↓reduceIte, Nat.reduceEqDiff, Option.isSome_some, reduceCtorEq, false_or, if_true, if_false, false_implies]); (try first | done | omega | ((repeat' refine And.intro ?_ ?_) <;> (intro _ hx; obtain ⟨_, -, rfl⟩ := List.mem_map.1 hx; exact .lit _))))) (by ((try simp only [cells_agg, cells_lit, List.mem_cons, List.not_mem_nil, or_false, forall_eq_or_imp, forall_eq, only_any, only_lit', only_iptr, only_no, only_full, only_at, only_ptr, only_osl, only_agg, only_tup, only_fn, and_self, implies_true, and_true, true_and, okL_nil, okL_cons, bonly_cells, bonly_tok, keepP_add, look_nil, look_cons, ↓reduceIte, Nat.reduceEqDiff, Option.isSome_some, reduceCtorEq, false_or, if_true, if_false, false_implies]); (try first | done | omega | ((repeat' refine And.intro ?_ ?_) <;> (intro _ hx; obtain ⟨_, -, rfl⟩ := List.mem_map.1 hx; exact .lit _)))))
  · rintro i ⟨hi, hi2⟩
    simp only [go_sem, List.length_map]
    split
    · rename_i hlt
      have hlt : i < ws.length := by omega
      have e1 : IntKind.i64.wrap ((i : Int) + 1) = ((i + 1 : Nat) : Int) := by rw [wrap_i64]; omega
      simp only [go_sem, List.length_map, Wl_get ws i hlt, and63 k (by omega), u64_mod, show (k % 64 ≤ 64) = True from eq_true (by omega), mask_k, andI_NB, NB_neg, NB_eq_zero]
      (repeat (refine ⟨by omega, ?_⟩))
      split
      · rename_i hik
        (repeat (refine ⟨by omega, ?_⟩))
        split
        · rename_i hz
          obtain ⟨b0, b1⟩ := NB_range (ws.getD i 0#64 &&& BitVec.allOnes 64 <<< (k % 64) &&& -(ws.getD i 0#64 &&& BitVec.allOnes 64 <<< (k % 64)))
          refine WE_pure _ _ _ _ _ _ _ _ (Bits.Log_c (NB (ws.getD i 0#64 &&& BitVec.allOnes 64 <<< (k % 64) &&& -(ws.getD i 0#64 &&& BitVec.allOnes 64 <<< (k % 64)))) b0 b1 _) ?_
          simp only [go_sem]
          refine FnPost_end hn0 (by simp) rfl (only_lit _ _) ?_
          simp only [go_sem]
          exact leA_int (next_found ws k i (ws.getD i 0#64 &&& BitVec.allOnes 64 <<< (k % 64)) hlt hl (mask_bits _ k i (by omega)) hi2 hz)
        · rename_i hz
          have hz : ws.getD i 0#64 &&& BitVec.allOnes 64 <<< (k % 64) = 0#64 := Classical.not_not.1 hz
          refine LP_next (i + 1) ⟨by omega, next_not ws k i (ws.getD i 0#64 &&& BitVec.allOnes 64 <<< (k % 64)) (mask_bits _ k i (by omega)) hi2 hz⟩ (by omega) ?_
          rw [e1]
          refine imp_loc (by ((try simp only [cells_agg, cells_lit, leL_cons, leL_nil, leA_any, leA_lits, leA_isl, leA_self, and_self, true_and, and_true, or_true, true_or, Value.int.injEq, Value.bool.injEq, Value.string.injEq, AV.lit.injEq, Option.some.injEq, Blk.cells.injEq, Blk.tok.injEq, List.cons.injEq, Tk.at.injEq, subL_nil, subL_cons, look_nil, look_cons, ↓reduceIte, Nat.reduceEqDiff, Option.isSome_some, reduceCtorEq, or_false, false_or, if_true, if_false]); (try first | done | omega | (simp; done) | (simp; omega)))) (by ((try simp only [cells_agg, cells_lit, leL_cons, leL_nil, leA_any, leA_lits, leA_isl, leA_self, and_self, true_and, and_true, or_true, true_or, Value.int.injEq, Value.bool.injEq, Value.string.injEq, AV.lit.injEq, Option.some.injEq, Blk.cells.injEq, Blk.tok.injEq, List.cons.injEq, Tk.at.injEq, subL_nil, subL_cons, look_nil, look_cons, ↓reduceIte, Nat.reduceEqDiff, Option.isSome_some, reduceCtorEq, or_false, false_or, if_true, if_false]); (try first | done | omega | (simp; done) | (simp; omega)))) (by ((try simp only [cells_agg, cells_lit, List.mem_cons, List.not_mem_nil, or_false, forall_eq_or_imp, forall_eq, only_any, only_lit', only_iptr, only_no, only_full, only_at, only_ptr, only_osl, only_agg, only_tup, only_fn, and_self, implies_true, and_true, true_and, okL_nil, okL_cons, bonly_cells, bonly_tok, keepP_add, look_nil, look_cons, ↓reduceIte, Nat.reduceEqDiff, Option.isSome_some, reduceCtorEq, false_or, if_true, if_false, false_implies]); (try first | done | omega | ((repeat' refine And.intro ?_ ?_) <;> (intro _ hx; obtain ⟨_, -, rfl⟩ := List.mem_map.1 hx; exact .lit _))))) (by ((try simp only [cells_agg, cells_lit, List.mem_cons, List.not_mem_nil, or_false, forall_eq_or_imp, forall_eq, only_any, only_lit', only_iptr, only_no, only_full, only_at, only_ptr, only_osl, only_agg, only_tup, only_fn, and_self, implies_true, and_true, true_and, okL_nil, okL_cons, bonly_cells, bonly_tok, keepP_add, look_nil, look_cons, ↓reduceIte, Nat.reduceEqDiff, Option.isSome_some, reduceCtorEq, false_or, if_true, if_false, false_implies]); (try first | done | omega | ((repeat' refine And.intro ?_ ?_) <;> (intro _ hx; obtain ⟨_, -, rfl⟩ := List.mem_map.1 hx; exact .lit _)))))
      · rename_i hik
        split
        · rename_i hz
          obtain ⟨b0, b1⟩ := NB_range (ws.getD i 0#64 &&& -(ws.getD i 0#64))
          refine WE_pure _ _ _ _ _ _ _ _ (Bits.Log_c (NB (ws.getD i 0#64 &&& -(ws.getD i 0#64))) b0 b1 _) ?_
          simp only [go_sem]
          refine FnPost_end hn0 (by simp) rfl (only_lit _ _) ?_
          simp only [go_sem]
          exact leA_int (next_found ws k i (ws.getD i 0#64) hlt hl (fun b hb => by rw [show decide (k ≤ 64 * i + b) = true by simp; omega, Bool.and_true]) hi2 hz)
        · rename_i hz
          have hz : ws.getD i 0#64 = 0#64 := Classical.not_not.1 hz
          refine LP_next (i + 1) ⟨by omega, next_not ws k i (ws.getD i 0#64) (fun b hb => by rw [show decide (k ≤ 64 * i + b) = true by simp; omega, Bool.and_true]) hi2 hz⟩ (by omega) ?_
          rw [e1]
          refine imp_loc (by ((try simp only [cells_agg, cells_lit, leL_cons, leL_nil, leA_any, leA_lits, leA_isl, leA_self, and_self, true_and, and_true, or_true, true_or, Value.int.injEq, Value.bool.injEq, Value.string.injEq, AV.lit.injEq, Option.some.injEq, Blk.cells.injEq, Blk.tok.injEq, List.cons.injEq, Tk.at.injEq, subL_nil, subL_cons, look_nil, look_cons, ↓reduceIte, Nat.reduceEqDiff, Option.isSome_some, reduceCtorEq, or_false, false_or, if_true, if_false]); (try first | done | omega | (simp; done) | (simp; omega)))) (by ((try simp only [cells_agg, cells_lit, leL_cons, leL_nil, leA_any, leA_lits, leA_isl, leA_self, and_self, true_and, and_true, or_true, true_or, Value.int.injEq, Value.bool.injEq, Value.string.injEq, AV.lit.injEq, Option.some.injEq, Blk.cells.injEq, Blk.tok.injEq, List.cons.injEq, Tk.at.injEq, subL_nil, subL_cons, look_nil, look_cons, ↓reduceIte, Nat.reduceEqDiff, Option.isSome_some, reduceCtorEq, or_false, false_or, if_true, if_false]); (try first | done | omega | (simp; done) | (simp; omega)))) (by ((try simp only [cells_agg, cells_lit, List.mem_cons, List.not_mem_nil, or_false, forall_eq_or_imp, forall_eq, only_any, only_lit', only_iptr, only_no, only_full, only_at, only_ptr, only_osl, only_agg, only_tup, only_fn, and_self, implies_true, and_true, true_and, okL_nil, okL_cons, bonly_cells, bonly_tok, keepP_add, look_nil, look_cons, ↓reduceIte, Nat.reduceEqDiff, Option.isSome_some, reduceCtorEq, false_or, if_true, if_false, false_implies]); (try first | done | omega | ((repeat' refine And.intro ?_ ?_) <;> (intro _ hx; obtain ⟨_, -, rfl⟩ := List.mem_map.1 hx; exact .lit _))))) (by ((try simp only [cells_agg, cells_lit, List.mem_cons, List.not_mem_nil, or_false, forall_eq_or_imp, forall_eq, only_any, only_lit', only_iptr, only_no, only_full, only_at, only_ptr, only_osl, only_agg, only_tup, only_fn, and_self, implies_true, and_true, true_and, okL_nil, okL_cons, bonly_cells, bonly_tok, keepP_add, look_nil, look_cons, ↓reduceIte, Nat.reduceEqDiff, Option.isSome_some, reduceCtorEq, false_or, if_true, if_false, false_implies]); (try first | done | omega | ((repeat' refine And.intro ?_ ?_) <;> (intro _ hx; obtain ⟨_, -, rfl⟩ := List.mem_map.1 hx; exact .lit _)))))
    · refine FnPost_end hn0 (by simp) rfl (only_lit _ _) ?_
      simp only [go_sem]
      refine leA_int ?_
      rw [nextI_none]
      intro j h1 h2
      exact hi2 j h1 (by omega)
theorem Next_c {ws : List W64} {s : AV} (h : AnyS ws s) (n : Int) (hl : ws.length ≤ 1024) (hn : -9223372036854775808 ≤ n) (hn1 : n ≤ 9223372036854775807) (g : GH) :
    PureC Try.prog 7 [s, I64 n] g (.tup [I64 (if 65536 ≤ n then 0 else imx (nextI ws (imx n 0).toNat) 0), BB (!decide (65536 ≤ n) && decide (0 ≤ nextI ws (imx n 0).toNat))]) := by
  refine CallC.body (fun _ => none) (fun _ => 0) Try.func7 rfl Try.results7 Try.ntmps7 ?_
  intro n0 hn0
  simp only [go_sem]
  split
  · rename_i hh
    refine FnPost_end hn0 (by simp) rfl (by simp only [only_tup, List.mem_cons, List.not_mem_nil, or_false, forall_eq_or_imp, forall_eq, only_any, only_lit', only_full, only_no, only_iptr, only_agg, and_self, and_true, true_and, implies_true, or_false]) ?_
    simp only [go_sem]
    simp [hh, leA]
  · rename_i hh
    refine WE_pure _ _ _ _ _ _ _ _ (next_c h n hl hn hn1 _) ?_
    simp only [go_sem]
    refine FnPost_end hn0 (by simp) rfl (by simp only [only_tup, List.mem_cons, List.not_mem_nil, or_false, forall_eq_or_imp, forall_eq, only_any, only_lit', only_full, only_no, only_iptr, only_agg, and_self, and_true, true_and, implies_true, or_false]) ?_
    simp only [go_sem]
    simp [hh, leA]
theorem Il_app (l : List Int) (n : Int) : Il l ++ [I64 n] = Il (l ++ [n]) := by simp
theorem elsOk_Il (l : List Int) : elsOk 1 (Il l) ↔ True := by
  refine ⟨fun _ => trivial, fun _ e he => ?_⟩
  obtain ⟨p, -, rfl⟩ := List.mem_map.1 he
  exact ⟨rfl, rfl⟩
theorem elsOk_Wl (l : List W64) : elsOk 1 (Wl l) ↔ True := by
  refine ⟨fun _ => trivial, fun _ e he => ?_⟩
  obtain ⟨p, -, rfl⟩ := List.mem_map.1 he
  exact ⟨rfl, rfl⟩
theorem memB_le (ws : List W64) (b : Nat) : (memB ws b).length ≤ b := by
  unfold memB; rw [List.length_map]; exact Nat.le_trans (List.length_filter_le _ _) (by simp)
theorem list_c {ws : List W64} {s : AV} (h : AnyS ws s) {l : List Int} (hs : IsS ws l) (hl : ws.length ≤ 1024) (g : GH) : PureC Try.prog 12 [s] g (.isl none (Il l) .no) := by
  refine CallC.body (fun _ => none) (fun d => if d = 3 then 1 else 0) Try.func12 rfl Try.results12 Try.ntmps12 ?_
  intro n0 hn0
  simp only [go_sem]
  refine WE_pure _ _ _ _ _ _ _ _ (next_c h 0 hl (by omega) (by omega) _) ?_
  simp only [go_sem]
  refine WC_loop (fun p : Nat × Nat => [s, .any, .any, .isl none (Il (memB ws p.1)) (.at (n0 + 3) p.2), I64 (nextI ws p.1), .any, .any, .any, .any, .any, .any, .any, .any, .any, .any, .any, .any, .any]) (fun p => ⟨g, [(3, .tok p.2)]⟩) (fun p => p.1 ≤ 64 * ws.length) (fun p => 64 * ws.length - p.1) (0, 0) (by simp) ?_ ?_
  · have e0 : (imx 0 0).toNat = 0 := rfl
    have e1 : Il [] = [] := rfl
    refine imp_loc (by ((try simp only [cells_agg, cells_lit, leL_cons, leL_nil, leA_any, leA_lits, leA_isl, leA_self, and_self, true_and, and_true, or_true, true_or, Value.int.injEq, Value.bool.injEq, Value.string.injEq, AV.lit.injEq, Option.some.injEq, Blk.cells.injEq, Blk.tok.injEq, List.cons.injEq, Tk.at.injEq, subL_nil, subL_cons, look_nil, look_cons, ↓reduceIte, Nat.reduceEqDiff, Option.isSome_some, reduceCtorEq, or_false, false_or, if_true, if_false, memB_zero, e0, e1, h.only]); (try first | done | omega | (simp; done) | (simp; omega)))) (by ((try simp only [cells_agg, cells_lit, leL_cons, leL_nil, leA_any, leA_lits, leA_isl, leA_self, and_self, true_and, and_true, or_true, true_or, Value.int.injEq, Value.bool.injEq, Value.string.injEq, AV.lit.injEq, Option.some.injEq, Blk.cells.injEq, Blk.tok.injEq, List.cons.injEq, Tk.at.injEq, subL_nil, subL_cons, look_nil, look_cons, ↓reduceIte, Nat.reduceEqDiff, Option.isSome_some, reduceCtorEq, or_false, false_or, if_true, if_false, memB_zero, e0, e1, h.only]); (try first | done | omega | (simp; done) | (simp; omega)))) (by ((try simp only [cells_agg, cells_lit, List.mem_cons, List.not_mem_nil, or_false, forall_eq_or_imp, forall_eq, only_any, only_lit', only_iptr, only_no, only_full, only_at, only_ptr, only_osl, only_agg, only_tup, only_fn, and_self, implies_true, and_true, true_and, okL_nil, okL_cons, bonly_cells, bonly_tok, keepP_add, look_nil, look_cons, ↓reduceIte, Nat.reduceEqDiff, Option.isSome_some, reduceCtorEq, false_or, if_true, if_false, false_implies, memB_zero, e0, e1, h.only]); (try first | done | omega | ((repeat' refine And.intro ?_ ?_) <;> (intro _ hx; obtain ⟨_, -, rfl⟩ := List.mem_map.1 hx; exact .lit _))))) (by ((try simp only [cells_agg, cells_lit, List.mem_cons, List.not_mem_nil, or_false, forall_eq_or_imp, forall_eq, only_any, only_lit', only_iptr, only_no, only_full, only_at, only_ptr, only_osl, only_agg, only_tup, only_fn, and_self, implies_true, and_true, true_and, okL_nil, okL_cons, bonly_cells, bonly_tok, keepP_add, look_nil, look_cons, ↓reduceIte, Nat.reduceEqDiff, Option.isSome_some, reduceCtorEq, false_or, if_true, if_false, false_implies, memB_zero, e0, e1, h.only]); (try first | done | omega | ((repeat' refine And.intro ?_ ?_) <;> (intro _ hx; obtain ⟨_, -, rfl⟩ := List.mem_map.1 hx; exact .lit _)))))
  · rintro ⟨b, v⟩ hb
    simp only at hb
    simp only [go_sem]
    split
    · rename_i h0
      rcases nextI_cases ws b with ⟨h1, _⟩ | ⟨m, h1, h2, h3, h4, h5⟩
      · omega
      · have e1 : IntKind.i64.wrap ((m : Int) + 1) = ((m + 1 : Nat) : Int) := by rw [wrap_i64]; omega
        have e2 : imx ((m + 1 : Nat) : Int) 0 = ((m + 1 : Nat) : Int) := by unfold imx; split <;> omega
        have hml := memB_le ws b
        rw [h1]
        simp only [go_sem, elsOk_Il, List.length_map, e1]
        (repeat (refine ⟨by omega, ?_⟩))
        refine WE_pure _ _ _ _ _ _ _ _ (next_c h ((m + 1 : Nat) : Int) hl (by omega) (by omega) _) ?_
        simp only [go_sem, e2]
        refine LP_next (m + 1, v + 1) (by simp only; omega) (by simp only; omega) ?_
        rw [memB_next ws b m h2 h4 h5, ← Il_app]
        refine imp_loc (by ((try simp only [cells_agg, cells_lit, leL_cons, leL_nil, leA_any, leA_lits, leA_isl, leA_self, and_self, true_and, and_true, or_true, true_or, Value.int.injEq, Value.bool.injEq, Value.string.injEq, AV.lit.injEq, Option.some.injEq, Blk.cells.injEq, Blk.tok.injEq, List.cons.injEq, Tk.at.injEq, subL_nil, subL_cons, look_nil, look_cons, ↓reduceIte, Nat.reduceEqDiff, Option.isSome_some, reduceCtorEq, or_false, false_or, if_true, if_false, h.only]); (try first | done | omega | (simp; done) | (simp; omega)))) (by ((try simp only [cells_agg, cells_lit, leL_cons, leL_nil, leA_any, leA_lits, leA_isl, leA_self, and_self, true_and, and_true, or_true, true_or, Value.int.injEq, Value.bool.injEq, Value.string.injEq, AV.lit.injEq, Option.some.injEq, Blk.cells.injEq, Blk.tok.injEq, List.cons.injEq, Tk.at.injEq, subL_nil, subL_cons, look_nil, look_cons, ↓reduceIte, Nat.reduceEqDiff, Option.isSome_some, reduceCtorEq, or_false, false_or, if_true, if_false, h.only]); (try first | done | omega | (simp; done) | (simp; omega)))) (by ((try simp only [cells_agg, cells_lit, List.mem_cons, List.not_mem_nil, or_false, forall_eq_or_imp, forall_eq, only_any, only_lit', only_iptr, only_no, only_full, only_at, only_ptr, only_osl, only_agg, only_tup, only_fn, and_self, implies_true, and_true, true_and, okL_nil, okL_cons, bonly_cells, bonly_tok, keepP_add, look_nil, look_cons, ↓reduceIte, Nat.reduceEqDiff, Option.isSome_some, reduceCtorEq, false_or, if_true, if_false, false_implies, h.only]); (try first | done | omega | ((repeat' refine And.intro ?_ ?_) <;> (intro _ hx; obtain ⟨_, -, rfl⟩ := List.mem_map.1 hx; exact .lit _))))) (by ((try simp only [cells_agg, cells_lit, List.mem_cons, List.not_mem_nil, or_false, forall_eq_or_imp, forall_eq, only_any, only_lit', only_iptr, only_no, only_full, only_at, only_ptr, only_osl, only_agg, only_tup, only_fn, and_self, implies_true, and_true, true_and, okL_nil, okL_cons, bonly_cells, bonly_tok, keepP_add, look_nil, look_cons, ↓reduceIte, Nat.reduceEqDiff, Option.isSome_some, reduceCtorEq, false_or, if_true, if_false, false_implies, h.only]); (try first | done | omega | ((repeat' refine And.intro ?_ ?_) <;> (intro _ hx; obtain ⟨_, -, rfl⟩ := List.mem_map.1 hx; exact .lit _)))))
    · rename_i h0
      rcases nextI_cases ws b with ⟨h1, h2⟩ | ⟨m, h1, h2, h3, h4, h5⟩
      · rw [hs.memB b h2]
        refine FnPost_end hn0 (by simp) rfl (by simp only [only_tup, List.mem_cons, List.not_mem_nil, or_false, forall_eq_or_imp, forall_eq, only_any, only_lit', only_full, only_no, only_iptr, only_agg, and_self, and_true, true_and, implies_true, or_false]) ?_
        simp only [go_sem]
        exact ⟨.inl rfl, rfl, .inl rfl⟩
      · omega
/-! ### two sets -/
theorem both_c {ws vs : List W64} {s t : AV} (h : AnyS ws s) (k : AnyS vs t) (f : W64 → W64 → W64) (fn : FuncId) (hf : ∀ x y g, PureC Try.prog fn [U64 (NB x), U64 (NB y)] g (U64 (NB (f x y)))) (hcl : callable Try.prog fn = true) (hl : ws.length ≤ 1024) (hl2 : vs.length ≤ 1024) (g : GH) :
    PureC Try.prog 31 [s, t, .fn fn []] g (SI (trimW (opW f ws vs))) := by
  refine CallC.body (fun _ => none) (fun d => if d = 20 then 2 else 0) Try.func31 rfl Try.results31 Try.ntmps31 ?_
  intro n0 hn0
  simp only [go_sem]
  refine WE_pure _ _ _ _ _ _ _ _ (wordsA_c h _) ?_
  simp only [go_sem]
  refine WE_pure _ _ _ _ _ _ _ _ (wordsA_c k _) ?_
  simp only [go_sem, List.length_map]
  have eK : imx (ws.length : Int) (vs.length : Int) = ((max ws.length vs.length : Nat) : Int) := by unfold imx; split <;> omega
  simp only [go_sem, eK]
  (repeat (refine ⟨by omega, ?_⟩))
  have hK : max ws.length vs.length ≤ 1024 := by omega
  have e0 : ([AV.lit (Value.int IntKind.u64 0)].headD AV.any) = U64 0 := rfl
  refine WC_loop (fun i : Nat => [.any, .any, .fn fn [], .any, .any, .any, .any, .isl none (Wl ws) .no, .isl none (Wl vs) .no, .osl (n0 + 20) 0 1 0 (max ws.length vs.length), .any, .any, .any, .any, .any, .any, .any, .any, .any, .any, .any, .any, I64 (max ws.length vs.length : Nat), I64 i, .any, .any, .any, .any, .any, .any, .any, .any, .any, .any, .any, .any, .any, .any, .any, .any, .any, .any]) (fun i => ⟨g, [(20, .cells 0 (Wl (opS f ws vs i)))]⟩) (fun i => i ≤ max ws.length vs.length) (fun i => max ws.length vs.length - i) 0 (by simp) ?_ ?_
  · refine imp_loc (by ((try simp only [cells_agg, cells_lit, leL_cons, leL_nil, leA_any, leA_lits, leA_isl, leA_self, and_self, true_and, and_true, or_true, true_or, Value.int.injEq, Value.bool.injEq, Value.string.injEq, AV.lit.injEq, Option.some.injEq, Blk.cells.injEq, Blk.tok.injEq, List.cons.injEq, Tk.at.injEq, subL_nil, subL_cons, look_nil, look_cons, ↓reduceIte, Nat.reduceEqDiff, Option.isSome_some, reduceCtorEq, or_false, false_or, if_true, if_false, opS_zero, e0, Wl_rep, only_fn]); (try first | done | omega | (simp; done) | (simp; omega)))) (by ((try simp only [cells_agg, cells_lit, leL_cons, leL_nil, leA_any, leA_lits, leA_isl, leA_self, and_self, true_and, and_true, or_true, true_or, Value.int.injEq, Value.bool.injEq, Value.string.injEq, AV.lit.injEq, Option.some.injEq, Blk.cells.injEq, Blk.tok.injEq, List.cons.injEq, Tk.at.injEq, subL_nil, subL_cons, look_nil, look_cons, ↓reduceIte, Nat.reduceEqDiff, Option.isSome_some, reduceCtorEq, or_false, false_or, if_true, if_false, opS_zero, e0, Wl_rep, only_fn]); (try first | done | omega | (simp; done) | (simp; omega)))) (by ((try simp only [cells_agg, cells_lit, List.mem_cons, List.not_mem_nil, or_false, forall_eq_or_imp, forall_eq, only_any, only_lit', only_iptr, only_no, only_full, only_at, only_ptr, only_osl, only_agg, only_tup, only_fn, and_self, implies_true, and_true, true_and, okL_nil, okL_cons, bonly_cells, bonly_tok, keepP_add, look_nil, look_cons, ↓reduceIte, Nat.reduceEqDiff, Option.isSome_some, reduceCtorEq, false_or, if_true, if_false, false_implies, opS_zero, e0, Wl_rep, only_fn]); (try first | done | omega | ((repeat' refine And.intro ?_ ?_) <;> (intro _ hx; obtain ⟨_, -, rfl⟩ := List.mem_map.1 hx; exact .lit _))))) (by ((try simp only [cells_agg, cells_lit, List.mem_cons, List.not_mem_nil, or_false, forall_eq_or_imp, forall_eq, only_any, only_lit', only_iptr, only_no, only_full, only_at, only_ptr, only_osl, only_agg, only_tup, only_fn, and_self, implies_true, and_true, true_and, okL_nil, okL_cons, bonly_cells, bonly_tok, keepP_add, look_nil, look_cons, ↓reduceIte, Nat.reduceEqDiff, Option.isSome_some, reduceCtorEq, false_or, if_true, if_false, false_implies, opS_zero, e0, Wl_rep, only_fn]); (try first | done | omega | ((repeat' refine And.intro ?_ ?_) <;> (intro _ hx; obtain ⟨_, -, rfl⟩ := List.mem_map.1 hx; exact .lit _)))))
  · intro i hi
    simp only [go_sem]
    split
    · rename_i hlt
      have hlt : i < max ws.length vs.length := by omega
      have e1 : IntKind.i64.wrap ((i : Int) + 1) = ((i + 1 : Nat) : Int) := by rw [wrap_i64]; omega
      refine WE_pure _ _ _ _ _ _ _ _ (at_c ws i hl _ _) ?_
      simp only [go_sem]
      refine WE_pure _ _ _ _ _ _ _ _ (at_c vs i hl2 _ _) ?_
      simp only [go_sem]
      simp only [go_sem, hcl]
      (repeat (refine ⟨by omega, ?_⟩))
      refine WE_pure _ _ _ _ _ _ _ _ (hf _ _ _) ?_
      simp only [go_sem, Nat.mul_one, List.length_map, opS_len]
      (repeat (refine ⟨by omega, ?_⟩))
      refine LP_next (i + 1) (by omega) (by omega) ?_
      rw [e1, Wl_splice _ i _ (by rw [opS_len]; exact hlt), opS_succ]
      refine imp_loc (by ((try simp only [cells_agg, cells_lit, leL_cons, leL_nil, leA_any, leA_lits, leA_isl, leA_self, and_self, true_and, and_true, or_true, true_or, Value.int.injEq, Value.bool.injEq, Value.string.injEq, AV.lit.injEq, Option.some.injEq, Blk.cells.injEq, Blk.tok.injEq, List.cons.injEq, Tk.at.injEq, subL_nil, subL_cons, look_nil, look_cons, ↓reduceIte, Nat.reduceEqDiff, Option.isSome_some, reduceCtorEq, or_false, false_or, if_true, if_false, only_fn]); (try first | done | omega | (simp; done) | (simp; omega)))) (by ((try simp only [cells_agg, cells_lit, leL_cons, leL_nil, leA_any, leA_lits, leA_isl, leA_self, and_self, true_and, and_true, or_true, true_or, Value.int.injEq, Value.bool.injEq, Value.string.injEq, AV.lit.injEq, Option.some.injEq, Blk.cells.injEq, Blk.tok.injEq, List.cons.injEq, Tk.at.injEq, subL_nil, subL_cons, look_nil, look_cons, ↓reduceIte, Nat.reduceEqDiff, Option.isSome_some, reduceCtorEq, or_false, false_or, if_true, if_false, only_fn]); (try first | done | omega | (simp; done) | (simp; omega)))) (by ((try simp only [cells_agg, cells_lit, List.mem_cons, List.not_mem_nil, or_false, forall_eq_or_imp, forall_eq, only_any, only_lit', only_iptr, only_no, only_full, only_at, only_ptr, only_osl, only_agg, only_tup, only_fn, and_self, implies_true, and_true, true_and, okL_nil, okL_cons, bonly_cells, bonly_tok, keepP_add, look_nil, look_cons, ↓reduceIte, Nat.reduceEqDiff, Option.isSome_some, reduceCtorEq, false_or, if_true, if_false, false_implies, only_fn]); (try first | done | omega | ((repeat' refine And.intro ?_ ?_) <;> (intro _ hx; obtain ⟨_, -, rfl⟩ := List.mem_map.1 hx; exact .lit _))))) (by ((try simp only [cells_agg, cells_lit, List.mem_cons, List.not_mem_nil, or_false, forall_eq_or_imp, forall_eq, only_any, only_lit', only_iptr, only_no, only_full, only_at, only_ptr, only_osl, only_agg, only_tup, only_fn, and_self, implies_true, and_true, true_and, okL_nil, okL_cons, bonly_cells, bonly_tok, keepP_add, look_nil, look_cons, ↓reduceIte, Nat.reduceEqDiff, Option.isSome_some, reduceCtorEq, false_or, if_true, if_false, false_implies, only_fn]); (try first | done | omega | ((repeat' refine And.intro ?_ ?_) <;> (intro _ hx; obtain ⟨_, -, rfl⟩ := List.mem_map.1 hx; exact .lit _)))))
    · rename_i hh
      have : i = max ws.length vs.length := by omega
      subst this
      have hW := opW_len f ws vs
      rw [opS_full]
      refine WE_pure _ _ _ _ _ _ _ _ (hW ▸ trim_c (n0 + 20) 0 (opW f ws vs) (by omega) _ (by rw [get_loc]; rfl)) ?_
      simp only [go_sem]
      have htl : trimN (opW f ws vs) (max ws.length vs.length) ≤ max ws.length vs.length := trimN_le _ _
      have htw : (Wl (opW f ws vs)).take (trimN (opW f ws vs) (max ws.length vs.length)) = Wl (trimW (opW f ws vs)) := by rw [Wl_take]; unfold trimW; rw [hW]
      refine FnPost_imp (fr' := [.any, .any, .any, .any, .any, .any, .ptr (n0 + 41) 0 0, .any, .any, .any, .any, .any, .any, .any, .any, .any, .any, .any, .any, .any, .any, .any, .any, .any, .any, .any, .any, .any, .any, .any, .any, .any, .any, .any, .any, .any, .any, .any, .any, .any, .any, .any]) (h' := ⟨g, [(20, .cells 0 (Wl (opW f ws vs))), (41, .cells 0 [.osl (n0 + 20) 0 1 0 (trimN (opW f ws vs) (max ws.length vs.length))])]⟩) (by refine imp_loc (by ((try simp only [cells_agg, cells_lit, leL_cons, leL_nil, leA_any, leA_lits, leA_isl, leA_self, and_self, true_and, and_true, or_true, true_or, Value.int.injEq, Value.bool.injEq, Value.string.injEq, AV.lit.injEq, Option.some.injEq, Blk.cells.injEq, Blk.tok.injEq, List.cons.injEq, Tk.at.injEq, subL_nil, subL_cons, look_nil, look_cons, ↓reduceIte, Nat.reduceEqDiff, Option.isSome_some, reduceCtorEq, or_false, false_or, if_true, if_false]); (try first | done | omega | (simp; done) | (simp; omega)))) (by ((try simp only [cells_agg, cells_lit, leL_cons, leL_nil, leA_any, leA_lits, leA_isl, leA_self, and_self, true_and, and_true, or_true, true_or, Value.int.injEq, Value.bool.injEq, Value.string.injEq, AV.lit.injEq, Option.some.injEq, Blk.cells.injEq, Blk.tok.injEq, List.cons.injEq, Tk.at.injEq, subL_nil, subL_cons, look_nil, look_cons, ↓reduceIte, Nat.reduceEqDiff, Option.isSome_some, reduceCtorEq, or_false, false_or, if_true, if_false]); (try first | done | omega | (simp; done) | (simp; omega)))) (by ((try simp only [cells_agg, cells_lit, List.mem_cons, List.not_mem_nil, or_false, forall_eq_or_imp, forall_eq, only_any, only_lit', only_iptr, only_no, only_full, only_at, only_ptr, only_osl, only_agg, only_tup, only_fn, and_self, implies_true, and_true, true_and, okL_nil, okL_cons, bonly_cells, bonly_tok, keepP_add, look_nil, look_cons, ↓reduceIte, Nat.reduceEqDiff, Option.isSome_some, reduceCtorEq, false_or, if_true, if_false, false_implies]); (try first | done | omega | ((repeat' refine And.intro ?_ ?_) <;> (intro _ hx; obtain ⟨_, -, rfl⟩ := List.mem_map.1 hx; exact .lit _))))) (by ((try simp only [cells_agg, cells_lit, List.mem_cons, List.not_mem_nil, or_false, forall_eq_or_imp, forall_eq, only_any, only_lit', only_iptr, only_no, only_full, only_at, only_ptr, only_osl, only_agg, only_tup, only_fn, and_self, implies_true, and_true, true_and, okL_nil, okL_cons, bonly_cells, bonly_tok, keepP_add, look_nil, look_cons, ↓reduceIte, Nat.reduceEqDiff, Option.isSome_some, reduceCtorEq, false_or, if_true, if_false, false_implies]); (try first | done | omega | ((repeat' refine And.intro ?_ ?_) <;> (intro _ hx; obtain ⟨_, -, rfl⟩ := List.mem_map.1 hx; exact .lit _)))))) ?_
      refine FnPost_imp (imp_freeze (fr' := [.any, .any, .any, .any, .any, .any, .ptr (n0 + 41) 0 0, .any, .any, .any, .any, .any, .any, .any, .any, .any, .any, .any, .any, .any, .any, .any, .any, .any, .any, .any, .any, .any, .any, .any, .any, .any, .any, .any, .any, .any, .any, .any, .any, .any, .any, .any]) (loc' := [(41, .cells 0 [.isl none (Wl (trimW (opW f ws vs))) .no])]) 20 0 (Wl (opW f ws vs)) (by first | rfl | (simp only [look_cons, ↓reduceIte, Nat.reduceEqDiff]; done)) (Wl_idf _) (by ((try simp only [leFL_nil, leFL_cons, leF_any, leF_lit, leF_ptrs, leF_osls, leF_iptrs, leF_islno, leF_islfull, leF_islat, leF_ptr, leF_osl, leFB_cells, leFB_tok, leFH_nil, leFH_cons, and_true, true_and, and_self, ↓reduceIte, Nat.reduceEqDiff, ne_eq, not_false_eq_true, not_true_eq_false, reduceCtorEq, Nat.add_left_cancel_iff, Nat.zero_add, List.drop_zero, Nat.add_eq_left, Wl_len, hW, htw]); (try first | done | omega | (simp; done) | (simp; omega)))) (by ((try simp only [leFL_nil, leFL_cons, leF_any, leF_lit, leF_ptrs, leF_osls, leF_iptrs, leF_islno, leF_islfull, leF_islat, leF_ptr, leF_osl, leFB_cells, leFB_tok, leFH_nil, leFH_cons, and_true, true_and, and_self, ↓reduceIte, Nat.reduceEqDiff, ne_eq, not_false_eq_true, not_true_eq_false, reduceCtorEq, Nat.add_left_cancel_iff, Nat.zero_add, List.drop_zero, Nat.add_eq_left, Wl_len, hW, htw]); (try first | done | omega | (simp; done) | (simp; omega))))) ?_
      refine FnPost_imp (imp_freeze (fr' := [.any, .any, .any, .any, .any, .any, SI (trimW (opW f ws vs)), .any, .any, .any, .any, .any, .any, .any, .any, .any, .any, .any, .any, .any, .any, .any, .any, .any, .any, .any, .any, .any, .any, .any, .any, .any, .any, .any, .any, .any, .any, .any, .any, .any, .any, .any]) (loc' := []) 41 0 ([.isl none (Wl (trimW (opW f ws vs))) .no]) (by first | rfl | (simp only [look_cons, ↓reduceIte, Nat.reduceEqDiff]; done)) (rfl) (by ((try simp only [leFL_nil, leFL_cons, leF_any, leF_lit, leF_ptrs, leF_osls, leF_iptrs, leF_islno, leF_islfull, leF_islat, leF_ptr, leF_osl, leFB_cells, leFB_tok, leFH_nil, leFH_cons, and_true, true_and, and_self, ↓reduceIte, Nat.reduceEqDiff, ne_eq, not_false_eq_true, not_true_eq_false, reduceCtorEq, Nat.add_left_cancel_iff, Nat.zero_add, List.drop_zero, Nat.add_eq_left]); (try first | done | omega | (simp; done) | (simp; omega)))) (by ((try simp only [leFL_nil, leFL_cons, leF_any, leF_lit, leF_ptrs, leF_osls, leF_iptrs, leF_islno, leF_islfull, leF_islat, leF_ptr, leF_osl, leFB_cells, leFB_tok, leFH_nil, leFH_cons, and_true, true_and, and_self, ↓reduceIte, Nat.reduceEqDiff, ne_eq, not_false_eq_true, not_true_eq_false, reduceCtorEq, Nat.add_left_cancel_iff, Nat.zero_add, List.drop_zero, Nat.add_eq_left]); (try first | done | omega | (simp; done) | (simp; omega))))) ?_
      refine FnPost_end hn0 (by simp) rfl (only_iptr _ _ |>.2 trivial) ?_
      simp only [go_sem]
      exact leA_refl _
theorem or_c {ws vs : List W64} {s t : AV} (h : AnyS ws s) (k : AnyS vs t) (hl : ws.length ≤ 1024) (hl2 : vs.length ≤ 1024) (g : GH) : PureC Try.prog 15 [s, t] g (SI (trimW (opW orW ws vs))) := by
  refine CallC.body (fun _ => none) (fun _ => 0) Try.func15 rfl Try.results15 Try.ntmps15 ?_
  intro n0 hn0
  simp only [go_sem]
  refine WE_pure _ _ _ _ _ _ _ _ (both_c h k orW _ or1_c (by kernel_rfl) hl hl2 _) ?_
  simp only [go_sem]
  refine FnPost_end hn0 (by simp) rfl (by simp only [only_tup, List.mem_cons, List.not_mem_nil, or_false, forall_eq_or_imp, forall_eq, only_any, only_lit', only_full, only_no, only_iptr, only_agg, and_self, and_true, true_and, implies_true, or_false]) ?_
  simp only [go_sem]
  exact leA_refl _
theorem and_c {ws vs : List W64} {s t : AV} (h : AnyS ws s) (k : AnyS vs t) (hl : ws.length ≤ 1024) (hl2 : vs.length ≤ 1024) (g : GH) : PureC Try.prog 16 [s, t] g (SI (trimW (opW andW ws vs))) := by
  refine CallC.body (fun _ => none) (fun _ => 0) Try.func16 rfl Try.results16 Try.ntmps16 ?_
  intro n0 hn0
  simp only [go_sem]
  refine WE_pure _ _ _ _ _ _ _ _ (both_c h k andW _ and1_c (by kernel_rfl) hl hl2 _) ?_
  simp only [go_sem]
  refine FnPost_end hn0 (by simp) rfl (by simp only [only_tup, List.mem_cons, List.not_mem_nil, or_false, forall_eq_or_imp, forall_eq, only_any, only_lit', only_full, only_no, only_iptr, only_agg, and_self, and_true, true_and, implies_true, or_false]) ?_
  simp only [go_sem]
  exact leA_refl _
theorem minus_c {ws vs : List W64} {s t : AV} (h : AnyS ws s) (k : AnyS vs t) (hl : ws.length ≤ 1024) (hl2 : vs.length ≤ 1024) (g : GH) : PureC Try.prog 34 [s, t] g (SI (trimW (opW minW ws vs))) := by
  refine CallC.body (fun _ => none) (fun _ => 0) Try.func34 rfl Try.results34 Try.ntmps34 ?_
  intro n0 hn0
  simp only [go_sem]
  refine WE_pure _ _ _ _ _ _ _ _ (both_c h k minW _ min1_c (by kernel_rfl) hl hl2 _) ?_
  simp only [go_sem]
  refine FnPost_end hn0 (by simp) rfl (by simp only [only_tup, List.mem_cons, List.not_mem_nil, or_false, forall_eq_or_imp, forall_eq, only_any, only_lit', only_full, only_no, only_iptr, only_agg, and_self, and_true, true_and, implies_true, or_false]) ?_
  simp only [go_sem]
  exact leA_refl _
theorem Minus_c {ws vs : List W64} {s t : AV} (h : AnyS ws s) (k : AnyS vs t) (hl : ws.length ≤ 1024) (hl2 : vs.length ≤ 1024) (g : GH) : PureC Try.prog 17 [s, t] g (SI (trimW (opW minW ws vs))) := by
  refine CallC.body (fun _ => none) (fun _ => 0) Try.func17 rfl Try.results17 Try.ntmps17 ?_
  intro n0 hn0
  simp only [go_sem]
  refine WE_pure _ _ _ _ _ _ _ _ (minus_c h k hl hl2 _) ?_
  simp only [go_sem]
  refine FnPost_end hn0 (by simp) rfl (by simp only [only_tup, List.mem_cons, List.not_mem_nil, or_false, forall_eq_or_imp, forall_eq, only_any, only_lit', only_full, only_no, only_iptr, only_agg, and_self, and_true, true_and, implies_true, or_false]) ?_
  simp only [go_sem]
  exact leA_refl _
theorem within_c {ws vs : List W64} {s t : AV} (h : AnyS ws s) (k : AnyS vs t) (hl : ws.length ≤ 1024) (hl2 : vs.length ≤ 1024) (g : GH) : PureC Try.prog 18 [s, t] g (BB (decide (trimW (opW minW ws vs) = []))) := by
  refine CallC.body (fun _ => none) (fun _ => 0) Try.func18 rfl Try.results18 Try.ntmps18 ?_
  intro n0 hn0
  simp only [go_sem]
  refine WE_pure _ _ _ _ _ _ _ _ (minus_c h k hl hl2 _) ?_
  simp only [go_sem, List.length_map]
  refine FnPost_end hn0 (by simp) rfl (only_lit _ _) ?_
  simp only [go_sem]
  refine leA_bool ?_
  rw [decide_eq_decide, ← List.length_eq_zero_iff]
  omega
def samW (ws vs : List W64) (i : Nat) : Prop := ∀ j, j < i → ws.getD j 0#64 = vs.getD j 0#64
theorem NB_inj (x y : W64) : (NB x = NB y) = (x = y) := by
  refine propext ⟨fun h => ?_, fun h => by rw [h]⟩
  have := congrArg (BitVec.ofInt 64) h
  rwa [NB_ofInt, NB_ofInt] at this
theorem samW_all {ws vs : List W64} (hl : ws.length = vs.length) (h : samW ws vs ws.length) : ws = vs := by
  apply List.ext_getElem hl
  intro i h1 h2
  have := h i h1
  rw [List.getD_eq_getElem?_getD, List.getD_eq_getElem?_getD] at this
  simpa [h1, h2] using this
theorem equal_c (ws vs : List W64) (hl : ws.length ≤ 1024) (hl2 : vs.length ≤ 1024) (t1 t2 : Tk) (g : GH) : PureC Try.prog 35 [.isl none (Wl ws) .no, .isl none (Wl vs) .no] g (BB (decide (ws = vs))) := by
  refine CallC.body (fun _ => none) (fun _ => 0) Try.func35 rfl Try.results35 Try.ntmps35 ?_
  intro n0 hn0
  simp only [go_sem]
  simp only [go_sem, List.length_map]
  split
  · rename_i hne
    refine FnPost_end hn0 (by simp) rfl (only_lit _ _) ?_
    simp only [go_sem]
    refine leA_bool ?_
    rw [eq_comm, decide_eq_false_iff_not]
    rintro rfl; exact hne rfl
  · rename_i heq
    have heq : ws.length = vs.length := by omega
    refine WC_loop (fun i : Nat => [.isl none (Wl ws) .no, .isl none (Wl vs) .no, .any, .any, .any, .any, .any, .any, .any, .any, .any, .any, I64 ws.length, I64 i, .any, .any, .any, .any, .any, .any, .any, .any, .any, .any, .any, .any]) (fun i => ⟨g, []⟩) (fun i => i ≤ ws.length ∧ samW ws vs i) (fun i => ws.length - i) 0 ⟨by simp, fun j hj => by omega⟩ ?_ ?_
    · refine imp_loc (by ((try simp only [cells_agg, cells_lit, leL_cons, leL_nil, leA_any, leA_lits, leA_isl, leA_self, and_self, true_and, and_true, or_true, true_or, Value.int.injEq, Value.bool.injEq, Value.string.injEq, AV.lit.injEq, Option.some.injEq, Blk.cells.injEq, Blk.tok.injEq, List.cons.injEq, Tk.at.injEq, subL_nil, subL_cons, look_nil, look_cons, ↓reduceIte, Nat.reduceEqDiff, Option.isSome_some, reduceCtorEq, or_false, false_or, if_true, if_false]); (try first | done | omega | (simp; done) | (simp; omega)))) (by ((try simp only [cells_agg, cells_lit, leL_cons, leL_nil, leA_any, leA_lits, leA_isl, leA_self, and_self, true_and, and_true, or_true, true_or, Value.int.injEq, Value.bool.injEq, Value.string.injEq, AV.lit.injEq, Option.some.injEq, Blk.cells.injEq, Blk.tok.injEq, List.cons.injEq, Tk.at.injEq, subL_nil, subL_cons, look_nil, look_cons, ↓reduceIte, Nat.reduceEqDiff, Option.isSome_some, reduceCtorEq, or_false, false_or, if_true, if_false]); (try first | done | omega | (simp; done) | (simp; omega)))) (by ((try simp only [cells_agg, cells_lit, List.mem_cons, List.not_mem_nil, or_false, forall_eq_or_imp, forall_eq, only_any, only_lit', only_iptr, only_no, only_full, only_at, only_ptr, only_osl, only_agg, only_tup, only_fn, and_self, implies_true, and_true, true_and, okL_nil, okL_cons, bonly_cells, bonly_tok, keepP_add, look_nil, look_cons, ↓reduceIte, Nat.reduceEqDiff, Option.isSome_some, reduceCtorEq, false_or, if_true, if_false, false_implies]); (try first | done | omega | ((repeat' refine And.intro ?_ ?_) <;> (intro _ hx; obtain ⟨_, -, rfl⟩ := List.mem_map.1 hx; exact .lit _))))) (by ((try simp only [cells_agg, cells_lit, List.mem_cons, List.not_mem_nil, or_false, forall_eq_or_imp, forall_eq, only_any, only_lit', only_iptr, only_no, only_full, only_at, only_ptr, only_osl, only_agg, only_tup, only_fn, and_self, implies_true, and_true, true_and, okL_nil, okL_cons, bonly_cells, bonly_tok, keepP_add, look_nil, look_cons, ↓reduceIte, Nat.reduceEqDiff, Option.isSome_some, reduceCtorEq, false_or, if_true, if_false, false_implies]); (try first | done | omega | ((repeat' refine And.intro ?_ ?_) <;> (intro _ hx; obtain ⟨_, -, rfl⟩ := List.mem_map.1 hx; exact .lit _)))))
    · rintro i ⟨hi, hi2⟩
      simp only [go_sem]
      split
      · rename_i hlt
        have hlt : i < ws.length := by omega
        have e1 : IntKind.i64.wrap ((i : Int) + 1) = ((i + 1 : Nat) : Int) := by rw [wrap_i64]; omega
        refine WC_draw Ty.mixed (by kernel_rfl) ?_
        simp only [go_sem, List.length_map, Wl_get ws i hlt, Wl_get vs i (by omega)]
        (repeat (refine ⟨by omega, ?_⟩))
        split
        · rename_i hne
          rw [NB_inj] at hne
          refine FnPost_end hn0 (by simp) rfl (only_lit _ _) ?_
          simp only [go_sem]
          refine leA_bool ?_
          rw [eq_comm, decide_eq_false_iff_not]
          rintro rfl; exact hne rfl
        · rename_i hne
          rw [NB_inj, Classical.not_not] at hne
          refine LP_next (i + 1) ⟨by omega, fun j hj => by
            by_cases e : j = i
            · rw [e]; exact hne
            · exact hi2 j (by omega)⟩ (by omega) ?_
          rw [e1]
          refine imp_loc (by ((try simp only [cells_agg, cells_lit, leL_cons, leL_nil, leA_any, leA_lits, leA_isl, leA_self, and_self, true_and, and_true, or_true, true_or, Value.int.injEq, Value.bool.injEq, Value.string.injEq, AV.lit.injEq, Option.some.injEq, Blk.cells.injEq, Blk.tok.injEq, List.cons.injEq, Tk.at.injEq, subL_nil, subL_cons, look_nil, look_cons, ↓reduceIte, Nat.reduceEqDiff, Option.isSome_some, reduceCtorEq, or_false, false_or, if_true, if_false]); (try first | done | omega | (simp; done) | (simp; omega)))) (by ((try simp only [cells_agg, cells_lit, leL_cons, leL_nil, leA_any, leA_lits, leA_isl, leA_self, and_self, true_and, and_true, or_true, true_or, Value.int.injEq, Value.bool.injEq, Value.string.injEq, AV.lit.injEq, Option.some.injEq, Blk.cells.injEq, Blk.tok.injEq, List.cons.injEq, Tk.at.injEq, subL_nil, subL_cons, look_nil, look_cons, ↓reduceIte, Nat.reduceEqDiff, Option.isSome_some, reduceCtorEq, or_false, false_or, if_true, if_false]); (try first | done | omega | (simp; done) | (simp; omega)))) (by ((try simp only [cells_agg, cells_lit, List.mem_cons, List.not_mem_nil, or_false, forall_eq_or_imp, forall_eq, only_any, only_lit', only_iptr, only_no, only_full, only_at, only_ptr, only_osl, only_agg, only_tup, only_fn, and_self, implies_true, and_true, true_and, okL_nil, okL_cons, bonly_cells, bonly_tok, keepP_add, look_nil, look_cons, ↓reduceIte, Nat.reduceEqDiff, Option.isSome_some, reduceCtorEq, false_or, if_true, if_false, false_implies]); (try first | done | omega | ((repeat' refine And.intro ?_ ?_) <;> (intro _ hx; obtain ⟨_, -, rfl⟩ := List.mem_map.1 hx; exact .lit _))))) (by ((try simp only [cells_agg, cells_lit, List.mem_cons, List.not_mem_nil, or_false, forall_eq_or_imp, forall_eq, only_any, only_lit', only_iptr, only_no, only_full, only_at, only_ptr, only_osl, only_agg, only_tup, only_fn, and_self, implies_true, and_true, true_and, okL_nil, okL_cons, bonly_cells, bonly_tok, keepP_add, look_nil, look_cons, ↓reduceIte, Nat.reduceEqDiff, Option.isSome_some, reduceCtorEq, false_or, if_true, if_false, false_implies]); (try first | done | omega | ((repeat' refine And.intro ?_ ?_) <;> (intro _ hx; obtain ⟨_, -, rfl⟩ := List.mem_map.1 hx; exact .lit _)))))
      · have : i = ws.length := by omega
        subst this
        refine FnPost_end hn0 (by simp) rfl (only_lit _ _) ?_
        simp only [go_sem]
        refine leA_bool ?_
        rw [eq_comm, decide_eq_true_eq]
        exact samW_all heq hi2
theorem Same_c {ws vs : List W64} {s t : AV} (h : AnyS ws s) (k : AnyS vs t) (hl : ws.length ≤ 1024) (hl2 : vs.length ≤ 1024) (g : GH) : PureC Try.prog 20 [s, t] g (BB (decide (ws = vs))) := by
  refine CallC.body (fun _ => none) (fun _ => 0) Try.func20 rfl Try.results20 Try.ntmps20 ?_
  intro n0 hn0
  simp only [go_sem]
  refine WE_pure _ _ _ _ _ _ _ _ (wordsA_c h _) ?_
  simp only [go_sem]
  refine WE_pure _ _ _ _ _ _ _ _ (wordsA_c k _) ?_
  simp only [go_sem]
  refine WE_pure _ _ _ _ _ _ _ _ (equal_c ws vs hl hl2 .no .no _) ?_
  simp only [go_sem]
  refine FnPost_end hn0 (by simp) rfl (only_lit _ _) ?_
  simp only [go_sem]
  exact leA_refl _
def metW (ws vs : List W64) : Nat → Bool
  | 0 => false
  | i + 1 => metW ws vs i || decide (¬ ws.getD i 0#64 &&& vs.getD i 0#64 = 0#64)
theorem meets_c {ws vs : List W64} {s t : AV} (h : AnyS ws s) (k : AnyS vs t) (hl : ws.length ≤ 1024) (hl2 : vs.length ≤ 1024) (g : GH) : PureC Try.prog 19 [s, t] g (BB (metW ws vs (min ws.length vs.length))) := by
  refine CallC.body (fun _ => none) (fun _ => 0) Try.func19 rfl Try.results19 Try.ntmps19 ?_
  intro n0 hn0
  simp only [go_sem]
  refine WE_pure _ _ _ _ _ _ _ _ (wordsA_c h _) ?_
  simp only [go_sem]
  refine WE_pure _ _ _ _ _ _ _ _ (wordsA_c k _) ?_
  simp only [go_sem, List.length_map]
  have eK : imn (ws.length : Int) (vs.length : Int) = ((min ws.length vs.length : Nat) : Int) := by unfold imn; split <;> omega
  have eM : (if ws.length ≤ vs.length then ws.length else vs.length) = min ws.length vs.length := by split <;> omega
  rw [eK, eM]
  have hK : min ws.length vs.length ≤ ws.length ∧ min ws.length vs.length ≤ vs.length := by omega
  generalize min ws.length vs.length = K at *
  refine WC_loop (fun i : Nat => [.any, .any, .any, .any, .any, .isl none (Wl ws) .no, .isl none (Wl vs) .no, .any, .any, .any, .any, .any, .any, .any, .any, .any, I64 K, I64 i, .any, .any, .any, .any, .any, .any, .any, .any, .any, .any, .any, .any, .any]) (fun i => ⟨g, []⟩) (fun i => i ≤ K ∧ metW ws vs i = false) (fun i => K - i) 0 ⟨by simp, rfl⟩ ?_ ?_
  · refine imp_loc (by ((try simp only [cells_agg, cells_lit, leL_cons, leL_nil, leA_any, leA_lits, leA_isl, leA_self, and_self, true_and, and_true, or_true, true_or, Value.int.injEq, Value.bool.injEq, Value.string.injEq, AV.lit.injEq, Option.some.injEq, Blk.cells.injEq, Blk.tok.injEq, List.cons.injEq, Tk.at.injEq, subL_nil, subL_cons, look_nil, look_cons, ↓reduceIte, Nat.reduceEqDiff, Option.isSome_some, reduceCtorEq, or_false, false_or, if_true, if_false]); (try first | done | omega | (simp; done) | (simp; omega)))) (by ((try simp only [cells_agg, cells_lit, leL_cons, leL_nil, leA_any, leA_lits, leA_isl, leA_self, and_self, true_and, and_true, or_true, true_or, Value.int.injEq, Value.bool.injEq, Value.string.injEq, AV.lit.injEq, Option.some.injEq, Blk.cells.injEq, Blk.tok.injEq, List.cons.injEq, Tk.at.injEq, subL_nil, subL_cons, look_nil, look_cons, ↓reduceIte, Nat.reduceEqDiff, Option.isSome_some, reduceCtorEq, or_false, false_or, if_true, if_false]); (try first | done | omega | (simp; done) | (simp; omega)))) (by ((try simp only [cells_agg, cells_lit, List.mem_cons, List.not_mem_nil, or_false, forall_eq_or_imp, forall_eq, only_any, only_lit', only_iptr, only_no, only_full, only_at, only_ptr, only_osl, only_agg, only_tup, only_fn, and_self, implies_true, and_true, true_and, okL_nil, okL_cons, bonly_cells, bonly_tok, keepP_add, look_nil, look_cons, ↓reduceIte, Nat.reduceEqDiff, Option.isSome_some, reduceCtorEq, false_or, if_true, if_false, false_implies]); (try first | done | omega | ((repeat' refine And.intro ?_ ?_) <;> (intro _ hx; obtain ⟨_, -, rfl⟩ := List.mem_map.1 hx; exact .lit _))))) (by ((try simp only [cells_agg, cells_lit, List.mem_cons, List.not_mem_nil, or_false, forall_eq_or_imp, forall_eq, only_any, only_lit', only_iptr, only_no, only_full, only_at, only_ptr, only_osl, only_agg, only_tup, only_fn, and_self, implies_true, and_true, true_and, okL_nil, okL_cons, bonly_cells, bonly_tok, keepP_add, look_nil, look_cons, ↓reduceIte, Nat.reduceEqDiff, Option.isSome_some, reduceCtorEq, false_or, if_true, if_false, false_implies]); (try first | done | omega | ((repeat' refine And.intro ?_ ?_) <;> (intro _ hx; obtain ⟨_, -, rfl⟩ := List.mem_map.1 hx; exact .lit _)))))
  · rintro i ⟨hi, hi2⟩
    simp only [go_sem]
    split
    · rename_i hlt
      have hlt : i < K := by omega
      have e1 : IntKind.i64.wrap ((i : Int) + 1) = ((i + 1 : Nat) : Int) := by rw [wrap_i64]; omega
      refine WC_draw Ty.mixed (by kernel_rfl) ?_
      simp only [go_sem, List.length_map, Wl_get ws i (by omega), Wl_get vs i (by omega), andI_NB]
      (repeat (refine ⟨by omega, ?_⟩))
      split
      · rename_i hne
        rw [NB_eq_zero] at hne
        refine FnPost_end hn0 (by simp) rfl (only_lit _ _) ?_
        simp only [go_sem]
        refine leA_bool ?_
        have h1 : metW ws vs (i + 1) = true := by rw [metW, decide_eq_true hne, Bool.or_true]
        have h2 : ∀ m, i + 1 ≤ m → metW ws vs m = true := by
          intro m hm
          induction m with
          | zero => omega
          | succ m ih =>
            by_cases e : m = i
            · subst e; exact h1
            · rw [metW, ih (by omega), Bool.true_or]
        exact (h2 K (by omega)).symm
      · rename_i hne
        rw [NB_eq_zero] at hne
        refine LP_next (i + 1) ⟨by omega, by rw [metW, hi2, decide_eq_false hne]; rfl⟩ (by omega) ?_
        rw [e1]
        refine imp_loc (by ((try simp only [cells_agg, cells_lit, leL_cons, leL_nil, leA_any, leA_lits, leA_isl, leA_self, and_self, true_and, and_true, or_true, true_or, Value.int.injEq, Value.bool.injEq, Value.string.injEq, AV.lit.injEq, Option.some.injEq, Blk.cells.injEq, Blk.tok.injEq, List.cons.injEq, Tk.at.injEq, subL_nil, subL_cons, look_nil, look_cons, ↓reduceIte, Nat.reduceEqDiff, Option.isSome_some, reduceCtorEq, or_false, false_or, if_true, if_false]); (try first | done | omega | (simp; done) | (simp; omega)))) (by ((try simp only [cells_agg, cells_lit, leL_cons, leL_nil, leA_any, leA_lits, leA_isl, leA_self, and_self, true_and, and_true, or_true, true_or, Value.int.injEq, Value.bool.injEq, Value.string.injEq, AV.lit.injEq, Option.some.injEq, Blk.cells.injEq, Blk.tok.injEq, List.cons.injEq, Tk.at.injEq, subL_nil, subL_cons, look_nil, look_cons, ↓reduceIte, Nat.reduceEqDiff, Option.isSome_some, reduceCtorEq, or_false, false_or, if_true, if_false]); (try first | done | omega | (simp; done) | (simp; omega)))) (by ((try simp only [cells_agg, cells_lit, List.mem_cons, List.not_mem_nil, or_false, forall_eq_or_imp, forall_eq, only_any, only_lit', only_iptr, only_no, only_full, only_at, only_ptr, only_osl, only_agg, only_tup, only_fn, and_self, implies_true, and_true, true_and, okL_nil, okL_cons, bonly_cells, bonly_tok, keepP_add, look_nil, look_cons, ↓reduceIte, Nat.reduceEqDiff, Option.isSome_some, reduceCtorEq, false_or, if_true, if_false, false_implies]); (try first | done | omega | ((repeat' refine And.intro ?_ ?_) <;> (intro _ hx; obtain ⟨_, -, rfl⟩ := List.mem_map.1 hx; exact .lit _))))) (by ((try simp only [cells_agg, cells_lit, List.mem_cons, List.not_mem_nil, or_false, forall_eq_or_imp, forall_eq, only_any, only_lit', only_iptr, only_no, only_full, only_at, only_ptr, only_osl, only_agg, only_tup, only_fn, and_self, implies_true, and_true, true_and, okL_nil, okL_cons, bonly_cells, bonly_tok, keepP_add, look_nil, look_cons, ↓reduceIte, Nat.reduceEqDiff, Option.isSome_some, reduceCtorEq, false_or, if_true, if_false, false_implies]); (try first | done | omega | ((repeat' refine And.intro ?_ ?_) <;> (intro _ hx; obtain ⟨_, -, rfl⟩ := List.mem_map.1 hx; exact .lit _)))))
    · have : i = K := by omega
      subst this
      refine FnPost_end hn0 (by simp) rfl (only_lit _ _) ?_
      simp only [go_sem]
      exact leA_bool hi2.symm
theorem metW_iff (ws vs : List W64) : ∀ K, metW ws vs K = true ↔ ∃ i, i < K ∧ ws.getD i 0#64 &&& vs.getD i 0#64 ≠ 0#64
  | 0 => by simp [metW]
  | K + 1 => by
    rw [metW, Bool.or_eq_true, metW_iff ws vs K, decide_eq_true_eq]
    constructor
    · rintro (⟨i, h1, h2⟩ | h)
      · exact ⟨i, by omega, h2⟩
      · exact ⟨K, by omega, h⟩
    · rintro ⟨i, h1, h2⟩
      by_cases e : i = K
      · subst e; exact .inr h2
      · exact .inl ⟨i, by omega, h2⟩
theorem clone_c (nl : Bool) (ws : List W64) (hl : ws.length ≤ 1024) (tok : Tk) (hn : nl = true → ws = []) (g : GH) : PureC Try.prog 30 [.isl (some nl) (Wl ws) tok] g (.isl none (Wl ws) .no) := by
  refine CallC.body (fun _ => none) (fun _ => 0) Try.func30 rfl Try.results30 Try.ntmps30 ?_
  intro n0 hn0
  simp only [go_sem]
  cases nl with
  | true =>
    rw [hn rfl]
    simp only [go_sem]
    refine FnPost_end hn0 (by simp) rfl (by simp only [only_tup, List.mem_cons, List.not_mem_nil, or_false, forall_eq_or_imp, forall_eq, only_any, only_lit', only_full, only_no, only_iptr, only_agg, and_self, and_true, true_and, implies_true, or_false]) ?_
    simp only [go_sem]
    exact ⟨.inl rfl, rfl, .inl rfl⟩
  | false =>
    simp only [go_sem, List.length_map, elsOk_Wl]
    (repeat (refine ⟨by omega, ?_⟩))
    refine FnPost_end hn0 (by simp) rfl (by simp only [only_tup, List.mem_cons, List.not_mem_nil, or_false, forall_eq_or_imp, forall_eq, only_any, only_lit', only_full, only_no, only_iptr, only_agg, and_self, and_true, true_and, implies_true, or_false]) ?_
    simp only [go_sem]
    exact ⟨.inl rfl, rfl, .inl rfl⟩
theorem cloneN_c (ws : List W64) (hl : ws.length ≤ 1024) (tok : Tk) (g : GH) : PureC Try.prog 30 [.isl none (Wl ws) tok] g (.isl none (Wl ws) .no) :=
  fun n => CallAt.split_nl (pre := []) (post := []) (fun h => clone_c true ws hl tok (fun _ => List.map_eq_nil_iff.1 h) g n) (clone_c false ws hl tok (fun h => by cases h) g n)
theorem Words_c {ws : List W64} {s : AV} (h : AnyS ws s) (hl : ws.length ≤ 1024) (g : GH) : PureC Try.prog 21 [s] g (.isl none (Wl ws) .no) := by
  refine CallC.body (fun _ => none) (fun _ => 0) Try.func21 rfl Try.results21 Try.ntmps21 ?_
  intro n0 hn0
  simp only [go_sem]
  refine WE_pure _ _ _ _ _ _ _ _ (wordsA_c h _) ?_
  simp only [go_sem]
  refine WE_pure _ _ _ _ _ _ _ _ (cloneN_c ws hl _ _) ?_
  simp only [go_sem]
  refine FnPost_end hn0 (by simp) rfl (by simp only [only_tup, List.mem_cons, List.not_mem_nil, or_false, forall_eq_or_imp, forall_eq, only_any, only_lit', only_full, only_no, only_iptr, only_agg, and_self, and_true, true_and, implies_true, or_false]) ?_
  simp only [go_sem]
  exact leA_refl _
end Go.Proofs.Ytmnjmeebadpgjab.Set
