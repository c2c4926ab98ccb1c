import Derived.Test.YtmnjmeebadpgjaaBitsWide
import Derived.Test.YtmnjmeebadpgjaaNumC
namespace Go.Proofs.Ytmnjmeebadpgjaa.Bits
open Go Go.Av
set_option linter.unusedSimpArgs false
set_option linter.unusedVariables false
theorem andN (a b : Nat) (ha : a < 18446744073709551616) (hb : b < 18446744073709551616) : andI .u64 (a : Int) (b : Int) = ((a &&& b : Nat) : Int) := by
  show IntKind.u64.wrap ((BitVec.ofInt 64 (a : Int) &&& BitVec.ofInt 64 (b : Int)).toNat : Int) = _
  have h : a &&& b ≤ b := Nat.and_le_right
  rw [BitVec.toNat_and, BitVec.toNat_ofInt, BitVec.toNat_ofInt, wrap_u64, show ((a : Int) % ((2 ^ 64 : Nat) : Int)).toNat = a by omega, show ((b : Int) % ((2 ^ 64 : Nat) : Int)).toNat = b by omega]
  omega
theorem and127 (a : Nat) (ha : a < 9223372036854775808) : andI .i64 (a : Int) 127 = ((a % 128 : Nat) : Int) := by
  show IntKind.i64.wrap ((BitVec.ofInt 64 (a : Int) &&& BitVec.ofInt 64 (127 : Int)).toNat : Int) = _
  rw [BitVec.toNat_and, BitVec.toNat_ofInt, show (BitVec.ofInt 64 127).toNat = 2 ^ 7 - 1 from rfl, Nat.and_two_pow_sub_one_eq_mod, show ((a : Int) % ((2 ^ 64 : Nat) : Int)).toNat = a by omega, wrap_i64]
  omega
theorem ones_c (u : Int) (h0 : 0 ≤ u) (h1 : u < 18446744073709551616) (g : GH) : PureC Try.prog 90 [U64 u] g (I64 (pcK 64 u.toNat)) := by
  rw [← ones_pc u.toNat (by omega)]
  obtain ⟨n, rfl⟩ := Int.eq_ofNat_of_zero_le h0
  refine CallC.body (fun _ => none) (fun _ => 0) Try.func90 rfl Try.results90 Try.ntmps90 ?_
  intro n0 hn0
  simp only [go_sem]
  refine FnPost_end hn0 (by simp) rfl (only_lit _ _) ?_
  simp only [go_sem]
  refine leA_int ?_
  try rw [Int.toNat_natCast]
  have b1 : n &&& 6148914691236517205 ≤ 6148914691236517205 := Nat.and_le_right
  have b2 : n / 2 &&& 6148914691236517205 ≤ 6148914691236517205 := Nat.and_le_right
  have c1 : andI .u64 (n : Int) 6148914691236517205 = _ := andN n 6148914691236517205 (by omega) (by omega)
  have c2 : andI .u64 ((n : Int) / 2) 6148914691236517205 = _ := andN (n / 2) 6148914691236517205 (by omega) (by omega)
  rw [c1, c2]
  unfold ones64
  simp only
  generalize (n / 2 &&& 6148914691236517205) = p at *
  generalize (n &&& 6148914691236517205) = q at *
  have d1 : IntKind.u64.wrap ((p : Int) + (q : Int)) = ((p + q : Nat) : Int) := by rw [wrap_u64]; omega
  rw [d1]
  have hx : p + q < 18446744073709551616 := by omega
  generalize p + q = x at *
  clear c1 c2 d1 b1 b2
  have b1 : x &&& 3689348814741910323 ≤ 3689348814741910323 := Nat.and_le_right
  have b2 : x / 4 &&& 3689348814741910323 ≤ 3689348814741910323 := Nat.and_le_right
  have c1 : andI .u64 (x : Int) 3689348814741910323 = _ := andN x 3689348814741910323 (by omega) (by omega)
  have c2 : andI .u64 ((x : Int) / 4) 3689348814741910323 = _ := andN (x / 4) 3689348814741910323 (by omega) (by omega)
  rw [c1, c2]
  generalize (x / 4 &&& 3689348814741910323) = p at *
  generalize (x &&& 3689348814741910323) = q at *
  have d1 : IntKind.u64.wrap ((p : Int) + (q : Int)) = ((p + q : Nat) : Int) := by rw [wrap_u64]; omega
  rw [d1]
  have hx : p + q ≤ 7378697629483820646 := by omega
  generalize p + q = x at *
  clear c1 c2 d1 b1 b2
  have d1 : IntKind.u64.wrap ((x : Int) / 16 + (x : Int)) = ((x / 16 + x : Nat) : Int) := by rw [wrap_u64]; omega
  have b1 : (x / 16 + x) &&& 1085102592571150095 ≤ 1085102592571150095 := Nat.and_le_right
  have c1 : andI .u64 ((x / 16 + x : Nat) : Int) 1085102592571150095 = _ := andN (x / 16 + x) 1085102592571150095 (by omega) (by omega)
  rw [d1, c1]
  unfold fold8
  simp only
  generalize (x / 16 + x) &&& 1085102592571150095 = x at *
  clear d1 c1
  have d1 : IntKind.u64.wrap ((x : Int) + (x : Int) / 256) = ((x + x / 256 : Nat) : Int) := by rw [wrap_u64]; omega
  rw [d1]
  have b2 : x + x / 256 ≤ 2000000000000000000 := by omega
  generalize x + x / 256 = y at *
  have d2 : IntKind.u64.wrap ((y : Int) + (y : Int) / 65536) = ((y + y / 65536 : Nat) : Int) := by rw [wrap_u64]; omega
  rw [d2]
  have b3 : y + y / 65536 ≤ 3000000000000000000 := by omega
  generalize y + y / 65536 = z at *
  have d3 : IntKind.u64.wrap ((z : Int) + (z : Int) / 4294967296) = ((z + z / 4294967296 : Nat) : Int) := by rw [wrap_u64]; omega
  have d4 : IntKind.i64.wrap ((z + z / 4294967296 : Nat) : Int) = ((z + z / 4294967296 : Nat) : Int) := by rw [wrap_i64]; omega
  rw [d3, d4]
  exact and127 _ (by omega)
theorem count_c (u : Int) (h0 : 0 ≤ u) (h1 : u < 18446744073709551616) (g : GH) : PureC Try.prog 34 [U64 u] g (I64 (pcK 64 u.toNat)) := by
  refine CallC.body (fun _ => none) (fun _ => 0) Try.func34 rfl Try.results34 Try.ntmps34 ?_
  intro n0 hn0
  simp only [go_sem]
  refine WE_pure _ _ _ _ _ _ _ _ (ones_c u h0 h1 _) ?_
  simp only [go_sem]
  refine FnPost_end hn0 (by simp) rfl (only_lit _ _) ?_
  simp only [go_sem]
  exact leA_refl _
theorem pcK_ne (m v : Nat) (hv : v < 2 ^ m) (h : 0 < v) : ∃ m', m = m' + 1 ∧ v / 2 < 2 ^ m' := by
  cases m with
  | zero => simp at hv; omega
  | succ m => exact ⟨m, rfl, by rw [Nat.pow_succ] at hv; omega⟩
theorem pcK_succ (m v : Nat) : pcK (m + 1) v = v % 2 + pcK m (v / 2) := rfl
theorem blK_succ (m v : Nat) (h : 0 < v) : blK (m + 1) v = 1 + blK m (v / 2) := by rw [blK, if_neg (by omega)]
theorem rCount_c (u : Int) (h0 : 0 ≤ u) (h1 : u < 18446744073709551616) (g : GH) : PureC Try.prog 35 [U64 u] g (I64 (pcK 64 u.toNat)) := by
  obtain ⟨n, rfl⟩ := Int.eq_ofNat_of_zero_le h0
  try rw [Int.toNat_natCast]
  refine CallC.body (fun _ => none) (fun _ => 0) Try.func35 rfl Try.results35 Try.ntmps35 ?_
  intro n0 hn0
  simp only [go_sem]
  refine WC_loop (fun s : Nat × Nat × Nat => [U64 s.1, .any, .any, I64 s.2.1, .any, .any, .any, .any, .any, .any, .any, .any, .any, .any]) (fun _ => ⟨g, []⟩) (fun s => pcK 64 n = s.2.1 + pcK s.2.2 s.1 ∧ s.1 < 2 ^ s.2.2 ∧ s.1 ≤ n) (fun s => s.2.2) (n, 0, 64) ⟨by simp, by simp only; omega, Nat.le_refl _⟩ ?_ ?_
  · refine imp_loc (by ((try simp only [cells_agg, cells_lit, leL_cons, leL_nil, leA_any, leA_lits, leA_isl, leA_self, and_self, true_and, and_true, or_true, true_or, Value.int.injEq, Value.bool.injEq, Value.string.injEq, AV.lit.injEq, Option.some.injEq, Blk.cells.injEq, Blk.tok.injEq, List.cons.injEq, Tk.at.injEq, subL_nil, subL_cons, look_nil, look_cons, ↓reduceIte, Nat.reduceEqDiff, Option.isSome_some, reduceCtorEq, or_false, false_or, if_true, if_false]); (try first | done | omega | (simp; done) | (simp; omega)))) (by ((try simp only [cells_agg, cells_lit, leL_cons, leL_nil, leA_any, leA_lits, leA_isl, leA_self, and_self, true_and, and_true, or_true, true_or, Value.int.injEq, Value.bool.injEq, Value.string.injEq, AV.lit.injEq, Option.some.injEq, Blk.cells.injEq, Blk.tok.injEq, List.cons.injEq, Tk.at.injEq, subL_nil, subL_cons, look_nil, look_cons, ↓reduceIte, Nat.reduceEqDiff, Option.isSome_some, reduceCtorEq, or_false, false_or, if_true, if_false]); (try first | done | omega | (simp; done) | (simp; omega)))) (by ((try simp only [cells_agg, cells_lit, List.mem_cons, List.not_mem_nil, or_false, forall_eq_or_imp, forall_eq, only_any, only_lit', only_iptr, only_no, only_full, only_at, only_ptr, only_osl, only_agg, only_tup, only_fn, and_self, implies_true, and_true, true_and, okL_nil, okL_cons, bonly_cells, bonly_tok, keepP_add, look_nil, look_cons, ↓reduceIte, Nat.reduceEqDiff, Option.isSome_some, reduceCtorEq, false_or, if_true, if_false, false_implies]); (try first | done | omega | (intro _ hx; obtain ⟨_, -, rfl⟩ := List.mem_map.1 hx; exact .lit _)))) (by ((try simp only [cells_agg, cells_lit, List.mem_cons, List.not_mem_nil, or_false, forall_eq_or_imp, forall_eq, only_any, only_lit', only_iptr, only_no, only_full, only_at, only_ptr, only_osl, only_agg, only_tup, only_fn, and_self, implies_true, and_true, true_and, okL_nil, okL_cons, bonly_cells, bonly_tok, keepP_add, look_nil, look_cons, ↓reduceIte, Nat.reduceEqDiff, Option.isSome_some, reduceCtorEq, false_or, if_true, if_false, false_implies]); (try first | done | omega | (intro _ hx; obtain ⟨_, -, rfl⟩ := List.mem_map.1 hx; exact .lit _))))
  · rintro ⟨v, c, m⟩ ⟨hp, hv, hn⟩
    simp only at hp hv hn
    have hc := pcK_le 64 n
    simp only [go_sem]
    split
    · rename_i hlt
      obtain ⟨m', rfl, hv'⟩ := pcK_ne m v hv (by omega)
      rw [pcK_succ m' v] at hp
      have e1 : IntKind.i64.wrap ((c : Int) + IntKind.i64.wrap ((v : Int).tmod 2)) = ((c + v % 2 : Nat) : Int) := by
        rw [Int.tmod_eq_emod_of_nonneg (by omega)]; simp only [wrap_i64]; omega
      have e2 : IntKind.u64.wrap ((v : Int).tdiv 2) = ((v / 2 : Nat) : Int) := by
        rw [Int.tdiv_eq_ediv_of_nonneg (by omega)]; simp only [wrap_u64]; omega
      refine LP_next (v / 2, c + v % 2, m') ⟨by simp only; omega, hv', by simp only; omega⟩ (by simp) ?_
      simp only
      rw [e1, e2]
      refine imp_loc (by ((try simp only [cells_agg, cells_lit, leL_cons, leL_nil, leA_any, leA_lits, leA_isl, leA_self, and_self, true_and, and_true, or_true, true_or, Value.int.injEq, Value.bool.injEq, Value.string.injEq, AV.lit.injEq, Option.some.injEq, Blk.cells.injEq, Blk.tok.injEq, List.cons.injEq, Tk.at.injEq, subL_nil, subL_cons, look_nil, look_cons, ↓reduceIte, Nat.reduceEqDiff, Option.isSome_some, reduceCtorEq, or_false, false_or, if_true, if_false]); (try first | done | omega | (simp; done) | (simp; omega)))) (by ((try simp only [cells_agg, cells_lit, leL_cons, leL_nil, leA_any, leA_lits, leA_isl, leA_self, and_self, true_and, and_true, or_true, true_or, Value.int.injEq, Value.bool.injEq, Value.string.injEq, AV.lit.injEq, Option.some.injEq, Blk.cells.injEq, Blk.tok.injEq, List.cons.injEq, Tk.at.injEq, subL_nil, subL_cons, look_nil, look_cons, ↓reduceIte, Nat.reduceEqDiff, Option.isSome_some, reduceCtorEq, or_false, false_or, if_true, if_false]); (try first | done | omega | (simp; done) | (simp; omega)))) (by ((try simp only [cells_agg, cells_lit, List.mem_cons, List.not_mem_nil, or_false, forall_eq_or_imp, forall_eq, only_any, only_lit', only_iptr, only_no, only_full, only_at, only_ptr, only_osl, only_agg, only_tup, only_fn, and_self, implies_true, and_true, true_and, okL_nil, okL_cons, bonly_cells, bonly_tok, keepP_add, look_nil, look_cons, ↓reduceIte, Nat.reduceEqDiff, Option.isSome_some, reduceCtorEq, false_or, if_true, if_false, false_implies]); (try first | done | omega | (intro _ hx; obtain ⟨_, -, rfl⟩ := List.mem_map.1 hx; exact .lit _)))) (by ((try simp only [cells_agg, cells_lit, List.mem_cons, List.not_mem_nil, or_false, forall_eq_or_imp, forall_eq, only_any, only_lit', only_iptr, only_no, only_full, only_at, only_ptr, only_osl, only_agg, only_tup, only_fn, and_self, implies_true, and_true, true_and, okL_nil, okL_cons, bonly_cells, bonly_tok, keepP_add, look_nil, look_cons, ↓reduceIte, Nat.reduceEqDiff, Option.isSome_some, reduceCtorEq, false_or, if_true, if_false, false_implies]); (try first | done | omega | (intro _ hx; obtain ⟨_, -, rfl⟩ := List.mem_map.1 hx; exact .lit _))))
    · rename_i hlt
      have : v = 0 := by omega
      subst this
      rw [pcK_zero, Nat.add_zero] at hp
      rw [hp]
      refine FnPost_end hn0 (by simp) rfl (only_lit _ _) ?_
      simp only [go_sem]
      exact leA_refl _
theorem rLog_c (u : Int) (h0 : 0 ≤ u) (h1 : u < 18446744073709551616) (g : GH) : PureC Try.prog 33 [U64 u] g (I64 (blK 64 u.toNat - 1)) := by
  obtain ⟨n, rfl⟩ := Int.eq_ofNat_of_zero_le h0
  try rw [Int.toNat_natCast]
  refine CallC.body (fun _ => none) (fun _ => 0) Try.func33 rfl Try.results33 Try.ntmps33 ?_
  intro n0 hn0
  simp only [go_sem]
  refine WC_loop (fun s : Nat × Nat × Nat => [U64 s.1, .any, .any, I64 ((s.2.1 : Int) - 1), .any, .any, .any, .any, .any, .any, .any]) (fun _ => ⟨g, []⟩) (fun s => blK 64 n = s.2.1 + blK s.2.2 s.1 ∧ s.1 < 2 ^ s.2.2 ∧ s.1 ≤ n) (fun s => s.2.2) (n, 0, 64) ⟨by simp, by simp only; omega, Nat.le_refl _⟩ ?_ ?_
  · refine imp_loc (by ((try simp only [cells_agg, cells_lit, leL_cons, leL_nil, leA_any, leA_lits, leA_isl, leA_self, and_self, true_and, and_true, or_true, true_or, Value.int.injEq, Value.bool.injEq, Value.string.injEq, AV.lit.injEq, Option.some.injEq, Blk.cells.injEq, Blk.tok.injEq, List.cons.injEq, Tk.at.injEq, subL_nil, subL_cons, look_nil, look_cons, ↓reduceIte, Nat.reduceEqDiff, Option.isSome_some, reduceCtorEq, or_false, false_or, if_true, if_false]); (try first | done | omega | (simp; done) | (simp; omega)))) (by ((try simp only [cells_agg, cells_lit, leL_cons, leL_nil, leA_any, leA_lits, leA_isl, leA_self, and_self, true_and, and_true, or_true, true_or, Value.int.injEq, Value.bool.injEq, Value.string.injEq, AV.lit.injEq, Option.some.injEq, Blk.cells.injEq, Blk.tok.injEq, List.cons.injEq, Tk.at.injEq, subL_nil, subL_cons, look_nil, look_cons, ↓reduceIte, Nat.reduceEqDiff, Option.isSome_some, reduceCtorEq, or_false, false_or, if_true, if_false]); (try first | done | omega | (simp; done) | (simp; omega)))) (by ((try simp only [cells_agg, cells_lit, List.mem_cons, List.not_mem_nil, or_false, forall_eq_or_imp, forall_eq, only_any, only_lit', only_iptr, only_no, only_full, only_at, only_ptr, only_osl, only_agg, only_tup, only_fn, and_self, implies_true, and_true, true_and, okL_nil, okL_cons, bonly_cells, bonly_tok, keepP_add, look_nil, look_cons, ↓reduceIte, Nat.reduceEqDiff, Option.isSome_some, reduceCtorEq, false_or, if_true, if_false, false_implies]); (try first | done | omega | (intro _ hx; obtain ⟨_, -, rfl⟩ := List.mem_map.1 hx; exact .lit _)))) (by ((try simp only [cells_agg, cells_lit, List.mem_cons, List.not_mem_nil, or_false, forall_eq_or_imp, forall_eq, only_any, only_lit', only_iptr, only_no, only_full, only_at, only_ptr, only_osl, only_agg, only_tup, only_fn, and_self, implies_true, and_true, true_and, okL_nil, okL_cons, bonly_cells, bonly_tok, keepP_add, look_nil, look_cons, ↓reduceIte, Nat.reduceEqDiff, Option.isSome_some, reduceCtorEq, false_or, if_true, if_false, false_implies]); (try first | done | omega | (intro _ hx; obtain ⟨_, -, rfl⟩ := List.mem_map.1 hx; exact .lit _))))
  · rintro ⟨v, c, m⟩ ⟨hp, hv, hn⟩
    simp only at hp hv hn
    have hc := blK_le 64 n
    simp only [go_sem]
    split
    · rename_i hlt
      obtain ⟨m', rfl, hv'⟩ := pcK_ne m v hv (by omega)
      rw [blK_succ m' v (by omega)] at hp
      have e1 : IntKind.i64.wrap ((c : Int) - 1 + 1) = ((c + 1 : Nat) : Int) - 1 := by simp only [wrap_i64]; omega
      have e2 : IntKind.u64.wrap ((v : Int).tdiv 2) = ((v / 2 : Nat) : Int) := by
        rw [Int.tdiv_eq_ediv_of_nonneg (by omega)]; simp only [wrap_u64]; omega
      refine LP_next (v / 2, c + 1, m') ⟨by simp only; omega, hv', by simp only; omega⟩ (by simp) ?_
      simp only
      rw [e1, e2]
      refine imp_loc (by ((try simp only [cells_agg, cells_lit, leL_cons, leL_nil, leA_any, leA_lits, leA_isl, leA_self, and_self, true_and, and_true, or_true, true_or, Value.int.injEq, Value.bool.injEq, Value.string.injEq, AV.lit.injEq, Option.some.injEq, Blk.cells.injEq, Blk.tok.injEq, List.cons.injEq, Tk.at.injEq, subL_nil, subL_cons, look_nil, look_cons, ↓reduceIte, Nat.reduceEqDiff, Option.isSome_some, reduceCtorEq, or_false, false_or, if_true, if_false]); (try first | done | omega | (simp; done) | (simp; omega)))) (by ((try simp only [cells_agg, cells_lit, leL_cons, leL_nil, leA_any, leA_lits, leA_isl, leA_self, and_self, true_and, and_true, or_true, true_or, Value.int.injEq, Value.bool.injEq, Value.string.injEq, AV.lit.injEq, Option.some.injEq, Blk.cells.injEq, Blk.tok.injEq, List.cons.injEq, Tk.at.injEq, subL_nil, subL_cons, look_nil, look_cons, ↓reduceIte, Nat.reduceEqDiff, Option.isSome_some, reduceCtorEq, or_false, false_or, if_true, if_false]); (try first | done | omega | (simp; done) | (simp; omega)))) (by ((try simp only [cells_agg, cells_lit, List.mem_cons, List.not_mem_nil, or_false, forall_eq_or_imp, forall_eq, only_any, only_lit', only_iptr, only_no, only_full, only_at, only_ptr, only_osl, only_agg, only_tup, only_fn, and_self, implies_true, and_true, true_and, okL_nil, okL_cons, bonly_cells, bonly_tok, keepP_add, look_nil, look_cons, ↓reduceIte, Nat.reduceEqDiff, Option.isSome_some, reduceCtorEq, false_or, if_true, if_false, false_implies]); (try first | done | omega | (intro _ hx; obtain ⟨_, -, rfl⟩ := List.mem_map.1 hx; exact .lit _)))) (by ((try simp only [cells_agg, cells_lit, List.mem_cons, List.not_mem_nil, or_false, forall_eq_or_imp, forall_eq, only_any, only_lit', only_iptr, only_no, only_full, only_at, only_ptr, only_osl, only_agg, only_tup, only_fn, and_self, implies_true, and_true, true_and, okL_nil, okL_cons, bonly_cells, bonly_tok, keepP_add, look_nil, look_cons, ↓reduceIte, Nat.reduceEqDiff, Option.isSome_some, reduceCtorEq, false_or, if_true, if_false, false_implies]); (try first | done | omega | (intro _ hx; obtain ⟨_, -, rfl⟩ := List.mem_map.1 hx; exact .lit _))))
    · rename_i hlt
      have : v = 0 := by omega
      subst this
      rw [blK_zero, Nat.add_zero] at hp
      rw [hp]
      refine FnPost_end hn0 (by simp) rfl (only_lit _ _) ?_
      simp only [go_sem]
      exact leA_refl _
theorem pow_le64 (j : Nat) (h : j ≤ 64) : (2 : Int) ^ j ≤ 18446744073709551616 := by
  have := Nat.pow_le_pow_right (show 0 < 2 by decide) h
  have h2 : ((2 ^ j : Nat) : Int) ≤ ((2 ^ 64 : Nat) : Int) := Int.ofNat_le.2 this
  rw [Int.natCast_pow] at h2
  exact h2
theorem andI_NB (x y : BitVec 64) : andI .u64 (NB x) (NB y) = NB (x &&& y) := by
  show IntKind.u64.wrap ((BitVec.ofInt 64 (NB x) &&& BitVec.ofInt 64 (NB y)).toNat : Int) = _
  rw [NB_ofInt, NB_ofInt, NB_wrap]
theorem orI_NB (x y : BitVec 64) : orI .u64 (NB x) (NB y) = NB (x ||| y) := by
  show IntKind.u64.wrap ((BitVec.ofInt 64 (NB x) ||| BitVec.ofInt 64 (NB y)).toNat : Int) = _
  rw [NB_ofInt, NB_ofInt, NB_wrap]
theorem swI (x : BitVec 64) (k : Nat) (m : BitVec 64) (m' p : Int) (hm : m' = NB m) (hp : p = ((2 ^ k : Nat) : Int)) : orI .u64 (andI .u64 (NB x / p) m') (IntKind.u64.wrap (andI .u64 (NB x) m' * p)) = NB (sw k m x) := by
  subst hm
  rw [NB_shr x k p hp, andI_NB, andI_NB, NB_shl _ k p hp, orI_NB]; rfl
theorem sw0I (x : BitVec 64) : orI .u64 (NB x / 4294967296) (IntKind.u64.wrap (NB x * 4294967296)) = NB (sw0 32 x) := by
  rw [NB_shr x 32 4294967296 rfl, NB_shl x 32 4294967296 rfl, orI_NB]; rfl
/-- a number's bits, moved -/
def shiftF (u n : Int) : Int := if 0 ≤ n then (if n < 64 then u * 2 ^ n.toNat % 18446744073709551616 else 0) else (if -64 < n then u / 2 ^ (-n).toNat else 0)
theorem Bit_c (u k : Int) (h0 : 0 ≤ u) (h1 : u < 18446744073709551616) (hk : 0 ≤ k) (hk1 : k < 64) (g : GH) : PureC Try.prog 91 [U64 u, I64 k] g (U64 (u / 2 ^ k.toNat % 2)) := by
  refine CallC.body (fun _ => none) (fun _ => 0) Try.func91 rfl Try.results91 Try.ntmps91 ?_
  intro n0 hn0
  simp only [go_sem]
  refine WC_loop (fun s : Nat => [U64 (u / 2 ^ s), I64 k, .any, .any, .any, I64 s, .any, .any, .any, .any, .any, .any, .any, .any, .any]) (fun _ => ⟨g, []⟩) (fun s => s ≤ k.toNat) (fun s => k.toNat - s) 0 (Nat.zero_le _) ?_ ?_
  · rw [Int.pow_zero, Int.ediv_one]
    refine imp_loc (by ((try simp only [cells_agg, cells_lit, leL_cons, leL_nil, leA_any, leA_lits, leA_isl, leA_self, and_self, true_and, and_true, or_true, true_or, Value.int.injEq, Value.bool.injEq, Value.string.injEq, AV.lit.injEq, Option.some.injEq, Blk.cells.injEq, Blk.tok.injEq, List.cons.injEq, Tk.at.injEq, subL_nil, subL_cons, look_nil, look_cons, ↓reduceIte, Nat.reduceEqDiff, Option.isSome_some, reduceCtorEq, or_false, false_or, if_true, if_false]); (try first | done | omega | (simp; done) | (simp; omega)))) (by ((try simp only [cells_agg, cells_lit, leL_cons, leL_nil, leA_any, leA_lits, leA_isl, leA_self, and_self, true_and, and_true, or_true, true_or, Value.int.injEq, Value.bool.injEq, Value.string.injEq, AV.lit.injEq, Option.some.injEq, Blk.cells.injEq, Blk.tok.injEq, List.cons.injEq, Tk.at.injEq, subL_nil, subL_cons, look_nil, look_cons, ↓reduceIte, Nat.reduceEqDiff, Option.isSome_some, reduceCtorEq, or_false, false_or, if_true, if_false]); (try first | done | omega | (simp; done) | (simp; omega)))) (by ((try simp only [cells_agg, cells_lit, List.mem_cons, List.not_mem_nil, or_false, forall_eq_or_imp, forall_eq, only_any, only_lit', only_iptr, only_no, only_full, only_at, only_ptr, only_osl, only_agg, only_tup, only_fn, and_self, implies_true, and_true, true_and, okL_nil, okL_cons, bonly_cells, bonly_tok, keepP_add, look_nil, look_cons, ↓reduceIte, Nat.reduceEqDiff, Option.isSome_some, reduceCtorEq, false_or, if_true, if_false, false_implies]); (try first | done | omega | (intro _ hx; obtain ⟨_, -, rfl⟩ := List.mem_map.1 hx; exact .lit _)))) (by ((try simp only [cells_agg, cells_lit, List.mem_cons, List.not_mem_nil, or_false, forall_eq_or_imp, forall_eq, only_any, only_lit', only_iptr, only_no, only_full, only_at, only_ptr, only_osl, only_agg, only_tup, only_fn, and_self, implies_true, and_true, true_and, okL_nil, okL_cons, bonly_cells, bonly_tok, keepP_add, look_nil, look_cons, ↓reduceIte, Nat.reduceEqDiff, Option.isSome_some, reduceCtorEq, false_or, if_true, if_false, false_implies]); (try first | done | omega | (intro _ hx; obtain ⟨_, -, rfl⟩ := List.mem_map.1 hx; exact .lit _))))
  · intro i hi
    have hp : (0 : Int) < 2 ^ i := Int.pow_pos (by decide)
    have q0 : 0 ≤ u / 2 ^ i := Int.ediv_nonneg h0 (by omega)
    have q1 : u / 2 ^ i ≤ u := Int.ediv_le_self _ h0
    simp only [go_sem]
    split
    · rename_i hlt
      have e1 : IntKind.i64.wrap ((i : Int) + 1) = ((i + 1 : Nat) : Int) := by simp only [wrap_i64]; omega
      have e2 : IntKind.u64.wrap ((u / 2 ^ i).tdiv 2) = u / 2 ^ (i + 1) := by
        rw [Int.tdiv_eq_ediv_of_nonneg q0, Int.pow_succ, ← Int.ediv_ediv_of_nonneg (by omega), wrap_u64]; omega
      refine LP_next (i + 1) (by omega) (by omega) ?_
      rw [e1, e2]
      refine imp_loc (by ((try simp only [cells_agg, cells_lit, leL_cons, leL_nil, leA_any, leA_lits, leA_isl, leA_self, and_self, true_and, and_true, or_true, true_or, Value.int.injEq, Value.bool.injEq, Value.string.injEq, AV.lit.injEq, Option.some.injEq, Blk.cells.injEq, Blk.tok.injEq, List.cons.injEq, Tk.at.injEq, subL_nil, subL_cons, look_nil, look_cons, ↓reduceIte, Nat.reduceEqDiff, Option.isSome_some, reduceCtorEq, or_false, false_or, if_true, if_false]); (try first | done | omega | (simp; done) | (simp; omega)))) (by ((try simp only [cells_agg, cells_lit, leL_cons, leL_nil, leA_any, leA_lits, leA_isl, leA_self, and_self, true_and, and_true, or_true, true_or, Value.int.injEq, Value.bool.injEq, Value.string.injEq, AV.lit.injEq, Option.some.injEq, Blk.cells.injEq, Blk.tok.injEq, List.cons.injEq, Tk.at.injEq, subL_nil, subL_cons, look_nil, look_cons, ↓reduceIte, Nat.reduceEqDiff, Option.isSome_some, reduceCtorEq, or_false, false_or, if_true, if_false]); (try first | done | omega | (simp; done) | (simp; omega)))) (by ((try simp only [cells_agg, cells_lit, List.mem_cons, List.not_mem_nil, or_false, forall_eq_or_imp, forall_eq, only_any, only_lit', only_iptr, only_no, only_full, only_at, only_ptr, only_osl, only_agg, only_tup, only_fn, and_self, implies_true, and_true, true_and, okL_nil, okL_cons, bonly_cells, bonly_tok, keepP_add, look_nil, look_cons, ↓reduceIte, Nat.reduceEqDiff, Option.isSome_some, reduceCtorEq, false_or, if_true, if_false, false_implies]); (try first | done | omega | (intro _ hx; obtain ⟨_, -, rfl⟩ := List.mem_map.1 hx; exact .lit _)))) (by ((try simp only [cells_agg, cells_lit, List.mem_cons, List.not_mem_nil, or_false, forall_eq_or_imp, forall_eq, only_any, only_lit', only_iptr, only_no, only_full, only_at, only_ptr, only_osl, only_agg, only_tup, only_fn, and_self, implies_true, and_true, true_and, okL_nil, okL_cons, bonly_cells, bonly_tok, keepP_add, look_nil, look_cons, ↓reduceIte, Nat.reduceEqDiff, Option.isSome_some, reduceCtorEq, false_or, if_true, if_false, false_implies]); (try first | done | omega | (intro _ hx; obtain ⟨_, -, rfl⟩ := List.mem_map.1 hx; exact .lit _))))
    · rename_i hlt
      have : i = k.toNat := by omega
      subst this
      refine FnPost_end hn0 (by simp) rfl (only_lit _ _) ?_
      simp only [go_sem]
      exact leA_int (by rw [Int.tmod_eq_emod_of_nonneg q0])
theorem turnF_succ (u : Int) (w : Nat) : turnF u (w + 1) = 2 * turnF u w + u / 2 ^ w % 2 := rfl
theorem rTurn_c (u w : Int) (h0 : 0 ≤ u) (h1 : u < 18446744073709551616) (hk : 0 ≤ w) (hk1 : w ≤ 64) (g : GH) : PureC Try.prog 38 [U64 u, I64 w] g (U64 (turnF u w.toNat)) := by
  refine CallC.body (fun _ => none) (fun _ => 0) Try.func38 rfl Try.results38 Try.ntmps38 ?_
  intro n0 hn0
  simp only [go_sem]
  refine WC_loop (fun s : Nat => [U64 u, I64 w, .any, .any, .any, U64 (turnF u s), I64 s, .any, .any, .any, .any, .any, .any, .any, .any, .any, .any, .any, .any]) (fun _ => ⟨g, []⟩) (fun s => s ≤ w.toNat) (fun s => w.toNat - s) 0 (Nat.zero_le _) ?_ ?_
  · simp only [turnF]
    refine imp_loc (by ((try simp only [cells_agg, cells_lit, leL_cons, leL_nil, leA_any, leA_lits, leA_isl, leA_self, and_self, true_and, and_true, or_true, true_or, Value.int.injEq, Value.bool.injEq, Value.string.injEq, AV.lit.injEq, Option.some.injEq, Blk.cells.injEq, Blk.tok.injEq, List.cons.injEq, Tk.at.injEq, subL_nil, subL_cons, look_nil, look_cons, ↓reduceIte, Nat.reduceEqDiff, Option.isSome_some, reduceCtorEq, or_false, false_or, if_true, if_false]); (try first | done | omega | (simp; done) | (simp; omega)))) (by ((try simp only [cells_agg, cells_lit, leL_cons, leL_nil, leA_any, leA_lits, leA_isl, leA_self, and_self, true_and, and_true, or_true, true_or, Value.int.injEq, Value.bool.injEq, Value.string.injEq, AV.lit.injEq, Option.some.injEq, Blk.cells.injEq, Blk.tok.injEq, List.cons.injEq, Tk.at.injEq, subL_nil, subL_cons, look_nil, look_cons, ↓reduceIte, Nat.reduceEqDiff, Option.isSome_some, reduceCtorEq, or_false, false_or, if_true, if_false]); (try first | done | omega | (simp; done) | (simp; omega)))) (by ((try simp only [cells_agg, cells_lit, List.mem_cons, List.not_mem_nil, or_false, forall_eq_or_imp, forall_eq, only_any, only_lit', only_iptr, only_no, only_full, only_at, only_ptr, only_osl, only_agg, only_tup, only_fn, and_self, implies_true, and_true, true_and, okL_nil, okL_cons, bonly_cells, bonly_tok, keepP_add, look_nil, look_cons, ↓reduceIte, Nat.reduceEqDiff, Option.isSome_some, reduceCtorEq, false_or, if_true, if_false, false_implies]); (try first | done | omega | (intro _ hx; obtain ⟨_, -, rfl⟩ := List.mem_map.1 hx; exact .lit _)))) (by ((try simp only [cells_agg, cells_lit, List.mem_cons, List.not_mem_nil, or_false, forall_eq_or_imp, forall_eq, only_any, only_lit', only_iptr, only_no, only_full, only_at, only_ptr, only_osl, only_agg, only_tup, only_fn, and_self, implies_true, and_true, true_and, okL_nil, okL_cons, bonly_cells, bonly_tok, keepP_add, look_nil, look_cons, ↓reduceIte, Nat.reduceEqDiff, Option.isSome_some, reduceCtorEq, false_or, if_true, if_false, false_implies]); (try first | done | omega | (intro _ hx; obtain ⟨_, -, rfl⟩ := List.mem_map.1 hx; exact .lit _))))
  · intro i hi
    simp only [go_sem]
    split
    · rename_i hlt
      refine WE_pure _ _ _ _ _ _ _ _ (Bit_c u i h0 h1 (by omega) (by omega) _) ?_
      simp only [go_sem]
      have t0 := turnF_lt u h0 i
      have t1 := turnF_lt u h0 (i + 1)
      have t2 := pow_le64 (i + 1) (by omega)
      have e1 : IntKind.i64.wrap ((i : Int) + 1) = ((i + 1 : Nat) : Int) := by simp only [wrap_i64]; omega
      have e2 : IntKind.u64.wrap (IntKind.u64.wrap (2 * turnF u i) + u / 2 ^ i % 2) = turnF u (i + 1) := by
        rw [turnF_succ] at t1 ⊢
        simp only [wrap_u64]
        omega
      refine LP_next (i + 1) (by omega) (by omega) ?_
      (try rw [Int.toNat_natCast]); rw [e1, e2]
      refine imp_loc (by ((try simp only [cells_agg, cells_lit, leL_cons, leL_nil, leA_any, leA_lits, leA_isl, leA_self, and_self, true_and, and_true, or_true, true_or, Value.int.injEq, Value.bool.injEq, Value.string.injEq, AV.lit.injEq, Option.some.injEq, Blk.cells.injEq, Blk.tok.injEq, List.cons.injEq, Tk.at.injEq, subL_nil, subL_cons, look_nil, look_cons, ↓reduceIte, Nat.reduceEqDiff, Option.isSome_some, reduceCtorEq, or_false, false_or, if_true, if_false]); (try first | done | omega | (simp; done) | (simp; omega)))) (by ((try simp only [cells_agg, cells_lit, leL_cons, leL_nil, leA_any, leA_lits, leA_isl, leA_self, and_self, true_and, and_true, or_true, true_or, Value.int.injEq, Value.bool.injEq, Value.string.injEq, AV.lit.injEq, Option.some.injEq, Blk.cells.injEq, Blk.tok.injEq, List.cons.injEq, Tk.at.injEq, subL_nil, subL_cons, look_nil, look_cons, ↓reduceIte, Nat.reduceEqDiff, Option.isSome_some, reduceCtorEq, or_false, false_or, if_true, if_false]); (try first | done | omega | (simp; done) | (simp; omega)))) (by ((try simp only [cells_agg, cells_lit, List.mem_cons, List.not_mem_nil, or_false, forall_eq_or_imp, forall_eq, only_any, only_lit', only_iptr, only_no, only_full, only_at, only_ptr, only_osl, only_agg, only_tup, only_fn, and_self, implies_true, and_true, true_and, okL_nil, okL_cons, bonly_cells, bonly_tok, keepP_add, look_nil, look_cons, ↓reduceIte, Nat.reduceEqDiff, Option.isSome_some, reduceCtorEq, false_or, if_true, if_false, false_implies]); (try first | done | omega | (intro _ hx; obtain ⟨_, -, rfl⟩ := List.mem_map.1 hx; exact .lit _)))) (by ((try simp only [cells_agg, cells_lit, List.mem_cons, List.not_mem_nil, or_false, forall_eq_or_imp, forall_eq, only_any, only_lit', only_iptr, only_no, only_full, only_at, only_ptr, only_osl, only_agg, only_tup, only_fn, and_self, implies_true, and_true, true_and, okL_nil, okL_cons, bonly_cells, bonly_tok, keepP_add, look_nil, look_cons, ↓reduceIte, Nat.reduceEqDiff, Option.isSome_some, reduceCtorEq, false_or, if_true, if_false, false_implies]); (try first | done | omega | (intro _ hx; obtain ⟨_, -, rfl⟩ := List.mem_map.1 hx; exact .lit _))))
    · rename_i hlt
      have : i = w.toNat := by omega
      subst this
      refine FnPost_end hn0 (by simp) rfl (only_lit _ _) ?_
      simp only [go_sem]
      exact leA_refl _
theorem rb_c (x : BitVec 64) (g : GH) : PureC Try.prog 114 [U64 (NB x)] g (U64 (NB (sw0 32 (sw 16 281470681808895#64 (sw 8 71777214294589695#64 x))))) := by
  refine CallC.body (fun _ => none) (fun _ => 0) Try.func114 rfl Try.results114 Try.ntmps114 ?_
  intro n0 hn0
  simp only [go_sem]
  refine FnPost_end hn0 (by simp) rfl (only_lit _ _) ?_
  simp only [go_sem]
  refine leA_int ?_
  rw [swI x 8 71777214294589695#64 71777214294589695 256 rfl rfl, swI _ 16 281470681808895#64 281470681808895 65536 rfl rfl]
  exact sw0I _
theorem rev_c (x : BitVec 64) (g : GH) : PureC Try.prog 88 [U64 (NB x)] g (U64 (NB (rev64 x))) := by
  refine CallC.body (fun _ => none) (fun _ => 0) Try.func88 rfl Try.results88 Try.ntmps88 ?_
  intro n0 hn0
  simp only [go_sem]
  rw [swI x 1 6148914691236517205#64 6148914691236517205 2 rfl rfl, swI _ 2 3689348814741910323#64 3689348814741910323 4 rfl rfl, swI _ 4 1085102592571150095#64 1085102592571150095 16 rfl rfl]
  refine WE_pure _ _ _ _ _ _ _ _ (rb_c _ _) ?_
  simp only [go_sem]
  refine FnPost_end hn0 (by simp) rfl (only_lit _ _) ?_
  simp only [go_sem]
  exact leA_refl _
theorem Turn_c (u n : Int) (h0 : 0 ≤ u) (h1 : u < 18446744073709551616) (g : GH) : PureC Try.prog 31 [U64 u, I64 n] g (U64 (turnF u (imn (imx n 0) 64).toNat)) := by
  have hr : 0 ≤ imn (imx n 0) 64 ∧ imn (imx n 0) 64 ≤ 64 := by unfold imn imx; (repeat' split) <;> omega
  refine CallC.body (fun _ => none) (fun _ => 0) Try.func31 rfl Try.results31 Try.ntmps31 ?_
  intro n0 hn0
  simp only [go_sem]
  generalize imn (imx n 0) 64 = m at *
  have hx := ofInt_NB u h0 h1
  generalize BitVec.ofInt 64 u = x at *
  subst hx
  refine WE_pure _ _ _ _ _ _ _ _ (rev_c x _) ?_
  simp only [go_sem]
  have e : IntKind.u64.wrap (IntKind.i64.wrap (64 - m)) = 64 - m := by simp only [wrap_u64, wrap_i64]; omega
  rw [e]
  refine ⟨by omega, ?_⟩
  rw [if_pos (by omega)]
  obtain ⟨t1, t2⟩ := turn_rev x m.toNat (by omega)
  have e2 : NB (rev64 x) / 2 ^ (64 - m).toNat = turnF (NB x) m.toNat := by
    rw [show (64 - m).toNat = 64 - m.toNat by omega]
    rw [← Int.toNat_of_nonneg t2, ← t1]
    unfold NB
    rw [Int.natCast_ediv, Int.natCast_pow]; rfl
  refine FnPost_end hn0 (by simp) rfl (only_lit _ _) ?_
  simp only [go_sem]
  exact leA_int e2
theorem Shift_c (u n : Int) (h0 : 0 ≤ u) (h1 : u < 18446744073709551616) (hn : -9223372036854775808 ≤ n) (hn1 : n ≤ 9223372036854775807) (g : GH) : PureC Try.prog 36 [U64 u, I64 n] g (U64 (shiftF u n)) := by
  refine CallC.body (fun _ => none) (fun _ => 0) Try.func36 rfl Try.results36 Try.ntmps36 ?_
  intro n0 hn0
  simp only [go_sem]
  refine WG_split _ _ _ _ _ _ _ _ _ (fun z1 => ?_) (fun z1 => ?_) <;> simp only [decide_eq_true_eq, decide_eq_false_iff_not, Int.not_le, Int.not_lt, Bool.not_eq_true, Bool.not_eq_false, Bool.not_eq_true', Bool.not_eq_false'] at z1
  · simp only [go_sem, z1]
    refine FnPost_end hn0 (by simp) rfl (only_lit _ _) ?_
    simp only [go_sem]
    exact leA_int (by unfold shiftF; rw [if_pos (by omega), if_neg (by omega)])
  · simp only [go_sem, Int.not_le.2 z1]
    split
    · refine FnPost_end hn0 (by simp) rfl (only_lit _ _) ?_
      simp only [go_sem]
      exact leA_int (by unfold shiftF; rw [if_neg (by omega), if_neg (by omega)])
    · split
      · have e1 : IntKind.u64.wrap (IntKind.i64.wrap (0 - n)) = -n := by simp only [wrap_i64, wrap_u64]; omega
        rw [e1]
        refine ⟨by omega, ?_⟩
        rw [if_pos (by omega)]
        refine FnPost_end hn0 (by simp) rfl (only_lit _ _) ?_
        simp only [go_sem]
        exact leA_int (by unfold shiftF; rw [if_neg (by omega), if_pos (by omega)])
      · have e1 : IntKind.u64.wrap n = n := by simp only [wrap_u64]; omega
        rw [e1]
        refine ⟨by omega, ?_⟩
        rw [if_pos (show n.toNat ≤ 64 by omega)]
        refine FnPost_end hn0 (by simp) rfl (only_lit _ _) ?_
        simp only [go_sem]
        exact leA_int (by unfold shiftF; rw [if_pos (by omega), if_pos (by omega), wrap_u64])
theorem rShift_c (u n : Int) (h0 : 0 ≤ u) (h1 : u < 18446744073709551616) (hn : -9223372036854775808 ≤ n) (hn1 : n ≤ 9223372036854775807) (g : GH) : PureC Try.prog 37 [U64 u, I64 n] g (U64 (shiftF u n)) := by
  refine CallC.body (fun _ => none) (fun _ => 0) Try.func37 rfl Try.results37 Try.ntmps37 ?_
  intro n0 hn0
  simp only [go_sem]
  refine WC_loop (fun s : Nat => [U64 (u * 2 ^ s % 18446744073709551616), I64 n, .any, .any, .any, I64 s, .any, .any, .any, .any, .any, .any, .any, .any, .any, .any, .any, .any, .any, .any, .any, .any, .any, .any, .any, .any, .any, .any, .any, .any, .any, .any, .any]) (fun _ => ⟨g, []⟩) (fun s => (s : Int) ≤ 64 ∧ s ≤ n.toNat) (fun s => 64 - s) 0 ⟨by decide, Nat.zero_le _⟩ ?_ ?_
  · simp only [Int.pow_zero, Int.mul_one, Int.emod_eq_of_lt h0 h1]
    refine imp_loc (by ((try simp only [cells_agg, cells_lit, leL_cons, leL_nil, leA_any, leA_lits, leA_isl, leA_self, and_self, true_and, and_true, or_true, true_or, Value.int.injEq, Value.bool.injEq, Value.string.injEq, AV.lit.injEq, Option.some.injEq, Blk.cells.injEq, Blk.tok.injEq, List.cons.injEq, Tk.at.injEq, subL_nil, subL_cons, look_nil, look_cons, ↓reduceIte, Nat.reduceEqDiff, Option.isSome_some, reduceCtorEq, or_false, false_or, if_true, if_false]); (try first | done | omega | (simp; done) | (simp; omega)))) (by ((try simp only [cells_agg, cells_lit, leL_cons, leL_nil, leA_any, leA_lits, leA_isl, leA_self, and_self, true_and, and_true, or_true, true_or, Value.int.injEq, Value.bool.injEq, Value.string.injEq, AV.lit.injEq, Option.some.injEq, Blk.cells.injEq, Blk.tok.injEq, List.cons.injEq, Tk.at.injEq, subL_nil, subL_cons, look_nil, look_cons, ↓reduceIte, Nat.reduceEqDiff, Option.isSome_some, reduceCtorEq, or_false, false_or, if_true, if_false]); (try first | done | omega | (simp; done) | (simp; omega)))) (by ((try simp only [cells_agg, cells_lit, List.mem_cons, List.not_mem_nil, or_false, forall_eq_or_imp, forall_eq, only_any, only_lit', only_iptr, only_no, only_full, only_at, only_ptr, only_osl, only_agg, only_tup, only_fn, and_self, implies_true, and_true, true_and, okL_nil, okL_cons, bonly_cells, bonly_tok, keepP_add, look_nil, look_cons, ↓reduceIte, Nat.reduceEqDiff, Option.isSome_some, reduceCtorEq, false_or, if_true, if_false, false_implies]); (try first | done | omega | (intro _ hx; obtain ⟨_, -, rfl⟩ := List.mem_map.1 hx; exact .lit _)))) (by ((try simp only [cells_agg, cells_lit, List.mem_cons, List.not_mem_nil, or_false, forall_eq_or_imp, forall_eq, only_any, only_lit', only_iptr, only_no, only_full, only_at, only_ptr, only_osl, only_agg, only_tup, only_fn, and_self, implies_true, and_true, true_and, okL_nil, okL_cons, bonly_cells, bonly_tok, keepP_add, look_nil, look_cons, ↓reduceIte, Nat.reduceEqDiff, Option.isSome_some, reduceCtorEq, false_or, if_true, if_false, false_implies]); (try first | done | omega | (intro _ hx; obtain ⟨_, -, rfl⟩ := List.mem_map.1 hx; exact .lit _))))
  · rintro i ⟨hi, hi2⟩
    have e1 : IntKind.i64.wrap ((i : Int) + 1) = ((i + 1 : Nat) : Int) := by simp only [wrap_i64]; omega
    have e2 : IntKind.u64.wrap (2 * (u * 2 ^ i % 18446744073709551616)) = u * 2 ^ (i + 1) % 18446744073709551616 := by
      rw [wrap_u64, Int.pow_succ, ← Int.mul_assoc]; omega
    simp only [go_sem]
    refine WG_split _ _ _ _ _ _ _ _ _ (fun z1 => ?_) (fun z1 => ?_) <;> simp only [decide_eq_true_eq, decide_eq_false_iff_not, Int.not_le, Int.not_lt, Bool.not_eq_true, Bool.not_eq_false, Bool.not_eq_true', Bool.not_eq_false'] at z1
    · simp only [go_sem, z1]
      split
      · rename_i z2
        refine LP_next (i + 1) ⟨by omega, by omega⟩ (by omega) ?_
        rw [e1, e2]
        refine imp_loc (by ((try simp only [cells_agg, cells_lit, leL_cons, leL_nil, leA_any, leA_lits, leA_isl, leA_self, and_self, true_and, and_true, or_true, true_or, Value.int.injEq, Value.bool.injEq, Value.string.injEq, AV.lit.injEq, Option.some.injEq, Blk.cells.injEq, Blk.tok.injEq, List.cons.injEq, Tk.at.injEq, subL_nil, subL_cons, look_nil, look_cons, ↓reduceIte, Nat.reduceEqDiff, Option.isSome_some, reduceCtorEq, or_false, false_or, if_true, if_false]); (try first | done | omega | (simp; done) | (simp; omega)))) (by ((try simp only [cells_agg, cells_lit, leL_cons, leL_nil, leA_any, leA_lits, leA_isl, leA_self, and_self, true_and, and_true, or_true, true_or, Value.int.injEq, Value.bool.injEq, Value.string.injEq, AV.lit.injEq, Option.some.injEq, Blk.cells.injEq, Blk.tok.injEq, List.cons.injEq, Tk.at.injEq, subL_nil, subL_cons, look_nil, look_cons, ↓reduceIte, Nat.reduceEqDiff, Option.isSome_some, reduceCtorEq, or_false, false_or, if_true, if_false]); (try first | done | omega | (simp; done) | (simp; omega)))) (by ((try simp only [cells_agg, cells_lit, List.mem_cons, List.not_mem_nil, or_false, forall_eq_or_imp, forall_eq, only_any, only_lit', only_iptr, only_no, only_full, only_at, only_ptr, only_osl, only_agg, only_tup, only_fn, and_self, implies_true, and_true, true_and, okL_nil, okL_cons, bonly_cells, bonly_tok, keepP_add, look_nil, look_cons, ↓reduceIte, Nat.reduceEqDiff, Option.isSome_some, reduceCtorEq, false_or, if_true, if_false, false_implies]); (try first | done | omega | (intro _ hx; obtain ⟨_, -, rfl⟩ := List.mem_map.1 hx; exact .lit _)))) (by ((try simp only [cells_agg, cells_lit, List.mem_cons, List.not_mem_nil, or_false, forall_eq_or_imp, forall_eq, only_any, only_lit', only_iptr, only_no, only_full, only_at, only_ptr, only_osl, only_agg, only_tup, only_fn, and_self, implies_true, and_true, true_and, okL_nil, okL_cons, bonly_cells, bonly_tok, keepP_add, look_nil, look_cons, ↓reduceIte, Nat.reduceEqDiff, Option.isSome_some, reduceCtorEq, false_or, if_true, if_false, false_implies]); (try first | done | omega | (intro _ hx; obtain ⟨_, -, rfl⟩ := List.mem_map.1 hx; exact .lit _))))
      · rename_i z2
        have hi3 : i = n.toNat := by omega
        have hA : u * 2 ^ i % 18446744073709551616 = (if 0 ≤ n then (if n < 64 then u * 2 ^ n.toNat % 18446744073709551616 else 0) else u) := by
          by_cases z3 : 0 ≤ n
          · rw [if_pos z3, if_pos (by omega), hi3]
          · rw [if_neg z3, hi3, show n.toNat = 0 by omega, Int.pow_zero, Int.mul_one]
            exact Int.emod_eq_of_lt h0 h1
        have hv0 : 0 ≤ u * 2 ^ i % 18446744073709551616 := Int.emod_nonneg _ (by decide)
        have hv1 : u * 2 ^ i % 18446744073709551616 < 18446744073709551616 := Int.emod_lt_of_pos _ (by decide)
        generalize u * 2 ^ i % 18446744073709551616 = v at *
        refine WC_loop (fun s : Nat => [U64 (v / 2 ^ s), I64 n, .any, .any, .any, .any, I64 s, .any, .any, .any, .any, .any, .any, .any, .any, .any, .any, .any, .any, .any, .any, .any, .any, .any, .any, .any, .any, .any, .any, .any, .any, .any, .any]) (fun _ => ⟨g, []⟩) (fun s => s ≤ 64 ∧ (0 < s → (s : Int) ≤ -n)) (fun s => 64 - s) 0 ⟨by decide, by omega⟩ ?_ ?_
        · simp only [Int.pow_zero, Int.ediv_one]
          refine imp_loc (by ((try simp only [cells_agg, cells_lit, leL_cons, leL_nil, leA_any, leA_lits, leA_isl, leA_self, and_self, true_and, and_true, or_true, true_or, Value.int.injEq, Value.bool.injEq, Value.string.injEq, AV.lit.injEq, Option.some.injEq, Blk.cells.injEq, Blk.tok.injEq, List.cons.injEq, Tk.at.injEq, subL_nil, subL_cons, look_nil, look_cons, ↓reduceIte, Nat.reduceEqDiff, Option.isSome_some, reduceCtorEq, or_false, false_or, if_true, if_false]); (try first | done | omega | (simp; done) | (simp; omega)))) (by ((try simp only [cells_agg, cells_lit, leL_cons, leL_nil, leA_any, leA_lits, leA_isl, leA_self, and_self, true_and, and_true, or_true, true_or, Value.int.injEq, Value.bool.injEq, Value.string.injEq, AV.lit.injEq, Option.some.injEq, Blk.cells.injEq, Blk.tok.injEq, List.cons.injEq, Tk.at.injEq, subL_nil, subL_cons, look_nil, look_cons, ↓reduceIte, Nat.reduceEqDiff, Option.isSome_some, reduceCtorEq, or_false, false_or, if_true, if_false]); (try first | done | omega | (simp; done) | (simp; omega)))) (by ((try simp only [cells_agg, cells_lit, List.mem_cons, List.not_mem_nil, or_false, forall_eq_or_imp, forall_eq, only_any, only_lit', only_iptr, only_no, only_full, only_at, only_ptr, only_osl, only_agg, only_tup, only_fn, and_self, implies_true, and_true, true_and, okL_nil, okL_cons, bonly_cells, bonly_tok, keepP_add, look_nil, look_cons, ↓reduceIte, Nat.reduceEqDiff, Option.isSome_some, reduceCtorEq, false_or, if_true, if_false, false_implies]); (try first | done | omega | (intro _ hx; obtain ⟨_, -, rfl⟩ := List.mem_map.1 hx; exact .lit _)))) (by ((try simp only [cells_agg, cells_lit, List.mem_cons, List.not_mem_nil, or_false, forall_eq_or_imp, forall_eq, only_any, only_lit', only_iptr, only_no, only_full, only_at, only_ptr, only_osl, only_agg, only_tup, only_fn, and_self, implies_true, and_true, true_and, okL_nil, okL_cons, bonly_cells, bonly_tok, keepP_add, look_nil, look_cons, ↓reduceIte, Nat.reduceEqDiff, Option.isSome_some, reduceCtorEq, false_or, if_true, if_false, false_implies]); (try first | done | omega | (intro _ hx; obtain ⟨_, -, rfl⟩ := List.mem_map.1 hx; exact .lit _))))
        · rintro j ⟨hj, hj2⟩
          have hp : (0 : Int) < 2 ^ j := Int.pow_pos (by decide)
          have q0 : 0 ≤ v / 2 ^ j := Int.ediv_nonneg hv0 (by omega)
          have q1 : v / 2 ^ j ≤ v := Int.ediv_le_self _ hv0
          have e1 : IntKind.i64.wrap ((j : Int) + 1) = ((j + 1 : Nat) : Int) := by simp only [wrap_i64]; omega
          have e2 : IntKind.u64.wrap ((v / 2 ^ j).tdiv 2) = v / 2 ^ (j + 1) := by
            rw [Int.tdiv_eq_ediv_of_nonneg q0, Int.pow_succ, ← Int.ediv_ediv_of_nonneg (by omega), wrap_u64]; omega
          simp only [go_sem]
          refine WG_split _ _ _ _ _ _ _ _ _ (fun y1 => ?_) (fun y1 => ?_) <;> simp only [decide_eq_true_eq, decide_eq_false_iff_not, Int.not_le, Int.not_lt, Bool.not_eq_true, Bool.not_eq_false, Bool.not_eq_true', Bool.not_eq_false'] at y1
          · simp only [go_sem, y1]
            split
            · rename_i y2
              have y3 : (j : Int) < -n := by rw [wrap_i64] at y2; omega
              refine LP_next (j + 1) ⟨by omega, by omega⟩ (by omega) ?_
              rw [e1, e2]
              refine imp_loc (by ((try simp only [cells_agg, cells_lit, leL_cons, leL_nil, leA_any, leA_lits, leA_isl, leA_self, and_self, true_and, and_true, or_true, true_or, Value.int.injEq, Value.bool.injEq, Value.string.injEq, AV.lit.injEq, Option.some.injEq, Blk.cells.injEq, Blk.tok.injEq, List.cons.injEq, Tk.at.injEq, subL_nil, subL_cons, look_nil, look_cons, ↓reduceIte, Nat.reduceEqDiff, Option.isSome_some, reduceCtorEq, or_false, false_or, if_true, if_false]); (try first | done | omega | (simp; done) | (simp; omega)))) (by ((try simp only [cells_agg, cells_lit, leL_cons, leL_nil, leA_any, leA_lits, leA_isl, leA_self, and_self, true_and, and_true, or_true, true_or, Value.int.injEq, Value.bool.injEq, Value.string.injEq, AV.lit.injEq, Option.some.injEq, Blk.cells.injEq, Blk.tok.injEq, List.cons.injEq, Tk.at.injEq, subL_nil, subL_cons, look_nil, look_cons, ↓reduceIte, Nat.reduceEqDiff, Option.isSome_some, reduceCtorEq, or_false, false_or, if_true, if_false]); (try first | done | omega | (simp; done) | (simp; omega)))) (by ((try simp only [cells_agg, cells_lit, List.mem_cons, List.not_mem_nil, or_false, forall_eq_or_imp, forall_eq, only_any, only_lit', only_iptr, only_no, only_full, only_at, only_ptr, only_osl, only_agg, only_tup, only_fn, and_self, implies_true, and_true, true_and, okL_nil, okL_cons, bonly_cells, bonly_tok, keepP_add, look_nil, look_cons, ↓reduceIte, Nat.reduceEqDiff, Option.isSome_some, reduceCtorEq, false_or, if_true, if_false, false_implies]); (try first | done | omega | (intro _ hx; obtain ⟨_, -, rfl⟩ := List.mem_map.1 hx; exact .lit _)))) (by ((try simp only [cells_agg, cells_lit, List.mem_cons, List.not_mem_nil, or_false, forall_eq_or_imp, forall_eq, only_any, only_lit', only_iptr, only_no, only_full, only_at, only_ptr, only_osl, only_agg, only_tup, only_fn, and_self, implies_true, and_true, true_and, okL_nil, okL_cons, bonly_cells, bonly_tok, keepP_add, look_nil, look_cons, ↓reduceIte, Nat.reduceEqDiff, Option.isSome_some, reduceCtorEq, false_or, if_true, if_false, false_implies]); (try first | done | omega | (intro _ hx; obtain ⟨_, -, rfl⟩ := List.mem_map.1 hx; exact .lit _))))
            · rename_i y2
              have y3 : ¬ (j : Int) < -n ∨ n = -9223372036854775808 := by rw [wrap_i64] at y2; omega
              split
              · refine FnPost_end hn0 (by simp) rfl (only_lit _ _) ?_
                simp only [go_sem]
                exact leA_int (by unfold shiftF; rw [if_neg (by omega), if_neg (by omega)])
              · refine FnPost_end hn0 (by simp) rfl (only_lit _ _) ?_
                simp only [go_sem]
                refine leA_int ?_
                unfold shiftF
                by_cases hn0' : 0 ≤ n
                · have : j = 0 := by omega
                  subst this
                  rw [if_pos hn0', Int.pow_zero, Int.ediv_one, hA, if_pos hn0']
                · have : j = (-n).toNat := by omega
                  subst this
                  rw [if_neg hn0', hA, if_neg hn0', if_pos (by omega)]
          · simp only [go_sem, Int.not_lt.2 y1]
            have : j = 64 := by omega
            subst this
            have y4 : n ≤ -64 := by have := hj2 (by decide); omega
            split
            · refine FnPost_end hn0 (by simp) rfl (only_lit _ _) ?_
              simp only [go_sem]
              exact leA_int (by unfold shiftF; rw [if_neg (by omega), if_neg (by omega)])
            · refine FnPost_end hn0 (by simp) rfl (only_lit _ _) ?_
              simp only [go_sem]
              exact leA_int (by unfold shiftF; rw [if_neg (by omega), if_neg (by omega)]; exact Int.ediv_eq_zero_of_lt hv0 (by omega))
    · simp only [go_sem, Int.not_lt.2 z1]
      have hA : u * 2 ^ i % 18446744073709551616 = (if 0 ≤ n then (if n < 64 then u * 2 ^ n.toNat % 18446744073709551616 else 0) else u) := by
        have : i = 64 := by omega
        subst this
        rw [if_pos (by omega), if_neg (by omega)]
        exact Int.mul_emod_left _ _
      have hv0 : 0 ≤ u * 2 ^ i % 18446744073709551616 := Int.emod_nonneg _ (by decide)
      have hv1 : u * 2 ^ i % 18446744073709551616 < 18446744073709551616 := Int.emod_lt_of_pos _ (by decide)
      generalize u * 2 ^ i % 18446744073709551616 = v at *
      refine WC_loop (fun s : Nat => [U64 (v / 2 ^ s), I64 n, .any, .any, .any, .any, I64 s, .any, .any, .any, .any, .any, .any, .any, .any, .any, .any, .any, .any, .any, .any, .any, .any, .any, .any, .any, .any, .any, .any, .any, .any, .any, .any]) (fun _ => ⟨g, []⟩) (fun s => s ≤ 64 ∧ (0 < s → (s : Int) ≤ -n)) (fun s => 64 - s) 0 ⟨by decide, by omega⟩ ?_ ?_
      · simp only [Int.pow_zero, Int.ediv_one]
        refine imp_loc (by ((try simp only [cells_agg, cells_lit, leL_cons, leL_nil, leA_any, leA_lits, leA_isl, leA_self, and_self, true_and, and_true, or_true, true_or, Value.int.injEq, Value.bool.injEq, Value.string.injEq, AV.lit.injEq, Option.some.injEq, Blk.cells.injEq, Blk.tok.injEq, List.cons.injEq, Tk.at.injEq, subL_nil, subL_cons, look_nil, look_cons, ↓reduceIte, Nat.reduceEqDiff, Option.isSome_some, reduceCtorEq, or_false, false_or, if_true, if_false]); (try first | done | omega | (simp; done) | (simp; omega)))) (by ((try simp only [cells_agg, cells_lit, leL_cons, leL_nil, leA_any, leA_lits, leA_isl, leA_self, and_self, true_and, and_true, or_true, true_or, Value.int.injEq, Value.bool.injEq, Value.string.injEq, AV.lit.injEq, Option.some.injEq, Blk.cells.injEq, Blk.tok.injEq, List.cons.injEq, Tk.at.injEq, subL_nil, subL_cons, look_nil, look_cons, ↓reduceIte, Nat.reduceEqDiff, Option.isSome_some, reduceCtorEq, or_false, false_or, if_true, if_false]); (try first | done | omega | (simp; done) | (simp; omega)))) (by ((try simp only [cells_agg, cells_lit, List.mem_cons, List.not_mem_nil, or_false, forall_eq_or_imp, forall_eq, only_any, only_lit', only_iptr, only_no, only_full, only_at, only_ptr, only_osl, only_agg, only_tup, only_fn, and_self, implies_true, and_true, true_and, okL_nil, okL_cons, bonly_cells, bonly_tok, keepP_add, look_nil, look_cons, ↓reduceIte, Nat.reduceEqDiff, Option.isSome_some, reduceCtorEq, false_or, if_true, if_false, false_implies]); (try first | done | omega | (intro _ hx; obtain ⟨_, -, rfl⟩ := List.mem_map.1 hx; exact .lit _)))) (by ((try simp only [cells_agg, cells_lit, List.mem_cons, List.not_mem_nil, or_false, forall_eq_or_imp, forall_eq, only_any, only_lit', only_iptr, only_no, only_full, only_at, only_ptr, only_osl, only_agg, only_tup, only_fn, and_self, implies_true, and_true, true_and, okL_nil, okL_cons, bonly_cells, bonly_tok, keepP_add, look_nil, look_cons, ↓reduceIte, Nat.reduceEqDiff, Option.isSome_some, reduceCtorEq, false_or, if_true, if_false, false_implies]); (try first | done | omega | (intro _ hx; obtain ⟨_, -, rfl⟩ := List.mem_map.1 hx; exact .lit _))))
      · rintro j ⟨hj, hj2⟩
        have hp : (0 : Int) < 2 ^ j := Int.pow_pos (by decide)
        have q0 : 0 ≤ v / 2 ^ j := Int.ediv_nonneg hv0 (by omega)
        have q1 : v / 2 ^ j ≤ v := Int.ediv_le_self _ hv0
        have e1 : IntKind.i64.wrap ((j : Int) + 1) = ((j + 1 : Nat) : Int) := by simp only [wrap_i64]; omega
        have e2 : IntKind.u64.wrap ((v / 2 ^ j).tdiv 2) = v / 2 ^ (j + 1) := by
          rw [Int.tdiv_eq_ediv_of_nonneg q0, Int.pow_succ, ← Int.ediv_ediv_of_nonneg (by omega), wrap_u64]; omega
        simp only [go_sem]
        refine WG_split _ _ _ _ _ _ _ _ _ (fun y1 => ?_) (fun y1 => ?_) <;> simp only [decide_eq_true_eq, decide_eq_false_iff_not, Int.not_le, Int.not_lt, Bool.not_eq_true, Bool.not_eq_false, Bool.not_eq_true', Bool.not_eq_false'] at y1
        · simp only [go_sem, y1]
          split
          · rename_i y2
            have y3 : (j : Int) < -n := by rw [wrap_i64] at y2; omega
            refine LP_next (j + 1) ⟨by omega, by omega⟩ (by omega) ?_
            rw [e1, e2]
            refine imp_loc (by ((try simp only [cells_agg, cells_lit, leL_cons, leL_nil, leA_any, leA_lits, leA_isl, leA_self, and_self, true_and, and_true, or_true, true_or, Value.int.injEq, Value.bool.injEq, Value.string.injEq, AV.lit.injEq, Option.some.injEq, Blk.cells.injEq, Blk.tok.injEq, List.cons.injEq, Tk.at.injEq, subL_nil, subL_cons, look_nil, look_cons, ↓reduceIte, Nat.reduceEqDiff, Option.isSome_some, reduceCtorEq, or_false, false_or, if_true, if_false]); (try first | done | omega | (simp; done) | (simp; omega)))) (by ((try simp only [cells_agg, cells_lit, leL_cons, leL_nil, leA_any, leA_lits, leA_isl, leA_self, and_self, true_and, and_true, or_true, true_or, Value.int.injEq, Value.bool.injEq, Value.string.injEq, AV.lit.injEq, Option.some.injEq, Blk.cells.injEq, Blk.tok.injEq, List.cons.injEq, Tk.at.injEq, subL_nil, subL_cons, look_nil, look_cons, ↓reduceIte, Nat.reduceEqDiff, Option.isSome_some, reduceCtorEq, or_false, false_or, if_true, if_false]); (try first | done | omega | (simp; done) | (simp; omega)))) (by ((try simp only [cells_agg, cells_lit, List.mem_cons, List.not_mem_nil, or_false, forall_eq_or_imp, forall_eq, only_any, only_lit', only_iptr, only_no, only_full, only_at, only_ptr, only_osl, only_agg, only_tup, only_fn, and_self, implies_true, and_true, true_and, okL_nil, okL_cons, bonly_cells, bonly_tok, keepP_add, look_nil, look_cons, ↓reduceIte, Nat.reduceEqDiff, Option.isSome_some, reduceCtorEq, false_or, if_true, if_false, false_implies]); (try first | done | omega | (intro _ hx; obtain ⟨_, -, rfl⟩ := List.mem_map.1 hx; exact .lit _)))) (by ((try simp only [cells_agg, cells_lit, List.mem_cons, List.not_mem_nil, or_false, forall_eq_or_imp, forall_eq, only_any, only_lit', only_iptr, only_no, only_full, only_at, only_ptr, only_osl, only_agg, only_tup, only_fn, and_self, implies_true, and_true, true_and, okL_nil, okL_cons, bonly_cells, bonly_tok, keepP_add, look_nil, look_cons, ↓reduceIte, Nat.reduceEqDiff, Option.isSome_some, reduceCtorEq, false_or, if_true, if_false, false_implies]); (try first | done | omega | (intro _ hx; obtain ⟨_, -, rfl⟩ := List.mem_map.1 hx; exact .lit _))))
          · rename_i y2
            have y3 : ¬ (j : Int) < -n ∨ n = -9223372036854775808 := by rw [wrap_i64] at y2; omega
            split
            · refine FnPost_end hn0 (by simp) rfl (only_lit _ _) ?_
              simp only [go_sem]
              exact leA_int (by unfold shiftF; rw [if_neg (by omega), if_neg (by omega)])
            · refine FnPost_end hn0 (by simp) rfl (only_lit _ _) ?_
              simp only [go_sem]
              refine leA_int ?_
              unfold shiftF
              by_cases hn0' : 0 ≤ n
              · have : j = 0 := by omega
                subst this
                rw [if_pos hn0', Int.pow_zero, Int.ediv_one, hA, if_pos hn0']
              · have : j = (-n).toNat := by omega
                subst this
                rw [if_neg hn0', hA, if_neg hn0', if_pos (by omega)]
        · simp only [go_sem, Int.not_lt.2 y1]
          have : j = 64 := by omega
          subst this
          have y4 : n ≤ -64 := by have := hj2 (by decide); omega
          split
          · refine FnPost_end hn0 (by simp) rfl (only_lit _ _) ?_
            simp only [go_sem]
            exact leA_int (by unfold shiftF; rw [if_neg (by omega), if_neg (by omega)])
          · refine FnPost_end hn0 (by simp) rfl (only_lit _ _) ?_
            simp only [go_sem]
            exact leA_int (by unfold shiftF; rw [if_neg (by omega), if_neg (by omega)]; exact Int.ediv_eq_zero_of_lt hv0 (by omega))
theorem blK_half (j n : Nat) : blK (j + j) n = if 2 ^ j ≤ n then j + blK j (n / 2 ^ j) else blK j n := by
  split
  · exact blK_big j j n ‹_›
  · exact blK_more j j n (by omega)
def tabOk (s : ByteArray) : Bool := s.size == 256 && (List.range 256).all fun i => byteAt s i == ((blK 8 i : Nat) : Int)
theorem tab_ok (s : ByteArray) (h : tabOk s = true) : s.size = 256 ∧ ∀ i : Fin 256, byteAt s i.val = ((blK 8 i.val : Nat) : Int) := by
  simp only [tabOk, Bool.and_eq_true, beq_iff_eq, List.all_eq_true, List.mem_range] at h
  exact ⟨h.1, fun i => h.2 i.val i.isLt⟩
theorem Len_c (u : Int) (h0 : 0 ≤ u) (h1 : u < 18446744073709551616) (g : GH) : PureC Try.prog 89 [U64 u] g (I64 (blK 64 u.toNat)) := by
  obtain ⟨n, rfl⟩ := Int.eq_ofNat_of_zero_le h0
  try rw [Int.toNat_natCast]
  refine CallC.body (fun _ => none) (fun _ => 0) Try.func89 rfl Try.results89 Try.ntmps89 ?_
  intro n0 hn0
  have b1 : blK 64 (n) = _ := blK_half 32 (n)
  by_cases z1 : 4294967296 ≤ (n : Int)
  · rw [show (2:Nat) ^ 32 = 4294967296 from rfl, if_pos (by omega)] at b1
    have b2 : blK 32 (n / 4294967296) = _ := blK_half 16 (n / 4294967296)
    by_cases z2 : 65536 ≤ (n : Int) / 4294967296
    · rw [show (2:Nat) ^ 16 = 65536 from rfl, if_pos (by omega)] at b2
      have b3 : blK 16 (n / 4294967296 / 65536) = _ := blK_half 8 (n / 4294967296 / 65536)
      by_cases z3 : 256 ≤ (n : Int) / 4294967296 / 65536
      · rw [show (2:Nat) ^ 8 = 256 from rfl, if_pos (by omega)] at b3
        have hq : n / 4294967296 / 65536 / 256 < 256 := by omega
        have eE : IntKind.u8.wrap ((n : Int) / 4294967296 / 65536 / 256) = ((n / 4294967296 / 65536 / 256 : Nat) : Int) := by rw [wrap_u8]; omega
        have hb := blK_le 8 (n / 4294967296 / 65536 / 256)
        simp only [go_sem, z1, z2, z3]
        generalize hs : ByteArray.mk _ = s
        have hk : tabOk s = true := by rw [← hs]; decide +kernel
        clear hs
        obtain ⟨hs2, ht⟩ := tab_ok s hk
        have hv := ht ⟨n / 4294967296 / 65536 / 256, hq⟩
        simp only at hv
        rw [eE]
        refine ⟨⟨by omega, by rw [hs2]; omega⟩, ?_⟩
        (try rw [Int.toNat_natCast]); rw [hv]
        refine FnPost_end hn0 (by simp) rfl (only_lit _ _) ?_
        simp only [go_sem]
        refine leA_int ?_
        clear hv ht hs2 eE
        rw [b1, b2, b3]
        generalize blK 8 (n / 4294967296 / 65536 / 256) = t at *
        clear b1 b2 b3 z1 z2 z3 h0 h1 hq
        simp only [wrap_i64]
        omega
      · rw [show (2:Nat) ^ 8 = 256 from rfl, if_neg (by omega)] at b3
        have hq : n / 4294967296 / 65536 < 256 := by omega
        have eE : IntKind.u8.wrap ((n : Int) / 4294967296 / 65536) = ((n / 4294967296 / 65536 : Nat) : Int) := by rw [wrap_u8]; omega
        have hb := blK_le 8 (n / 4294967296 / 65536)
        simp only [go_sem, z1, z2, z3]
        generalize hs : ByteArray.mk _ = s
        have hk : tabOk s = true := by rw [← hs]; decide +kernel
        clear hs
        obtain ⟨hs2, ht⟩ := tab_ok s hk
        have hv := ht ⟨n / 4294967296 / 65536, hq⟩
        simp only at hv
        rw [eE]
        refine ⟨⟨by omega, by rw [hs2]; omega⟩, ?_⟩
        (try rw [Int.toNat_natCast]); rw [hv]
        refine FnPost_end hn0 (by simp) rfl (only_lit _ _) ?_
        simp only [go_sem]
        refine leA_int ?_
        clear hv ht hs2 eE
        rw [b1, b2, b3]
        generalize blK 8 (n / 4294967296 / 65536) = t at *
        clear b1 b2 b3 z1 z2 z3 h0 h1 hq
        simp only [wrap_i64]
        omega
    · rw [show (2:Nat) ^ 16 = 65536 from rfl, if_neg (by omega)] at b2
      have b3 : blK 16 (n / 4294967296) = _ := blK_half 8 (n / 4294967296)
      by_cases z3 : 256 ≤ (n : Int) / 4294967296
      · rw [show (2:Nat) ^ 8 = 256 from rfl, if_pos (by omega)] at b3
        have hq : n / 4294967296 / 256 < 256 := by omega
        have eE : IntKind.u8.wrap ((n : Int) / 4294967296 / 256) = ((n / 4294967296 / 256 : Nat) : Int) := by rw [wrap_u8]; omega
        have hb := blK_le 8 (n / 4294967296 / 256)
        simp only [go_sem, z1, z2, z3]
        generalize hs : ByteArray.mk _ = s
        have hk : tabOk s = true := by rw [← hs]; decide +kernel
        clear hs
        obtain ⟨hs2, ht⟩ := tab_ok s hk
        have hv := ht ⟨n / 4294967296 / 256, hq⟩
        simp only at hv
        rw [eE]
        refine ⟨⟨by omega, by rw [hs2]; omega⟩, ?_⟩
        (try rw [Int.toNat_natCast]); rw [hv]
        refine FnPost_end hn0 (by simp) rfl (only_lit _ _) ?_
        simp only [go_sem]
        refine leA_int ?_
        clear hv ht hs2 eE
        rw [b1, b2, b3]
        generalize blK 8 (n / 4294967296 / 256) = t at *
        clear b1 b2 b3 z1 z2 z3 h0 h1 hq
        simp only [wrap_i64]
        omega
      · rw [show (2:Nat) ^ 8 = 256 from rfl, if_neg (by omega)] at b3
        have hq : n / 4294967296 < 256 := by omega
        have eE : IntKind.u8.wrap ((n : Int) / 4294967296) = ((n / 4294967296 : Nat) : Int) := by rw [wrap_u8]; omega
        have hb := blK_le 8 (n / 4294967296)
        simp only [go_sem, z1, z2, z3]
        generalize hs : ByteArray.mk _ = s
        have hk : tabOk s = true := by rw [← hs]; decide +kernel
        clear hs
        obtain ⟨hs2, ht⟩ := tab_ok s hk
        have hv := ht ⟨n / 4294967296, hq⟩
        simp only at hv
        rw [eE]
        refine ⟨⟨by omega, by rw [hs2]; omega⟩, ?_⟩
        (try rw [Int.toNat_natCast]); rw [hv]
        refine FnPost_end hn0 (by simp) rfl (only_lit _ _) ?_
        simp only [go_sem]
        refine leA_int ?_
        clear hv ht hs2 eE
        rw [b1, b2, b3]
        generalize blK 8 (n / 4294967296) = t at *
        clear b1 b2 b3 z1 z2 z3 h0 h1 hq
        simp only [wrap_i64]
        omega
  · rw [show (2:Nat) ^ 32 = 4294967296 from rfl, if_neg (by omega)] at b1
    have b2 : blK 32 (n) = _ := blK_half 16 (n)
    by_cases z2 : 65536 ≤ (n : Int)
    · rw [show (2:Nat) ^ 16 = 65536 from rfl, if_pos (by omega)] at b2
      have b3 : blK 16 (n / 65536) = _ := blK_half 8 (n / 65536)
      by_cases z3 : 256 ≤ (n : Int) / 65536
      · rw [show (2:Nat) ^ 8 = 256 from rfl, if_pos (by omega)] at b3
        have hq : n / 65536 / 256 < 256 := by omega
        have eE : IntKind.u8.wrap ((n : Int) / 65536 / 256) = ((n / 65536 / 256 : Nat) : Int) := by rw [wrap_u8]; omega
        have hb := blK_le 8 (n / 65536 / 256)
        simp only [go_sem, z1, z2, z3]
        generalize hs : ByteArray.mk _ = s
        have hk : tabOk s = true := by rw [← hs]; decide +kernel
        clear hs
        obtain ⟨hs2, ht⟩ := tab_ok s hk
        have hv := ht ⟨n / 65536 / 256, hq⟩
        simp only at hv
        rw [eE]
        refine ⟨⟨by omega, by rw [hs2]; omega⟩, ?_⟩
        (try rw [Int.toNat_natCast]); rw [hv]
        refine FnPost_end hn0 (by simp) rfl (only_lit _ _) ?_
        simp only [go_sem]
        refine leA_int ?_
        clear hv ht hs2 eE
        rw [b1, b2, b3]
        generalize blK 8 (n / 65536 / 256) = t at *
        clear b1 b2 b3 z1 z2 z3 h0 h1 hq
        simp only [wrap_i64]
        omega
      · rw [show (2:Nat) ^ 8 = 256 from rfl, if_neg (by omega)] at b3
        have hq : n / 65536 < 256 := by omega
        have eE : IntKind.u8.wrap ((n : Int) / 65536) = ((n / 65536 : Nat) : Int) := by rw [wrap_u8]; omega
        have hb := blK_le 8 (n / 65536)
        simp only [go_sem, z1, z2, z3]
        generalize hs : ByteArray.mk _ = s
        have hk : tabOk s = true := by rw [← hs]; decide +kernel
        clear hs
        obtain ⟨hs2, ht⟩ := tab_ok s hk
        have hv := ht ⟨n / 65536, hq⟩
        simp only at hv
        rw [eE]
        refine ⟨⟨by omega, by rw [hs2]; omega⟩, ?_⟩
        (try rw [Int.toNat_natCast]); rw [hv]
        refine FnPost_end hn0 (by simp) rfl (only_lit _ _) ?_
        simp only [go_sem]
        refine leA_int ?_
        clear hv ht hs2 eE
        rw [b1, b2, b3]
        generalize blK 8 (n / 65536) = t at *
        clear b1 b2 b3 z1 z2 z3 h0 h1 hq
        simp only [wrap_i64]
        omega
    · rw [show (2:Nat) ^ 16 = 65536 from rfl, if_neg (by omega)] at b2
      have b3 : blK 16 (n) = _ := blK_half 8 (n)
      by_cases z3 : 256 ≤ (n : Int)
      · rw [show (2:Nat) ^ 8 = 256 from rfl, if_pos (by omega)] at b3
        have hq : n / 256 < 256 := by omega
        have eE : IntKind.u8.wrap ((n : Int) / 256) = ((n / 256 : Nat) : Int) := by rw [wrap_u8]; omega
        have hb := blK_le 8 (n / 256)
        simp only [go_sem, z1, z2, z3]
        generalize hs : ByteArray.mk _ = s
        have hk : tabOk s = true := by rw [← hs]; decide +kernel
        clear hs
        obtain ⟨hs2, ht⟩ := tab_ok s hk
        have hv := ht ⟨n / 256, hq⟩
        simp only at hv
        rw [eE]
        refine ⟨⟨by omega, by rw [hs2]; omega⟩, ?_⟩
        (try rw [Int.toNat_natCast]); rw [hv]
        refine FnPost_end hn0 (by simp) rfl (only_lit _ _) ?_
        simp only [go_sem]
        refine leA_int ?_
        clear hv ht hs2 eE
        rw [b1, b2, b3]
        generalize blK 8 (n / 256) = t at *
        clear b1 b2 b3 z1 z2 z3 h0 h1 hq
        simp only [wrap_i64]
        omega
      · rw [show (2:Nat) ^ 8 = 256 from rfl, if_neg (by omega)] at b3
        have hq : n < 256 := by omega
        have eE : IntKind.u8.wrap ((n : Int)) = ((n : Nat) : Int) := by rw [wrap_u8]; omega
        have hb := blK_le 8 (n)
        simp only [go_sem, z1, z2, z3]
        generalize hs : ByteArray.mk _ = s
        have hk : tabOk s = true := by rw [← hs]; decide +kernel
        clear hs
        obtain ⟨hs2, ht⟩ := tab_ok s hk
        have hv := ht ⟨n, hq⟩
        simp only at hv
        rw [eE]
        refine ⟨⟨by omega, by rw [hs2]; omega⟩, ?_⟩
        (try rw [Int.toNat_natCast]); rw [hv]
        refine FnPost_end hn0 (by simp) rfl (only_lit _ _) ?_
        simp only [go_sem]
        refine leA_int ?_
        clear hv ht hs2 eE
        rw [b1, b2, b3]
        generalize blK 8 (n) = t at *
        clear b1 b2 b3 z1 z2 z3 h0 h1 hq
        simp only [wrap_i64]
        omega
theorem Log_c (u : Int) (h0 : 0 ≤ u) (h1 : u < 18446744073709551616) (g : GH) : PureC Try.prog 32 [U64 u] g (I64 (blK 64 u.toNat - 1)) := by
  have := blK_le 64 u.toNat
  refine CallC.body (fun _ => none) (fun _ => 0) Try.func32 rfl Try.results32 Try.ntmps32 ?_
  intro n0 hn0
  simp only [go_sem]
  refine WE_pure _ _ _ _ _ _ _ _ (Len_c u h0 h1 _) ?_
  simp only [go_sem]
  refine FnPost_end hn0 (by simp) rfl (only_lit _ _) ?_
  simp only [go_sem]
  exact leA_int (by rw [wrap_i64]; omega)
theorem law_places (u n : Int) (h0 : 0 ≤ u) (h1 : u < 18446744073709551616) (hn : -9223372036854775808 ≤ n) (hn1 : n ≤ 9223372036854775807) (g : GH) : PureC Try.prog 7 [U64 u, I64 n] g (BB true) := by
  have hr : 0 ≤ imn (imx n 0) 64 ∧ imn (imx n 0) 64 ≤ 64 := by unfold imn imx; (repeat' split) <;> omega
  have ht := turnF_lt u h0 (imn (imx n 0) 64).toNat
  have ht2 := pow_le64 (imn (imx n 0) 64).toNat (by omega)
  have hu := turnF_lt u h0 64
  have hu2 := pow_le64 64 (by decide)
  refine CallC.body (fun _ => none) (fun _ => 0) Try.func7 rfl Try.results7 Try.ntmps7 ?_
  intro n0 hn0
  simp only [go_sem]
  refine WE_pure _ _ _ _ _ _ _ _ (Wide_c n 0 (by omega) _) ?_
  simp only [go_sem]
  refine WE_pure _ _ _ _ _ _ _ _ (Turn_c u n h0 h1 _) ?_
  simp only [go_sem]
  refine WE_pure _ _ _ _ _ _ _ _ (Log_c u h0 h1 _) ?_
  simp only [go_sem]
  refine WE_pure _ _ _ _ _ _ _ _ (rLog_c u h0 h1 _) ?_
  simp only [go_sem]
  refine WE_pure _ _ _ _ _ _ _ _ (count_c u h0 h1 _) ?_
  simp only [go_sem]
  refine WE_pure _ _ _ _ _ _ _ _ (rCount_c u h0 h1 _) ?_
  simp only [go_sem]
  refine WE_pure _ _ _ _ _ _ _ _ (Shift_c u n h0 h1 hn hn1 _) ?_
  simp only [go_sem]
  refine WE_pure _ _ _ _ _ _ _ _ (rShift_c u n h0 h1 hn hn1 _) ?_
  simp only [go_sem]
  refine WE_pure _ _ _ _ _ _ _ _ (rTurn_c u _ h0 h1 hr.1 hr.2 _) ?_
  simp only [go_sem]
  refine WE_pure _ _ _ _ _ _ _ _ (Turn_c _ n ht.1 (by omega) _) ?_
  simp only [go_sem]
  refine WE_pure _ _ _ _ _ _ _ _ (rTurn_c u _ h0 h1 hr.1 hr.2 _) ?_
  simp only [go_sem]
  refine WE_pure _ _ _ _ _ _ _ _ (rTurn_c _ _ ht.1 (by omega) hr.1 hr.2 _) ?_
  simp only [go_sem]
  refine WE_pure _ _ _ _ _ _ _ _ (Turn_c u 64 h0 h1 _) ?_
  simp only [go_sem, show imn (imx 64 0) 64 = 64 from rfl]
  refine WE_pure _ _ _ _ _ _ _ _ (count_c _ hu.1 (by omega) _) ?_
  simp only [go_sem]
  refine WE_pure _ _ _ _ _ _ _ _ (rCount_c u h0 h1 _) ?_
  simp only [go_sem]
  have e : pcK 64 (turnF u 64).toNat = pcK 64 u.toNat := by
    have := turn_pc u.toNat 64 64 (by decide)
    rw [Int.toNat_of_nonneg h0] at this
    exact this
  rw [e]
  simp only [go_sem]
  refine WE_pure _ _ _ _ _ _ _ _ (lives_c _) ?_
  simp only [go_sem]
  refine FnPost_end hn0 (by simp) rfl (only_lit _ _) ?_
  simp only [go_sem]
  exact leA_refl _
theorem places_row (a0 a1 : Int) (w0 : (Lit.int .u64 a0).wf = true) (w1 : (Lit.int .i64 a1).wf = true) (g : GH) : PureC Try.prog 7 [U64 a0, I64 a1] g (BB true) :=
  law_places a0 a1 (wf_u64 w0).1 (wf_u64 w0).2 (wf_i64 w1).1 (wf_i64 w1).2 g
end Go.Proofs.Ytmnjmeebadpgjaa.Bits
