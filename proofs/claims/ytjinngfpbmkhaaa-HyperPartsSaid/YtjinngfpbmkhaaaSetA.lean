import Derived.Test.YtjinngfpbmkhaaaBitsPlaces
import Derived.Test.YtjinngfpbmkhaaaAvZ
import Derived.Test.YtjinngfpbmkhaaaSetM
/- Sets of small numbers: what is only read. -/
namespace Go.Proofs.Ytjinngfpbmkhaaa.Set
open Go Go.Av
open Go.Proofs.Ytjinngfpbmkhaaa.Bits (andI_NB orI_NB)
set_option linter.unusedSimpArgs false
set_option linter.unusedVariables false
abbrev SI (ws : List W64) : AV := .iptr [.isl none (Wl ws) .no]
theorem Wl_get (ws : List W64) (i : Nat) (h : i < ws.length) : (Wl ws).getD i .any = U64 (NB (ws.getD i 0#64)) := by
  simp [List.getD_eq_getElem?_getD, h]
theorem and63 (a : Nat) (ha : a < 9223372036854775808) : andI .i64 (a : Int) 63 = ((a % 64 : Nat) : Int) := by
  show IntKind.i64.wrap ((BitVec.ofInt 64 (a : Int) &&& BitVec.ofInt 64 (63 : Int)).toNat : Int) = _
  rw [BitVec.toNat_and, BitVec.toNat_ofInt, show (BitVec.ofInt 64 63).toNat = 2 ^ 6 - 1 from rfl, Nat.and_two_pow_sub_one_eq_mod, show ((a : Int) % ((2 ^ 64 : Nat) : Int)).toNat = a by omega, wrap_i64]
  omega
theorem shl1 (k : Nat) (hk : k < 64) : IntKind.u64.wrap (1 * 2 ^ (min (IntKind.u64.wrap ((k : Nat) : Int)).toNat 64)) = NB (BitVec.twoPow 64 k) := by
  rw [show IntKind.u64.wrap ((k : Nat) : Int) = (k : Int) by rw [wrap_u64]; omega, Int.toNat_natCast, show min k 64 = k by omega, wrap_u64]
  unfold NB
  rw [BitVec.toNat_twoPow]
  rw [Int.one_mul, show ((2 ^ k % 2 ^ 64 : Nat) : Int) = ((2 ^ k : Nat) : Int) % 18446744073709551616 by omega, Int.natCast_pow]; rfl
theorem u64_mod (n : Nat) : IntKind.u64.wrap ((n % 64 : Nat) : Int) = ((n % 64 : Nat) : Int) := by rw [wrap_u64]; omega
theorem bit_c (n : Nat) (hn : n < 9223372036854775808) (g : GH) : PureC Try.prog 137 [I64 n] g (U64 (NB (bitW n))) := by
  refine CallC.body (fun _ => none) (fun _ => 0) Try.func137 rfl Try.results137 Try.ntmps137 ?_
  intro n0 hn0
  simp only [go_sem]
  simp only [go_sem, and63 n hn, u64_mod]
  rw [if_pos (show n % 64 ≤ 64 by omega)]
  (repeat (refine ⟨by omega, ?_⟩))
  refine FnPost_end hn0 (by simp) rfl (only_lit _ _) ?_
  simp only [go_sem]
  have := shl1 (n % 64) (Nat.mod_lt n (by omega))
  rw [u64_mod, Int.toNat_natCast, show min (n % 64) 64 = n % 64 by omega] at this
  exact leA_int this
theorem words_c (ws : List W64) (g : GH) : PureC Try.prog 136 [SI ws] g (.isl none (Wl ws) .no) := by
  refine CallC.body (fun _ => none) (fun _ => 0) Try.func136 rfl Try.results136 Try.ntmps136 ?_
  intro n0 hn0
  simp only [go_sem]
  refine FnPost_end hn0 (by simp) rfl (by simp only [only_tup, List.mem_cons, List.not_mem_nil, or_false, forall_eq_or_imp, forall_eq, only_any, only_lit', only_full, only_no, only_iptr, only_agg, and_self, and_true, true_and, implies_true, or_false]) ?_
  simp only [go_sem]
  exact leA_refl _
theorem words0_c (g : GH) : PureC Try.prog 136 [.lit (.pointer none)] g (.isl none (Wl []) .no) := by
  refine CallC.body (fun _ => none) (fun _ => 0) Try.func136 rfl Try.results136 Try.ntmps136 ?_
  intro n0 hn0
  simp only [go_sem]
  refine FnPost_end hn0 (by simp) rfl (by simp only [only_tup, List.mem_cons, List.not_mem_nil, or_false, forall_eq_or_imp, forall_eq, only_any, only_lit', only_full, only_no, only_iptr, only_agg, and_self, and_true, true_and, implies_true, or_false]) ?_
  simp only [go_sem]
  exact ⟨.inl rfl, rfl, .inl rfl⟩
/-- a set, or none -/
inductive AnyS : List W64 → AV → Prop where
  | set (ws) : AnyS ws (SI ws)
  | none : AnyS [] (.lit (.pointer .none))
theorem AnyS.only {ws : List W64} {s : AV} (h : AnyS ws s) (p : Nat → Prop) : s.only p ↔ True := by
  cases h with
  | set => exact only_iptr _ _
  | none => exact only_lit' _ _
theorem wordsA_c {ws : List W64} {s : AV} (h : AnyS ws s) (g : GH) : PureC Try.prog 136 [s] g (.isl none (Wl ws) .no) := by
  cases h with
  | set => exact words_c ws g
  | none => exact words0_c g
theorem has_c {ws : List W64} {s : AV} (h : AnyS ws s) (n : Int) (hl : ws.length ≤ 1024) (hn : -9223372036854775808 ≤ n) (hn1 : n ≤ 9223372036854775807) (g : GH) : PureC Try.prog 109 [s, I64 n] g (BB (hasI ws n)) := by
  refine CallC.body (fun _ => none) (fun _ => 0) Try.func109 rfl Try.results109 Try.ntmps109 ?_
  intro n0 hn0
  simp only [go_sem]
  refine WE_pure _ _ _ _ _ _ _ _ (wordsA_c h _) ?_
  simp only [go_sem]
  have e64 : IntKind.i64.wrap ((ws.length : Int) * 64) = (ws.length : Int) * 64 := by rw [wrap_i64]; omega
  refine WC_draw Ty.mixed (by kernel_rfl) ?_
  simp only [go_sem, List.length_map, e64]
  refine DG_split _ _ _ _ _ _ _ _ _ _ (fun hh => ?_) (fun hh => ?_) <;> (try simp only [decide_eq_true_eq, decide_eq_false_iff_not, Bool.not_eq_true', Bool.not_eq_false', Bool.not_eq_true, Bool.not_eq_false] at hh) <;> (first | simp only [go_sem, boolEqH hh, List.length_map, e64] | simp only [go_sem, eq_false hh, List.length_map, e64] | simp only [go_sem, eq_true hh, List.length_map, e64])
  · refine DG_split _ _ _ _ _ _ _ _ _ _ (fun hh => ?_) (fun hh => ?_) <;> (try simp only [decide_eq_true_eq, decide_eq_false_iff_not, Bool.not_eq_true', Bool.not_eq_false', Bool.not_eq_true, Bool.not_eq_false] at hh) <;> (first | simp only [go_sem, boolEqH hh, List.length_map, e64] | simp only [go_sem, eq_false hh, List.length_map, e64] | simp only [go_sem, eq_true hh, List.length_map, e64])
    · obtain ⟨k, rfl⟩ := Int.eq_ofNat_of_zero_le (show 0 ≤ n by assumption)
      have hk : k / 64 < ws.length := by omega
      have ek : ((k : Int) / 64).toNat = k / 64 := by omega
      simp only [go_sem, List.length_map, ek, Wl_get ws _ hk]
      (repeat (refine ⟨by omega, ?_⟩))
      refine DE_pure _ _ _ _ _ _ _ _ _ [] (fun g' _ => bit_c k (by omega) _) ?_
      simp only [go_sem, andI_NB]
      refine FnPost_end hn0 (by simp) rfl (only_lit _ _) ?_
      simp only [go_sem]
      refine leA_bool ?_
      rw [Bool.eq_iff_iff]
      have := and_bitW (ws.getD (k / 64) 0#64) k
      simp only [Bool.not_eq_true', decide_eq_false_iff_not, NB_eq_zero, this, hasI, hasW, Bool.and_eq_true, decide_eq_true_eq, Int.toNat_natCast, Bool.not_eq_false]
      exact ⟨fun h => ⟨by omega, h⟩, fun h => h.2⟩
    · refine FnPost_end hn0 (by simp) rfl (only_lit _ _) ?_
      simp only [go_sem]
      refine leA_bool ?_
      rw [eq_comm, hasI, hasW_big ws n.toNat (by omega), Bool.and_false]
  · refine FnPost_end hn0 (by simp) rfl (only_lit _ _) ?_
    simp only [go_sem]
    refine leA_bool ?_
    simp [hasI, hh]
theorem Has_c {ws : List W64} {s : AV} (h : AnyS ws s) (n : Int) (hl : ws.length ≤ 1024) (hn : -9223372036854775808 ≤ n) (hn1 : n ≤ 9223372036854775807) (g : GH) : PureC Try.prog 70 [s, I64 n] g (BB (hasI ws n)) := by
  refine CallC.body (fun _ => none) (fun _ => 0) Try.func70 rfl Try.results70 Try.ntmps70 ?_
  intro n0 hn0
  simp only [go_sem]
  refine WE_pure _ _ _ _ _ _ _ _ (has_c h n hl hn hn1 _) ?_
  simp only [go_sem]
  refine FnPost_end hn0 (by simp) rfl (only_lit _ _) ?_
  simp only [go_sem]
  exact leA_refl _
theorem at_c (ws : List W64) (i : Nat) (hl : ws.length ≤ 1024) (tok : Tk) (g : GH) : PureC Try.prog 155 [.isl none (Wl ws) tok, I64 i] g (U64 (NB (ws.getD i 0#64))) := by
  refine CallC.body (fun _ => none) (fun _ => 0) Try.func155 rfl Try.results155 Try.ntmps155 ?_
  intro n0 hn0
  simp only [go_sem]
  simp only [go_sem, List.length_map]
  split
  · rename_i h
    refine FnPost_end hn0 (by simp) rfl (only_lit _ _) ?_
    simp only [go_sem]
    rw [getD_len ws _ _ (by omega)]
    exact leA_refl _
  · rename_i h
    simp only [go_sem, List.length_map, Wl_get ws i (by omega)]
    (repeat (refine ⟨by omega, ?_⟩))
    refine FnPost_end hn0 (by simp) rfl (only_lit _ _) ?_
    simp only [go_sem]
    exact leA_refl _
theorem or1_c (x y : W64) (g : GH) : PureC Try.prog 152 [U64 (NB x), U64 (NB y)] g (U64 (NB (orW x y))) := by
  refine CallC.body (fun _ => none) (fun _ => 0) Try.func152 rfl Try.results152 Try.ntmps152 ?_
  intro n0 hn0
  simp only [go_sem]
  refine FnPost_end hn0 (by simp) rfl (only_lit _ _) ?_
  simp only [go_sem]
  exact leA_int (orI_NB x y)
theorem and1_c (x y : W64) (g : GH) : PureC Try.prog 153 [U64 (NB x), U64 (NB y)] g (U64 (NB (andW x y))) := by
  refine CallC.body (fun _ => none) (fun _ => 0) Try.func153 rfl Try.results153 Try.ntmps153 ?_
  intro n0 hn0
  simp only [go_sem]
  refine FnPost_end hn0 (by simp) rfl (only_lit _ _) ?_
  simp only [go_sem]
  exact leA_int (andI_NB x y)
theorem min1_c (x y : W64) (g : GH) : PureC Try.prog 154 [U64 (NB x), U64 (NB y)] g (U64 (NB (minW x y))) := by
  refine CallC.body (fun _ => none) (fun _ => 0) Try.func154 rfl Try.results154 Try.ntmps154 ?_
  intro n0 hn0
  simp only [go_sem]
  refine FnPost_end hn0 (by simp) rfl (only_lit _ _) ?_
  simp only [go_sem]
  refine leA_int ?_
  show IntKind.u64.wrap ((BitVec.ofInt 64 (NB x) &&& ~~~ BitVec.ofInt 64 (NB y)).toNat : Int) = _
  rw [NB_ofInt, NB_ofInt, NB_wrap]; rfl
theorem trim_c (id ver : Nat) (ws : List W64) (hl : ws.length ≤ 4096) (g : GH) (hg : g id = some (.cells ver (Wl ws))) : PureC Try.prog 156 [.osl id ver 1 0 ws.length] g (.osl id ver 1 0 (trimN ws ws.length)) := by
  refine CallC.body (fun _ => none) (fun _ => 0) Try.func156 rfl Try.results156 Try.ntmps156 ?_
  intro n0 hn0
  simp only [go_sem]
  have hid : id < n0 := by
    apply Nat.lt_of_not_le
    intro h; rw [hn0 id h] at hg; cases hg
  refine WC_loop (fun m : Nat => [.osl id ver 1 0 m, .any, .any, .any, .any, .any, .any, .any, .any, .any, .any, .any, .any, .any, .any, .any, .any, .any, .any, .any, .any]) (fun i => ⟨g, []⟩) (fun m => m ≤ ws.length ∧ trimN ws ws.length = trimN ws m) (fun i => i) ws.length (by simp) ?_ ?_
  · refine imp_loc (by ((try simp only [cells_agg, cells_lit, leL_cons, leL_nil, leA_any, leA_lits, leA_isl, leA_self, and_self, true_and, and_true, or_true, true_or, Value.int.injEq, Value.bool.injEq, Value.string.injEq, AV.lit.injEq, Option.some.injEq, Blk.cells.injEq, Blk.tok.injEq, List.cons.injEq, Tk.at.injEq, subL_nil, subL_cons, look_nil, look_cons, ↓reduceIte, Nat.reduceEqDiff, Option.isSome_some, reduceCtorEq, or_false, false_or, if_true, if_false, keepP_out hid]); (try first | done | omega | (simp; done) | (simp; omega)))) (by ((try simp only [cells_agg, cells_lit, leL_cons, leL_nil, leA_any, leA_lits, leA_isl, leA_self, and_self, true_and, and_true, or_true, true_or, Value.int.injEq, Value.bool.injEq, Value.string.injEq, AV.lit.injEq, Option.some.injEq, Blk.cells.injEq, Blk.tok.injEq, List.cons.injEq, Tk.at.injEq, subL_nil, subL_cons, look_nil, look_cons, ↓reduceIte, Nat.reduceEqDiff, Option.isSome_some, reduceCtorEq, or_false, false_or, if_true, if_false, keepP_out hid]); (try first | done | omega | (simp; done) | (simp; omega)))) (by ((try simp only [cells_agg, cells_lit, List.mem_cons, List.not_mem_nil, or_false, forall_eq_or_imp, forall_eq, only_any, only_lit', only_iptr, only_no, only_full, only_at, only_ptr, only_osl, only_agg, only_tup, only_fn, and_self, implies_true, and_true, true_and, okL_nil, okL_cons, bonly_cells, bonly_tok, keepP_add, look_nil, look_cons, ↓reduceIte, Nat.reduceEqDiff, Option.isSome_some, reduceCtorEq, false_or, if_true, if_false, false_implies, keepP_out hid]); (try first | done | omega | ((repeat' refine And.intro ?_ ?_) <;> (intro _ hx; obtain ⟨_, -, rfl⟩ := List.mem_map.1 hx; exact .lit _))))) (by ((try simp only [cells_agg, cells_lit, List.mem_cons, List.not_mem_nil, or_false, forall_eq_or_imp, forall_eq, only_any, only_lit', only_iptr, only_no, only_full, only_at, only_ptr, only_osl, only_agg, only_tup, only_fn, and_self, implies_true, and_true, true_and, okL_nil, okL_cons, bonly_cells, bonly_tok, keepP_add, look_nil, look_cons, ↓reduceIte, Nat.reduceEqDiff, Option.isSome_some, reduceCtorEq, false_or, if_true, if_false, false_implies, keepP_out hid]); (try first | done | omega | ((repeat' refine And.intro ?_ ?_) <;> (intro _ hx; obtain ⟨_, -, rfl⟩ := List.mem_map.1 hx; exact .lit _)))))
  · rintro m ⟨hm, hm2⟩
    simp only [go_sem]
    cases m with
    | zero =>
      simp only [go_sem]
      refine FnPost_end hn0 (by simp) rfl (by simp only [only_osl]; exact hid) ?_
      simp only [go_sem, hm2, trimN]
      exact leA_refl _
    | succ m =>
      have e0 : IntKind.i64.wrap (((m + 1 : Nat) : Int) - 1) = (m : Int) := by rw [wrap_i64]; omega
      have h0 : (0 : Int) < ((m + 1 : Nat) : Int) := by omega
      have hc : (Wl ws).getD m .any = U64 (NB (ws.getD m 0#64)) := Wl_get ws m (by omega)
      simp only [go_sem, h0, e0, get_out _ _ _ _ hid, hg, Nat.mul_one, hc, List.length_map]
      (repeat (refine ⟨by omega, ?_⟩))
      split
      · rename_i hz
        rw [NB_eq_zero] at hz
        (repeat (refine ⟨by omega, ?_⟩))
        refine LP_next m ⟨by omega, by rw [hm2]; exact trim_step ws m hz⟩ (by omega) ?_
        refine imp_loc (by ((try simp only [cells_agg, cells_lit, leL_cons, leL_nil, leA_any, leA_lits, leA_isl, leA_self, and_self, true_and, and_true, or_true, true_or, Value.int.injEq, Value.bool.injEq, Value.string.injEq, AV.lit.injEq, Option.some.injEq, Blk.cells.injEq, Blk.tok.injEq, List.cons.injEq, Tk.at.injEq, subL_nil, subL_cons, look_nil, look_cons, ↓reduceIte, Nat.reduceEqDiff, Option.isSome_some, reduceCtorEq, or_false, false_or, if_true, if_false, keepP_out hid, Nat.sub_zero]); (try first | done | omega | (simp; done) | (simp; omega)))) (by ((try simp only [cells_agg, cells_lit, leL_cons, leL_nil, leA_any, leA_lits, leA_isl, leA_self, and_self, true_and, and_true, or_true, true_or, Value.int.injEq, Value.bool.injEq, Value.string.injEq, AV.lit.injEq, Option.some.injEq, Blk.cells.injEq, Blk.tok.injEq, List.cons.injEq, Tk.at.injEq, subL_nil, subL_cons, look_nil, look_cons, ↓reduceIte, Nat.reduceEqDiff, Option.isSome_some, reduceCtorEq, or_false, false_or, if_true, if_false, keepP_out hid, Nat.sub_zero]); (try first | done | omega | (simp; done) | (simp; omega)))) (by ((try simp only [cells_agg, cells_lit, List.mem_cons, List.not_mem_nil, or_false, forall_eq_or_imp, forall_eq, only_any, only_lit', only_iptr, only_no, only_full, only_at, only_ptr, only_osl, only_agg, only_tup, only_fn, and_self, implies_true, and_true, true_and, okL_nil, okL_cons, bonly_cells, bonly_tok, keepP_add, look_nil, look_cons, ↓reduceIte, Nat.reduceEqDiff, Option.isSome_some, reduceCtorEq, false_or, if_true, if_false, false_implies, keepP_out hid, Nat.sub_zero]); (try first | done | omega | ((repeat' refine And.intro ?_ ?_) <;> (intro _ hx; obtain ⟨_, -, rfl⟩ := List.mem_map.1 hx; exact .lit _))))) (by ((try simp only [cells_agg, cells_lit, List.mem_cons, List.not_mem_nil, or_false, forall_eq_or_imp, forall_eq, only_any, only_lit', only_iptr, only_no, only_full, only_at, only_ptr, only_osl, only_agg, only_tup, only_fn, and_self, implies_true, and_true, true_and, okL_nil, okL_cons, bonly_cells, bonly_tok, keepP_add, look_nil, look_cons, ↓reduceIte, Nat.reduceEqDiff, Option.isSome_some, reduceCtorEq, false_or, if_true, if_false, false_implies, keepP_out hid, Nat.sub_zero]); (try first | done | omega | ((repeat' refine And.intro ?_ ?_) <;> (intro _ hx; obtain ⟨_, -, rfl⟩ := List.mem_map.1 hx; exact .lit _)))))
      · rename_i hz
        rw [NB_eq_zero] at hz
        refine FnPost_end hn0 (by simp) rfl (by simp only [only_osl]; exact hid) ?_
        simp only [go_sem, hm2, trim_stop ws m hz]
        exact leA_refl _
theorem Il_app (l : List Int) (n : Int) : Il l ++ [I64 n] = Il (l ++ [n]) := by simp
theorem elsOk_Il (l : List Int) : elsOk 1 (Il l) ↔ True := by
  refine ⟨fun _ => trivial, fun _ e he => ?_⟩
  obtain ⟨p, -, rfl⟩ := List.mem_map.1 he
  exact ⟨rfl, rfl⟩
theorem elsOk_Wl (l : List W64) : elsOk 1 (Wl l) ↔ True := by
  refine ⟨fun _ => trivial, fun _ e he => ?_⟩
  obtain ⟨p, -, rfl⟩ := List.mem_map.1 he
  exact ⟨rfl, rfl⟩
theorem memB_le (ws : List W64) (b : Nat) : (memB ws b).length ≤ b := by
  unfold memB; rw [List.length_map]; exact Nat.le_trans (List.length_filter_le _ _) (by simp)
/-! ### two sets -/
theorem both_c {ws vs : List W64} {s t : AV} (h : AnyS ws s) (k : AnyS vs t) (f : W64 → W64 → W64) (fn : FuncId) (hf : ∀ x y g, PureC Try.prog fn [U64 (NB x), U64 (NB y)] g (U64 (NB (f x y)))) (hcl : callable Try.prog fn = true) (hl : ws.length ≤ 1024) (hl2 : vs.length ≤ 1024) (g : GH) :
    PureC Try.prog 151 [s, t, .fn fn []] g (SI (trimW (opW f ws vs))) := by
  refine CallC.body (fun _ => none) (fun d => if d = 20 then 2 else 0) Try.func151 rfl Try.results151 Try.ntmps151 ?_
  intro n0 hn0
  simp only [go_sem]
  refine WE_pure _ _ _ _ _ _ _ _ (wordsA_c h _) ?_
  simp only [go_sem]
  refine WE_pure _ _ _ _ _ _ _ _ (wordsA_c k _) ?_
  simp only [go_sem, List.length_map]
  have eK : imx (ws.length : Int) (vs.length : Int) = ((max ws.length vs.length : Nat) : Int) := by unfold imx; split <;> omega
  simp only [go_sem, eK]
  (repeat (refine ⟨by omega, ?_⟩))
  have hK : max ws.length vs.length ≤ 1024 := by omega
  have e0 : ([AV.lit (Value.int IntKind.u64 0)].headD AV.any) = U64 0 := rfl
  refine WC_loop (fun i : Nat => [.any, .any, .fn fn [], .any, .any, .any, .any, .isl none (Wl ws) .no, .isl none (Wl vs) .no, .osl (n0 + 20) 0 1 0 (max ws.length vs.length), .any, .any, .any, .any, .any, .any, .any, .any, .any, .any, .any, .any, I64 (max ws.length vs.length : Nat), I64 i, .any, .any, .any, .any, .any, .any, .any, .any, .any, .any, .any, .any, .any, .any, .any, .any, .any, .any]) (fun i => ⟨g, [(20, .cells 0 (Wl (opS f ws vs i)))]⟩) (fun i => i ≤ max ws.length vs.length) (fun i => max ws.length vs.length - i) 0 (by simp) ?_ ?_
  · refine imp_loc (by ((try simp only [cells_agg, cells_lit, leL_cons, leL_nil, leA_any, leA_lits, leA_isl, leA_self, and_self, true_and, and_true, or_true, true_or, Value.int.injEq, Value.bool.injEq, Value.string.injEq, AV.lit.injEq, Option.some.injEq, Blk.cells.injEq, Blk.tok.injEq, List.cons.injEq, Tk.at.injEq, subL_nil, subL_cons, look_nil, look_cons, ↓reduceIte, Nat.reduceEqDiff, Option.isSome_some, reduceCtorEq, or_false, false_or, if_true, if_false, opS_zero, e0, Wl_rep, only_fn]); (try first | done | omega | (simp; done) | (simp; omega)))) (by ((try simp only [cells_agg, cells_lit, leL_cons, leL_nil, leA_any, leA_lits, leA_isl, leA_self, and_self, true_and, and_true, or_true, true_or, Value.int.injEq, Value.bool.injEq, Value.string.injEq, AV.lit.injEq, Option.some.injEq, Blk.cells.injEq, Blk.tok.injEq, List.cons.injEq, Tk.at.injEq, subL_nil, subL_cons, look_nil, look_cons, ↓reduceIte, Nat.reduceEqDiff, Option.isSome_some, reduceCtorEq, or_false, false_or, if_true, if_false, opS_zero, e0, Wl_rep, only_fn]); (try first | done | omega | (simp; done) | (simp; omega)))) (by ((try simp only [cells_agg, cells_lit, List.mem_cons, List.not_mem_nil, or_false, forall_eq_or_imp, forall_eq, only_any, only_lit', only_iptr, only_no, only_full, only_at, only_ptr, only_osl, only_agg, only_tup, only_fn, and_self, implies_true, and_true, true_and, okL_nil, okL_cons, bonly_cells, bonly_tok, keepP_add, look_nil, look_cons, ↓reduceIte, Nat.reduceEqDiff, Option.isSome_some, reduceCtorEq, false_or, if_true, if_false, false_implies, opS_zero, e0, Wl_rep, only_fn]); (try first | done | omega | ((repeat' refine And.intro ?_ ?_) <;> (intro _ hx; obtain ⟨_, -, rfl⟩ := List.mem_map.1 hx; exact .lit _))))) (by ((try simp only [cells_agg, cells_lit, List.mem_cons, List.not_mem_nil, or_false, forall_eq_or_imp, forall_eq, only_any, only_lit', only_iptr, only_no, only_full, only_at, only_ptr, only_osl, only_agg, only_tup, only_fn, and_self, implies_true, and_true, true_and, okL_nil, okL_cons, bonly_cells, bonly_tok, keepP_add, look_nil, look_cons, ↓reduceIte, Nat.reduceEqDiff, Option.isSome_some, reduceCtorEq, false_or, if_true, if_false, false_implies, opS_zero, e0, Wl_rep, only_fn]); (try first | done | omega | ((repeat' refine And.intro ?_ ?_) <;> (intro _ hx; obtain ⟨_, -, rfl⟩ := List.mem_map.1 hx; exact .lit _)))))
  · intro i hi
    simp only [go_sem]
    split
    · rename_i hlt
      have hlt : i < max ws.length vs.length := by omega
      have e1 : IntKind.i64.wrap ((i : Int) + 1) = ((i + 1 : Nat) : Int) := by rw [wrap_i64]; omega
      refine WE_pure _ _ _ _ _ _ _ _ (at_c ws i hl _ _) ?_
      simp only [go_sem]
      refine WE_pure _ _ _ _ _ _ _ _ (at_c vs i hl2 _ _) ?_
      simp only [go_sem]
      simp only [go_sem, hcl]
      (repeat (refine ⟨by omega, ?_⟩))
      refine WE_pure _ _ _ _ _ _ _ _ (hf _ _ _) ?_
      simp only [go_sem, Nat.mul_one, List.length_map, opS_len]
      (repeat (refine ⟨by omega, ?_⟩))
      refine LP_next (i + 1) (by omega) (by omega) ?_
      rw [e1, Wl_splice _ i _ (by rw [opS_len]; exact hlt), opS_succ]
      refine imp_loc (by ((try simp only [cells_agg, cells_lit, leL_cons, leL_nil, leA_any, leA_lits, leA_isl, leA_self, and_self, true_and, and_true, or_true, true_or, Value.int.injEq, Value.bool.injEq, Value.string.injEq, AV.lit.injEq, Option.some.injEq, Blk.cells.injEq, Blk.tok.injEq, List.cons.injEq, Tk.at.injEq, subL_nil, subL_cons, look_nil, look_cons, ↓reduceIte, Nat.reduceEqDiff, Option.isSome_some, reduceCtorEq, or_false, false_or, if_true, if_false, only_fn]); (try first | done | omega | (simp; done) | (simp; omega)))) (by ((try simp only [cells_agg, cells_lit, leL_cons, leL_nil, leA_any, leA_lits, leA_isl, leA_self, and_self, true_and, and_true, or_true, true_or, Value.int.injEq, Value.bool.injEq, Value.string.injEq, AV.lit.injEq, Option.some.injEq, Blk.cells.injEq, Blk.tok.injEq, List.cons.injEq, Tk.at.injEq, subL_nil, subL_cons, look_nil, look_cons, ↓reduceIte, Nat.reduceEqDiff, Option.isSome_some, reduceCtorEq, or_false, false_or, if_true, if_false, only_fn]); (try first | done | omega | (simp; done) | (simp; omega)))) (by ((try simp only [cells_agg, cells_lit, List.mem_cons, List.not_mem_nil, or_false, forall_eq_or_imp, forall_eq, only_any, only_lit', only_iptr, only_no, only_full, only_at, only_ptr, only_osl, only_agg, only_tup, only_fn, and_self, implies_true, and_true, true_and, okL_nil, okL_cons, bonly_cells, bonly_tok, keepP_add, look_nil, look_cons, ↓reduceIte, Nat.reduceEqDiff, Option.isSome_some, reduceCtorEq, false_or, if_true, if_false, false_implies, only_fn]); (try first | done | omega | ((repeat' refine And.intro ?_ ?_) <;> (intro _ hx; obtain ⟨_, -, rfl⟩ := List.mem_map.1 hx; exact .lit _))))) (by ((try simp only [cells_agg, cells_lit, List.mem_cons, List.not_mem_nil, or_false, forall_eq_or_imp, forall_eq, only_any, only_lit', only_iptr, only_no, only_full, only_at, only_ptr, only_osl, only_agg, only_tup, only_fn, and_self, implies_true, and_true, true_and, okL_nil, okL_cons, bonly_cells, bonly_tok, keepP_add, look_nil, look_cons, ↓reduceIte, Nat.reduceEqDiff, Option.isSome_some, reduceCtorEq, false_or, if_true, if_false, false_implies, only_fn]); (try first | done | omega | ((repeat' refine And.intro ?_ ?_) <;> (intro _ hx; obtain ⟨_, -, rfl⟩ := List.mem_map.1 hx; exact .lit _)))))
    · rename_i hh
      have : i = max ws.length vs.length := by omega
      subst this
      have hW := opW_len f ws vs
      rw [opS_full]
      refine WE_pure _ _ _ _ _ _ _ _ (hW ▸ trim_c (n0 + 20) 0 (opW f ws vs) (by omega) _ (by rw [get_loc]; rfl)) ?_
      simp only [go_sem]
      have htl : trimN (opW f ws vs) (max ws.length vs.length) ≤ max ws.length vs.length := trimN_le _ _
      have htw : (Wl (opW f ws vs)).take (trimN (opW f ws vs) (max ws.length vs.length)) = Wl (trimW (opW f ws vs)) := by rw [Wl_take]; unfold trimW; rw [hW]
      refine FnPost_imp (fr' := [.any, .any, .any, .any, .any, .any, .ptr (n0 + 41) 0 0, .any, .any, .any, .any, .any, .any, .any, .any, .any, .any, .any, .any, .any, .any, .any, .any, .any, .any, .any, .any, .any, .any, .any, .any, .any, .any, .any, .any, .any, .any, .any, .any, .any, .any, .any]) (h' := ⟨g, [(20, .cells 0 (Wl (opW f ws vs))), (41, .cells 0 [.osl (n0 + 20) 0 1 0 (trimN (opW f ws vs) (max ws.length vs.length))])]⟩) (by refine imp_loc (by ((try simp only [cells_agg, cells_lit, leL_cons, leL_nil, leA_any, leA_lits, leA_isl, leA_self, and_self, true_and, and_true, or_true, true_or, Value.int.injEq, Value.bool.injEq, Value.string.injEq, AV.lit.injEq, Option.some.injEq, Blk.cells.injEq, Blk.tok.injEq, List.cons.injEq, Tk.at.injEq, subL_nil, subL_cons, look_nil, look_cons, ↓reduceIte, Nat.reduceEqDiff, Option.isSome_some, reduceCtorEq, or_false, false_or, if_true, if_false]); (try first | done | omega | (simp; done) | (simp; omega)))) (by ((try simp only [cells_agg, cells_lit, leL_cons, leL_nil, leA_any, leA_lits, leA_isl, leA_self, and_self, true_and, and_true, or_true, true_or, Value.int.injEq, Value.bool.injEq, Value.string.injEq, AV.lit.injEq, Option.some.injEq, Blk.cells.injEq, Blk.tok.injEq, List.cons.injEq, Tk.at.injEq, subL_nil, subL_cons, look_nil, look_cons, ↓reduceIte, Nat.reduceEqDiff, Option.isSome_some, reduceCtorEq, or_false, false_or, if_true, if_false]); (try first | done | omega | (simp; done) | (simp; omega)))) (by ((try simp only [cells_agg, cells_lit, List.mem_cons, List.not_mem_nil, or_false, forall_eq_or_imp, forall_eq, only_any, only_lit', only_iptr, only_no, only_full, only_at, only_ptr, only_osl, only_agg, only_tup, only_fn, and_self, implies_true, and_true, true_and, okL_nil, okL_cons, bonly_cells, bonly_tok, keepP_add, look_nil, look_cons, ↓reduceIte, Nat.reduceEqDiff, Option.isSome_some, reduceCtorEq, false_or, if_true, if_false, false_implies]); (try first | done | omega | ((repeat' refine And.intro ?_ ?_) <;> (intro _ hx; obtain ⟨_, -, rfl⟩ := List.mem_map.1 hx; exact .lit _))))) (by ((try simp only [cells_agg, cells_lit, List.mem_cons, List.not_mem_nil, or_false, forall_eq_or_imp, forall_eq, only_any, only_lit', only_iptr, only_no, only_full, only_at, only_ptr, only_osl, only_agg, only_tup, only_fn, and_self, implies_true, and_true, true_and, okL_nil, okL_cons, bonly_cells, bonly_tok, keepP_add, look_nil, look_cons, ↓reduceIte, Nat.reduceEqDiff, Option.isSome_some, reduceCtorEq, false_or, if_true, if_false, false_implies]); (try first | done | omega | ((repeat' refine And.intro ?_ ?_) <;> (intro _ hx; obtain ⟨_, -, rfl⟩ := List.mem_map.1 hx; exact .lit _)))))) ?_
      refine FnPost_imp (imp_freeze (fr' := [.any, .any, .any, .any, .any, .any, .ptr (n0 + 41) 0 0, .any, .any, .any, .any, .any, .any, .any, .any, .any, .any, .any, .any, .any, .any, .any, .any, .any, .any, .any, .any, .any, .any, .any, .any, .any, .any, .any, .any, .any, .any, .any, .any, .any, .any, .any]) (loc' := [(41, .cells 0 [.isl none (Wl (trimW (opW f ws vs))) .no])]) 20 0 (Wl (opW f ws vs)) (by first | rfl | (simp only [look_cons, ↓reduceIte, Nat.reduceEqDiff]; done)) (Wl_idf _) (by ((try simp only [leFL_nil, leFL_cons, leF_any, leF_lit, leF_ptrs, leF_osls, leF_iptrs, leF_islw, leF_islfull, leF_islat, leF_ptr, leF_osl, leFB_cells, leFB_tok, leFH_nil, leFH_cons, and_true, true_and, and_self, ↓reduceIte, Nat.reduceEqDiff, ne_eq, not_false_eq_true, not_true_eq_false, reduceCtorEq, Nat.add_left_cancel_iff, Nat.zero_add, List.drop_zero, Nat.add_eq_left, Wl_len, hW, htw]); (try first | done | omega | (simp; done) | (simp; omega)))) (by ((try simp only [leFL_nil, leFL_cons, leF_any, leF_lit, leF_ptrs, leF_osls, leF_iptrs, leF_islw, leF_islfull, leF_islat, leF_ptr, leF_osl, leFB_cells, leFB_tok, leFH_nil, leFH_cons, and_true, true_and, and_self, ↓reduceIte, Nat.reduceEqDiff, ne_eq, not_false_eq_true, not_true_eq_false, reduceCtorEq, Nat.add_left_cancel_iff, Nat.zero_add, List.drop_zero, Nat.add_eq_left, Wl_len, hW, htw]); (try first | done | omega | (simp; done) | (simp; omega))))) ?_
      refine FnPost_imp (imp_freeze (fr' := [.any, .any, .any, .any, .any, .any, SI (trimW (opW f ws vs)), .any, .any, .any, .any, .any, .any, .any, .any, .any, .any, .any, .any, .any, .any, .any, .any, .any, .any, .any, .any, .any, .any, .any, .any, .any, .any, .any, .any, .any, .any, .any, .any, .any, .any, .any]) (loc' := []) 41 0 ([.isl none (Wl (trimW (opW f ws vs))) .no]) (by first | rfl | (simp only [look_cons, ↓reduceIte, Nat.reduceEqDiff]; done)) (rfl) (by ((try simp only [leFL_nil, leFL_cons, leF_any, leF_lit, leF_ptrs, leF_osls, leF_iptrs, leF_islw, leF_islfull, leF_islat, leF_ptr, leF_osl, leFB_cells, leFB_tok, leFH_nil, leFH_cons, and_true, true_and, and_self, ↓reduceIte, Nat.reduceEqDiff, ne_eq, not_false_eq_true, not_true_eq_false, reduceCtorEq, Nat.add_left_cancel_iff, Nat.zero_add, List.drop_zero, Nat.add_eq_left]); (try first | done | omega | (simp; done) | (simp; omega)))) (by ((try simp only [leFL_nil, leFL_cons, leF_any, leF_lit, leF_ptrs, leF_osls, leF_iptrs, leF_islw, leF_islfull, leF_islat, leF_ptr, leF_osl, leFB_cells, leFB_tok, leFH_nil, leFH_cons, and_true, true_and, and_self, ↓reduceIte, Nat.reduceEqDiff, ne_eq, not_false_eq_true, not_true_eq_false, reduceCtorEq, Nat.add_left_cancel_iff, Nat.zero_add, List.drop_zero, Nat.add_eq_left]); (try first | done | omega | (simp; done) | (simp; omega))))) ?_
      refine FnPost_end hn0 (by simp) rfl (only_iptr _ _ |>.2 trivial) ?_
      simp only [go_sem]
      exact leA_refl _
theorem or_c {ws vs : List W64} {s t : AV} (h : AnyS ws s) (k : AnyS vs t) (hl : ws.length ≤ 1024) (hl2 : vs.length ≤ 1024) (g : GH) : PureC Try.prog 148 [s, t] g (SI (trimW (opW orW ws vs))) := by
  refine CallC.body (fun _ => none) (fun _ => 0) Try.func148 rfl Try.results148 Try.ntmps148 ?_
  intro n0 hn0
  simp only [go_sem]
  refine WE_pure _ _ _ _ _ _ _ _ (both_c h k orW _ or1_c (by kernel_rfl) hl hl2 _) ?_
  simp only [go_sem]
  refine FnPost_end hn0 (by simp) rfl (by simp only [only_tup, List.mem_cons, List.not_mem_nil, or_false, forall_eq_or_imp, forall_eq, only_any, only_lit', only_full, only_no, only_iptr, only_agg, and_self, and_true, true_and, implies_true, or_false]) ?_
  simp only [go_sem]
  exact leA_refl _
theorem and_c {ws vs : List W64} {s t : AV} (h : AnyS ws s) (k : AnyS vs t) (hl : ws.length ≤ 1024) (hl2 : vs.length ≤ 1024) (g : GH) : PureC Try.prog 149 [s, t] g (SI (trimW (opW andW ws vs))) := by
  refine CallC.body (fun _ => none) (fun _ => 0) Try.func149 rfl Try.results149 Try.ntmps149 ?_
  intro n0 hn0
  simp only [go_sem]
  refine WE_pure _ _ _ _ _ _ _ _ (both_c h k andW _ and1_c (by kernel_rfl) hl hl2 _) ?_
  simp only [go_sem]
  refine FnPost_end hn0 (by simp) rfl (by simp only [only_tup, List.mem_cons, List.not_mem_nil, or_false, forall_eq_or_imp, forall_eq, only_any, only_lit', only_full, only_no, only_iptr, only_agg, and_self, and_true, true_and, implies_true, or_false]) ?_
  simp only [go_sem]
  exact leA_refl _
theorem minus_c {ws vs : List W64} {s t : AV} (h : AnyS ws s) (k : AnyS vs t) (hl : ws.length ≤ 1024) (hl2 : vs.length ≤ 1024) (g : GH) : PureC Try.prog 150 [s, t] g (SI (trimW (opW minW ws vs))) := by
  refine CallC.body (fun _ => none) (fun _ => 0) Try.func150 rfl Try.results150 Try.ntmps150 ?_
  intro n0 hn0
  simp only [go_sem]
  refine WE_pure _ _ _ _ _ _ _ _ (both_c h k minW _ min1_c (by kernel_rfl) hl hl2 _) ?_
  simp only [go_sem]
  refine FnPost_end hn0 (by simp) rfl (by simp only [only_tup, List.mem_cons, List.not_mem_nil, or_false, forall_eq_or_imp, forall_eq, only_any, only_lit', only_full, only_no, only_iptr, only_agg, and_self, and_true, true_and, implies_true, or_false]) ?_
  simp only [go_sem]
  exact leA_refl _
theorem within_c {ws vs : List W64} {s t : AV} (h : AnyS ws s) (k : AnyS vs t) (hl : ws.length ≤ 1024) (hl2 : vs.length ≤ 1024) (g : GH) : PureC Try.prog 134 [s, t] g (BB (decide (trimW (opW minW ws vs) = []))) := by
  refine CallC.body (fun _ => none) (fun _ => 0) Try.func134 rfl Try.results134 Try.ntmps134 ?_
  intro n0 hn0
  simp only [go_sem]
  refine WE_pure _ _ _ _ _ _ _ _ (minus_c h k hl hl2 _) ?_
  simp only [go_sem, List.length_map]
  refine FnPost_end hn0 (by simp) rfl (only_lit _ _) ?_
  simp only [go_sem]
  refine leA_bool ?_
  rw [decide_eq_decide, ← List.length_eq_zero_iff]
  omega
def samW (ws vs : List W64) (i : Nat) : Prop := ∀ j, j < i → ws.getD j 0#64 = vs.getD j 0#64
theorem NB_inj (x y : W64) : (NB x = NB y) = (x = y) := by
  refine propext ⟨fun h => ?_, fun h => by rw [h]⟩
  have := congrArg (BitVec.ofInt 64) h
  rwa [NB_ofInt, NB_ofInt] at this
theorem samW_all {ws vs : List W64} (hl : ws.length = vs.length) (h : samW ws vs ws.length) : ws = vs := by
  apply List.ext_getElem hl
  intro i h1 h2
  have := h i h1
  rw [List.getD_eq_getElem?_getD, List.getD_eq_getElem?_getD] at this
  simpa [h1, h2] using this
def metW (ws vs : List W64) : Nat → Bool
  | 0 => false
  | i + 1 => metW ws vs i || decide (¬ ws.getD i 0#64 &&& vs.getD i 0#64 = 0#64)
theorem metW_iff (ws vs : List W64) : ∀ K, metW ws vs K = true ↔ ∃ i, i < K ∧ ws.getD i 0#64 &&& vs.getD i 0#64 ≠ 0#64
  | 0 => by simp [metW]
  | K + 1 => by
    rw [metW, Bool.or_eq_true, metW_iff ws vs K, decide_eq_true_eq]
    constructor
    · rintro (⟨i, h1, h2⟩ | h)
      · exact ⟨i, by omega, h2⟩
      · exact ⟨K, by omega, h⟩
    · rintro ⟨i, h1, h2⟩
      by_cases e : i = K
      · subst e; exact .inr h2
      · exact .inl ⟨i, by omega, h2⟩
end Go.Proofs.Ytjinngfpbmkhaaa.Set
