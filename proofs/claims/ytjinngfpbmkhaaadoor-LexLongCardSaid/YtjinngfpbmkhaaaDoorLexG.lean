import Derived.Test.YtjinngfpbmkhaaaDoorLexO
/- A query's words: too long texts. -/
namespace Go.Proofs.YtjinngfpbmkhaaaDoor.Lex
open Go Go.Av Go.Proofs.YtjinngfpbmkhaaaDoor.Val
set_option linter.unusedSimpArgs false
set_option linter.unusedVariables false
def repB (c : UInt8) : Nat → ByteArray
  | 0 => ⟨#[]⟩
  | k + 1 => repB c k ++ ⟨#[c]⟩
theorem repB_size (c : UInt8) : ∀ k, (repB c k).size = k
  | 0 => rfl
  | k + 1 => by rw [repB, ByteArray.size_append, repB_size c k]; rfl
theorem repB_at (c : UInt8) : ∀ k i, i < k → byteAt (repB c k) i = (c.toNat : Int)
  | 0, i, h => by omega
  | k + 1, i, h => by
    rw [repB, byteAt_push _ _ _ (by rw [repB_size]; exact h), repB_size]
    split
    · exact repB_at c k i (by assumption)
    · rfl
theorem byteAt_ext (s : ByteArray) (a b i : Nat) (h : a + i < b) (hb : b ≤ s.size) : byteAt (s.extract a b) i = byteAt s (a + i) := by
  obtain ⟨⟨l⟩⟩ := s
  unfold byteAt
  have hb' : b ≤ l.length := hb
  simp [ByteArray.data_extract, List.getD_eq_getElem?_getD, List.getElem?_take, List.getElem?_drop]
  rw [if_pos (by omega)]
theorem pre_first {s t : ByteArray} (h : preB s t = true) (ht : 0 < t.size) : byteAt t 0 = byteAt s 0 := by
  rw [preB_eq] at h
  simp only [Bool.and_eq_true, decide_eq_true_eq] at h
  have := byteAt_ext s 0 t.size 0 (by omega) h.1
  rw [h.2] at this
  simpa using this
theorem sign_stay (s : ByteArray) : ∀ (l : List ByteArray) (o : ByteArray), (∀ t, t ∈ l → preB s t = false) → l.foldl (signStep s) o = o
  | [], o, _ => rfl
  | t :: l, o, h => by
    rw [List.foldl_cons]
    have : signStep s o t = o := by unfold signStep; rw [if_neg (by rw [h t (by simp)]; simp)]
    rw [this]
    exact sign_stay s l o fun t ht => h t (by simp [ht])
theorem sign_comma (s : ByteArray) (h0 : 0 < s.size) (h : byteAt s 0 = 44) : signF s = ⟨#[44]⟩ := by
  have hno : ∀ t : ByteArray, 0 < t.size → byteAt t 0 ≠ 44 → preB s t = false := fun t h1 h2 => by
    cases hp : preB s t with
    | false => rfl
    | true => exact absurd ((pre_first hp h1).trans h) h2
  have hl : signsT = signsT.take 8 ++ ⟨#[44]⟩ :: signsT.drop 9 := rfl
  have hA : ∀ t, t ∈ signsT.take 8 → 0 < t.size ∧ byteAt t 0 ≠ 44 := by decide +kernel
  have hB : ∀ t, t ∈ signsT.drop 9 → 0 < t.size ∧ byteAt t 0 ≠ 44 := by decide +kernel
  unfold signF
  rw [hl, List.foldl_append, List.foldl_cons, sign_stay s _ _ fun t ht => hno t (hA t ht).1 (hA t ht).2]
  have hp : preB s ⟨#[44]⟩ = true := by
    rw [preB_eq, decide_eq_true (show (⟨#[44]⟩ : ByteArray).size ≤ s.size from h0), Bool.true_and, decide_eq_true_eq]
    obtain ⟨⟨l⟩⟩ := s
    have h0' : 0 < l.length := h0
    match l, h0' with
    | x :: l, _ =>
      have : ((x.toNat : Nat) : Int) = 44 := h
      have hx : x = 44 := by rw [← UInt8.toNat_inj]; show x.toNat = 44; omega
      subst hx
      apply ByteArray.ext
      simp [ByteArray.data_extract]
      rfl
  have : signStep s ⟨#[]⟩ ⟨#[44]⟩ = ⟨#[44]⟩ := by unfold signStep; rw [if_pos ⟨hp, by decide⟩]
  rw [this]
  exact sign_stay s _ _ fun t ht => hno t (hB t ht).1 (hB t ht).2
theorem word_comma (s : ByteArray) (h0 : 0 < s.size) (h : byteAt s 0 = 44) : wordF s = ((4, ⟨#[44]⟩, 0, 0, ⟨#[]⟩, 0), 1, 0) := by
  have hn : nameN s = 0 := nameN_eq s 0 (by omega) (by simp) (.inr (by unfold okB; rw [h]; rfl))
  have hv : valuedB s = false := by unfold valuedB; rw [h]; rfl
  unfold wordF
  rw [hn, if_neg (by omega), hv, if_neg (by decide), sign_comma s h0 h, if_neg (by decide)]
  rfl
theorem words_commas (k : Nat) : ∀ (r a : Nat) (out : List Wd), a + r = k → out.length = a → ∃ l, l.length = k ∧ fromG (repB 44 k) a out = if 1000 < k then ([], 0, 5) else (l, 0, 0)
  | 0, a, out, h, ho => ⟨out, by omega, by rw [fromG_end _ _ _ (by rw [repB_size]; omega) (by rw [repB_size]; omega), ho, show a = k by omega]⟩
  | r + 1, a, out, h, ho => by
    have hs := repB_size 44 k
    have ha : a < (repB 44 k).size := by omega
    have hb : byteAt (repB 44 k) a = 44 := repB_at 44 k a (by omega)
    have hw : whiteB (byteAt (repB 44 k) a) = false := by rw [hb]; rfl
    have hr : wordF ((repB 44 k).extract a (repB 44 k).size) = ((4, ⟨#[44]⟩, 0, 0, ⟨#[]⟩, 0), 1, 0) := word_comma _ (by rw [rest_size _ _ ha]; omega) (by rw [byteAt_ext _ _ _ _ (by omega) (Nat.le_refl _)]; exact hb)
    rw [fromG_word _ a out ha hw (by rw [hr]), hr]
    exact words_commas k r (a + 1) _ (by omega) (by simp [ho])
theorem words_whites (k : Nat) : ∀ (r a : Nat), a + r = k → fromG (repB 32 k) a [] = ([], 0, 0)
  | 0, a, h => by rw [fromG_end _ _ _ (by rw [repB_size]; omega) (by rw [repB_size]; omega)]; rfl
  | r + 1, a, h => by
    have hs := repB_size 32 k
    have hb : byteAt (repB 32 k) a = 32 := repB_at 32 k a (by omega)
    rw [fromG_white _ a [] (by omega) (by rw [hb]; rfl)]
    exact words_whites k r (a + 1) (by omega)
theorem repB_push (c : UInt8) (k : Nat) : encB (repB c k) ++ [.lit (.int .u8 (c.toNat : Int))] = encB (repB c (k + 1)) := encB_push _ _
theorem law_long (n : Int) (hn : 0 ≤ n ∧ n ≤ 255) (wide : Bool) (g : GH) : PureC Tryd.prog 4 [U8 n, BB wide] g (BB true) := by
  refine CallC.body (fun _ => none) (fun d => if d = 11 then 1 else 0) Tryd.func4 rfl Tryd.results4 Tryd.ntmps4 ?_
  intro n0 hn0
  simp only [go_sem]
  have htm : n.tmod 10 = n % 10 := Int.tmod_eq_emod_of_nonneg hn.1
  cases wide with
  | false =>
    simp only [go_sem]
    obtain ⟨k, hk, hk1, hk2⟩ : ∃ k : Nat, IntKind.i64.wrap (995 + IntKind.i64.wrap (n.tmod 10)) = (k : Int) ∧ 995 ≤ k ∧ k ≤ 1004 := by
      refine ⟨(995 + n % 10).toNat, ?_, by omega, by omega⟩
      rw [htm, wrap_i64, wrap_i64]; omega
    refine WC_loop (fun i : Nat => [.any, BB false, .any, .any, .any, .isl (some false) (encB (repB 44 i)) (.at (n0 + 11) i), I64 k, I64 i, .any, .any, .any, .any, .any, .any, .any, .any, .any, .any, .any, .any, .any, .any, .any, .any, .any, .any, .any, .any, .any, .any, .any, .any, .any, .any, .any, .any, .any, .any, .any, .any, .any, .any, .any, .any, .any, .any, .any, .any, .any, .any, .any, .any, .any, .any, .any, .any, .any, .any, .any, .any, .any, .any, .any, .any, .any, .any, .any, .any, .any, .any, .any, .any, .any, .any, .any, .any, .any, .any, .any, .any, .any, .any, .any, .any, .any, .any]) (fun i => ⟨g, [(11, .tok i)]⟩) (fun i => i ≤ k) (fun i => k - i) 0 (by simp) ?_ ?_
    · have e0 : encB (repB 44 0) = [] := rfl
      refine imp_loc (by ((try simp only [cells_agg, cells_lit, leL_cons, leL_nil, leA_any, leA_lits, leA_isl, leA_self, and_self, true_and, and_true, or_true, true_or, Value.int.injEq, Value.bool.injEq, Value.string.injEq, AV.lit.injEq, Option.some.injEq, Blk.cells.injEq, Blk.tok.injEq, List.cons.injEq, Tk.at.injEq, subL_nil, subL_cons, look_nil, look_cons, ↓reduceIte, Nat.reduceEqDiff, Option.isSome_some, reduceCtorEq, or_false, false_or, if_true, if_false, hk, e0]); (try first | done | omega | (simp; done) | (simp; omega)))) (by ((try simp only [cells_agg, cells_lit, leL_cons, leL_nil, leA_any, leA_lits, leA_isl, leA_self, and_self, true_and, and_true, or_true, true_or, Value.int.injEq, Value.bool.injEq, Value.string.injEq, AV.lit.injEq, Option.some.injEq, Blk.cells.injEq, Blk.tok.injEq, List.cons.injEq, Tk.at.injEq, subL_nil, subL_cons, look_nil, look_cons, ↓reduceIte, Nat.reduceEqDiff, Option.isSome_some, reduceCtorEq, or_false, false_or, if_true, if_false, hk, e0]); (try first | done | omega | (simp; done) | (simp; omega)))) (by ((try simp only [cells_agg, cells_lit, List.mem_cons, List.not_mem_nil, or_false, forall_eq_or_imp, forall_eq, only_any, only_lit', only_iptr, only_no, only_full, only_at, only_ptr, only_osl, only_agg, only_tup, only_fn, and_self, implies_true, and_true, true_and, okL_nil, okL_cons, bonly_cells, bonly_tok, keepP_add, look_nil, look_cons, ↓reduceIte, Nat.reduceEqDiff, Option.isSome_some, reduceCtorEq, false_or, if_true, if_false, false_implies, hk, e0]); (try first | done | omega | ((repeat' refine And.intro ?_ ?_) <;> (intro _ hx; obtain ⟨_, -, rfl⟩ := List.mem_map.1 hx; exact .lit _))))) (by ((try simp only [cells_agg, cells_lit, List.mem_cons, List.not_mem_nil, or_false, forall_eq_or_imp, forall_eq, only_any, only_lit', only_iptr, only_no, only_full, only_at, only_ptr, only_osl, only_agg, only_tup, only_fn, and_self, implies_true, and_true, true_and, okL_nil, okL_cons, bonly_cells, bonly_tok, keepP_add, look_nil, look_cons, ↓reduceIte, Nat.reduceEqDiff, Option.isSome_some, reduceCtorEq, false_or, if_true, if_false, false_implies, hk, e0]); (try first | done | omega | ((repeat' refine And.intro ?_ ?_) <;> (intro _ hx; obtain ⟨_, -, rfl⟩ := List.mem_map.1 hx; exact .lit _)))))
    · intro i hi
      have hsz := repB_size 44 i
      simp only [go_sem]
      split
      · rename_i hlt
        have hlt : i < k := by omega
        have e1 : IntKind.i64.wrap ((i : Int) + 1) = ((i + 1 : Nat) : Int) := by rw [wrap_i64]; omega
        have e2 : encB (repB 44 i) ++ [.lit (.int .u8 44)] = encB (repB 44 (i + 1)) := repB_push 44 i
        simp only [go_sem, elsOk_encB, encB_len, hsz, e2]
        (repeat (refine ⟨by omega, ?_⟩))
        refine LP_next (i + 1) (by omega) (by omega) ?_
        rw [e1]
        refine imp_loc (by ((try simp only [cells_agg, cells_lit, leL_cons, leL_nil, leA_any, leA_lits, leA_isl, leA_self, and_self, true_and, and_true, or_true, true_or, Value.int.injEq, Value.bool.injEq, Value.string.injEq, AV.lit.injEq, Option.some.injEq, Blk.cells.injEq, Blk.tok.injEq, List.cons.injEq, Tk.at.injEq, subL_nil, subL_cons, look_nil, look_cons, ↓reduceIte, Nat.reduceEqDiff, Option.isSome_some, reduceCtorEq, or_false, false_or, if_true, if_false]); (try first | done | omega | (simp; done) | (simp; omega)))) (by ((try simp only [cells_agg, cells_lit, leL_cons, leL_nil, leA_any, leA_lits, leA_isl, leA_self, and_self, true_and, and_true, or_true, true_or, Value.int.injEq, Value.bool.injEq, Value.string.injEq, AV.lit.injEq, Option.some.injEq, Blk.cells.injEq, Blk.tok.injEq, List.cons.injEq, Tk.at.injEq, subL_nil, subL_cons, look_nil, look_cons, ↓reduceIte, Nat.reduceEqDiff, Option.isSome_some, reduceCtorEq, or_false, false_or, if_true, if_false]); (try first | done | omega | (simp; done) | (simp; omega)))) (by ((try simp only [cells_agg, cells_lit, List.mem_cons, List.not_mem_nil, or_false, forall_eq_or_imp, forall_eq, only_any, only_lit', only_iptr, only_no, only_full, only_at, only_ptr, only_osl, only_agg, only_tup, only_fn, and_self, implies_true, and_true, true_and, okL_nil, okL_cons, bonly_cells, bonly_tok, keepP_add, look_nil, look_cons, ↓reduceIte, Nat.reduceEqDiff, Option.isSome_some, reduceCtorEq, false_or, if_true, if_false, false_implies]); (try first | done | omega | ((repeat' refine And.intro ?_ ?_) <;> (intro _ hx; obtain ⟨_, -, rfl⟩ := List.mem_map.1 hx; exact .lit _))))) (by ((try simp only [cells_agg, cells_lit, List.mem_cons, List.not_mem_nil, or_false, forall_eq_or_imp, forall_eq, only_any, only_lit', only_iptr, only_no, only_full, only_at, only_ptr, only_osl, only_agg, only_tup, only_fn, and_self, implies_true, and_true, true_and, okL_nil, okL_cons, bonly_cells, bonly_tok, keepP_add, look_nil, look_cons, ↓reduceIte, Nat.reduceEqDiff, Option.isSome_some, reduceCtorEq, false_or, if_true, if_false, false_implies]); (try first | done | omega | ((repeat' refine And.intro ?_ ?_) <;> (intro _ hx; obtain ⟨_, -, rfl⟩ := List.mem_map.1 hx; exact .lit _)))))
      · have : i = k := by omega
        subst this
        obtain ⟨l, hl, hw⟩ := words_commas i i 0 [] (by omega) rfl
        have hwf : wordsF (repB 44 i) = fromG (repB 44 i) 0 [] := by unfold wordsF; rw [if_neg (by omega)]; rfl
        rw [hw] at hwf
        by_cases h1 : 1000 < i
        · rw [if_pos h1] at hwf
          have hc : ∀ g, PureC Tryd.prog 7 [SS (repB 44 i)] g (.tup [.isl none [] .no, I64 0, I64 5]) := fun g => by
            have := Words_c (repB 44 i) (by omega) g
            rwa [hwf] at this
          have c1 : (1000 : Int) < (i : Int) := by omega
          refine WE_pure _ _ _ _ _ _ _ _ (hc _) ?_
          simp only [go_sem, c1]
          refine WE_pure _ _ _ _ _ _ _ _ (lives_c _) ?_
          simp only [go_sem]
          refine FnPost_end hn0 (by simp) rfl (only_lit _ _) ?_
          simp only [go_sem]
          exact leA_bool rfl
        · rw [if_neg h1] at hwf
          have hc : ∀ g, PureC Tryd.prog 7 [SS (repB 44 i)] g (.tup [.isl none (Wds l) .no, I64 0, I64 0]) := fun g => by
            have := Words_c (repB 44 i) (by omega) g
            rwa [hwf] at this
          have c1 : ¬ (1000 : Int) < (i : Int) := by omega
          refine WE_pure _ _ _ _ _ _ _ _ (hc _) ?_
          simp only [go_sem, c1, List.length_map, hl]
          refine WE_pure _ _ _ _ _ _ _ _ (lives_c _) ?_
          simp only [go_sem]
          refine FnPost_end hn0 (by simp) rfl (only_lit _ _) ?_
          simp only [go_sem]
          exact leA_bool rfl
  | true =>
    simp only [go_sem]
    obtain ⟨k, hk, hk1, hk2⟩ : ∃ k : Nat, IntKind.i64.wrap (4091 + IntKind.i64.wrap (n.tmod 10)) = (k : Int) ∧ 4091 ≤ k ∧ k ≤ 4100 := by
      refine ⟨(4091 + n % 10).toNat, ?_, by omega, by omega⟩
      rw [htm, wrap_i64, wrap_i64]; omega
    refine WC_loop (fun i : Nat => [.any, BB true, .any, .any, .any, .isl (some false) (encB (repB 32 i)) (.at (n0 + 11) i), I64 k, I64 i, .any, .any, .any, .any, .any, .any, .any, .any, .any, .any, .any, .any, .any, .any, .any, .any, .any, .any, .any, .any, .any, .any, .any, .any, .any, .any, .any, .any, .any, .any, .any, .any, .any, .any, .any, .any, .any, .any, .any, .any, .any, .any, .any, .any, .any, .any, .any, .any, .any, .any, .any, .any, .any, .any, .any, .any, .any, .any, .any, .any, .any, .any, .any, .any, .any, .any, .any, .any, .any, .any, .any, .any, .any, .any, .any, .any, .any, .any]) (fun i => ⟨g, [(11, .tok i)]⟩) (fun i => i ≤ k) (fun i => k - i) 0 (by simp) ?_ ?_
    · have e0 : encB (repB 32 0) = [] := rfl
      refine imp_loc (by ((try simp only [cells_agg, cells_lit, leL_cons, leL_nil, leA_any, leA_lits, leA_isl, leA_self, and_self, true_and, and_true, or_true, true_or, Value.int.injEq, Value.bool.injEq, Value.string.injEq, AV.lit.injEq, Option.some.injEq, Blk.cells.injEq, Blk.tok.injEq, List.cons.injEq, Tk.at.injEq, subL_nil, subL_cons, look_nil, look_cons, ↓reduceIte, Nat.reduceEqDiff, Option.isSome_some, reduceCtorEq, or_false, false_or, if_true, if_false, hk, e0]); (try first | done | omega | (simp; done) | (simp; omega)))) (by ((try simp only [cells_agg, cells_lit, leL_cons, leL_nil, leA_any, leA_lits, leA_isl, leA_self, and_self, true_and, and_true, or_true, true_or, Value.int.injEq, Value.bool.injEq, Value.string.injEq, AV.lit.injEq, Option.some.injEq, Blk.cells.injEq, Blk.tok.injEq, List.cons.injEq, Tk.at.injEq, subL_nil, subL_cons, look_nil, look_cons, ↓reduceIte, Nat.reduceEqDiff, Option.isSome_some, reduceCtorEq, or_false, false_or, if_true, if_false, hk, e0]); (try first | done | omega | (simp; done) | (simp; omega)))) (by ((try simp only [cells_agg, cells_lit, List.mem_cons, List.not_mem_nil, or_false, forall_eq_or_imp, forall_eq, only_any, only_lit', only_iptr, only_no, only_full, only_at, only_ptr, only_osl, only_agg, only_tup, only_fn, and_self, implies_true, and_true, true_and, okL_nil, okL_cons, bonly_cells, bonly_tok, keepP_add, look_nil, look_cons, ↓reduceIte, Nat.reduceEqDiff, Option.isSome_some, reduceCtorEq, false_or, if_true, if_false, false_implies, hk, e0]); (try first | done | omega | ((repeat' refine And.intro ?_ ?_) <;> (intro _ hx; obtain ⟨_, -, rfl⟩ := List.mem_map.1 hx; exact .lit _))))) (by ((try simp only [cells_agg, cells_lit, List.mem_cons, List.not_mem_nil, or_false, forall_eq_or_imp, forall_eq, only_any, only_lit', only_iptr, only_no, only_full, only_at, only_ptr, only_osl, only_agg, only_tup, only_fn, and_self, implies_true, and_true, true_and, okL_nil, okL_cons, bonly_cells, bonly_tok, keepP_add, look_nil, look_cons, ↓reduceIte, Nat.reduceEqDiff, Option.isSome_some, reduceCtorEq, false_or, if_true, if_false, false_implies, hk, e0]); (try first | done | omega | ((repeat' refine And.intro ?_ ?_) <;> (intro _ hx; obtain ⟨_, -, rfl⟩ := List.mem_map.1 hx; exact .lit _)))))
    · intro i hi
      have hsz := repB_size 32 i
      simp only [go_sem]
      split
      · rename_i hlt
        have hlt : i < k := by omega
        have e1 : IntKind.i64.wrap ((i : Int) + 1) = ((i + 1 : Nat) : Int) := by rw [wrap_i64]; omega
        have e2 : encB (repB 32 i) ++ [.lit (.int .u8 32)] = encB (repB 32 (i + 1)) := repB_push 32 i
        simp only [go_sem, elsOk_encB, encB_len, hsz, e2]
        (repeat (refine ⟨by omega, ?_⟩))
        refine LP_next (i + 1) (by omega) (by omega) ?_
        rw [e1]
        refine imp_loc (by ((try simp only [cells_agg, cells_lit, leL_cons, leL_nil, leA_any, leA_lits, leA_isl, leA_self, and_self, true_and, and_true, or_true, true_or, Value.int.injEq, Value.bool.injEq, Value.string.injEq, AV.lit.injEq, Option.some.injEq, Blk.cells.injEq, Blk.tok.injEq, List.cons.injEq, Tk.at.injEq, subL_nil, subL_cons, look_nil, look_cons, ↓reduceIte, Nat.reduceEqDiff, Option.isSome_some, reduceCtorEq, or_false, false_or, if_true, if_false]); (try first | done | omega | (simp; done) | (simp; omega)))) (by ((try simp only [cells_agg, cells_lit, leL_cons, leL_nil, leA_any, leA_lits, leA_isl, leA_self, and_self, true_and, and_true, or_true, true_or, Value.int.injEq, Value.bool.injEq, Value.string.injEq, AV.lit.injEq, Option.some.injEq, Blk.cells.injEq, Blk.tok.injEq, List.cons.injEq, Tk.at.injEq, subL_nil, subL_cons, look_nil, look_cons, ↓reduceIte, Nat.reduceEqDiff, Option.isSome_some, reduceCtorEq, or_false, false_or, if_true, if_false]); (try first | done | omega | (simp; done) | (simp; omega)))) (by ((try simp only [cells_agg, cells_lit, List.mem_cons, List.not_mem_nil, or_false, forall_eq_or_imp, forall_eq, only_any, only_lit', only_iptr, only_no, only_full, only_at, only_ptr, only_osl, only_agg, only_tup, only_fn, and_self, implies_true, and_true, true_and, okL_nil, okL_cons, bonly_cells, bonly_tok, keepP_add, look_nil, look_cons, ↓reduceIte, Nat.reduceEqDiff, Option.isSome_some, reduceCtorEq, false_or, if_true, if_false, false_implies]); (try first | done | omega | ((repeat' refine And.intro ?_ ?_) <;> (intro _ hx; obtain ⟨_, -, rfl⟩ := List.mem_map.1 hx; exact .lit _))))) (by ((try simp only [cells_agg, cells_lit, List.mem_cons, List.not_mem_nil, or_false, forall_eq_or_imp, forall_eq, only_any, only_lit', only_iptr, only_no, only_full, only_at, only_ptr, only_osl, only_agg, only_tup, only_fn, and_self, implies_true, and_true, true_and, okL_nil, okL_cons, bonly_cells, bonly_tok, keepP_add, look_nil, look_cons, ↓reduceIte, Nat.reduceEqDiff, Option.isSome_some, reduceCtorEq, false_or, if_true, if_false, false_implies]); (try first | done | omega | ((repeat' refine And.intro ?_ ?_) <;> (intro _ hx; obtain ⟨_, -, rfl⟩ := List.mem_map.1 hx; exact .lit _)))))
      · have : i = k := by omega
        subst this
        by_cases h1 : 4096 < i
        · have hwf : wordsF (repB 32 i) = ([], 0, 5) := by unfold wordsF; rw [if_pos (by omega)]
          have hc : ∀ g, PureC Tryd.prog 7 [SS (repB 32 i)] g (.tup [.isl none [] .no, I64 0, I64 5]) := fun g => by
            have := Words_c (repB 32 i) (by omega) g
            rwa [hwf] at this
          have c1 : (4096 : Int) < (i : Int) := by omega
          refine WE_pure _ _ _ _ _ _ _ _ (hc _) ?_
          simp only [go_sem, c1]
          refine WE_pure _ _ _ _ _ _ _ _ (lives_c _) ?_
          simp only [go_sem]
          refine FnPost_end hn0 (by simp) rfl (only_lit _ _) ?_
          simp only [go_sem]
          exact leA_bool rfl
        · have hwf : wordsF (repB 32 i) = ([], 0, 0) := by unfold wordsF; rw [if_neg (by omega)]; exact words_whites i i 0 (by omega)
          have hc : ∀ g, PureC Tryd.prog 7 [SS (repB 32 i)] g (.tup [.isl none [] .no, I64 0, I64 0]) := fun g => by
            have := Words_c (repB 32 i) (by omega) g
            rwa [hwf] at this
          have c1 : ¬ (4096 : Int) < (i : Int) := by omega
          refine WE_pure _ _ _ _ _ _ _ _ (hc _) ?_
          simp only [go_sem, c1]
          refine WE_pure _ _ _ _ _ _ _ _ (lives_c _) ?_
          simp only [go_sem]
          refine FnPost_end hn0 (by simp) rfl (only_lit _ _) ?_
          simp only [go_sem]
          exact leA_bool rfl
theorem hasU8 {n : Nat} {x : AV} (h : HasA Tryd.prog (n + 1) 5 x) : ∃ z, x = U8 z ∧ 0 ≤ z ∧ z ≤ 255 := by
  obtain ⟨cs, hx, h⟩ := h
  unfold HasT at h
  rw [Tryd.underlying5] at h
  obtain ⟨z, rfl, hz⟩ := h
  have : 0 ≤ z ∧ z ≤ 255 := by
    have := hz
    simp [Lit.wf, IntKind.min, IntKind.max, IntKind.bits, IntKind.signed] at this
    omega
  refine ⟨z, ?_, this⟩
  rw [hx]; unfold elA HasT.isAggT; rw [Tryd.underlying5]; rfl
theorem hasB {n : Nat} {x : AV} (h : HasA Tryd.prog (n + 1) 4 x) : ∃ b, x = BB b := by
  obtain ⟨cs, hx, h⟩ := h
  unfold HasT at h
  rw [Tryd.underlying4] at h
  obtain ⟨b, rfl⟩ := h
  refine ⟨b, ?_⟩
  rw [hx]; unfold elA HasT.isAggT; rw [Tryd.underlying4]; rfl
theorem long_row (x0 x1 : AV) (h0 : HasA Tryd.prog 5 5 x0) (h1 : HasA Tryd.prog 5 4 x1) (g : GH) : PureC Tryd.prog 4 [x0, x1] g (BB true) := by
  obtain ⟨z, rfl, hz⟩ := hasU8 h0
  obtain ⟨b, rfl⟩ := hasB h1
  exact law_long z hz b g
end Go.Proofs.YtjinngfpbmkhaaaDoor.Lex
