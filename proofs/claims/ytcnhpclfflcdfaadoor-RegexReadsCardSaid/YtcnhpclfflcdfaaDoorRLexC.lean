import Derived.Test.YtcnhpclfflcdfaaDoorRLexB
/- A query's words: one word. -/
namespace Go.Proofs.YtcnhpclfflcdfaaDoorR.Lex
open Go Go.Av Go.Proofs.YtcnhpclfflcdfaaDoorR.Val
set_option linter.unusedSimpArgs false
set_option linter.unusedVariables false
/-- what is read has so many bytes, if it is a value -/
def RdIn (N : Nat) (x : AV) : Prop := ∃ k n t m e, x = rdA k n t m e ∧ (e = 0 → 1 ≤ m ∧ m ≤ N)
theorem rdIn_no (N : Nat) (e : Int) (h : e ≠ 0) : RdIn N (noA e) := ⟨0, 0, ⟨#[]⟩, 0, e, rfl, fun he => absurd he h⟩
theorem quoL_in (s : ByteArray) : ∀ (f i : Nat) (o : ByteArray), RdIn s.size (quoL s f i o)
  | 0, i, o => rdIn_no _ 7 (by decide)
  | f + 1, i, o => by
    rw [quoL]
    split
    · rename_i hi
      split
      · exact ⟨2, 0, o, _, 0, rfl, fun _ => by omega⟩
      · split
        · split
          · exact rdIn_no _ 7 (by decide)
          · split
            · exact rdIn_no _ 2 (by decide)
            · split
              · exact rdIn_no _ 5 (by decide)
              · exact quoL_in s f _ _
        · split
          · exact rdIn_no _ 2 (by decide)
          · split
            · exact rdIn_no _ 5 (by decide)
            · exact quoL_in s f _ _
    · exact rdIn_no _ 7 (by decide)
theorem numL_in (s : ByteArray) : ∀ (f i : Nat) (n m : Int) (j : Nat), numL s f i n = some (m, j) → i ≤ j ∧ j ≤ i + f
  | 0, i, n, m, j, h => by simp [numL] at h; omega
  | f + 1, i, n, m, j, h => by
    rw [numL] at h
    split at h
    · split at h
      · cases h
      · have := numL_in s f _ _ m j h; omega
    · simp at h; omega
theorem numR_in (s : ByteArray) (hs : 0 < s.size) : RdIn s.size (numR s) := by
  unfold numR
  split
  · exact rdIn_no _ 7 (by decide)
  · rename_i hne
    have hI : numI s ≤ 1 := by unfold numI; split <;> omega
    split
    · exact rdIn_no _ 2 (by decide)
    · rename_i hd
      have hd : digB (byteAt s (numI s)) = true := by simpa using hd
      cases hn : numL s (s.size - numI s) (numI s) 0 with
      | none => exact rdIn_no _ 5 (by decide)
      | some p =>
        obtain ⟨n, j⟩ := p
        obtain ⟨f, hf⟩ : ∃ f, s.size - numI s = f + 1 := ⟨s.size - numI s - 1, by omega⟩
        rw [hf, numL, if_pos hd] at hn
        split at hn
        · cases hn
        · have := numL_in s f _ _ n j hn
          exact ⟨1, sgnV s n, ⟨#[]⟩, _, 0, rfl, fun _ => by omega⟩
theorem readR_in (s : ByteArray) (hs : 0 < s.size) : RdIn s.size (readR s) := by
  unfold readR
  rw [if_neg (by omega)]
  split
  · exact quoL_in s _ _ _
  · exact numR_in s hs
abbrev Rd := Int × Int × ByteArray × Int × Int
def readT (s : ByteArray) : Rd := match readR s with
  | .tup [.agg [.lit (.int .i64 k), .lit (.int .i64 n), .lit (.string t)], .lit (.int .i64 m), .lit (.int .i64 e)] => (k, n, t, m, e)
  | _ => (0, 0, ⟨#[]⟩, 0, 0)
theorem readT_eq (s : ByteArray) : readR s = rdA (readT s).1 (readT s).2.1 (readT s).2.2.1 (readT s).2.2.2.1 (readT s).2.2.2.2 := by
  obtain ⟨k, n, t, m, e, h, -⟩ := readR_ok s
  unfold readT; rw [h]
theorem readT_in (s : ByteArray) (hs : 0 < s.size) (he : (readT s).2.2.2.2 = 0) : 1 ≤ (readT s).2.2.2.1 ∧ (readT s).2.2.2.1 ≤ s.size := by
  obtain ⟨k, n, t, m, e, h, h2⟩ := readR_in s hs
  have : readT s = (k, n, t, m, e) := by unfold readT; rw [h]
  rw [this] at he ⊢
  exact h2 he
/-- a word: its kind, its text, its value's kind, number and text, its place -/
def w0 : Wd := (0, ⟨#[]⟩, 0, 0, ⟨#[]⟩, 0)
def wordF (s : ByteArray) : Wd × Int × Int :=
  if 0 < nameN s then (if 30 < nameN s then (w0, 0, 2) else ((if keyB (s.extract 0 (nameN s)) then 2 else 1, s.extract 0 (nameN s), 0, 0, ⟨#[]⟩, 0), nameN s, 0))
  else if valuedB s = true then (if (readT s).2.2.2.2 = 0 then ((3, ⟨#[]⟩, (readT s).1, (readT s).2.1, (readT s).2.2.1, 0), (readT s).2.2.2.1, 0) else (w0, 0, (readT s).2.2.2.2))
  else if signF s = ⟨#[]⟩ then (w0, 0, 2) else ((4, signF s, 0, 0, ⟨#[]⟩, 0), (signF s).size, 0)
theorem preB_le {s t : ByteArray} (h : preB s t = true) : t.size ≤ s.size := by
  rw [preB_eq] at h; simp at h; exact h.1
theorem signF_le (s : ByteArray) : ∀ (l : List ByteArray) (o : ByteArray), o.size ≤ s.size → (l.foldl (signStep s) o).size ≤ s.size
  | [], o, h => h
  | t :: l, o, h => by
    refine signF_le s l _ ?_
    unfold signStep
    split
    · rename_i hc; exact preB_le hc.1
    · exact h
theorem size_ne {s : ByteArray} (h : s ≠ ⟨#[]⟩) : 0 < s.size := by
  apply Nat.pos_of_ne_zero
  intro h0
  exact h (ByteArray.ext (Array.eq_empty_of_size_eq_zero h0))
theorem wordF_in (s : ByteArray) (hs : 0 < s.size) (he : (wordF s).2.2 = 0) : 1 ≤ (wordF s).2.1 ∧ (wordF s).2.1 ≤ s.size := by
  have hn := nameN_le s
  unfold wordF at he ⊢
  split at he
  · rename_i h1
    rw [if_pos h1]
    split at he
    · simp at he
    · rename_i h2
      rw [if_neg h2]; simp; omega
  · rename_i h1
    rw [if_neg h1]
    split at he
    · rename_i h2
      rw [if_pos h2]
      split at he
      · rename_i h3
        rw [if_pos h3]
        exact readT_in s hs h3
      · rename_i h3; exact absurd he h3
    · rename_i h2
      rw [if_neg h2]
      split at he
      · simp at he
      · rename_i h3
        rw [if_neg h3]
        have := size_ne h3
        have h4 := signF_le s signsT ⟨#[]⟩ (Nat.zero_le _)
        have h4 : (signF s).size ≤ s.size := h4
        simp; omega
theorem word_c (s : ByteArray) (hs0 : 0 < s.size) (hs : s.size ≤ 140737488351232) (g : GH) : PureC Tryd.prog 67 [SS s] g (.tup [wA (wordF s).1, I64 (wordF s).2.1, I64 (wordF s).2.2]) := by
  refine CallC.body (fun _ => none) (fun _ => 0) Tryd.func67 rfl Tryd.results67 Tryd.ntmps67 ?_
  intro n0 hn0
  simp only [go_sem]
  have hnl := nameN_le s
  refine WE_pure _ _ _ _ _ _ _ _ (xname_c s hs _) ?_
  simp only [go_sem]
  by_cases h1 : 0 < nameN s
  · have c1 : (0 : Int) < (nameN s : Int) := by omega
    simp only [go_sem, c1]
    (repeat (refine ⟨by omega, ?_⟩))
    refine WE_pure _ _ _ _ _ _ _ _ (key_c _ _) ?_
    simp only [go_sem]
    have fin : ∀ k : Int, k = (if keyB (s.extract 0 (nameN s)) = true then 2 else 1) → ¬ 30 < nameN s → (.tup [wA (wordF s).1, I64 (wordF s).2.1, I64 (wordF s).2.2] : AV) = .tup [.agg [I64 k, SS (s.extract 0 (nameN s)), I64 0, I64 0, SS ⟨#[]⟩, I64 0], I64 (nameN s), I64 0] := by
      intro k hk h2
      unfold wordF; rw [if_pos h1, if_neg h2, hk]
    have bad : 30 < nameN s → (.tup [wA (wordF s).1, I64 (wordF s).2.1, I64 (wordF s).2.2] : AV) = .tup [wA w0, I64 0, I64 2] := by
      intro h2
      unfold wordF; rw [if_pos h1, if_pos h2]
    cases hk : keyB (s.extract 0 (nameN s)) with
    | true =>
      rw [hk] at fin
      by_cases h2 : (30 : Int) < (nameN s : Int)
      · simp only [go_sem, hk, Int.toNat_natCast, h2]
        rw [bad (by omega)]
        refine FnPost_end hn0 (by simp) rfl (by simp only [only_tup, List.mem_cons, List.not_mem_nil, or_false, forall_eq_or_imp, forall_eq, only_any, only_lit', only_full, only_no, only_iptr, only_agg, only_bfn, and_self, and_true, true_and, implies_true, or_false]) ?_
        simp only [go_sem]
        exact leA_of_eq rfl
      · simp only [go_sem, hk, Int.toNat_natCast, h2]
        rw [fin _ rfl (by omega)]
        refine FnPost_end hn0 (by simp) rfl (by simp only [only_tup, List.mem_cons, List.not_mem_nil, or_false, forall_eq_or_imp, forall_eq, only_any, only_lit', only_full, only_no, only_iptr, only_agg, only_bfn, and_self, and_true, true_and, implies_true, or_false]) ?_
        simp only [go_sem]
        exact leA_of_eq rfl
    | false =>
      rw [hk] at fin
      by_cases h2 : (30 : Int) < (nameN s : Int)
      · simp only [go_sem, hk, Int.toNat_natCast, h2]
        rw [bad (by omega)]
        refine FnPost_end hn0 (by simp) rfl (by simp only [only_tup, List.mem_cons, List.not_mem_nil, or_false, forall_eq_or_imp, forall_eq, only_any, only_lit', only_full, only_no, only_iptr, only_agg, only_bfn, and_self, and_true, true_and, implies_true, or_false]) ?_
        simp only [go_sem]
        exact leA_of_eq rfl
      · simp only [go_sem, hk, Int.toNat_natCast, h2]
        rw [fin _ rfl (by omega)]
        refine FnPost_end hn0 (by simp) rfl (by simp only [only_tup, List.mem_cons, List.not_mem_nil, or_false, forall_eq_or_imp, forall_eq, only_any, only_lit', only_full, only_no, only_iptr, only_agg, only_bfn, and_self, and_true, true_and, implies_true, or_false]) ?_
        simp only [go_sem]
        exact leA_of_eq rfl
  · have c1 : ¬ (0 : Int) < (nameN s : Int) := by omega
    simp only [go_sem, c1]
    refine WE_pure _ _ _ _ _ _ _ _ (valued_c s hs0 hs _) ?_
    simp only [go_sem]
    cases hv : valuedB s with
    | true =>
      have hw : wordF s = if (readT s).2.2.2.2 = 0 then ((3, ⟨#[]⟩, (readT s).1, (readT s).2.1, (readT s).2.2.1, 0), (readT s).2.2.2.1, 0) else (w0, 0, (readT s).2.2.2.2) := by
        unfold wordF; rw [if_neg h1, if_pos hv]
      simp only [go_sem, hv]
      refine WE_pure _ _ _ _ _ _ _ _ (readT_eq s ▸ read_c s hs _) ?_
      simp only [go_sem]
      by_cases h3 : (readT s).2.2.2.2 = 0
      · rw [if_pos h3] at hw
        simp only [go_sem, eq_true h3]
        rw [hw]
        refine FnPost_end hn0 (by simp) rfl (by simp only [only_tup, List.mem_cons, List.not_mem_nil, or_false, forall_eq_or_imp, forall_eq, only_any, only_lit', only_full, only_no, only_iptr, only_agg, only_bfn, and_self, and_true, true_and, implies_true, or_false]) ?_
        simp only [go_sem]
        exact leA_of_eq rfl
      · rw [if_neg h3] at hw
        simp only [go_sem, eq_false h3]
        rw [hw]
        refine FnPost_end hn0 (by simp) rfl (by simp only [only_tup, List.mem_cons, List.not_mem_nil, or_false, forall_eq_or_imp, forall_eq, only_any, only_lit', only_full, only_no, only_iptr, only_agg, only_bfn, and_self, and_true, true_and, implies_true, or_false]) ?_
        simp only [go_sem]
        exact leA_of_eq rfl
    | false =>
      have hw : wordF s = if signF s = ⟨#[]⟩ then (w0, 0, 2) else ((4, signF s, 0, 0, ⟨#[]⟩, 0), ((signF s).size : Int), 0) := by
        unfold wordF; rw [if_neg h1, if_neg (by rw [hv]; decide)]
      simp only [go_sem, hv]
      refine WE_pure _ _ _ _ _ _ _ _ (sign_c s _) ?_
      simp only [go_sem]
      by_cases h3 : signF s = ⟨#[]⟩
      · rw [if_pos h3] at hw
        simp only [go_sem, h3]
        rw [hw]
        refine FnPost_end hn0 (by simp) rfl (by simp only [only_tup, List.mem_cons, List.not_mem_nil, or_false, forall_eq_or_imp, forall_eq, only_any, only_lit', only_full, only_no, only_iptr, only_agg, only_bfn, and_self, and_true, true_and, implies_true, or_false]) ?_
        simp only [go_sem]
        exact leA_of_eq rfl
      · have h3s := size_ne h3
        rw [if_neg h3] at hw
        simp only [go_sem, eq_false (show ¬ (signF s).size = 0 by omega)]
        rw [hw]
        refine FnPost_end hn0 (by simp) rfl (by simp only [only_tup, List.mem_cons, List.not_mem_nil, or_false, forall_eq_or_imp, forall_eq, only_any, only_lit', only_full, only_no, only_iptr, only_agg, only_bfn, and_self, and_true, true_and, implies_true, or_false]) ?_
        simp only [go_sem]
        exact leA_of_eq rfl
end Go.Proofs.YtcnhpclfflcdfaaDoorR.Lex
