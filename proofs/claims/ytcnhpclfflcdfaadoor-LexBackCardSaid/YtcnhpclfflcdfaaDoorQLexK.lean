import Derived.Test.YtcnhpclfflcdfaaDoorQLexQ
/- Words that were read come back from their text: the plain law. -/
namespace Go.Proofs.YtcnhpclfflcdfaaDoorQ.Lex
open Go Go.Av Go.Proofs.YtcnhpclfflcdfaaDoorQ.Val Go.Lib
set_option linter.unusedSimpArgs false
set_option linter.unusedVariables false
theorem ba_ext {a b : ByteArray} (h : a.data.toList = b.data.toList) : a = b := ByteArray.ext (Array.toList_inj.1 h)
theorem ba_len (a : ByteArray) : a.data.toList.length = a.size := rfl
theorem at_left (a b : ByteArray) (i : Nat) (h : i < a.size) : byteAt (a ++ b) i = byteAt a i := by
  rw [byteAt_byt, byteAt_byt]
  unfold byt
  rw [data_app, List.getD_eq_getElem?_getD, List.getD_eq_getElem?_getD, List.getElem?_append_left h]
theorem at_right (a b : ByteArray) (i : Nat) (h : a.size ≤ i) : byteAt (a ++ b) i = byteAt b (i - a.size) := by
  rw [byteAt_byt, byteAt_byt]
  unfold byt
  rw [data_app, List.getD_eq_getElem?_getD, List.getD_eq_getElem?_getD, List.getElem?_append_right h]
  rfl
theorem ex_left (a b : ByteArray) : (a ++ b).extract 0 a.size = a := by
  apply ba_ext
  rw [Lib.extract_data, data_app]
  simp [ba_len]
theorem ex_right (a b : ByteArray) : (a ++ b).extract a.size (a ++ b).size = b := by
  apply ba_ext
  rw [Lib.extract_data, data_app, ByteArray.size_append]
  have : a.data.toList.length = a.size := rfl
  rw [List.drop_append_of_le_length (by omega), List.drop_of_length_le (by omega), List.nil_append, List.take_of_length_le]
  show b.size ≤ _
  omega
/-- nothing, or a blank ahead -/
def sepB (r : ByteArray) : Prop := r.size = 0 ∨ byteAt r 0 = 32
theorem sep_at {t r : ByteArray} (h : sepB r) : (t ++ r).size = t.size ∨ byteAt (t ++ r) t.size = 32 := by
  rcases h with h | h
  · left; rw [ByteArray.size_append]; omega
  · right; rw [at_right _ _ _ (Nat.le_refl _), Nat.sub_self]; exact h
theorem nameL_ok (s : ByteArray) : ∀ (f i j : Nat), i ≤ j → j < nameL s f i → okB s j = true
  | 0, i, j, h1, h2 => by rw [nameL] at h2; omega
  | f + 1, i, j, h1, h2 => by
    rw [nameL] at h2
    split at h2
    · rename_i hi
      by_cases e : j = i
      · rw [e]; exact hi
      · exact nameL_ok s f (i + 1) j (by omega) h2
    · omega
theorem nameN_ok (s : ByteArray) (j : Nat) (h : j < nameN s) : okB s j = true := nameL_ok s s.size 0 j (Nat.zero_le _) h
theorem okB_congr {s t : ByteArray} {j : Nat} (h : byteAt s j = byteAt t j) : okB s j = okB t j := by unfold okB; rw [h]
theorem okB_32 {s : ByteArray} {j : Nat} (h : byteAt s j = 32) : okB s j = false := by
  unfold okB; rw [h]; unfold letB digB; simp
theorem okB_0 {s : ByteArray} (h : nameN s = 0) (hs : 0 < s.size) : letB (byteAt s 0) = false := by
  obtain ⟨f, hf⟩ : ∃ f, s.size = f + 1 := ⟨s.size - 1, by omega⟩
  have hge : ∀ (f i : Nat), i ≤ nameL s f i := by
    intro f
    induction f with
    | zero => intro i; rw [nameL]; exact Nat.le_refl _
    | succ f ih =>
      intro i; rw [nameL]; split
      · have := ih (i + 1); omega
      · exact Nat.le_refl _
  unfold nameN at h
  rw [hf, nameL] at h
  split at h
  · have := hge f (0 + 1); omega
  · rename_i h2
    unfold okB at h2
    cases hl : letB (byteAt s 0)
    · rfl
    · rw [hl] at h2; simp at h2
theorem nameN_0 {s : ByteArray} (hl : letB (byteAt s 0) = false) : nameN s = 0 :=
  nameN_eq s 0 (Nat.zero_le _) (fun j hj => by omega) (.inr (by unfold okB; rw [hl]; simp))
theorem name_back (s r : ByteArray) (hs : nameN s ≤ s.size) (h0 : 0 < nameN s) (hr : sepB r) : nameN (s.extract 0 (nameN s) ++ r) = nameN s := by
  have hz : (s.extract 0 (nameN s)).size = nameN s := by rw [ByteArray.size_extract]; omega
  refine nameN_eq _ _ (by rw [ByteArray.size_append, hz]; omega) (fun j hj => ?_) ?_
  · have e : byteAt (s.extract 0 (nameN s) ++ r) j = byteAt s j := by
      rw [at_left _ _ _ (by omega)]
      rw [byteAt_byt, byteAt_byt]
      unfold byt
      rw [Lib.extract_data, List.getD_eq_getElem?_getD, List.getD_eq_getElem?_getD]
      simp [List.getElem?_take, hj]
    rw [okB_congr e]
    exact nameN_ok s j hj
  · have := sep_at (t := s.extract 0 (nameN s)) hr
    rw [hz] at this
    rcases this with h | h
    · exact .inl h.symm
    · exact .inr (okB_32 h)
/-- what is read begins as a value -/
theorem read_first {s : ByteArray} {k n m : Int} {t : ByteArray} (hs : 0 < s.size) (h : readR s = rdA k n t m 0) : valuedB s = true ∧ letB (byteAt s 0) = false ∧ whiteB (byteAt s 0) = false := by
  have no : ∀ e : Int, e ≠ 0 → noA e ≠ rdA k n t m 0 := by
    intro e he h
    unfold noA rdA at h
    simp at h
    exact he h.2.2
  unfold readR at h
  rw [if_neg (by omega)] at h
  split at h
  · rename_i h39
    unfold valuedB letB whiteB digB
    rw [h39]
    exact ⟨by simp, by simp, by simp⟩
  · unfold numR at h
    split at h
    · exact absurd h (no 7 (by decide))
    · rename_i hne
      split at h
      · exact absurd h (no 2 (by decide))
      · rename_i hd
        have hd : digB (byteAt s (numI s)) = true := by simpa using hd
        unfold numI at hd hne
        split at hd
        · rename_i h45
          rw [if_pos h45] at hne
          unfold valuedB letB whiteB
          rw [h45, decide_eq_true (show 1 < s.size by omega), hd]
          exact ⟨by simp, by simp, by simp⟩
        · have hd' : 48 ≤ byteAt s 0 ∧ byteAt s 0 ≤ 57 := by unfold digB at hd; simpa using hd
          unfold valuedB letB whiteB
          refine ⟨by rw [hd]; rfl, ?_, ?_⟩
          · simp; omega
          · simp; omega
theorem nDigits_lt : ∀ (k u : Nat), u < 10 ^ (k + 1) → nDigits u ≤ k + 1
  | 0, u, h => by rw [nDigits, dif_pos (by omega)]; omega
  | k + 1, u, h => by
    rw [nDigits]
    split
    · omega
    · have := nDigits_lt k (u / 10) (by rw [Nat.pow_succ] at h; omega)
      omega
theorem quoL_size (s : ByteArray) (k n m : Int) (t : ByteArray) : ∀ (f i : Nat) (o : ByteArray), quoL s f i o = rdA k n t m 0 → ((t.size + i : Nat) : Int) + 1 ≤ (o.size : Int) + m := by
  have no : ∀ e : Int, e ≠ 0 → noA e ≠ rdA k n t m 0 := by
    intro e he h
    unfold noA rdA at h
    simp at h
    exact he h.2.2
  intro f
  induction f with
  | zero => intro i o h; exact absurd h (no 7 (by decide))
  | succ f ih =>
    intro i o h
    rw [quoL] at h
    split at h
    · split at h
      · unfold rdA at h
        simp at h
        obtain ⟨⟨-, -, rfl⟩, rfl⟩ := h
        omega
      · split at h
        · split at h
          · exact absurd h (no 7 (by decide))
          · split at h
            · exact absurd h (no 2 (by decide))
            · split at h
              · exact absurd h (no 5 (by decide))
              · have := ih _ _ h
                rw [ByteArray.size_append] at this
                have h1 : (⟨#[byt s (i + 1)]⟩ : ByteArray).size = 1 := rfl
                omega
        · split at h
          · exact absurd h (no 2 (by decide))
          · split at h
            · exact absurd h (no 5 (by decide))
            · have := ih _ _ h
              rw [ByteArray.size_append] at this
              have h1 : (⟨#[byt s i]⟩ : ByteArray).size = 1 := rfl
              omega
    · exact absurd h (no 7 (by decide))
theorem val_size {s : ByteArray} {k n m : Int} {t : ByteArray} (hs : 0 < s.size) (h : readR s = rdA k n t m 0) (hg : goodV k n t) (hm : 1 ≤ m) : ((prV k n t).size : Int) + 1 ≤ 17 * m := by
  rcases hg with ⟨rfl, ht, h1, h2⟩ | ⟨rfl, rfl, ht, hp⟩
  · have e : prV 1 n t = itoS n := by unfold prV; rw [if_pos rfl]
    have hz : (itoS n).size ≤ 14 := by
      show (itoa n).toArray.size ≤ _
      rw [List.size_toArray]
      unfold itoa
      have a1 := nDigits_lt 12 n.natAbs (by show _ < 10000000000000; omega)
      have a2 := nDigits_lt 12 n.toNat (by show _ < 10000000000000; omega)
      rw [← decDigits_length] at a1 a2
      split <;> simp <;> omega
    rw [e]; omega
  · have e : prV 2 0 t = quoS t := by unfold prV; rw [if_neg (by decide)]
    rw [e]
    have hz : (quoS t).size ≤ 2 * t.size + 2 := by
      show (39 :: (escL t.data.toList ++ [39])).toArray.size ≤ _
      have := escL_len t.data.toList
      have h3 : t.data.toList.length = t.size := rfl
      simp only [List.size_toArray, List.length_cons, List.length_append, List.length_nil]; omega
    have hq : ((t.size + 1 : Nat) : Int) + 1 ≤ m := by
      unfold readR at h
      rw [if_neg (by omega)] at h
      split at h
      · have := quoL_size s 2 0 m t _ _ _ h
        have h0 : (⟨#[]⟩ : ByteArray).size = 0 := rfl
        omega
      · exfalso
        have no : ∀ e : Int, e ≠ 0 → noA e ≠ rdA 2 0 t m 0 := by
          intro e he h
          unfold noA rdA at h
          simp at h
        unfold numR at h
        split at h
        · exact no 7 (by decide) h
        · split at h
          · exact no 2 (by decide) h
          · cases hn : numL s (s.size - numI s) (numI s) 0 with
            | none => rw [hn] at h; exact no 5 (by decide) h
            | some p => rw [hn] at h; unfold numE rdA at h; simp at h
    omega
/-! ### signs -/
theorem sign_mem (s : ByteArray) : ∀ (l : List ByteArray) (o : ByteArray), l.foldl (signStep s) o = o ∨ l.foldl (signStep s) o ∈ l
  | [], o => .inl rfl
  | t :: l, o => by
    rw [List.foldl_cons]
    rcases sign_mem s l (signStep s o t) with h | h
    · rw [h]
      unfold signStep
      split
      · right; simp
      · left; rfl
    · right; simp [h]
theorem signF_mem {s : ByteArray} (h : signF s ≠ ⟨#[]⟩) : signF s ∈ signsT := by
  rcases sign_mem s signsT ⟨#[]⟩ with h' | h'
  · exact absurd h' h
  · exact h'
theorem signs_first : ∀ t, t ∈ signsT → 0 < t.size ∧ letB (byteAt t 0) = false ∧ digB (byteAt t 0) = false ∧ byteAt t 0 ≠ 39 ∧ whiteB (byteAt t 0) = false ∧ (byteAt t 0 = 45 → 1 < t.size ∧ digB (byteAt t 1) = false) ∧ signF t = t := by decide +kernel
theorem signs_no32 : ∀ t, t ∈ signsT → ∀ i, i < t.size → byteAt t i ≠ 32 := by
  have h : ∀ t, t ∈ signsT → (List.range t.size).all (fun i => decide (byteAt t i ≠ 32)) = true := by decide +kernel
  intro t ht i hi
  have := List.all_eq_true.1 (h t ht) i (List.mem_range.2 hi)
  simpa using this
theorem pre_back {t r u : ByteArray} (hr : sepB r) (hu : ∀ i, i < u.size → byteAt u i ≠ 32) : preB (t ++ r) u = preB t u := by
  rw [preB_eq, preB_eq]
  by_cases h : u.size ≤ t.size
  · have e : (t ++ r).extract 0 u.size = t.extract 0 u.size := by
      apply ba_ext
      rw [Lib.extract_data, Lib.extract_data, data_app]
      have : t.data.toList.length = t.size := rfl
      simp
      rw [List.take_append_of_le_length (by omega)]
    rw [e, decide_eq_true h, decide_eq_true (show u.size ≤ (t ++ r).size by rw [ByteArray.size_append]; omega)]
  · rw [decide_eq_false h, Bool.false_and]
    rcases sep_at (t := t) hr with h' | h'
    · rw [decide_eq_false (by omega), Bool.false_and]
    · rw [Bool.and_eq_false_iff]
      by_cases h2 : u.size ≤ (t ++ r).size
      · right
        rw [decide_eq_false_iff_not]
        intro e
        refine hu t.size (by omega) ?_
        rw [← h', ← e]
        rw [byteAt_byt, byteAt_byt]
        unfold byt
        rw [Lib.extract_data, List.getD_eq_getElem?_getD, List.getD_eq_getElem?_getD]
        simp [List.getElem?_take]
        rw [if_pos (by omega)]
      · left; exact decide_eq_false h2
theorem sign_back {t r : ByteArray} (ht : t ∈ signsT) (hr : sepB r) : signF (t ++ r) = t := by
  have key : ∀ (l : List ByteArray) (o : ByteArray), (∀ u, u ∈ l → u ∈ signsT) → l.foldl (signStep (t ++ r)) o = l.foldl (signStep t) o := by
    intro l
    induction l with
    | nil => intro o _; rfl
    | cons u l ih =>
      intro o hl
      rw [List.foldl_cons, List.foldl_cons]
      have : signStep (t ++ r) o u = signStep t o u := by
        unfold signStep
        rw [pre_back hr (signs_no32 u (hl u (by simp)))]
      rw [this]
      exact ih _ fun v hv => hl v (by simp [hv])
  have h1 : signF (t ++ r) = signF t := key signsT ⟨#[]⟩ fun u hu => hu
  rw [h1]
  exact (signs_first t ht).2.2.2.2.2.2
theorem goodB_of {k n : Int} {t : ByteArray} (h : goodV k n t) : goodB k n t = true ∧ k ≠ 0 := by
  refine ⟨by unfold goodB; simpa using (show goodF k n t from .inr h), ?_⟩
  rcases h with ⟨h, -⟩ | ⟨h, -⟩ <;> omega
/-- a word that was read comes back from its text, whatever stands behind a blank -/
theorem word_back (s : ByteArray) (hs : 0 < s.size) (he : (wordF s).2.2 = 0) (r : ByteArray) (hr : sepB r) :
    wordF (txtS (wordF s).1 ++ r) = ((wordF s).1, ((txtS (wordF s).1).size : Int), 0) ∧ whiteB (byteAt (txtS (wordF s).1 ++ r) 0) = false ∧ 0 < (txtS (wordF s).1).size ∧ ((txtS (wordF s).1).size : Int) + 1 ≤ 17 * (wordF s).2.1 := by
  have hnl := nameN_le s
  unfold wordF at he
  split at he
  · rename_i h1
    split at he
    · simp at he
    · rename_i h2
      have hw : wordF s = ((if keyB (s.extract 0 (nameN s)) then 2 else 1, s.extract 0 (nameN s), 0, 0, ⟨#[]⟩, 0), (nameN s : Int), 0) := by unfold wordF; rw [if_pos h1, if_neg h2]
      have hz : (s.extract 0 (nameN s)).size = nameN s := by rw [ByteArray.size_extract]; omega
      have hb := name_back s r hnl h1 hr
      have ht : txtS (wordF s).1 = s.extract 0 (nameN s) := by
        rw [hw]; unfold txtS
        rw [if_neg]
        show ¬ (if keyB (s.extract 0 (nameN s)) = true then (2 : Int) else 1) = 3
        split <;> omega
      have hx : (s.extract 0 (nameN s) ++ r).extract 0 (nameN s) = s.extract 0 (nameN s) := by
        have := ex_left (s.extract 0 (nameN s)) r
        rwa [hz] at this
      rw [ht, hz]
      refine ⟨?_, ?_, h1, ?_⟩
      · rw [hw]
        unfold wordF
        rw [hb, if_pos h1, if_neg h2, hx]
      · have h0 := nameN_ok s 0 h1
        have e0 : byteAt (s.extract 0 (nameN s) ++ r) 0 = byteAt s 0 := by
          rw [at_left _ _ _ (by omega), byteAt_byt, byteAt_byt]
          unfold byt
          rw [Lib.extract_data, List.getD_eq_getElem?_getD, List.getD_eq_getElem?_getD]
          simp [List.getElem?_take, h1]
        rw [e0]
        unfold okB at h0
        have h0 : letB (byteAt s 0) = true := by simpa using h0
        unfold letB at h0
        unfold whiteB
        simp at h0 ⊢
        omega
      · rw [hw]; show ((nameN s : Nat) : Int) + 1 ≤ 17 * ((nameN s : Nat) : Int); omega
  · rename_i h1
    have h1 : nameN s = 0 := by omega
    split at he
    · rename_i h2
      split at he
      · rename_i h3
        have hR := readT_eq s
        have hin := readT_in s hs h3
        rw [h3] at hR
        have hg : goodV (readT s).1 (readT s).2.1 (readT s).2.2.1 := by
          obtain ⟨k, n, t, m, e, h, hgd⟩ := readR_ok s
          rw [hR] at h
          simp at h
          obtain ⟨⟨rfl, rfl, rfl⟩, rfl, rfl⟩ := h
          exact hgd rfl
        have hw : wordF s = ((3, ⟨#[]⟩, (readT s).1, (readT s).2.1, (readT s).2.2.1, 0), (readT s).2.2.2.1, 0) := by unfold wordF; rw [if_neg (by omega), if_pos h2, if_pos h3]
        rw [hw]
        generalize (readT s).1 = k at *
        generalize (readT s).2.1 = n at *
        generalize (readT s).2.2.1 = t at *
        generalize (readT s).2.2.2.1 = m at *
        have ht : txtS (3, ⟨#[]⟩, k, n, t, 0) = prV k n t := by
          unfold txtS
          rw [if_pos rfl, if_neg]
          rintro (h | h)
          · rw [(goodB_of hg).1] at h; cases h
          · exact (goodB_of hg).2 h
        have hb := read_back hg r (by
          rcases hr with h | h
          · exact .inl h
          · right; rw [h]; rfl)
        have hpz : 0 < (prV k n t).size := by
          rcases hg with ⟨rfl, -⟩ | ⟨rfl, -⟩
          · have e : prV 1 n t = itoS n := by unfold prV; rw [if_pos rfl]
            rw [e]
            show 0 < (itoa n).toArray.size
            rw [List.size_toArray]
            unfold itoa
            split
            · simp
            · rw [decDigits_length]; unfold nDigits; split <;> omega
          · have e : prV 2 n t = quoS t := by unfold prV; rw [if_neg (by decide)]
            rw [e]
            show 0 < (39 :: (escL t.data.toList ++ [39])).toArray.size
            simp
        have hsz : 0 < (prV k n t ++ r).size := by rw [ByteArray.size_append]; omega
        obtain ⟨f1, f2, f3⟩ := read_first hsz hb
        rw [ht]
        refine ⟨?_, f3, hpz, val_size hs hR hg hin.1⟩
        have hT : readT (prV k n t ++ r) = (k, n, t, ((prV k n t).size : Int), 0) := by unfold readT; rw [hb]
        unfold wordF
        rw [nameN_0 f2, if_neg (by omega), if_pos f1, hT]
        rw [if_pos rfl]
      · rename_i h3; exact absurd he h3
    · rename_i h2
      split at he
      · simp at he
      · rename_i h3
        have hw : wordF s = ((4, signF s, 0, 0, ⟨#[]⟩, 0), ((signF s).size : Int), 0) := by unfold wordF; rw [if_neg (by omega), if_neg h2, if_neg h3]
        have hm := signF_mem h3
        rw [hw]
        generalize signF s = t at *
        have ht : txtS (4, t, 0, 0, ⟨#[]⟩, 0) = t := by unfold txtS; rw [if_neg (show ¬ ((4 : Int) = 3) by decide)]
        obtain ⟨g1, g2, g3, g4, g5, g6, g7⟩ := signs_first t hm
        have e0 : byteAt (t ++ r) 0 = byteAt t 0 := at_left _ _ _ g1
        rw [ht]
        refine ⟨?_, by rw [e0]; exact g5, g1, by show ((t.size : Nat) : Int) + 1 ≤ 17 * ((t.size : Nat) : Int); omega⟩
        have hv : valuedB (t ++ r) = false := by
          unfold valuedB
          rw [e0, g3, decide_eq_false g4]
          by_cases h45 : byteAt t 0 = 45
          · obtain ⟨q1, q2⟩ := g6 h45
            rw [at_left _ _ _ q1, q2]; simp
          · rw [decide_eq_false h45]; simp
        unfold wordF
        rw [nameN_0 (by rw [e0]; exact g2), if_neg (by omega), if_neg (by rw [hv]; decide), sign_back hm hr, if_neg h3]
/-! ### all words -/
/-- a word that was read of some text -/
def Gd (w : Wd) : Prop := ∃ (s : ByteArray) (a : Int), 0 < s.size ∧ (wordF s).2.2 = 0 ∧ w = atW (wordF s).1 a
theorem txt_at (w : Wd) (a : Int) : txtS (atW w a) = txtS w := rfl
noncomputable def sumT : List Wd → Nat
  | [] => 0
  | w :: l => (txtS w).size + 1 + sumT l
theorem sumT_app : ∀ (l m : List Wd), sumT (l ++ m) = sumT l + sumT m
  | [], m => by simp [sumT]
  | w :: l, m => by rw [List.cons_append, sumT, sumT, sumT_app l m]; omega
theorem words_good (s : ByteArray) : ∀ (f a : Nat) (out : List Wd), a ≤ s.size → (∀ w, w ∈ out → Gd w) → sumT out ≤ 17 * a → (wordsG s f a out).2.2 = 0 → (∀ w, w ∈ (wordsG s f a out).1 → Gd w) ∧ sumT (wordsG s f a out).1 ≤ 17 * s.size
  | 0, a, out, ha, h1, h2, h3 => by
    rw [wordsG] at h3 ⊢
    split at h3
    · simp at h3
    · rename_i h; rw [if_neg h]; exact ⟨h1, by simp only; omega⟩
  | f + 1, a, out, ha, h1, h2, h3 => by
    rw [wordsG] at h3 ⊢
    split at h3
    · rename_i hlt
      rw [if_pos hlt]
      split at h3
      · rename_i hw
        rw [if_pos hw]
        exact words_good s f _ _ (by omega) h1 (by omega) h3
      · rename_i hw
        rw [if_neg hw]
        split at h3
        · rename_i he
          rw [if_pos he]
          have hz := rest_size s a hlt
          have hin := wordF_in (s.extract a s.size) (by omega) he
          have hb := (word_back (s.extract a s.size) (by omega) he ⟨#[]⟩ (.inl rfl)).2.2.2
          generalize hq : wordF (s.extract a s.size) = q at *
          refine words_good s f _ _ (by omega) ?_ ?_ h3
          · intro w hw
            rcases List.mem_append.1 hw with hw | hw
            · exact h1 w hw
            · obtain rfl := List.mem_singleton.1 hw
              exact ⟨s.extract a s.size, a, by omega, by rw [hq]; exact he, by rw [hq]⟩
          · rw [sumT_app]
            show _ + ((txtS q.1).size + 1 + 0) ≤ _
            omega
        · rename_i he; exact absurd h3 he
    · rename_i hlt
      rw [if_neg hlt]
      split at h3
      · simp at h3
      · rename_i h; rw [if_neg h]; exact ⟨h1, by simp only; omega⟩
noncomputable def joinT : List Wd → ByteArray
  | [] => ⟨#[]⟩
  | w :: l => txtS w ++ (if l = [] then ⟨#[]⟩ else (⟨#[32]⟩ : ByteArray) ++ joinT l)
theorem joinT_snoc (q : Wd) : ∀ l, joinT (l ++ [q]) = (if l = [] then ⟨#[]⟩ else joinT l ++ (⟨#[32]⟩ : ByteArray)) ++ txtS q
  | [] => by
    show txtS q ++ (if ([] : List Wd) = [] then _ else _) = _
    rw [if_pos rfl, if_pos rfl]
    apply ba_ext; rw [data_app, data_app]; simp
  | w :: l => by
    rw [List.cons_append, joinT, if_neg (by simp), joinT_snoc q l]
    rw [show (if w :: l = [] then (⟨#[]⟩ : ByteArray) else joinT (w :: l) ++ (⟨#[32]⟩ : ByteArray)) = joinT (w :: l) ++ (⟨#[32]⟩ : ByteArray) from if_neg (by simp), joinT]
    by_cases h : l = []
    · rw [if_pos h, if_pos h]
      apply ba_ext; simp only [data_app]; simp
    · rw [if_neg h, if_neg h]
      apply ba_ext; simp only [data_app]; simp
theorem outL_join (ws : List Wd) : ∀ k, k ≤ ws.length → outL ws k = joinT (ws.take k)
  | 0, _ => by rw [outL, List.take_zero, joinT]
  | k + 1, hk => by
    have hk' : k < ws.length := hk
    rw [List.take_succ_eq_append_getElem hk', joinT_snoc, outL, outL_join ws k (by omega)]
    have e : ws.getD k (0, ⟨#[]⟩, 0, 0, ⟨#[]⟩, 0) = ws[k] := by rw [List.getD_eq_getElem?_getD, List.getElem?_eq_getElem hk']; rfl
    rw [e]
    congr 1
    by_cases h : k = 0
    · subst h
      rw [if_neg (by omega), if_pos (by simp), List.take_zero, joinT]
    · have hne : ws.take k ≠ [] := by
        intro e
        have := congrArg List.length e
        rw [List.length_take, List.length_nil] at this
        omega
      rw [if_pos (by omega), if_neg hne]
theorem print_join (ws : List Wd) : printS ws = joinT ws := by unfold printS; rw [outL_join ws _ (Nat.le_refl _), List.take_length]
theorem joinT_size : ∀ l, (joinT l).size ≤ sumT l
  | [] => Nat.le_refl _
  | w :: l => by
    rw [joinT, sumT, ByteArray.size_append]
    have := joinT_size l
    split
    · have h0 : (⟨#[]⟩ : ByteArray).size = 0 := rfl
      omega
    · rw [ByteArray.size_append]
      have h1 : (⟨#[32]⟩ : ByteArray).size = 1 := rfl
      omega
theorem ba_assoc (a b c : ByteArray) : a ++ b ++ c = a ++ (b ++ c) := by apply ba_ext; simp only [data_app, List.append_assoc]
theorem ba_nil (a : ByteArray) : a ++ (⟨#[]⟩ : ByteArray) = a := by apply ba_ext; rw [data_app]; simp
/-- the words of a text that was printed of words that were read -/
theorem from_back : ∀ (l : List Wd), (∀ w, w ∈ l → Gd w) → ∀ (p : ByteArray) (out : List Wd), ∃ l', l'.map stripW = l.map stripW ∧ fromG (p ++ joinT l) p.size out = fromG (p ++ joinT l) (p ++ joinT l).size (out ++ l')
  | [], _, p, out => ⟨[], rfl, by rw [joinT, ba_nil, List.append_nil]⟩
  | w :: l, hg, p, out => by
    obtain ⟨s, a, hs, he, rfl⟩ := hg w (by simp)
    generalize hr : (if l = [] then (⟨#[]⟩ : ByteArray) else (⟨#[32]⟩ : ByteArray) ++ joinT l) = r
    have hsep : sepB r := by
      rw [← hr]
      split
      · exact .inl rfl
      · right; rw [at_left _ _ _ (by show 0 < 1; omega)]; rfl
    obtain ⟨b1, b2, b3, -⟩ := word_back s hs he r hsep
    have hT : p ++ joinT (atW (wordF s).1 a :: l) = p ++ (txtS (wordF s).1 ++ r) := by rw [joinT, hr, txt_at]
    rw [hT]
    generalize hT2 : p ++ (txtS (wordF s).1 ++ r) = T at *
    have hz : T.size = p.size + ((txtS (wordF s).1).size + r.size) := by rw [← hT2, ByteArray.size_append, ByteArray.size_append]
    have hex : T.extract p.size T.size = txtS (wordF s).1 ++ r := by rw [← hT2]; exact ex_right _ _
    have h0 : byteAt T p.size = byteAt (txtS (wordF s).1 ++ r) 0 := by rw [← hT2, at_right _ _ _ (Nat.le_refl _), Nat.sub_self]
    have st := fromG_word T p.size out (by omega) (by rw [h0]; exact b2) (by rw [hex, b1])
    rw [hex, b1] at st
    simp only [Int.toNat_natCast] at st
    rw [st]
    by_cases hl : l = []
    · subst hl
      rw [if_pos rfl] at hr
      subst hr
      have h00 : (⟨#[]⟩ : ByteArray).size = 0 := rfl
      refine ⟨[atW (wordF s).1 p.size], rfl, ?_⟩
      rw [hz, h00, Nat.add_zero]
    · rw [if_neg hl] at hr
      have h1 : (⟨#[32]⟩ : ByteArray).size = 1 := rfl
      have hT3 : T = (p ++ txtS (wordF s).1 ++ (⟨#[32]⟩ : ByteArray)) ++ joinT l := by rw [← hT2, ← hr]; simp only [ba_assoc]
      have hz3 : (p ++ txtS (wordF s).1 ++ (⟨#[32]⟩ : ByteArray)).size = p.size + (txtS (wordF s).1).size + 1 := by rw [ByteArray.size_append, ByteArray.size_append, h1]
      have hw : byteAt T (p.size + (txtS (wordF s).1).size) = 32 := by
        have e2 : (p ++ txtS (wordF s).1).size = p.size + (txtS (wordF s).1).size := ByteArray.size_append
        rw [hT3, at_left _ _ _ (by omega), at_right _ _ _ (by omega), e2, Nat.sub_self]
        rfl
      have hlt : p.size + (txtS (wordF s).1).size < T.size := by rw [hT3, ByteArray.size_append, hz3]; omega
      rw [fromG_white T _ _ hlt (by rw [hw]; rfl)]
      obtain ⟨l', e1, e2⟩ := from_back l (fun w hw => hg w (by simp [hw])) (p ++ txtS (wordF s).1 ++ (⟨#[32]⟩ : ByteArray)) (out ++ [atW (wordF s).1 p.size])
      rw [← hT3, hz3] at e2
      refine ⟨atW (wordF s).1 p.size :: l', ?_, ?_⟩
      · rw [List.map_cons, List.map_cons, e1]; rfl
      · rw [e2, List.append_assoc]; rfl
/-- words that were read come back from their text, but for their places -/
theorem words_back (s : ByteArray) (hs : s.size ≤ 200) (he : (wordsF s).2.2 = 0) : (∀ w, w ∈ (wordsF s).1 → Gd w) ∧ (wordsF s).1.length ≤ 1000 ∧ (printS (wordsF s).1).size ≤ 3400 ∧ ∃ l', l'.map stripW = (wordsF s).1.map stripW ∧ wordsF (printS (wordsF s).1) = (l', 0, 0) := by
  have hlen : (wordsF s).1.length ≤ 1000 := by
    unfold wordsF
    rw [if_neg (by omega)]
    exact words_few s _ _ _
  have hgd : (∀ w, w ∈ (wordsF s).1 → Gd w) ∧ sumT (wordsF s).1 ≤ 17 * s.size := by
    unfold wordsF at he ⊢
    rw [if_neg (by omega)] at he ⊢
    exact words_good s _ 0 [] (Nat.zero_le _) (by simp) (by simp [sumT]) he
  generalize (wordsF s).1 = l at *
  have hz : (printS l).size ≤ 3400 := by
    have := joinT_size l
    rw [print_join]; omega
  refine ⟨hgd.1, hlen, hz, ?_⟩
  obtain ⟨l', e1, e2⟩ := from_back l hgd.1 ⟨#[]⟩ []
  have hll : l'.length = l.length := by have := congrArg List.length e1; simpa using this
  refine ⟨l', e1, ?_⟩
  have hn : (⟨#[]⟩ : ByteArray) ++ joinT l = printS l := by rw [print_join]; apply ba_ext; rw [data_app]; simp
  rw [hn, fromG_end _ _ _ (Nat.le_refl _) (Nat.le_refl _), if_neg (by simp; omega)] at e2
  unfold wordsF
  rw [if_neg (by omega)]
  exact e2
end Go.Proofs.YtcnhpclfflcdfaaDoorQ.Lex
