import Derived.Test.YtcnhpclfflcdfaaDoorQValD
/- What is printed of a value is read again, whatever stands behind it but a digit. -/
namespace Go.Proofs.YtcnhpclfflcdfaaDoorQ.Val
open Go Go.Av Go.Lib
set_option linter.unusedSimpArgs false
set_option linter.unusedVariables false
theorem empty_of {t : ByteArray} (h : t.size = 0) : t = ⟨#[]⟩ := by
  apply ByteArray.ext
  exact Array.eq_empty_of_size_eq_zero h
theorem read_back {k n : Int} {t : ByteArray} (hg : goodV k n t) (b : ByteArray) (hb : b.size = 0 ∨ digB (byteAt b 0) = false) : readR (prV k n t ++ b) = rdA k n t (prV k n t).size 0 := by
  have hm : b.data.toList = [] ∨ digB (((b.data.toList.getD 0 0).toNat : Nat) : Int) = false := by
    rcases hb with h | h
    · left; rw [empty_of h]
    · right; rw [byteAt_byt] at h; exact h
  rcases hg with ⟨rfl, ht, h1, h2⟩ | ⟨rfl, rfl, ht, hp⟩
  · obtain rfl := empty_of ht
    have hr := read_num n h1 h2 b.data.toList hm
    have e : prV 1 n ⟨#[]⟩ = itoS n := by unfold prV; rw [if_pos rfl]
    have e2 : itoS n ++ b = ⟨(itoa n ++ b.data.toList).toArray⟩ := by
      apply ByteArray.ext
      rw [ByteArray.data_append]; unfold itoS; simp
    have e3 : (itoS n).size = (itoa n).length := by show (itoa n).toArray.size = _; simp
    rw [e, e2, e3]; exact hr
  · have e : prV 2 0 t = quoS t := by unfold prV; rw [if_neg (by decide)]
    have e3 : (quoS t).size = (escL t.data.toList).length + 2 := by
      show (39 :: (escL t.data.toList ++ [39])).toArray.size = _; simp
    rw [e]
    have hd : (quoS t ++ b).data.toList = 39 :: (escL t.data.toList ++ 39 :: b.data.toList) := by
      rw [ByteArray.data_append]; unfold quoS; simp
    have hsz : (quoS t ++ b).size = (escL t.data.toList).length + 2 + b.size := by rw [ByteArray.size_append, e3]
    have hq := quo_run (quoS t ++ b) b.data.toList t.data.toList (quoS t ++ b).size 1 ⟨#[]⟩ (by rw [hd]; rfl) (by omega) (by show 0 + t.size ≤ 100; omega) (fun x hx => by
      obtain ⟨i, hi, rfl⟩ := List.getElem_of_mem hx
      have := hp i hi
      rw [byteAt_byt] at this
      have hbt : byt t i = t.data.toList[i] := by unfold byt; rw [List.getD_eq_getElem?_getD, List.getElem?_eq_getElem hi]; rfl
      rwa [hbt] at this)
    have hb0 : byteAt (quoS t ++ b) 0 = 39 := by
      rw [byteAt_byt]; unfold byt; rw [hd]; rfl
    unfold readR
    rw [if_neg (by omega), if_pos hb0]
    unfold quoR
    rw [hq, e3]
    have : (⟨#[]⟩ : ByteArray) ++ (⟨t.data.toList.toArray⟩ : ByteArray) = t := by apply ByteArray.ext; simp [ByteArray.data_append]
    rw [this]
    congr 1
    omega
theorem prV_size {k n : Int} {t : ByteArray} (hg : goodV k n t) : (prV k n t).size ≤ 1000 := by
  rcases hg with ⟨rfl, ht, h1, h2⟩ | ⟨rfl, rfl, ht, hp⟩
  · have e : prV 1 n t = itoS n := by unfold prV; rw [if_pos rfl]
    rw [e]
    show (itoa n).toArray.size ≤ _
    rw [List.size_toArray]
    unfold itoa
    have := nDigits_le20 n.natAbs (by omega)
    have h4 := nDigits_le20 n.toNat (by omega)
    rw [← decDigits_length] at this h4
    split <;> simp <;> omega
  · have e : prV 2 0 t = quoS t := by unfold prV; rw [if_neg (by decide)]
    rw [e]
    show (39 :: (escL t.data.toList ++ [39])).toArray.size ≤ _
    have := escL_len t.data.toList
    have h3 : t.data.toList.length = t.size := rfl
    simp only [List.size_toArray, List.length_cons, List.length_append, List.length_nil]; omega
theorem law_back (k n : Int) (t b : ByteArray) (g : GH) : PureC Tryd.prog 3 [vlA k n t, SS b] g (BB true) := by
  refine CallC.body (fun _ => none) (fun _ => 0) Tryd.func3 rfl Tryd.results3 Tryd.ntmps3 ?_
  intro n0 hn0
  simp only [go_sem]
  refine WE_pure _ _ _ _ _ _ _ _ (Few_c k n t _) ?_
  simp only [go_sem]
  refine WE_pure _ _ _ _ _ _ _ _ (Cut_c b 20 _) ?_
  simp only [go_sem]
  have ht := cutS_size t 120
  have hbs := cutS_size b 20
  generalize cutS t 120 = t at ht
  generalize cutS b 20 = b at hbs
  by_cases h : goodB k n t = false ∨ k = 0
  · refine WE_pure _ _ _ _ _ _ _ _ (print0_c k n t (by omega) h _) ?_
    simp only [go_sem]
    cases e : goodB k n t
    · refine WE_pure _ _ _ _ _ _ _ _ (rGood_c k n t (by omega) _) ?_
      simp only [go_sem, e]
      refine WE_pure _ _ _ _ _ _ _ _ (lives_c _) ?_
      simp only [go_sem]
      refine FnPost_end hn0 (by simp) rfl (only_lit _ _) ?_
      simp only [go_sem]
      exact leA_refl _
    · have hk : k = 0 := h.elim (fun h => by rw [e] at h; cases h) id
      subst hk
      refine WE_pure _ _ _ _ _ _ _ _ (rGood_c 0 n t (by omega) _) ?_
      simp only [go_sem, e]
      refine WE_pure _ _ _ _ _ _ _ _ (lives_c _) ?_
      simp only [go_sem]
      refine FnPost_end hn0 (by simp) rfl (only_lit _ _) ?_
      simp only [go_sem]
      exact leA_refl _
  · have hgb : goodB k n t = true := by
      cases e : goodB k n t
      · exact absurd (.inl e) h
      · rfl
    have hk : k ≠ 0 := fun e => h (.inr e)
    have hg : goodV k n t := by
      have : goodF k n t := by unfold goodB at hgb; simpa using hgb
      rcases this with h | h
      · exact absurd h.1 hk
      · exact h
    have hps := prV_size hg
    refine WE_pure _ _ _ _ _ _ _ _ (print_c k n t (by omega) hgb hk _) ?_
    simp only [go_sem]
    refine WE_pure _ _ _ _ _ _ _ _ (rGood_c k n t (by omega) _) ?_
    simp only [go_sem, hgb, hk]
    refine WE_pure _ _ _ _ _ _ _ _ (rPrint_c k n t (by omega) hgb hk _) ?_
    simp only [go_sem]
    by_cases hb : b.size = 0
    · simp only [go_sem, hb]
      have hr := read_back hg b (.inl hb)
      (repeat (refine ⟨by omega, ?_⟩))
      refine WE_pure _ _ _ _ _ _ _ _ (hr ▸ read_c (prV k n t ++ b) (by rw [ByteArray.size_append]; omega) _) ?_
      simp only [go_sem]
      refine WE_pure _ _ _ _ _ _ _ _ (lives_c _) ?_
      simp only [go_sem]
      refine FnPost_end hn0 (by simp) rfl (only_lit _ _) ?_
      simp only [go_sem]
      exact leA_refl _
    · simp only [go_sem, hb]
      (repeat (refine ⟨by omega, ?_⟩))
      cases hd : digB (byteAt b 0)
      · have hr := read_back hg b (.inr hd)
        refine WE_pure _ _ _ _ _ _ _ _ (rDigit_c _ _) ?_
        simp only [go_sem, hd]
        (repeat (refine ⟨by omega, ?_⟩))
        refine WE_pure _ _ _ _ _ _ _ _ (hr ▸ read_c (prV k n t ++ b) (by rw [ByteArray.size_append]; omega) _) ?_
        simp only [go_sem]
        refine WE_pure _ _ _ _ _ _ _ _ (lives_c _) ?_
        simp only [go_sem]
        refine FnPost_end hn0 (by simp) rfl (only_lit _ _) ?_
        simp only [go_sem]
        exact leA_refl _
      · refine WE_pure _ _ _ _ _ _ _ _ (rDigit_c _ _) ?_
        simp only [go_sem, hd]
        refine WE_pure _ _ _ _ _ _ _ _ (lives_c _) ?_
        simp only [go_sem]
        refine FnPost_end hn0 (by simp) rfl (only_lit _ _) ?_
        simp only [go_sem]
        exact leA_refl _
end Go.Proofs.YtcnhpclfflcdfaaDoorQ.Val
