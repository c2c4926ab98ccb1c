import Derived.Test.YtcnhpclfflcdfaaDoorQLexK
import Derived.Test.YtcnhpclfflcdfaaDoorQLexOb
/- Words that were read come back from their text: the walk. -/
namespace Go.Proofs.YtcnhpclfflcdfaaDoorQ.Lex
open Go Go.Av Go.Proofs.YtcnhpclfflcdfaaDoorQ.Val
set_option linter.unusedSimpArgs false
set_option linter.unusedVariables false
theorem word_small (s : ByteArray) (he : (wordF s).2.2 = 0) : (wordF s).1.2.1.size ≤ 5000 ∧ (wordF s).1.2.2.2.2.1.size ≤ 1000 := by
  have h0 : (⟨#[]⟩ : ByteArray).size = 0 := rfl
  unfold wordF at he ⊢
  split at he
  · rename_i h1
    split at he
    · simp at he
    · rename_i h2
      rw [if_pos h1, if_neg h2]
      simp only
      rw [ByteArray.size_extract]
      omega
  · rename_i h1
    split at he
    · rename_i h2
      split at he
      · rename_i h3
        rw [if_neg h1, if_pos h2, if_pos h3]
        have hR := readT_eq s
        rw [h3] at hR
        have hg : goodV (readT s).1 (readT s).2.1 (readT s).2.2.1 := by
          obtain ⟨k, n, t, m, e, h, hgd⟩ := readR_ok s
          rw [hR] at h
          simp at h
          obtain ⟨⟨rfl, rfl, rfl⟩, rfl, rfl⟩ := h
          exact hgd rfl
        simp only
        rcases hg with ⟨-, h, -⟩ | ⟨-, -, h, -⟩ <;> omega
      · rename_i h3; exact absurd he h3
    · rename_i h2
      split at he
      · simp at he
      · rename_i h3
        rw [if_neg h1, if_neg h2, if_neg h3]
        have : ∀ t, t ∈ signsT → t.size ≤ 5000 := by decide +kernel
        have := this _ (signF_mem h3)
        simp only
        omega
theorem gd_small {w : Wd} (h : Gd w) : w.2.2.2.2.1.size ≤ 1000 ∧ (txtS w).size ≤ 5000 := by
  obtain ⟨s, a, hs, he, rfl⟩ := h
  have := word_small s he
  exact ⟨this.2, txtS_le (w := atW (wordF s).1 a) this.1⟩
theorem law_backW (s : ByteArray) (g : GH) : PureC Tryd.prog 4 [SS s] g (BB true) := by
  refine CallC.body (fun _ => none) (fun _ => 0) Tryd.func4 rfl Tryd.results4 Tryd.ntmps4 ?_
  intro n0 hn0
  simp only [go_sem]
  refine WE_pure _ _ _ _ _ _ _ _ (Cut_c s 200 _) ?_
  simp only [go_sem]
  have hsz := cutS_size s 200
  generalize cutS s 200 = t at *
  refine WE_pure _ _ _ _ _ _ _ _ (rWords_c t (by omega) _) ?_
  simp only [go_sem]
  by_cases he : (wordsF t).2.2 = 0
  · obtain ⟨hg, hl, hp, l', e1, e2⟩ := words_back t hsz he
    simp only [go_sem, he]
    have ha : ∀ w, w ∈ (wordsF t).1 → w.2.2.2.2.1.size ≤ 1000 := fun w hw => (gd_small (hg w hw)).1
    have hb : ∀ w, w ∈ (wordsF t).1 → (txtS w).size ≤ 5000 := fun w hw => (gd_small (hg w hw)).2
    generalize (wordsF t).1 = l at *
    refine ⟨⟨by rw [List.length_map]; omega, (elsOk_Wds _).2 trivial⟩, ?_⟩
    refine WE_pure _ _ _ _ _ _ _ _ (Print_c l ha hb hl (some false) .no _) ?_
    simp only [go_sem]
    have cw := Words_c (printS l) (by omega)
    rw [e2] at cw
    refine WE_pure _ _ _ _ _ _ _ _ (cw _) ?_
    simp only [go_sem]
    refine WE_pure _ _ _ _ _ _ _ _ (rPrintW_c l ha hb hl none .no _) ?_
    simp only [go_sem, beq_self_eq_true]
    have hll : l'.length = l.length := by have := congrArg List.length e1; simpa using this
    have ed : decide (l'.map stripW = l.map stripW) = true := decide_eq_true e1
    refine WE_pure _ _ _ _ _ _ _ _ (ed ▸ rSameW_c none none l' l .no .no (by omega) _) ?_
    simp only [go_sem]
    refine WE_pure _ _ _ _ _ _ _ _ (ed ▸ Same_c l' l none none .no .no (by omega) _) ?_
    simp only [go_sem]
    refine WE_pure _ _ _ _ _ _ _ _ (lives_c _) ?_
    simp only [go_sem]
    refine FnPost_end hn0 (by simp) rfl (only_lit _ _) ?_
    simp only [go_sem]
    exact leA_refl _
  · simp only [go_sem, eq_false he]
    refine WE_pure _ _ _ _ _ _ _ _ (lives_c _) ?_
    simp only [go_sem]
    refine FnPost_end hn0 (by simp) rfl (only_lit _ _) ?_
    simp only [go_sem]
    exact leA_refl _
theorem back_row (x0 : AV) (h0 : HasA Tryd.prog 5 9 x0) (g : GH) : PureC Tryd.prog 4 [x0] g (BB true) := by
  obtain ⟨s, rfl, -⟩ := hasS h0
  exact law_backW s g
end Go.Proofs.YtcnhpclfflcdfaaDoorQ.Lex
