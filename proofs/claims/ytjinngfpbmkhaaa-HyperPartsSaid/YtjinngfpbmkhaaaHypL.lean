import Derived.Test.YtjinngfpbmkhaaaHypF
/- Hypergraphs: the law on Join. -/
namespace Go.Proofs.Ytjinngfpbmkhaaa.Hyp
open Go Go.Av Go.Proofs.Ytjinngfpbmkhaaa.Set
set_option linter.unusedSimpArgs false
set_option linter.unusedVariables false
theorem fewH_lenM (E : Edges) (i : Nat) : (fewH E i).length = min i E.length := by unfold fewH; simp
theorem fewH_get (E : Edges) (i j : Nat) (h : j < (fewH E i).length) : eG (fewH E i) j = (none, false, (eG E j).2.2.take 6) := by
  have hj := fewH_lenM E i
  have hl : j < E.length := by omega
  unfold eG
  unfold fewH at h ⊢
  simp at h
  simp [List.getD_eq_getElem?_getD, h, hl]
theorem fewH_szH (E : Edges) : szH (fewH E 10) := by
  refine ⟨by rw [fewH_lenM]; omega, fun j hj => ?_⟩
  rw [fewH_get E 10 j hj, List.length_take]; omega
theorem fewH_szB (E : Edges) : szB (fewH E 10) := ⟨Nat.le_trans (fewH_szH E).1 (by omega), fun j hj => Nat.le_trans ((fewH_szH E).2 j hj) (by omega)⟩
theorem fewH_few (E : Edges) : ∀ j, j < (fewH E 10).length → (eG (fewH E 10) j).2.2.length ≤ 500000 := by
  intro j hj
  rw [fewH_get E 10 j hj, List.length_take]; omega
theorem fewH_rgH (E : Edges) (h : rgH E) : rgH (fewH E 10) := by
  intro j hj z hz
  rw [fewH_get E 10 j hj] at hz
  have := fewH_lenM E 10
  exact h j (by omega) z (List.mem_of_mem_take hz)
theorem fewH_idem (E : Edges) : fewH (fewH E 10) 10 = fewH E 10 := by
  unfold fewH
  rw [← List.map_take, List.take_take, List.map_map]
  refine List.map_congr_left fun x _ => ?_
  simp [List.take_take]
theorem joinR_ring : joinR 3 ringE = ([], 9) := by decide +kernel
theorem good_ring : (goodH 3 (withH ringE ringE.length ++ [(none, false, [0, 1, 2])]) && decide ((joinH (withH ringE ringE.length ++ [(none, false, [0, 1, 2])])).2.length ≤ 1)) = true := by decide +kernel
theorem ring_sz : szH ringE := ⟨by decide, fun j hj => by
  have : j = 0 ∨ j = 1 ∨ j = 2 := by simp at hj; omega
  rcases this with rfl | rfl | rfl <;> decide⟩
theorem ring_rg : rgH ringE := fun j hj z hz => by
  have : j = 0 ∨ j = 1 ∨ j = 2 := by simp at hj; omega
  rcases this with rfl | rfl | rfl <;> simp [eG] at hz <;> omega
theorem rw_sz : szH (withH ringE ringE.length ++ [(none, false, [0, 1, 2])]) := ⟨by decide, fun j hj => by
  have : j = 0 ∨ j = 1 ∨ j = 2 ∨ j = 3 := by simp [withH] at hj; omega
  rcases this with rfl | rfl | rfl | rfl <;> decide⟩
theorem rw_rg : rgH (withH ringE ringE.length ++ [(none, false, [0, 1, 2])]) := fun j hj z hz => by
  have : j = 0 ∨ j = 1 ∨ j = 2 ∨ j = 3 := by simp [withH] at hj; omega
  rcases this with rfl | rfl | rfl | rfl <;> simp [eG, withH] at hz <;> omega
theorem lives_c (g : GH) : PureC Try.prog 18 [] g (BB true) := by
  refine CallC.body (fun _ => none) (fun _ => 0) Try.func18 rfl Try.results18 Try.ntmps18 ?_
  intro n0 hn0
  simp only [go_sem]
  refine WE_pure _ _ _ _ _ _ _ _ (ring_c _) ?_
  simp only [go_sem]
  refine WE_pure _ _ _ _ _ _ _ _ (joinR_ring ▸ Join_c 3 (some false) ringE true ring_sz ring_rg _) ?_
  simp only [go_sem]
  refine WE_pure _ _ _ _ _ _ _ _ (ring_c _) ?_
  simp only [go_sem]
  refine WE_pure _ _ _ _ _ _ _ _ (With_c 3 (some false) ringE true ring_sz (some false) [0, 1, 2] (by decide) .full _) ?_
  simp only [go_sem]
  (repeat (refine ⟨by omega, ?_⟩))
  refine WE_pure _ _ _ _ _ _ _ _ (good_ring ▸ Acyclic_c 3 none (withH ringE ringE.length ++ [(none, false, [0, 1, 2])]) false rw_sz rw_rg _) ?_
  simp only [go_sem, List.length_map]
  refine FnPost_end hn0 (by simp) rfl (only_lit _ _) ?_
  simp only [go_sem]
  exact leA_bool (by decide)
set_option maxHeartbeats 2000000 in
theorem law_joins (N : Int) (nl : Option Bool) (E : Edges) (t : Bool) (hB : szB E) (hR : rgH E) (g : GH) : PureC Try.prog 3 [HA' N nl E t] g (BB true) := by
  refine CallC.body (fun _ => none) (fun _ => 0) Try.func3 rfl Try.results3 Try.ntmps3 ?_
  intro n0 hn0
  simp only [go_sem]
  refine WE_pure _ _ _ _ _ _ _ _ (Few_c N nl E t hB _) ?_
  simp only [go_sem]
  (repeat (refine ⟨by omega, ?_⟩))
  have hE := fewH_szH E
  have hs := fewH_few E
  have hF := fewH_rgH E hR
  have fewF : ∀ g, PureC Try.prog 12 [HA' N none (fewH E 10) false] g (HA' N none (fewH E 10) false) := fun g => by
    have := Few_c N none (fewH E 10) false (fewH_szB E) g
    rwa [fewH_idem] at this
  generalize fewH E 10 = F at *
  refine WE_pure _ _ _ _ _ _ _ _ (fewF _) ?_
  simp only [go_sem]
  refine WE_pure _ _ _ _ _ _ _ _ (Join_c N none F false hE hF _) ?_
  simp only [go_sem]
  refine WE_pure _ _ _ _ _ _ _ _ (fewF _) ?_
  simp only [go_sem]
  refine WE_pure _ _ _ _ _ _ _ _ (Left_c N none F false hE hF _) ?_
  simp only [go_sem]
  refine WC_draw Ty.mixed (by kernel_rfl) ?_
  simp only [go_sem]
  refine DE_pure _ _ _ _ _ _ _ _ _ [] (fun g' _ => fewF _) ?_
  simp only [go_sem]
  refine DE_pure _ _ _ _ _ _ _ _ _ [] (fun g' _ => Good_c N none F false hE _) ?_
  simp only [go_sem]
  refine DE_pure _ _ _ _ _ _ _ _ _ [] (fun g' _ => rGood_c N none F false hE _) ?_
  simp only [go_sem]
  refine WE_pure _ _ _ _ _ _ _ _ (rGood_c N none F false hE _) ?_
  simp only [go_sem]
  cases hg : goodH N F with
  | false =>
    have e1 : joinR N F = ([], 1) := by unfold joinR; rw [hg]; rfl
    have e2 : leftR N F = [] := by unfold leftR; rw [hg]; rfl
    have e3 : (goodH N F && decide ((joinH F).2.length ≤ 1)) = false := by rw [hg]; rfl
    simp only [go_sem, hg, e1, e2, List.map_nil, List.length_nil]
    refine WE_pure _ _ _ _ _ _ _ _ (fewF _) ?_
    simp only [go_sem]
    refine WE_pure _ _ _ _ _ _ _ _ (e3 ▸ Acyclic_c N none F false hE hF _) ?_
    simp only [go_sem]
    refine WE_pure _ _ _ _ _ _ _ _ (lives_c _) ?_
    simp only [go_sem]
    refine FnPost_end hn0 (by simp) rfl (only_lit _ _) ?_
    simp only [go_sem]
    exact leA_bool rfl
  | true =>
    have e2 : leftR N F = (joinH F).2 := by unfold leftR; rw [hg]; rfl
    simp only [go_sem, hg, e2]
    refine WE_pure _ _ _ _ _ _ _ _ (rJoin_c N none F false hE hs _) ?_
    simp only [go_sem]
    have hll := joinH_llen F
    have hl := hE.1
    have e4 : decide ((joinH F).2 = (joinH F).2) = true := decide_eq_true rfl
    refine WE_pure _ _ _ _ _ _ _ _ (e4 ▸ rSame_c none none (joinH F).2 (joinH F).2 .no .no (by omega) _) ?_
    simp only [go_sem]
    refine WE_pure _ _ _ _ _ _ _ _ (fewF _) ?_
    simp only [go_sem]
    refine WE_pure _ _ _ _ _ _ _ _ (Acyclic_c N none F false hE hF _) ?_
    simp only [go_sem, List.length_map]
    have e5 : ((goodH N F && decide ((joinH F).2.length ≤ 1)) == decide (((joinH F).2.length : Int) < 2)) = true := by
      rw [hg, Bool.true_and, beq_iff_eq]
      exact decide_eq_decide.2 (by omega)
    rw [if_neg (by rw [e5]; decide)]
    by_cases h1 : 1 < (joinH F).2.length
    · have c1 : (1 : Int) < ((joinH F).2.length : Int) := by omega
      have e1 : joinR N F = ([], 9) := by unfold joinR; rw [hg, if_pos rfl, if_pos h1]
      simp only [go_sem, c1, e1, List.map_nil, List.length_nil]
      refine WE_pure _ _ _ _ _ _ _ _ (lives_c _) ?_
      simp only [go_sem]
      refine FnPost_end hn0 (by simp) rfl (only_lit _ _) ?_
      simp only [go_sem]
      exact leA_bool rfl
    · have c1 : ¬ (1 : Int) < ((joinH F).2.length : Int) := by omega
      have e1 : joinR N F = ((joinH F).1, 0) := by unfold joinR; rw [hg, if_pos rfl, if_neg h1]
      have hp := joinH_par F
      have e6 : decide ((joinH F).1 = (joinH F).1) = true := decide_eq_true rfl
      simp only [go_sem, c1, e1]
      refine WE_pure _ _ _ _ _ _ _ _ (e6 ▸ rSame_c none none (joinH F).1 (joinH F).1 .no .no (by omega) _) ?_
      simp only [go_sem]
      refine WE_pure _ _ _ _ _ _ _ _ (lives_c _) ?_
      simp only [go_sem]
      refine FnPost_end hn0 (by simp) rfl (only_lit _ _) ?_
      simp only [go_sem]
      exact leA_bool rfl
end Go.Proofs.Ytjinngfpbmkhaaa.Hyp
