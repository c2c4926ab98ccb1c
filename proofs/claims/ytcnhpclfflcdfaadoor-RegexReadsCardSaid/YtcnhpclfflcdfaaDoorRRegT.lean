import Derived.Test.YtcnhpclfflcdfaaDoorRRegO
/- Expressions: the laws of reading. -/
namespace Go.Proofs.YtcnhpclfflcdfaaDoorR.Reg
open Go Go.Av Go.Proofs.YtcnhpclfflcdfaaDoorR.Val Go.Proofs.YtcnhpclfflcdfaaDoorR.Lex
set_option linter.unusedSimpArgs false
set_option linter.unusedVariables false
def okSd (q : Sd) : Prop := q.1.nodes ≤ 300000 ∧ smallR q.1 ∧ (q.2.2 = 0 → goodR nameB q.1 = true)
theorem okSd0 {a b : Int} (h : b ≠ 0) : okSd (rx0, a, b) := ⟨by rw [nodes_rx0]; decide, small_rx0, fun h' => absurd h' h⟩
theorem read_ok (ws : List Wd) (hw : smallW ws) (hl : ws.length ≤ 100000) : okSd (readF nameB ws) := by
  have hm := rowsN_mo ws (ws.length + 1) (0, 0) (Nat.zero_le _) (by simp only; omega)
  have hs := rowsN_small hw (ws.length + 1) (0, 0)
  unfold readF
  generalize rowsN ws (ws.length + 1) (0, 0) = q at *
  obtain ⟨m1, m2, m3⟩ := hm
  simp only at m1 m2 m3
  split
  · rename_i h; exact okSd0 h
  · split
    · exact okSd0 (by decide)
    · rename_i h; exact ⟨by show q.1.nodes ≤ _; omega, hs, fun _ => by cases hg : goodR nameB q.1; exact absurd hg h; rfl⟩
theorem parse_ok (s : ByteArray) (hs : s.size ≤ 100000) : okSd (parseF nameB (wordsF s)) := by
  have hw := words_smallW s hs
  have hl := words_len s
  generalize wordsF s = w at *
  have hr := read_ok w.1 hw (by omega)
  unfold parseF
  split
  · rename_i h; exact okSd0 h
  · split
    · rename_i h; exact okSd0 h
    · rename_i h
      have h0 : (readF nameB w.1).2.2 = 0 := by
        by_cases e : (readF nameB w.1).2.2 = 0
        · exact e
        · exact absurd e h
      split
      · exact okSd0 (by decide)
      · exact ⟨hr.1, hr.2.1, fun _ => hr.2.2 h0⟩
theorem law_reads (s : ByteArray) (g : GH) : PureC Tryd.prog 7 [SS s] g (BB true) := by
  refine CallC.body (fun _ => none) (fun _ => 0) Tryd.func7 rfl Tryd.results7 Tryd.ntmps7 ?_
  intro n0 hn0
  simp only [go_sem]
  refine WE_pure _ _ _ _ _ _ _ _ (Cut_c s 150 _) ?_
  simp only [go_sem]
  have hsz := cutS_size s 150
  generalize cutS s 150 = t at *
  have hp := Parse_c t (by omega)
  have hr := rParse_c t (by omega)
  obtain ⟨o1, o2, o3⟩ := parse_ok t (by omega)
  generalize parseF nameB (wordsF t) = q at *
  have hre := rA_eq q.1
  refine WE_pure _ _ _ _ _ _ _ _ (hp _) ?_
  simp only [go_sem, rA_cells]
  refine WE_pure _ _ _ _ _ _ _ _ (hr _) ?_
  simp only [go_sem, rA_cells]
  rw [← hre]
  refine WE_pure _ _ _ _ _ _ _ _ (rSameR_c _ q.1 q.1 (Nat.lt_succ_self _) (by omega) _) ?_
  simp only [go_sem, eqR_refl]
  by_cases c : q.2.2 = 0
  · have hg := Good_c q.1 (by omega) o2
    rw [o3 c] at hg
    simp only [go_sem, eq_true c]
    rw [← hre]
    refine WE_pure _ _ _ _ _ _ _ _ (hg _) ?_
    simp only [go_sem]
    refine WE_pure _ _ _ _ _ _ _ _ (lives_c _) ?_
    simp only [go_sem]
    refine FnPost_end hn0 (by simp) rfl (only_lit _ _) ?_
    simp only [go_sem]
    exact leA_bool rfl
  · simp only [go_sem, eq_false c]
    refine WE_pure _ _ _ _ _ _ _ _ (lives_c _) ?_
    simp only [go_sem]
    refine FnPost_end hn0 (by simp) rfl (only_lit _ _) ?_
    simp only [go_sem]
    exact leA_bool rfl
end Go.Proofs.YtcnhpclfflcdfaaDoorR.Reg
