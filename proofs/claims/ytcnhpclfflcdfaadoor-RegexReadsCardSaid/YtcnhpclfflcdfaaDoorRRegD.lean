import Derived.Test.YtcnhpclfflcdfaaDoorRRegC
/- Expressions: reading words, and texts. -/
namespace Go.Proofs.YtcnhpclfflcdfaaDoorR.Reg
open Go Go.Av Go.Proofs.YtcnhpclfflcdfaaDoorR.Val Go.Proofs.YtcnhpclfflcdfaaDoorR.Lex
set_option linter.unusedSimpArgs false
set_option linter.unusedVariables false
abbrev sdA (s : Sd) : AV := .tup [rA s.1, I64 s.2.1, I64 s.2.2]
theorem sdA_only (s : Sd) {p : Nat → Prop} : (sdA s).only p := by
  refine .tup fun x hx => ?_
  simp only [List.mem_cons, List.not_mem_nil, or_false] at hx
  rcases hx with rfl | rfl | rfl
  · exact rA_only _
  · exact .lit _
  · exact .lit _
theorem sd_fin (r : Rx) (a b : Int) : leA (.tup [.agg [.lit (.int .i64 r.k), .lit (.string r.l), .lit (.bool r.b), .isl none (r.ps.map rA) .no], I64 a, I64 b]) (sdA (r, a, b)) := leA_of_eq (by rw [sdA, rA_eq])
theorem read_c (nl : Option Bool) (ws : List Wd) (hw : smallW ws) (hl : ws.length ≤ 100000) (g : GH) : PureC Tryd.prog 73 [.isl nl (Wds ws) .no] g (sdA (readF nameB ws)) := by
  have hr := rowsN_c nl ws (by omega) (ws.length + 1) (0, 0) (Nat.zero_le _) (by simp only; omega)
  have hm := rowsN_mo ws (ws.length + 1) (0, 0) (Nat.zero_le _) (by simp only; omega)
  have hs := rowsN_small hw (ws.length + 1) (0, 0)
  have hF : readF nameB ws = if (rowsN ws (ws.length + 1) (0, 0)).2.2 ≠ 0 then (rx0, ((rowsN ws (ws.length + 1) (0, 0)).2.1 : Int), (rowsN ws (ws.length + 1) (0, 0)).2.2) else if goodR nameB (rowsN ws (ws.length + 1) (0, 0)).1 = false then (rx0, 0, 5) else ((rowsN ws (ws.length + 1) (0, 0)).1, ((rowsN ws (ws.length + 1) (0, 0)).2.1 : Int), 0) := rfl
  generalize readF nameB ws = res at *
  generalize rowsN ws (ws.length + 1) (0, 0) = q at *
  obtain ⟨m1, m2, m3⟩ := hm
  simp only at m1 m2 m3
  have hg := good_c q.1 (by omega) hs
  refine CallC.body (fun _ => none) (fun _ => 0) Tryd.func73 rfl Tryd.results73 Tryd.ntmps73 ?_
  intro n0 hn0
  simp only [go_sem]
  refine WE_eff [(n0 + 9, .cells 0 (rc nl ws q.2))] (hr (n0 + 9) _ (by rw [get_loc]; rfl) _) ok_rc ?_
  simp only [go_sem, rA_cells]
  have e0 : rxB rx0 [.lit (.int .i64 0), .lit (.string ⟨#[]⟩), .lit (.bool false), .isl (some true) [] .full] := rxB_mk 0 ⟨#[]⟩ false _ [] _
  by_cases c1 : q.2.2 = 0
  · rw [if_neg (not_not_intro c1)] at hF
    cases hgd : goodR nameB q.1
    · rw [if_pos hgd] at hF
      subst hF
      simp only [go_sem, eq_true c1]
      rw [← rA_eq]
      refine WE_pure _ _ _ _ _ _ _ _ (hg _) ?_
      simp only [go_sem, hgd]
      refine FnPost_imp (imp_rx (d := 2) (rx0) rfl e0) ?_
      refine FnPost_end hn0 (by simp) rfl (sdA_only _) ?_
      simp only [go_sem, setL_hit]
      exact sd_fin (rx0) _ _
    · rw [if_neg (by rw [hgd]; decide)] at hF
      subst hF
      simp only [go_sem, eq_true c1]
      rw [← rA_eq]
      refine WE_pure _ _ _ _ _ _ _ _ (hg _) ?_
      simp only [go_sem, hgd]
      refine WC_draw Ty.mixed (by kernel_rfl) ?_
      simp only [go_sem]
      refine WD_end (by (simp only [POL, PO1, List.take_succ_cons, List.take_zero, List.take_nil, and_true, true_and]; (repeat' apply And.intro) <;> first | exact trivial | (right; unfold HA; simp; done) | (left; kernel_rfl))) ?_
      simp only [go_sem]
      refine FnPost_imp (imp_rx (d := 2) (q.1) rfl (rxB_mk' _)) ?_
      refine FnPost_end hn0 (by simp) rfl (sdA_only _) ?_
      simp only [go_sem, setL_hit]
      exact sd_fin (q.1) _ _
  · rw [if_pos c1] at hF
    subst hF
    simp only [go_sem, eq_false c1]
    refine WC_draw Ty.mixed (by kernel_rfl) ?_
    simp only [go_sem]
    refine WD_end (by (simp only [POL, PO1, List.take_succ_cons, List.take_zero, List.take_nil, and_true, true_and]; (repeat' apply And.intro) <;> first | exact trivial | (right; unfold HA; simp; done) | (left; kernel_rfl))) ?_
    simp only [go_sem]
    refine FnPost_imp (imp_rx (d := 2) (rx0) rfl e0) ?_
    refine FnPost_end hn0 (by simp) rfl (sdA_only _) ?_
    simp only [go_sem, setL_hit]
    exact sd_fin (rx0) _ _
theorem Read_c (nl : Option Bool) (ws : List Wd) (hw : smallW ws) (hl : ws.length ≤ 100000) (g : GH) : PureC Tryd.prog 40 [.isl nl (Wds ws) .no] g (sdA (readF nameB ws)) := by
  have h1 := read_c nl ws hw hl
  generalize readF nameB ws = q at *
  refine CallC.body (fun _ => none) (fun _ => 0) Tryd.func40 rfl Tryd.results40 Tryd.ntmps40 ?_
  intro n0 hn0
  simp only [go_sem]
  refine WE_pure _ _ _ _ _ _ _ _ (h1 _) ?_
  simp only [go_sem, rA_cells]
  refine FnPost_imp (imp_rx (d := 2) (q.1) rfl (rxB_mk' _)) ?_
  refine FnPost_end hn0 (by simp) rfl (sdA_only _) ?_
  simp only [go_sem, setL_hit]
  exact sd_fin (q.1) _ _
theorem word_text (s : ByteArray) : (wordF s).1.2.1.size ≤ s.size := by
  have h0 : (⟨#[]⟩ : ByteArray).size = 0 := rfl
  unfold wordF
  split
  · split
    · exact Nat.zero_le _
    · simp only; rw [ByteArray.size_extract]; omega
  · split
    · split <;> exact Nat.zero_le _
    · split
      · exact Nat.zero_le _
      · exact signF_le s signsT ⟨#[]⟩ (Nat.zero_le _)
theorem words_text (s : ByteArray) : ∀ (f a : Nat) (out : List Wd), (∀ w, w ∈ out → w.2.1.size ≤ s.size) → ∀ w, w ∈ (wordsG s f a out).1 → w.2.1.size ≤ s.size
  | 0, a, out, h, w, hw => by
    rw [wordsG] at hw
    split at hw
    · simp at hw
    · exact h w hw
  | f + 1, a, out, h, w, hw => by
    rw [wordsG] at hw
    split at hw
    · rename_i ha
      split at hw
      · exact words_text s f _ _ h w hw
      · split at hw
        · have ht := word_text (s.extract a s.size)
          rw [ByteArray.size_extract] at ht
          generalize wordF (s.extract a s.size) = q at *
          refine words_text s f _ _ ?_ w hw
          intro x hx
          rcases List.mem_append.1 hx with hx | hx
          · exact h x hx
          · have hx := List.mem_singleton.1 hx
            subst hx
            show q.1.2.1.size ≤ s.size
            omega
        · simp at hw
    · split at hw
      · simp at hw
      · exact h w hw
theorem words_smallW (s : ByteArray) (hs : s.size ≤ 100000) : smallW (wordsF s).1 := by
  intro w hw
  unfold wordsF at hw
  split at hw
  · simp at hw
  · have := words_text s _ 0 [] (by simp) w hw
    omega
theorem words_len (s : ByteArray) : (wordsF s).1.length ≤ 1000 := by
  unfold wordsF
  split
  · simp
  · exact words_few s _ _ _
theorem Parse_c (s : ByteArray) (hs : s.size ≤ 100000) (g : GH) : PureC Tryd.prog 36 [SS s] g (sdA (parseF nameB (wordsF s))) := by
  have hw := words_smallW s hs
  have hl := words_len s
  have hc := Words_c s (by omega)
  generalize wordsF s = w at *
  have hr := read_c none w.1 hw (by omega)
  have hF : parseF nameB w = if w.2.2 ≠ 0 then (rx0, w.2.1, w.2.2) else if (readF nameB w.1).2.2 ≠ 0 then (rx0, (readF nameB w.1).2.1, (readF nameB w.1).2.2) else if (readF nameB w.1).2.1 < w.1.length then (rx0, (readF nameB w.1).2.1, 2) else ((readF nameB w.1).1, (readF nameB w.1).2.1, 0) := rfl
  generalize parseF nameB w = res at *
  generalize readF nameB w.1 = q at *
  refine CallC.body (fun _ => none) (fun _ => 0) Tryd.func36 rfl Tryd.results36 Tryd.ntmps36 ?_
  intro n0 hn0
  simp only [go_sem]
  refine WE_pure _ _ _ _ _ _ _ _ (hc _) ?_
  simp only [go_sem]
  have e0 : rxB rx0 [.lit (.int .i64 0), .lit (.string ⟨#[]⟩), .lit (.bool false), .isl (some true) [] .full] := rxB_mk 0 ⟨#[]⟩ false _ [] _
  by_cases c1 : w.2.2 = 0
  · rw [if_neg (not_not_intro c1)] at hF
    simp only [go_sem, eq_true c1]
    refine WE_pure _ _ _ _ _ _ _ _ (hr _) ?_
    simp only [go_sem, rA_cells, List.length_map]
    split
    · rename_i c2
      rw [if_pos c2] at hF
      subst hF
      refine FnPost_imp (imp_rx (d := 2) (rx0) rfl e0) ?_
      refine FnPost_end hn0 (by simp) rfl (sdA_only _) ?_
      simp only [go_sem, setL_hit]
      exact sd_fin (rx0) _ _
    · rename_i c2
      rw [if_neg c2] at hF
      split
      · rename_i c3
        rw [if_pos c3] at hF
        subst hF
        refine FnPost_imp (imp_rx (d := 2) (rx0) rfl e0) ?_
        refine FnPost_end hn0 (by simp) rfl (sdA_only _) ?_
        simp only [go_sem, setL_hit]
        exact sd_fin (rx0) _ _
      · rename_i c3
        rw [if_neg c3] at hF
        subst hF
        refine FnPost_imp (imp_rx (d := 2) (q.1) rfl (rxB_mk' _)) ?_
        refine FnPost_end hn0 (by simp) rfl (sdA_only _) ?_
        simp only [go_sem, setL_hit]
        exact sd_fin (q.1) _ _
  · rw [if_pos c1] at hF
    subst hF
    simp only [go_sem, eq_false c1]
    refine FnPost_imp (imp_rx (d := 2) (rx0) rfl e0) ?_
    refine FnPost_end hn0 (by simp) rfl (sdA_only _) ?_
    simp only [go_sem, setL_hit]
    exact sd_fin (rx0) _ _
end Go.Proofs.YtcnhpclfflcdfaaDoorR.Reg
