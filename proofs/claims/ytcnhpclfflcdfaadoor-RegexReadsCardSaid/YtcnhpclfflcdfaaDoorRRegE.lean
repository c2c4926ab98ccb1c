import Derived.Test.YtcnhpclfflcdfaaDoorRRegD
/- Expressions: the document's reader. -/
namespace Go.Proofs.YtcnhpclfflcdfaaDoorR.Reg
open Go Go.Av Go.Proofs.YtcnhpclfflcdfaaDoorR.Val Go.Proofs.YtcnhpclfflcdfaaDoorR.Lex
set_option linter.unusedSimpArgs false
set_option linter.unusedVariables false
theorem rSignW_c (nl : Option Bool) (ws : List Wd) (a : Nat) (s : ByteArray) (hl : ws.length ≤ 100000) (g : GH) : PureC Tryd.prog 110 [.isl nl (Wds ws) .no, I64 a, SS s] g (BB (isB ws (a, 0) s)) := by
  refine CallC.body (fun _ => none) (fun _ => 0) Tryd.func110 rfl Tryd.results110 Tryd.ntmps110 ?_
  intro n0 hn0
  simp only [go_sem]
  have fs : ∀ {p : Prop}, (isB ws (a, 0) s = true → p) → ¬ p → isB ws (a, 0) s = false := fun h hp => by
    cases e : isB ws (a, 0) s
    · rfl
    · exact absurd (h e) hp
  by_cases c1 : (a : Int) < (ws.length : Int)
  · have hlt : a < ws.length := by omega
    have ga : (Wds ws).getD a .any = wA (kAt ws a) := Wds_get ws a hlt
    by_cases c3 : (kAt ws a).1 = 4
    · by_cases c4 : (kAt ws a).2.1 = s
      · have hB : isB ws (a, 0) s = true := isB_iff.2 ⟨rfl, hlt, c3, c4⟩
        simp only [go_sem, eq_true c1, List.length_map, ga, eq_true c3, eq_true c4, str_eq]
        refine FnPost_end hn0 (by simp) rfl (only_lit _ _) ?_
        simp only [go_sem]
        exact leA_bool hB.symm
      · have hB := fs (fun h => (isB_iff.1 h).2.2.2) c4
        simp only [go_sem, eq_true c1, List.length_map, ga, eq_true c3, eq_false c4, str_eq]
        refine FnPost_end hn0 (by simp) rfl (only_lit _ _) ?_
        simp only [go_sem]
        exact leA_bool hB.symm
    · have hB := fs (fun h => (isB_iff.1 h).2.2.1) c3
      simp only [go_sem, eq_true c1, List.length_map, ga, eq_false c3, str_eq]
      refine FnPost_end hn0 (by simp) rfl (only_lit _ _) ?_
      simp only [go_sem]
      exact leA_bool hB.symm
  · have hB := fs (fun h => (isB_iff.1 h).2.1) (by simp only; omega)
    simp only [go_sem, eq_false c1, List.length_map]
    refine FnPost_end hn0 (by simp) rfl (only_lit _ _) ?_
    simp only [go_sem]
    exact leA_bool hB.symm
theorem rStep_c (nl : Option Bool) (ws : List Wd) (a : Nat) (back : Bool) (ha : a ≤ ws.length) (hl : ws.length ≤ 100000) (g : GH) : PureC Tryd.prog 159 [.isl nl (Wds ws) .no, I64 a, BB back] g (saC (stepR ws (a, 0) back, stepS ws (a, 0))) := by
  have ok : stepOk ws (a, 0) = true ↔ a < ws.length ∧ (kAt ws a).1 = 1 := by unfold stepOk; rw [decide_eq_true_eq]; exact ⟨fun h => h.2, fun h => ⟨rfl, h⟩⟩
  have no : ¬ (a < ws.length ∧ (kAt ws a).1 = 1) → (stepR ws (a, 0) back, stepS ws (a, 0)) = (rx0, failS ws (a, 0)) := fun h => by
    have : ¬ stepOk ws (a, 0) = true := fun h' => h (ok.1 h')
    unfold stepR stepS; rw [if_neg this, if_neg this]
  generalize hq : (stepR ws (a, 0) back, stepS ws (a, 0)) = q at *
  refine CallC.body (fun _ => none) (fun _ => 0) Tryd.func159 rfl Tryd.results159 Tryd.ntmps159 ?_
  intro n0 hn0
  simp only [go_sem]
  by_cases c1 : (ws.length : Int) ≤ (a : Int)
  · have hF : failS ws (a, 0) = (ws.length, 7) := by unfold failS; rw [if_pos rfl, if_pos (by simp only; omega)]; simp only [Prod.mk.injEq, and_true]; omega
    have hn := no (by omega)
    rw [hF] at hn
    subst hn
    simp only [go_sem, eq_true c1, List.length_map]
    refine FnPost_ce0 hn0 (by simp) (saA rx0 ws.length 7) (saL rx0 ws.length 7) _ rfl (⟨leA_refl _, leA_refl _, leA_refl _, ⟨.inl rfl, rfl, .inl rfl⟩, leA_refl _, leA_refl _, trivial⟩) (saA_only _ _ _) (fun loc' hl' => ?_)
    simp only [go_sem, get_loc, hl']
    exact leA_refl _
  · have hlt : a < ws.length := by omega
    have hlt' : (a : Int) < (ws.length : Int) := by omega
    have ga : (Wds ws).getD a .any = wA (kAt ws a) := Wds_get ws a hlt
    by_cases c3 : (kAt ws a).1 = 1
    · have e1 : IntKind.i64.wrap ((a : Int) + 1) = ((a + 1 : Nat) : Int) := by rw [wrap_i64]; omega
      have hn : q = (.mk 2 (kAt ws a).2.1 back [], (a + 1, 0)) := by
        rw [← hq]; unfold stepR stepS; rw [if_pos (ok.2 ⟨hlt, c3⟩), if_pos (ok.2 ⟨hlt, c3⟩)]
      subst hn
      simp only [go_sem, eq_false c1, List.length_map, ga, eq_true c3]
      (repeat (refine ⟨by omega, ?_⟩))
      rw [e1]
      refine FnPost_ce0 hn0 (by simp) (saA (.mk 2 (kAt ws a).2.1 back []) (a + 1) 0) (saL (.mk 2 (kAt ws a).2.1 back []) (a + 1) 0) _ rfl (⟨leA_refl _, leA_refl _, leA_refl _, ⟨.inl rfl, rfl, .inl rfl⟩, leA_refl _, leA_refl _, trivial⟩) (saA_only _ _ _) (fun loc' hl' => ?_)
      simp only [go_sem, get_loc, hl']
      exact leA_refl _
    · have hF : failS ws (a, 0) = (a, 2) := by unfold failS; rw [if_pos rfl, if_neg (by simp only; omega)]
      have hn := no (fun h => c3 h.2)
      rw [hF] at hn
      subst hn
      simp only [go_sem, eq_false c1, List.length_map, ga, eq_false c3]
      (repeat (refine ⟨by omega, ?_⟩))
      refine FnPost_ce0 hn0 (by simp) (saA rx0 a 2) (saL rx0 a 2) _ rfl (⟨leA_refl _, leA_refl _, leA_refl _, ⟨.inl rfl, rfl, .inl rfl⟩, leA_refl _, leA_refl _, trivial⟩) (saA_only _ _ _) (fun loc' hl' => ?_)
      simp only [go_sem, get_loc, hl']
      exact leA_refl _
theorem rTake_c (id v : Nat) (nl : Option Bool) (l : List Rx) (x : Rx) (kind : Int) (g : GH) (hg : g id = some (.tok v)) (hl : l.length + x.ps.length ≤ 1000000) :
    CallC Tryd.prog 109 [.isl nl (l.map rA) (.at id v), rA x, I64 kind] g (fun r g' => r = .isl none ((takeL kind l x).map rA) (.at id (v + 1)) ∧ g' = gputs g [(id, .tok (v + 1))]) := by
  have e1 : x.k = kind → (takeL kind l x).map rA = l.map rA ++ x.ps.map rA := fun hk => by unfold takeL; rw [if_pos hk, List.map_append]
  have e2 : ¬ x.k = kind → (takeL kind l x).map rA = l.map rA ++ [AV.agg [I64 x.k, SS x.l, BB x.b, .isl none (x.ps.map rA) .no]] := fun hk => by unfold takeL; rw [if_neg hk, List.map_append, ← rA_eq]; rfl
  generalize takeL kind l x = L at *
  rw [rA_eq x]
  refine CallC.body (fun _ => none) (fun _ => 0) Tryd.func109 rfl Tryd.results109 Tryd.ntmps109 ?_
  intro n0 hn0
  simp only [go_sem]
  have hid : id < n0 := lt_of_named hn0 hg
  have hG : ∀ l, HP.get ⟨g, l⟩ n0 id = some (.tok v) := fun l => by rw [get_out _ _ _ _ hid]; exact hg
  by_cases hk : x.k = kind
  · rw [e1 hk]
    simp only [go_sem, eq_true hk, hG]
    refine ⟨⟨by rw [List.length_map, List.length_map]; omega, (elsOk_rA _).2 trivial, (elsOk_rA _).2 trivial, by rw [may_out _ _ _ _ _ _ _ hid]; exact trivial⟩, ?_⟩
    rw [put_out _ _ _ _ _ hid]
    refine FnPost_e1 hn0 (by simp) (.isl none (l.map rA ++ x.ps.map rA) (.at id (v + 1))) _ (mem_one hid) rfl ((only_at _ _ _ _ _).2 hid) ?_
    simp only [go_sem]
    exact ⟨.inl rfl, rfl, .inr rfl⟩
  · rw [e2 hk]
    simp only [go_sem, eq_false hk, hG]
    refine ⟨⟨by rw [List.length_map]; omega, (elsOk_rA _).2 trivial, by rw [may_out _ _ _ _ _ _ _ hid]; exact trivial⟩, ?_⟩
    rw [put_out _ _ _ _ _ hid]
    refine FnPost_e1 hn0 (by simp) (.isl none (l.map rA ++ [AV.agg [I64 x.k, SS x.l, BB x.b, .isl none ((x.ps).map rA) .no]]) (.at id (v + 1))) _ (mem_one hid) rfl ((only_at _ _ _ _ _).2 hid) ?_
    simp only [go_sem]
    exact ⟨.inl rfl, rfl, .inr rfl⟩
theorem rWhole_c (nl : Option Bool) (tok : Tk) (l : List Rx) (kind : Int) (hl : l.length ≤ 1000000) (g : GH) : PureC Tryd.prog 111 [.isl nl (l.map rA) tok, I64 kind] g (rA (wholeR kind l)) := by
  refine CallC.body (fun _ => none) (fun _ => 0) Tryd.func111 rfl Tryd.results111 Tryd.ntmps111 ?_
  intro n0 hn0
  simp only [go_sem]
  by_cases h1 : l.length = 1
  · have hw : wholeR kind l = l.getD 0 rx0 := by unfold wholeR; rw [if_pos h1]
    have hi1 : ((l.length : Nat) : Int) = 1 := by omega
    rw [hw]
    simp only [go_sem, List.length_map, hi1, rA_getD l 0 (by omega), rA_cells]
    (repeat (refine ⟨by omega, ?_⟩))
    refine FnPost_rx0 hn0 (by simp) ((l.getD 0 rx0)) _ rfl (rxB_mk' _) (fun loc' hl' => ?_)
    simp only [go_sem, get_loc, hl']
    exact rA_res _
  · have hw : wholeR kind l = .mk kind ⟨#[]⟩ false l := by unfold wholeR; rw [if_neg h1]
    have hi1 : ¬ ((l.length : Nat) : Int) = 1 := by omega
    rw [hw]
    simp only [go_sem, List.length_map, eq_false hi1]
    refine FnPost_rx0 hn0 (by simp) ((.mk kind ⟨#[]⟩ false l)) _ rfl (rxB_mk _ _ _ _ l _) (fun loc' hl' => ?_)
    simp only [go_sem, get_loc, hl']
    exact rA_res _
end Go.Proofs.YtcnhpclfflcdfaaDoorR.Reg
