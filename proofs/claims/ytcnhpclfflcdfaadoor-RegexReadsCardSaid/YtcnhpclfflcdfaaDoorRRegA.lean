import Derived.Test.YtcnhpclfflcdfaaDoorRLexL
import Derived.Test.YtcnhpclfflcdfaaDoorRRegP
/- Expressions: the reader's small methods. -/
namespace Go.Proofs.YtcnhpclfflcdfaaDoorR.Reg
open Go Go.Av Go.Proofs.YtcnhpclfflcdfaaDoorR.Val Go.Proofs.YtcnhpclfflcdfaaDoorR.Lex
set_option linter.unusedSimpArgs false
set_option linter.unusedVariables false
theorem sign_c (k : Int) (g : GH) : PureC Tryd.prog 114 [I64 k] g (SS (signR k)) := by
  refine CallC.body (fun _ => none) (fun _ => 0) Tryd.func114 rfl Tryd.results114 Tryd.ntmps114 ?_
  intro n0 hn0
  simp only [go_sem]
  unfold signR
  split
  · refine FnPost_end hn0 (by simp) rfl (only_lit _ _) ?_
    simp only [go_sem]
    exact leA_refl _
  · split
    · refine FnPost_end hn0 (by simp) rfl (only_lit _ _) ?_
      simp only [go_sem]
      exact leA_refl _
    · split
      · refine FnPost_end hn0 (by simp) rfl (only_lit _ _) ?_
        simp only [go_sem]
        exact leA_refl _
      · split
        · refine FnPost_end hn0 (by simp) rfl (only_lit _ _) ?_
          simp only [go_sem]
          exact leA_refl _
        · refine FnPost_end hn0 (by simp) rfl (only_lit _ _) ?_
          simp only [go_sem]
          exact leA_refl _
abbrev rc (nl : Option Bool) (ws : List Wd) (st : RS) : List AV := [.isl nl (Wds ws) .no, I64 st.1, I64 st.2]
theorem rc_only {nl : Option Bool} {ws : List Wd} {a : Nat} {b : Int} {p : Nat → Prop} : ∀ x, x ∈ ([.isl nl (Wds ws) .no, I64 a, I64 b] : List AV) → x.only p := by
  intro x hx
  simp only [List.mem_cons, List.not_mem_nil, or_false] at hx
  rcases hx with rfl | rfl | rfl
  · exact (only_no _ _ _).2 trivial
  · exact .lit _
  · exact .lit _
theorem may_rc {P : Program} {n nt id v : Nat} {nm : Nat → Option Nat} {md : Nat → Nat} {nl : Option Bool} {ws : List Wd} {a : Nat} {b : Int} (h : id < n) : Cfg.may ⟨P, n, nt, nm, md⟩ id (.cells v [.isl nl (Wds ws) .no, I64 a, I64 b]) := by
  rw [may_out _ _ _ _ _ _ _ h]
  exact rc_only
theorem ok_rc {n id : Nat} {q : Nat → Prop} {nl : Option Bool} {ws : List Wd} {st : RS} : ∀ p, p ∈ [(id, Blk.cells 0 (rc nl ws st))] → p.1 < n → p.2.only q := by
  intro p hp _
  rw [List.mem_singleton] at hp
  subst hp
  exact rc_only
theorem isB_iff {ws : List Wd} {st : RS} {s : ByteArray} : isB ws st s = true ↔ st.2 = 0 ∧ st.1 < ws.length ∧ (kAt ws st.1).1 = 4 ∧ (kAt ws st.1).2.1 = s := by unfold isB; rw [decide_eq_true_eq]
theorem is_c (id : Nat) (nl : Option Bool) (ws : List Wd) (st : RS) (s : ByteArray) (g : GH) (hg : g id = some (.cells 0 (rc nl ws st))) (hat : st.1 ≤ ws.length) (hl : ws.length ≤ 1000000) :
    CallC Tryd.prog 157 [.ptr id 0 0, SS s] g (fun r g' => r = BB (isB ws st s) ∧ g' = gputs g [(id, .cells 0 (rc nl ws (isS ws st s)))]) := by
  refine CallC.body (fun _ => none) (fun _ => 0) Tryd.func157 rfl Tryd.results157 Tryd.ntmps157 ?_
  intro n0 hn0
  simp only [go_sem]
  have hid : id < n0 := lt_of_named hn0 hg
  have hG : ∀ l, HP.get ⟨g, l⟩ n0 id = some (.cells 0 (rc nl ws st)) := fun l => by rw [get_out _ _ _ _ hid]; exact hg
  have no : isB ws st s = false → isS ws st s = st := fun h => by unfold isS; rw [h]; rfl
  have fs : ∀ {p : Prop}, (isB ws st s = true → p) → ¬ p → isB ws st s = false := fun h hp => by
    cases e : isB ws st s
    · rfl
    · exact absurd (h e) hp
  by_cases c1 : st.2 = 0
  · by_cases c2 : (st.1 : Int) = (ws.length : Int)
    · have hB := fs (fun h => (isB_iff.1 h).2.1) (by omega)
      rw [no hB, hB]
      refine WC_draw Ty.mixed (by kernel_rfl) ?_
      simp only [go_sem, hG, eq_true c1, eq_true c2, List.length_map]
      refine FnPost_e1 hn0 (by simp) (BB false) _ (mem_one hid) (gputs_self hg).symm (.lit _) ?_
      simp only [go_sem]
      exact leA_refl _
    · have hlt : st.1 < ws.length := by omega
      have hlt' : (st.1 : Int) < (ws.length : Int) := by omega
      have ga : (Wds ws).getD st.1 .any = wA (kAt ws st.1) := Wds_get ws st.1 hlt
      by_cases c3 : (kAt ws st.1).1 = 4
      · by_cases c4 : (kAt ws st.1).2.1 = s
        · have hB : isB ws st s = true := isB_iff.2 ⟨c1, hlt, c3, c4⟩
          have hS : isS ws st s = (st.1 + 1, st.2) := by unfold isS; rw [hB]; rfl
          have e1 : IntKind.i64.wrap ((st.1 : Int) + 1) = ((st.1 + 1 : Nat) : Int) := by rw [wrap_i64]; omega
          rw [hS, hB]
          refine WC_draw Ty.mixed (by kernel_rfl) ?_
          simp only [go_sem, hG, eq_true c1, eq_false c2, List.length_map, ga, eq_true c3, eq_true c4, str_eq]
          (repeat (refine ⟨by omega, ?_⟩))
          rw [e1, put_out _ _ _ _ _ hid]
          refine ⟨may_rc hid, ?_⟩
          refine FnPost_e1 hn0 (by simp) (BB true) _ (mem_one hid) rfl (.lit _) ?_
          simp only [go_sem]
          exact leA_refl _
        · have hB := fs (fun h => (isB_iff.1 h).2.2.2) c4
          rw [no hB, hB]
          refine WC_draw Ty.mixed (by kernel_rfl) ?_
          simp only [go_sem, hG, eq_true c1, eq_false c2, List.length_map, ga, eq_true c3, eq_false c4, str_eq]
          (repeat (refine ⟨by omega, ?_⟩))
          refine FnPost_e1 hn0 (by simp) (BB false) _ (mem_one hid) (gputs_self hg).symm (.lit _) ?_
          simp only [go_sem]
          exact leA_refl _
      · have hB := fs (fun h => (isB_iff.1 h).2.2.1) c3
        rw [no hB, hB]
        refine WC_draw Ty.mixed (by kernel_rfl) ?_
        simp only [go_sem, hG, eq_true c1, eq_false c2, List.length_map, ga, eq_false c3]
        (repeat (refine ⟨by omega, ?_⟩))
        refine FnPost_e1 hn0 (by simp) (BB false) _ (mem_one hid) (gputs_self hg).symm (.lit _) ?_
        simp only [go_sem]
        exact leA_refl _
  · have hB := fs (fun h => (isB_iff.1 h).1) c1
    rw [no hB, hB]
    refine WC_draw Ty.mixed (by kernel_rfl) ?_
    simp only [go_sem, hG, eq_false c1]
    refine FnPost_e1 hn0 (by simp) (BB false) _ (mem_one hid) (gputs_self hg).symm (.lit _) ?_
    simp only [go_sem]
    exact leA_refl _
theorem fail_c (id : Nat) (nl : Option Bool) (ws : List Wd) (st : RS) (g : GH) (hg : g id = some (.cells 0 (rc nl ws st))) (hat : st.1 ≤ ws.length) (hl : ws.length ≤ 1000000) :
    CallC Tryd.prog 179 [.ptr id 0 0] g (fun r g' => r = .tup [] ∧ g' = gputs g [(id, .cells 0 (rc nl ws (failS ws st)))]) := by
  refine CallC.body (fun _ => none) (fun _ => 0) Tryd.func179 rfl Tryd.results179 Tryd.ntmps179 ?_
  intro n0 hn0
  simp only [go_sem]
  have hid : id < n0 := lt_of_named hn0 hg
  have hG : ∀ l, HP.get ⟨g, l⟩ n0 id = some (.cells 0 (rc nl ws st)) := fun l => by rw [get_out _ _ _ _ hid]; exact hg
  by_cases c1 : st.2 = 0
  · simp only [go_sem, hG, eq_true c1]
    refine ⟨may_rc hid, ?_⟩
    rw [put_out _ _ _ _ _ hid]
    have hG2 : ∀ l, HP.get ⟨gput g id (.cells 0 [.isl nl (Wds ws) .no, I64 st.1, I64 2]), l⟩ n0 id = some (.cells 0 [.isl nl (Wds ws) .no, I64 st.1, I64 2]) := fun l => by rw [get_out _ _ _ _ hid, gput_same]
    by_cases c2 : (st.1 : Int) = (ws.length : Int)
    · refine WC_draw Ty.mixed (by kernel_rfl) ?_
      simp only [go_sem, hG2, eq_true c2, List.length_map]
      refine ⟨may_rc hid, ?_⟩
      rw [put_out _ _ _ _ _ hid, gput_gput]
      refine FnPost_e1 hn0 (by simp) (.tup []) _ (mem_one hid) ?_ (.tup (by simp)) ?_
      · show gput g id _ = gput g id _
        unfold failS
        rw [if_pos c1, if_pos (by omega)]
      · simp only [go_sem]
        exact leA_refl _
    · refine WC_draw Ty.mixed (by kernel_rfl) ?_
      simp only [go_sem, hG2, eq_false c2, List.length_map]
      refine FnPost_e1 hn0 (by simp) (.tup []) _ (mem_one hid) ?_ (.tup (by simp)) ?_
      · show gput g id _ = gput g id _
        unfold failS
        rw [if_pos c1, if_neg (by omega)]
      · simp only [go_sem]
        exact leA_refl _
  · simp only [go_sem, hG, eq_false c1]
    refine FnPost_e1 hn0 (by simp) (.tup []) _ (mem_one hid) ?_ (.tup (by simp)) ?_
    · have : failS ws st = st := by unfold failS; rw [if_neg c1]
      rw [this]; exact (gputs_self hg).symm
    · simp only [go_sem]
      exact leA_refl _
theorem step_c (id : Nat) (nl : Option Bool) (ws : List Wd) (st : RS) (back : Bool) (g : GH) (hg : g id = some (.cells 0 (rc nl ws st))) (hat : st.1 ≤ ws.length) (hl : ws.length ≤ 1000000) :
    CallC Tryd.prog 178 [.ptr id 0 0, BB back] g (fun r g' => r = rA (stepR ws st back) ∧ g' = gputs g [(id, .cells 0 (rc nl ws (stepS ws st)))]) := by
  refine CallC.body (fun _ => none) (fun _ => 0) Tryd.func178 rfl Tryd.results178 Tryd.ntmps178 ?_
  intro n0 hn0
  simp only [go_sem]
  have hid : id < n0 := lt_of_named hn0 hg
  have hG : ∀ l, HP.get ⟨g, l⟩ n0 id = some (.cells 0 (rc nl ws st)) := fun l => by rw [get_out _ _ _ _ hid]; exact hg
  have no : stepOk ws st = false → stepR ws st back = rx0 ∧ stepS ws st = failS ws st := fun h => by
    unfold stepR stepS; rw [h]; exact ⟨rfl, rfl⟩
  have fs : ∀ {p : Prop}, (stepOk ws st = true → p) → ¬ p → stepOk ws st = false := fun h hp => by
    cases e : stepOk ws st
    · rfl
    · exact absurd (h e) hp
  have ok : stepOk ws st = true ↔ st.2 = 0 ∧ st.1 < ws.length ∧ (kAt ws st.1).1 = 1 := by unfold stepOk; rw [decide_eq_true_eq]
  by_cases c1 : st.2 = 0
  · by_cases c2 : (st.1 : Int) = (ws.length : Int)
    · have hB := fs (fun h => (ok.1 h).2.1) (by omega)
      rw [(no hB).1, (no hB).2]
      refine WC_draw Ty.mixed (by kernel_rfl) ?_
      simp only [go_sem, hG, eq_true c1, eq_true c2, List.length_map]
      refine WE_eff [(id, .cells 0 (rc nl ws (failS ws st)))] (fail_c id nl ws st _ (hG _) hat hl _) (ok_rc) ?_
      simp only [go_sem, put_out _ _ _ _ _ hid, gput_gput]
      refine FnPost_rx hn0 (by simp) (rx0) _ (mem_one hid) (rfl) _ rfl (rxB_mk 0 ⟨#[]⟩ false _ [] _) (fun loc' hl' => ?_)
      simp only [go_sem, get_loc, hl']
      exact rA_res _
    · have hlt : st.1 < ws.length := by omega
      have hlt' : (st.1 : Int) < (ws.length : Int) := by omega
      have ga : (Wds ws).getD st.1 .any = wA (kAt ws st.1) := Wds_get ws st.1 hlt
      by_cases c3 : (kAt ws st.1).1 = 1
      · have hB : stepOk ws st = true := ok.2 ⟨c1, hlt, c3⟩
        have hR : stepR ws st back = .mk 2 (kAt ws st.1).2.1 back [] := by unfold stepR; rw [hB]; rfl
        have hS : stepS ws st = (st.1 + 1, st.2) := by unfold stepS; rw [hB]; rfl
        have e1 : IntKind.i64.wrap ((st.1 : Int) + 1) = ((st.1 + 1 : Nat) : Int) := by rw [wrap_i64]; omega
        have e2 : IntKind.i64.wrap (((st.1 + 1 : Nat) : Int) - 1) = ((st.1 : Nat) : Int) := by rw [wrap_i64]; omega
        rw [hR, hS]
        refine WC_draw Ty.mixed (by kernel_rfl) ?_
        simp only [go_sem, hG, eq_true c1, eq_false c2, List.length_map, ga, eq_true c3]
        (repeat (refine ⟨by omega, ?_⟩))
        rw [e1, put_out _ _ _ _ _ hid]
        refine ⟨may_rc hid, ?_⟩
        have hG2 : ∀ l, HP.get ⟨gput g id (.cells 0 [.isl nl (Wds ws) .no, I64 ((st.1 + 1 : Nat) : Int), I64 st.2]), l⟩ n0 id = some (.cells 0 [.isl nl (Wds ws) .no, I64 ((st.1 + 1 : Nat) : Int), I64 st.2]) := fun l => by rw [get_out _ _ _ _ hid, gput_same]
        refine WC_draw Ty.mixed (by kernel_rfl) ?_
        simp only [go_sem, hG2, List.length_map, e2, ga]
        (repeat (refine ⟨by omega, ?_⟩))
        refine WD_end (by (simp only [POL, PO1, List.take_succ_cons, List.take_zero, List.take_nil, and_true, true_and]; (repeat' apply And.intro) <;> first | exact trivial | (right; unfold HA; simp; done) | (left; kernel_rfl))) ?_
        simp only [go_sem]
        refine FnPost_rx hn0 (by simp) ((.mk 2 (kAt ws st.1).2.1 back [])) _ (mem_one hid) (rfl) _ rfl (rxB_mk _ _ _ _ [] _) (fun loc' hl' => ?_)
        simp only [go_sem, get_loc, hl']
        exact rA_res _
      · have hB := fs (fun h => (ok.1 h).2.2) c3
        rw [(no hB).1, (no hB).2]
        refine WC_draw Ty.mixed (by kernel_rfl) ?_
        simp only [go_sem, hG, eq_true c1, eq_false c2, List.length_map, ga, eq_false c3]
        (repeat (refine ⟨by omega, ?_⟩))
        refine WE_eff [(id, .cells 0 (rc nl ws (failS ws st)))] (fail_c id nl ws st _ (hG _) hat hl _) (ok_rc) ?_
        simp only [go_sem, put_out _ _ _ _ _ hid, gput_gput]
        refine FnPost_rx hn0 (by simp) (rx0) _ (mem_one hid) (rfl) _ rfl (rxB_mk 0 ⟨#[]⟩ false _ [] _) (fun loc' hl' => ?_)
        simp only [go_sem, get_loc, hl']
        exact rA_res _
  · have hB := fs (fun h => (ok.1 h).1) c1
    rw [(no hB).1, (no hB).2]
    refine WC_draw Ty.mixed (by kernel_rfl) ?_
    simp only [go_sem, hG, eq_false c1]
    refine WE_eff [(id, .cells 0 (rc nl ws (failS ws st)))] (fail_c id nl ws st _ (hG _) hat hl _) (ok_rc) ?_
    simp only [go_sem, put_out _ _ _ _ _ hid, gput_gput]
    refine FnPost_rx hn0 (by simp) (rx0) _ (mem_one hid) (rfl) _ rfl (rxB_mk 0 ⟨#[]⟩ false _ [] _) (fun loc' hl' => ?_)
    simp only [go_sem, get_loc, hl']
    exact rA_res _
end Go.Proofs.YtcnhpclfflcdfaaDoorR.Reg
