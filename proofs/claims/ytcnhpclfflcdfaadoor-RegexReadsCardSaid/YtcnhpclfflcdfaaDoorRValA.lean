import Derived.Test.YtcnhpclfflcdfaaDoorRTy
import Derived.Test.YtcnhpclfflcdfaaDoorRSetM
/- The small words of the layer of values: letters, digits, signs, a text's beginning. -/
namespace Go.Proofs.YtcnhpclfflcdfaaDoorR.Val
open Go Go.Av
set_option linter.unusedSimpArgs false
set_option linter.unusedVariables false
theorem letter_c (b : Int) (g : GH) : PureC Tryd.prog 91 [U8 b] g (BB (letB b)) := by
  refine CallC.body (fun _ => none) (fun _ => 0) Tryd.func91 rfl Tryd.results91 Tryd.ntmps91 ?_
  intro n0 hn0
  simp only [go_sem]
  (repeat' (refine WG_split _ _ _ _ _ _ _ _ _ (fun hh => ?_) (fun hh => ?_) <;> (try simp only [decide_eq_true_eq, decide_eq_false_iff_not, Bool.not_eq_true', Bool.not_eq_false', Bool.not_eq_true, Bool.not_eq_false] at hh) <;> (first | simp only [go_sem, boolEqH hh] | simp only [go_sem, eq_false hh] | simp only [go_sem, eq_true hh])))
  all_goals
    refine FnPost_end hn0 (by simp) rfl (only_lit _ _) ?_
    simp only [go_sem]
    refine leA_bool ?_
    (rw [Bool.eq_iff_iff]; simp only [Bool.or_eq_true, Bool.and_eq_true, Bool.not_eq_true', decide_eq_true_eq, decide_eq_false_iff_not, beq_iff_eq, bne_iff_ne, Bool.true_eq, Bool.false_eq_true, ne_eq, true_iff, false_iff, iff_true, iff_false, letB]; try omega)
theorem digit_c (b : Int) (g : GH) : PureC Tryd.prog 92 [U8 b] g (BB (digB b)) := by
  refine CallC.body (fun _ => none) (fun _ => 0) Tryd.func92 rfl Tryd.results92 Tryd.ntmps92 ?_
  intro n0 hn0
  simp only [go_sem]
  (repeat' (refine WG_split _ _ _ _ _ _ _ _ _ (fun hh => ?_) (fun hh => ?_) <;> (try simp only [decide_eq_true_eq, decide_eq_false_iff_not, Bool.not_eq_true', Bool.not_eq_false', Bool.not_eq_true, Bool.not_eq_false] at hh) <;> (first | simp only [go_sem, boolEqH hh] | simp only [go_sem, eq_false hh] | simp only [go_sem, eq_true hh])))
  all_goals
    refine FnPost_end hn0 (by simp) rfl (only_lit _ _) ?_
    simp only [go_sem]
    refine leA_bool ?_
    (rw [Bool.eq_iff_iff]; simp only [Bool.or_eq_true, Bool.and_eq_true, Bool.not_eq_true', decide_eq_true_eq, decide_eq_false_iff_not, beq_iff_eq, bne_iff_ne, Bool.true_eq, Bool.false_eq_true, ne_eq, true_iff, false_iff, iff_true, iff_false, digB]; try omega)
theorem plain_c (b : Int) (g : GH) : PureC Tryd.prog 94 [U8 b] g (BB (plB b)) := by
  refine CallC.body (fun _ => none) (fun _ => 0) Tryd.func94 rfl Tryd.results94 Tryd.ntmps94 ?_
  intro n0 hn0
  simp only [go_sem]
  (repeat' (refine WG_split _ _ _ _ _ _ _ _ _ (fun hh => ?_) (fun hh => ?_) <;> (try simp only [decide_eq_true_eq, decide_eq_false_iff_not, Bool.not_eq_true', Bool.not_eq_false', Bool.not_eq_true, Bool.not_eq_false] at hh) <;> (first | simp only [go_sem, boolEqH hh] | simp only [go_sem, eq_false hh] | simp only [go_sem, eq_true hh])))
  all_goals
    refine FnPost_end hn0 (by simp) rfl (only_lit _ _) ?_
    simp only [go_sem]
    refine leA_bool ?_
    (rw [Bool.eq_iff_iff]; simp only [Bool.or_eq_true, Bool.and_eq_true, Bool.not_eq_true', decide_eq_true_eq, decide_eq_false_iff_not, beq_iff_eq, bne_iff_ne, Bool.true_eq, Bool.false_eq_true, ne_eq, true_iff, false_iff, iff_true, iff_false, plB]; try omega)
theorem rLetter_c (b : Int) (g : GH) : PureC Tryd.prog 95 [U8 b] g (BB (letB b)) := by
  refine CallC.body (fun _ => none) (fun _ => 0) Tryd.func95 rfl Tryd.results95 Tryd.ntmps95 ?_
  intro n0 hn0
  simp only [go_sem]
  (repeat' (refine WG_split _ _ _ _ _ _ _ _ _ (fun hh => ?_) (fun hh => ?_) <;> (try simp only [decide_eq_true_eq, decide_eq_false_iff_not, Bool.not_eq_true', Bool.not_eq_false', Bool.not_eq_true, Bool.not_eq_false] at hh) <;> (first | simp only [go_sem, boolEqH hh] | simp only [go_sem, eq_false hh] | simp only [go_sem, eq_true hh])))
  all_goals
    refine FnPost_end hn0 (by simp) rfl (only_lit _ _) ?_
    simp only [go_sem]
    refine leA_bool ?_
    (rw [Bool.eq_iff_iff]; simp only [Bool.or_eq_true, Bool.and_eq_true, Bool.not_eq_true', decide_eq_true_eq, decide_eq_false_iff_not, beq_iff_eq, bne_iff_ne, Bool.true_eq, Bool.false_eq_true, ne_eq, true_iff, false_iff, iff_true, iff_false, letB]; try omega)
theorem rDigit_c (b : Int) (g : GH) : PureC Tryd.prog 19 [U8 b] g (BB (digB b)) := by
  refine CallC.body (fun _ => none) (fun _ => 0) Tryd.func19 rfl Tryd.results19 Tryd.ntmps19 ?_
  intro n0 hn0
  simp only [go_sem]
  (repeat' (refine WG_split _ _ _ _ _ _ _ _ _ (fun hh => ?_) (fun hh => ?_) <;> (try simp only [decide_eq_true_eq, decide_eq_false_iff_not, Bool.not_eq_true', Bool.not_eq_false', Bool.not_eq_true, Bool.not_eq_false] at hh) <;> (first | simp only [go_sem, boolEqH hh] | simp only [go_sem, eq_false hh] | simp only [go_sem, eq_true hh])))
  all_goals
    refine FnPost_end hn0 (by simp) rfl (only_lit _ _) ?_
    simp only [go_sem]
    refine leA_bool ?_
    (rw [Bool.eq_iff_iff]; simp only [Bool.or_eq_true, Bool.and_eq_true, Bool.not_eq_true', decide_eq_true_eq, decide_eq_false_iff_not, beq_iff_eq, bne_iff_ne, Bool.true_eq, Bool.false_eq_true, ne_eq, true_iff, false_iff, iff_true, iff_false, digB]; try omega)
def sgn (i : Nat) : ByteArray :=
  match i with
  | 0 => ⟨#[61]⟩
  | 1 => ⟨#[60, 62]⟩
  | 2 => ⟨#[60]⟩
  | 3 => ⟨#[60, 61]⟩
  | 4 => ⟨#[62]⟩
  | 5 => ⟨#[62, 61]⟩
  | _ => ⟨#[]⟩
def sgnA : List AV := [SS (sgn 0), SS (sgn 1), SS (sgn 2), SS (sgn 3), SS (sgn 4), SS (sgn 5)]
theorem sgnA_len : sgnA.length = 6 := rfl
theorem sgnA_get (i : Nat) (h : i < 6) : sgnA.getD i .any = SS (sgn i) := by
  match i, h with
  | 0, _ => rfl
  | 1, _ => rfl
  | 2, _ => rfl
  | 3, _ => rfl
  | 4, _ => rfl
  | 5, _ => rfl
theorem sgnG (i : Int) (h0 : 0 ≤ i) (h : i < 6) : [AV.lit (.string ⟨#[61]⟩), .lit (.string ⟨#[60, 62]⟩), .lit (.string ⟨#[60]⟩), .lit (.string ⟨#[60, 61]⟩), .lit (.string ⟨#[62]⟩), .lit (.string ⟨#[62, 61]⟩)].getD i.toNat .any = SS (sgn i.toNat) := sgnA_get i.toNat (by omega)
theorem pre_c (s t : ByteArray) (g : GH) : PureC Tryd.prog 155 [SS s, SS t] g (BB (preB s t)) := by
  refine CallC.body (fun _ => none) (fun _ => 0) Tryd.func155 rfl Tryd.results155 Tryd.ntmps155 ?_
  intro n0 hn0
  simp only [go_sem]
  (repeat' (refine WG_split _ _ _ _ _ _ _ _ _ (fun hh => ?_) (fun hh => ?_) <;> (try simp only [decide_eq_true_eq, decide_eq_false_iff_not, Bool.not_eq_true', Bool.not_eq_false', Bool.not_eq_true, Bool.not_eq_false] at hh) <;> (first | simp only [go_sem, boolEqH hh] | simp only [go_sem, eq_false hh] | simp only [go_sem, eq_true hh])))
  all_goals
    refine FnPost_end hn0 (by simp) rfl (only_lit _ _) ?_
    simp only [go_sem]
    refine leA_bool ?_
    simp [preB]
    try omega
theorem hasPre_c (s t : ByteArray) (g : GH) : PureC Tryd.prog 130 [SS s, SS t] g (BB (preB s t)) := by
  refine CallC.body (fun _ => none) (fun _ => 0) Tryd.func130 rfl Tryd.results130 Tryd.ntmps130 ?_
  intro n0 hn0
  simp only [go_sem]
  refine WE_pure _ _ _ _ _ _ _ _ (pre_c s t _) ?_
  simp only [go_sem]
  refine FnPost_end hn0 (by simp) rfl (only_lit _ _) ?_
  simp only [go_sem]
  exact leA_refl _
theorem Cut_c (s : ByteArray) (n : Nat) (g : GH) : PureC Tryd.prog 14 [SS s, I64 n] g (SS (cutS s n)) := by
  refine CallC.body (fun _ => none) (fun _ => 0) Tryd.func14 rfl Tryd.results14 Tryd.ntmps14 ?_
  intro n0 hn0
  simp only [go_sem]
  split
  · refine ⟨by omega, ?_⟩
    refine FnPost_end hn0 (by simp) rfl (only_lit _ _) ?_
    simp only [go_sem]
    refine leA_str ?_
    unfold cutS; rw [if_pos (by omega)]
  · refine FnPost_end hn0 (by simp) rfl (only_lit _ _) ?_
    simp only [go_sem]
    refine leA_str ?_
    unfold cutS; rw [if_neg (by omega)]
end Go.Proofs.YtcnhpclfflcdfaaDoorR.Val
