import Derived.Test.YtmnjmeebadpgjaaSetR
import Derived.Test.YtmnjmeebadpgjaaAvW
/- Sets of small numbers: the law of pairs. -/
namespace Go.Proofs.Ytmnjmeebadpgjaa.Set
open Go Go.Av
set_option linter.unusedSimpArgs false
set_option linter.unusedVariables false
theorem lives_c (g : GH) : PureC Try.prog 59 [] g (BB true) := by
  refine CallC.body (fun _ => none) (fun _ => 0) Try.func59 rfl Try.results59 Try.ntmps59 ?_
  intro n0 hn0
  simp only [go_sem]
  (repeat (refine ⟨by omega, ?_⟩))
  have e0 : ([AV.lit (Value.int IntKind.i64 0), AV.lit (Value.int IntKind.i64 64)] : List AV) = Il [0, 64] := rfl
  have e1 : newW [0, 64] ([0, 64] : List Int).length = [1#64, 1#64] := by decide
  rw [e0]
  refine WE_pure _ _ _ _ _ _ _ _ (e1 ▸ new_c _ [0, 64] _ (by simp) (by simp) _) ?_
  simp only [go_sem]
  refine WE_pure _ _ _ _ _ _ _ _ (Words_c (.set [1#64, 1#64]) (by simp) _) ?_
  simp only [go_sem]
  have h1 : hasI [1#64, 1#64] 64 = true := by decide
  have h2 : hasI [1#64, 1#64] 1 = false := by decide
  have h3 : NB 1#64 = 1 := by decide
  refine WE_pure _ _ _ _ _ _ _ _ (h1 ▸ Has_c (.set [1#64, 1#64]) 64 (by simp) (by omega) (by omega) _) ?_
  simp only [go_sem]
  refine WE_pure _ _ _ _ _ _ _ _ (h2 ▸ Has_c (.set [1#64, 1#64]) 1 (by simp) (by omega) (by omega) _) ?_
  simp only [go_sem, h3]
  (repeat (refine ⟨by omega, ?_⟩))
  refine FnPost_end hn0 (by simp) rfl (only_lit _ _) ?_
  simp only [go_sem]
  exact leA_refl _
theorem law_pairs (nl nl2 : Option Bool) (a b : List Int) (tok tok2 : Tk) (ha : a.length ≤ 9000000000000000000) (hb : b.length ≤ 9000000000000000000) (hra : ∀ x, x ∈ a → -9223372036854775808 ≤ x ∧ x ≤ 9223372036854775807) (hrb : ∀ x, x ∈ b → -9223372036854775808 ≤ x ∧ x ≤ 9223372036854775807) (g : GH) :
    PureC Try.prog 12 [.isl nl (Il a) tok, .isl nl2 (Il b) tok2] g (BB true) := by
  refine CallC.body (fun _ => none) (fun _ => 0) Try.func12 rfl Try.results12 Try.ntmps12 ?_
  intro n0 hn0
  simp only [go_sem]
  have hla : (a.take 30).length ≤ 30 := by simp; omega
  have hlb : (b.take 30).length ≤ 30 := by simp; omega
  have hra' : ∀ x, x ∈ a.take 30 → -9223372036854775808 ≤ x ∧ x ≤ 9223372036854775807 := fun x hx => hra x (List.mem_of_mem_take hx)
  have hrb' : ∀ x, x ∈ b.take 30 → -9223372036854775808 ≤ x ∧ x ≤ 9223372036854775807 := fun x hx => hrb x (List.mem_of_mem_take hx)
  have his := newW_is (a.take 30) (a.take 30).length
  have kis := newW_is (b.take 30) (b.take 30).length
  rw [List.take_length] at his kis
  refine WE_pure _ _ _ _ _ _ _ _ (few_c nl a tok 30 (by omega) ha _) ?_
  simp only [go_sem]
  refine WE_pure _ _ _ _ _ _ _ _ (new_c _ (a.take 30) _ (by omega) hra' _) ?_
  simp only [go_sem]
  refine WE_pure _ _ _ _ _ _ _ _ (few_c nl2 b tok2 30 (by omega) hb _) ?_
  simp only [go_sem]
  refine WE_pure _ _ _ _ _ _ _ _ (new_c _ (b.take 30) _ (by omega) hrb' _) ?_
  simp only [go_sem]
  refine WE_pure _ _ _ _ _ _ _ _ (few_c nl a tok 30 (by omega) ha _) ?_
  simp only [go_sem]
  refine WE_pure _ _ _ _ _ _ _ _ (rOf_c _ (a.take 30) _ (by omega) _) ?_
  simp only [go_sem]
  refine WE_pure _ _ _ _ _ _ _ _ (few_c nl2 b tok2 30 (by omega) hb _) ?_
  simp only [go_sem]
  refine WE_pure _ _ _ _ _ _ _ _ (rOf_c _ (b.take 30) _ (by omega) _) ?_
  simp only [go_sem]
  have hlx : (ofL (a.take 30)).length ≤ 30 := by have := foldl_len (a.take 30) []; unfold ofL; simp at this; simp; omega
  have hly : (ofL (b.take 30)).length ≤ 30 := by have := foldl_len (b.take 30) []; unfold ofL; simp at this; simp; omega
  generalize newW (a.take 30) (a.take 30).length = ws at *
  generalize newW (b.take 30) (b.take 30).length = vs at *
  generalize ofL (a.take 30) = x at *
  generalize ofL (b.take 30) = y at *
  have hw := his.len_le
  have hv := kis.len_le
  have hor := his.or kis
  have hand := his.and kis
  have hmin := his.minus kis
  have hpt : (pickL x y true).length ≤ 30 := Nat.le_trans (List.length_filter_le _ _) hlx
  have hpf : (pickL x y false).length ≤ 30 := Nat.le_trans (List.length_filter_le _ _) hlx
  refine WE_pure _ _ _ _ _ _ _ _ (or_c (.set ws) (.set vs) hw hv _) ?_
  simp only [go_sem]
  refine WE_pure _ _ _ _ _ _ _ _ (list_c (.set _) hor hor.len_le _) ?_
  simp only [go_sem]
  refine WE_pure _ _ _ _ _ _ _ _ (rOr_c _ _ x y _ _ (by omega) (by omega) _) ?_
  simp only [go_sem]
  refine WE_pure _ _ _ _ _ _ _ _ (rSame_c _ _ (orL x y) (orL x y) _ _ (by have := foldl_len y x; unfold orL; omega) _) ?_
  simp only [go_sem]
  refine WE_pure _ _ _ _ _ _ _ _ (and_c (.set ws) (.set vs) hw hv _) ?_
  simp only [go_sem]
  refine WE_pure _ _ _ _ _ _ _ _ (list_c (.set _) hand hand.len_le _) ?_
  simp only [go_sem]
  refine WE_pure _ _ _ _ _ _ _ _ (rPick_c _ _ x y _ _ true (by omega) (by omega) _) ?_
  simp only [go_sem]
  refine WE_pure _ _ _ _ _ _ _ _ (rSame_c _ _ (pickL x y true) (pickL x y true) _ _ (by omega) _) ?_
  simp only [go_sem]
  refine WE_pure _ _ _ _ _ _ _ _ (Minus_c (.set ws) (.set vs) hw hv _) ?_
  simp only [go_sem]
  refine WE_pure _ _ _ _ _ _ _ _ (list_c (.set _) hmin hmin.len_le _) ?_
  simp only [go_sem]
  refine WE_pure _ _ _ _ _ _ _ _ (rPick_c _ _ x y _ _ false (by omega) (by omega) _) ?_
  simp only [go_sem]
  refine WE_pure _ _ _ _ _ _ _ _ (rSame_c _ _ (pickL x y false) (pickL x y false) _ _ (by omega) _) ?_
  simp only [go_sem]
  refine WE_pure _ _ _ _ _ _ _ _ (rSame_c _ _ x y _ _ (by omega) _) ?_
  simp only [go_sem]
  have hsame : (ws = vs) = (x = y) := propext (his.same kis)
  have hsame2 : decide (ws = vs) = decide (x = y) := decide_eq_decide.2 (his.same kis)
  refine WE_pure _ _ _ _ _ _ _ _ (hsame2 ▸ Same_c (.set ws) (.set vs) hw hv _) ?_
  simp only [go_sem]
  refine WE_pure _ _ _ _ _ _ _ _ (Words_c (.set ws) hw _) ?_
  simp only [go_sem]
  refine WE_pure _ _ _ _ _ _ _ _ (Words_c (.set vs) hv _) ?_
  simp only [go_sem]
  refine WE_pure _ _ _ _ _ _ _ _ (hsame2 ▸ wSame_c _ _ ws vs _ _ (by omega) _) ?_
  simp only [go_sem]
  have hwith : decide (trimW (opW minW ws vs) = []) = decide (((pickL x y false).length : Int) = 0) := decide_eq_decide.2 (by
    rw [hmin.empty, ← List.length_eq_zero_iff]; omega)
  have hmeet : metW ws vs (min ws.length vs.length) = decide (0 < ((pickL x y true).length : Int)) := by
    rw [Bool.eq_iff_iff, metW_iff, decide_eq_true_eq, his.meets kis, Ne, ← List.length_eq_zero_iff]; omega
  refine WE_pure _ _ _ _ _ _ _ _ (hwith ▸ within_c (.set ws) (.set vs) hw hv _) ?_
  simp only [go_sem]
  refine WE_pure _ _ _ _ _ _ _ _ (rPick_c _ _ x y _ _ false (by omega) (by omega) _) ?_
  simp only [go_sem, List.length_map]
  refine WE_pure _ _ _ _ _ _ _ _ (hmeet ▸ meets_c (.set ws) (.set vs) hw hv _) ?_
  simp only [go_sem]
  refine WE_pure _ _ _ _ _ _ _ _ (rPick_c _ _ x y _ _ true (by omega) (by omega) _) ?_
  simp only [go_sem, List.length_map]
  refine WE_pure _ _ _ _ _ _ _ _ (list_c (.set _) his hw _) ?_
  simp only [go_sem]
  refine WE_pure _ _ _ _ _ _ _ _ (rSame_c _ _ x x _ _ (by omega) _) ?_
  simp only [go_sem]
  refine WE_pure _ _ _ _ _ _ _ _ (list_c (.set _) kis hv _) ?_
  simp only [go_sem]
  refine WE_pure _ _ _ _ _ _ _ _ (rSame_c _ _ y y _ _ (by omega) _) ?_
  simp only [go_sem]
  refine WE_pure _ _ _ _ _ _ _ _ (and_c (.set ws) (.set vs) hw hv _) ?_
  simp only [go_sem]
  refine WE_pure _ _ _ _ _ _ _ _ (Words_c (.set _) hand.len_le _) ?_
  simp only [go_sem]
  refine WE_pure _ _ _ _ _ _ _ _ (rPick_c _ _ x y _ _ true (by omega) (by omega) _) ?_
  simp only [go_sem]
  have hwl := IsS.words hand.rises hand.good (pickL x y true).length (Nat.le_refl _)
  rw [List.take_length] at hwl
  have hwe : trimW (opW andW ws vs) = wordsL (pickL x y true) := hand.unique hwl
  have hwn : decide (trimW (opW andW ws vs) = wordsL (pickL x y true)) = true := decide_eq_true hwe
  refine WE_pure _ _ _ _ _ _ _ _ (rWords_c _ (pickL x y true) _ hand.rises hand.good (by omega) _) ?_
  simp only [go_sem]
  refine WE_pure _ _ _ _ _ _ _ _ (hwn ▸ wSame_c _ _ _ _ _ _ (by have := hand.len_le; omega) _) ?_
  simp only [go_sem]
  refine WE_pure _ _ _ _ _ _ _ _ (lives_c _) ?_
  simp only [go_sem]
  refine FnPost_end hn0 (by simp) rfl (only_lit _ _) ?_
  simp only [go_sem]
  exact leA_refl _
set_option maxRecDepth 100000 in
theorem hasIs {n : Nat} {x : AV} (h : HasA Try.prog (n + 2) 50 x) : ∃ (b : Bool) (l : List Int), x = .isl (some b) (Il l) .no ∧ l.length ≤ 9000000000000000000 ∧ ∀ z, z ∈ l → -9223372036854775808 ≤ z ∧ z ≤ 9223372036854775807 := by
  obtain ⟨cs, hx, h⟩ := h
  unfold HasT at h
  rw [Try.underlying50] at h
  obtain ⟨b, L, rfl, -, hl, hf⟩ := h
  have b3 : Try.prog.bytesOf 3 = 8 := by kernel_rfl
  have hag : HasT.isAggT Try.prog 3 = false := by unfold HasT.isAggT; rw [Try.underlying3]
  rw [b3] at hl
  have key : ∀ (L : List (List AV)), (∀ x, x ∈ L → x.length = Try.prog.cellsOf 3 ∧ HasT Try.prog (n + 1) 3 x) → ∃ V : List Int, L.map (elA false) = Il V ∧ V.length = L.length ∧ ∀ z, z ∈ V → -9223372036854775808 ≤ z ∧ z ≤ 9223372036854775807 := by
    intro L
    induction L with
    | nil => exact fun _ => ⟨[], rfl, rfl, by simp⟩
    | cons y L ih =>
      intro hL
      obtain ⟨V, h1, h2, h3⟩ := ih fun x hx => hL x (by simp [hx])
      obtain ⟨-, hy⟩ := hL y List.mem_cons_self
      unfold HasT at hy
      rw [Try.underlying3] at hy
      obtain ⟨z, rfl, hz⟩ := hy
      refine ⟨z :: V, by rw [List.map_cons, h1]; rfl, by simp [h2], ?_⟩
      intro w hw
      rcases List.mem_cons.1 hw with rfl | hw
      · exact wf_i64 hz
      · exact h3 w hw
  obtain ⟨V, h1, h2, h3⟩ := key L hf
  refine ⟨b, V, ?_, ?_, h3⟩
  · rw [hx, hag, h1]; unfold elA HasT.isAggT; rw [Try.underlying50]; rfl
  · have : reachBytes ≤ 140737488351232 := Nat.le_refl _
    omega
theorem pairs_row (x0 x1 : AV) (h0 : HasA Try.prog 5 50 x0) (h1 : HasA Try.prog 5 50 x1) (g : GH) : PureC Try.prog 12 [x0, x1] g (BB true) := by
  obtain ⟨b0, l0, rfl, k0, r0⟩ := hasIs h0
  obtain ⟨b1, l1, rfl, k1, r1⟩ := hasIs h1
  exact law_pairs _ _ l0 l1 _ _ k0 k1 r0 r1 g
end Go.Proofs.Ytmnjmeebadpgjaa.Set
