import Derived.Test.YtmnjmeebadpgjabSetB
import Derived.Test.YtmnjmeebadpgjabSetR
import Derived.Test.YtmnjmeebadpgjabAvW
/- Sets of small numbers: no set is one without numbers. -/
namespace Go.Proofs.Ytmnjmeebadpgjab.Set
open Go Go.Av
set_option linter.unusedSimpArgs false
set_option linter.unusedVariables false
theorem hasI_nil (n : Int) : hasI [] n = false := by simp [hasI, hasW]
theorem add_nil (n : Int) (g : GH) : PureC Try.prog 8 [.lit (.pointer none), I64 n] g (BB false) := by
  refine CallC.body (fun _ => none) (fun _ => 0) Try.func8 rfl Try.results8 Try.ntmps8 ?_
  intro n0 hn0
  simp only [go_sem]
  refine FnPost_end hn0 (by simp) rfl (only_lit _ _) ?_
  simp only [go_sem]
  exact leA_refl _
theorem cut_nil (n : Int) (hn : -9223372036854775808 ≤ n) (hn1 : n ≤ 9223372036854775807) (g : GH) : PureC Try.prog 9 [.lit (.pointer none), I64 n] g (BB false) := by
  refine CallC.body (fun _ => none) (fun _ => 0) Try.func9 rfl Try.results9 Try.ntmps9 ?_
  intro n0 hn0
  simp only [go_sem]
  refine WE_pure _ _ _ _ _ _ _ _ (hasI_nil n ▸ has_c .none n (by simp) hn hn1 _) ?_
  simp only [go_sem]
  refine FnPost_end hn0 (by simp) rfl (only_lit _ _) ?_
  simp only [go_sem]
  exact leA_refl _
theorem livesZ_c (g : GH) : PureC Try.prog 22 [] g (BB true) := by
  refine CallC.body (fun _ => none) (fun _ => 0) Try.func22 rfl Try.results22 Try.ntmps22 ?_
  intro n0 hn0
  simp only [go_sem]
  (repeat (refine ⟨by omega, ?_⟩))
  have e0 : ([AV.lit (Value.int IntKind.i64 0), AV.lit (Value.int IntKind.i64 64)] : List AV) = Il [0, 64] := rfl
  have e1 : newW [0, 64] ([0, 64] : List Int).length = [1#64, 1#64] := by decide
  rw [e0]
  refine WE_pure _ _ _ _ _ _ _ _ (e1 ▸ new_c _ [0, 64] _ (by simp) (by simp) _) ?_
  simp only [go_sem]
  refine WE_pure _ _ _ _ _ _ _ _ (Words_c (.set [1#64, 1#64]) (by simp) _) ?_
  simp only [go_sem]
  have h1 : hasI [1#64, 1#64] 64 = true := by decide
  have h2 : hasI [1#64, 1#64] 1 = false := by decide
  have h3 : NB 1#64 = 1 := by decide
  refine WE_pure _ _ _ _ _ _ _ _ (h1 ▸ Has_c (.set [1#64, 1#64]) 64 (by simp) (by omega) (by omega) _) ?_
  simp only [go_sem]
  refine WE_pure _ _ _ _ _ _ _ _ (h2 ▸ Has_c (.set [1#64, 1#64]) 1 (by simp) (by omega) (by omega) _) ?_
  simp only [go_sem, h3]
  (repeat (refine ⟨by omega, ?_⟩))
  refine FnPost_end hn0 (by simp) rfl (only_lit _ _) ?_
  simp only [go_sem]
  exact leA_refl _
theorem low_Sz {n0 c vb d v : Nat} {ws : List W64} {p : Nat × Blk} (hp : p ∈ wrS (n0 + c) vb (n0 + d) ws v) (h : p.1 < n0) : p.2.only (· < n0) := by
  simp only [wrS, List.mem_cons, List.not_mem_nil, or_false] at hp
  rcases hp with rfl | rfl <;> (simp only at h; omega)
theorem orL_nil {x : List Int} (hr : Rises x) (hg : ∀ z, z ∈ x → goodN z = true) : orL [] x = x := by
  obtain ⟨h1, h2⟩ := mem_foldl (a := []) List.Pairwise.nil x
  refine rises_ext h1 hr fun z => ?_
  show z ∈ List.foldl addL [] x ↔ _
  rw [h2]
  exact ⟨fun h => by simpa using h.elim (fun h => by simp at h) (fun h => h.1), fun h => .inr ⟨h, hg z h⟩⟩
theorem isN_nil (n : Int) : isN [] n = false := rfl
theorem pick_nil_f (x : List Int) : pickL x [] false = x := by unfold pickL; simp [isN_nil]
theorem pick_nil_t (x : List Int) : pickL x [] true = [] := by unfold pickL; simp [isN_nil]
theorem law_nil (nl : Option Bool) (a : List Int) (tok : Tk) (m : Int) (hL : a.length ≤ 9000000000000000000) (hra : ∀ x, x ∈ a → -9223372036854775808 ≤ x ∧ x ≤ 9223372036854775807) (ha : -9223372036854775808 ≤ m ∧ m ≤ 9223372036854775807) (g : GH) :
    PureC Try.prog 3 [.isl nl (Il a) tok, I64 m] g (BB true) := by
  refine CallC.body (fun _ => none) (fun _ => 0) Try.func3 rfl Try.results3 Try.ntmps3 ?_
  intro n0 hn0
  simp only [go_sem]
  have hla : (a.take 20).length ≤ 20 := by simp; omega
  have hra' : ∀ x, x ∈ a.take 20 → -9223372036854775808 ≤ x ∧ x ≤ 9223372036854775807 := fun x hx => hra x (List.mem_of_mem_take hx)
  have his := newW_is (a.take 20) (a.take 20).length
  rw [List.take_length] at his
  refine WE_pure _ _ _ _ _ _ _ _ (few_c nl a tok 20 (by omega) hL _) ?_
  simp only [go_sem]
  refine WE_pure _ _ _ _ _ _ _ _ (new_c _ (a.take 20) _ (by omega) hra' _) ?_
  simp only [go_sem]
  refine WE_pure _ _ _ _ _ _ _ _ (few_c nl a tok 20 (by omega) hL _) ?_
  simp only [go_sem]
  refine WE_pure _ _ _ _ _ _ _ _ (rOf_c _ (a.take 20) _ (by omega) _) ?_
  simp only [go_sem]
  have hlx : (ofL (a.take 20)).length ≤ 20 := by have := foldl_len (a.take 20) []; unfold ofL; simp at this; simp; omega
  generalize newW (a.take 20) (a.take 20).length = ws at *
  generalize ofL (a.take 20) = x at *
  have hw := his.len_le
  have hnx : (if 65536 ≤ m then 0 else imx (nextI [] (imx m 0).toNat) 0) = 0 := by
    rw [nextI_none [] _ (fun j _ h => by simp at h)]; split <;> rfl
  have hnb : (!decide (65536 ≤ m) && decide (0 ≤ nextI [] (imx m 0).toNat)) = false := by
    rw [nextI_none [] _ (fun j _ h => by simp at h)]; simp
  refine WE_pure _ _ _ _ _ _ _ _ (hnx ▸ hnb ▸ Next_c .none m (by simp) ha.1 ha.2 _) ?_
  simp only [go_sem, List.append_eq]
  refine WE_pure _ _ _ _ _ _ _ _ (add_nil m _) ?_
  simp only [go_sem]
  refine WE_pure _ _ _ _ _ _ _ _ (cut_nil m ha.1 ha.2 _) ?_
  simp only [go_sem]
  refine WE_pure _ _ _ _ _ _ _ _ (hasI_nil m ▸ Has_c .none m (by simp) ha.1 ha.2 _) ?_
  simp only [go_sem]
  refine WE_pure _ _ _ _ _ _ _ _ (len_c .none (by simp) _) ?_
  simp only [go_sem, lenK, List.length_nil]
  refine WE_pure _ _ _ _ _ _ _ _ (list_c .none IsS.nil (by simp) _) ?_
  simp only [go_sem]
  refine WE_effX _ _ (CopyO_c (n0 + 1) (n0 + 2) (by omega) .none (by simp) _ (by rw [get_loc]; rfl) (by rw [get_loc]; rfl) _ (by simp only [List.mem_cons, List.not_mem_nil, or_false]; rintro k (rfl | rfl) <;> omega)) (fun x p hp hlt => low_Sz hp hlt) fun v0 => ?_
  simp only [go_sem, wrS]
  refine WE_pure _ _ _ _ _ _ _ _ (Len_own (b := n0 + 1) (vb := 0) (r := n0 + 2) (vr := v0) (ws := []) (by rw [get_loc]; rfl) (by rw [get_loc]; rfl) (by simp)) ?_
  simp only [go_sem, lenK, List.length_nil]
  have hor := IsS.nil.or his
  have horn : orL [] x = x := orL_nil his.rises his.good
  have hand := his.and IsS.nil
  rw [pick_nil_t] at hand
  have hmin := his.minus IsS.nil
  rw [pick_nil_f] at hmin
  have hmin2 := IsS.nil.minus his
  have hand2 := IsS.nil.and his
  refine WE_pure _ _ _ _ _ _ _ _ (or_c .none (.set ws) (by simp) hw _) ?_
  simp only [go_sem]
  refine WE_pure _ _ _ _ _ _ _ _ (list_c (.set _) (horn ▸ hor) hor.len_le _) ?_
  simp only [go_sem]
  refine WE_pure _ _ _ _ _ _ _ _ (rSame_c _ _ x x _ _ (by omega) _) ?_
  simp only [go_sem]
  refine WE_pure _ _ _ _ _ _ _ _ (and_c (.set ws) .none hw (by simp) _) ?_
  simp only [go_sem]
  refine WE_pure _ _ _ _ _ _ _ _ (hand.len ▸ len_c (.set _) hand.len_le _) ?_
  simp only [go_sem]
  refine WE_pure _ _ _ _ _ _ _ _ (Minus_c (.set ws) .none hw (by simp) _) ?_
  simp only [go_sem]
  refine WE_pure _ _ _ _ _ _ _ _ (list_c (.set _) hmin hmin.len_le _) ?_
  simp only [go_sem]
  refine WE_pure _ _ _ _ _ _ _ _ (rSame_c _ _ x x _ _ (by omega) _) ?_
  simp only [go_sem]
  have hwith : decide (trimW (opW minW [] ws) = []) = true := decide_eq_true (by rw [hmin2.empty]; rfl)
  have hmeet : metW [] ws (min 0 ws.length) = false := by simp [metW]
  refine WE_pure _ _ _ _ _ _ _ _ (hwith ▸ within_c .none (.set ws) (by simp) hw _) ?_
  simp only [go_sem]
  refine WE_pure _ _ _ _ _ _ _ _ (hmeet ▸ meets_c .none (.set ws) (by simp) hw _) ?_
  simp only [go_sem]
  have hsame : decide ([] = ws) = decide ((x.length : Int) = 0) := decide_eq_decide.2 (by
    rw [show ([] = ws) = (ws = []) from propext ⟨Eq.symm, Eq.symm⟩, his.empty, ← List.length_eq_zero_iff]; omega)
  refine WE_pure _ _ _ _ _ _ _ _ (hsame ▸ Same_c .none (.set ws) (by simp) hw _) ?_
  simp only [go_sem, List.length_map]
  refine WE_pure _ _ _ _ _ _ _ _ (Words_c .none (by simp) _) ?_
  simp only [go_sem]
  refine WE_pure _ _ _ _ _ _ _ _ (livesZ_c _) ?_
  simp only [go_sem]
  refine FnPost_end hn0 (by simp) rfl (only_lit _ _) ?_
  simp only [go_sem]
  exact leA_refl _
set_option maxRecDepth 100000 in
theorem hasZs {n : Nat} {x : AV} (h : HasA Try.prog (n + 2) 22 x) : ∃ (b : Bool) (l : List Int), x = .isl (some b) (Il l) .no ∧ l.length ≤ 9000000000000000000 ∧ ∀ z, z ∈ l → -9223372036854775808 ≤ z ∧ z ≤ 9223372036854775807 := by
  obtain ⟨cs, hx, h⟩ := h
  unfold HasT at h
  rw [Try.underlying22] at h
  obtain ⟨b, L, rfl, -, hl, hf⟩ := h
  have b3 : Try.prog.bytesOf 3 = 8 := by kernel_rfl
  have hag : HasT.isAggT Try.prog 3 = false := by unfold HasT.isAggT; rw [Try.underlying3]
  rw [b3] at hl
  have key : ∀ (L : List (List AV)), (∀ x, x ∈ L → x.length = Try.prog.cellsOf 3 ∧ HasT Try.prog (n + 1) 3 x) → ∃ V : List Int, L.map (elA false) = Il V ∧ V.length = L.length ∧ ∀ z, z ∈ V → -9223372036854775808 ≤ z ∧ z ≤ 9223372036854775807 := by
    intro L
    induction L with
    | nil => exact fun _ => ⟨[], rfl, rfl, by simp⟩
    | cons y L ih =>
      intro hL
      obtain ⟨V, h1, h2, h3⟩ := ih fun x hx => hL x (by simp [hx])
      obtain ⟨-, hy⟩ := hL y List.mem_cons_self
      unfold HasT at hy
      rw [Try.underlying3] at hy
      obtain ⟨z, rfl, hz⟩ := hy
      refine ⟨z :: V, by rw [List.map_cons, h1]; rfl, by simp [h2], ?_⟩
      intro w hw
      rcases List.mem_cons.1 hw with rfl | hw
      · exact wf_i64 hz
      · exact h3 w hw
  obtain ⟨V, h1, h2, h3⟩ := key L hf
  refine ⟨b, V, ?_, ?_, h3⟩
  · rw [hx, hag, h1]; unfold elA HasT.isAggT; rw [Try.underlying22]; rfl
  · have : reachBytes ≤ 140737488351232 := Nat.le_refl _
    omega
theorem hasIz {n : Nat} {x : AV} (h : HasA Try.prog (n + 1) 3 x) : ∃ z, x = I64 z ∧ -9223372036854775808 ≤ z ∧ z ≤ 9223372036854775807 := by
  obtain ⟨cs, hx, h⟩ := h
  unfold HasT at h
  rw [Try.underlying3] at h
  obtain ⟨z, rfl, hz⟩ := h
  refine ⟨z, ?_, wf_i64 hz⟩
  rw [hx]; unfold elA HasT.isAggT; rw [Try.underlying3]; rfl
theorem nil_row (x0 x1 : AV) (h0 : HasA Try.prog 5 22 x0) (h1 : HasA Try.prog 5 3 x1) (g : GH) : PureC Try.prog 3 [x0, x1] g (BB true) := by
  obtain ⟨b0, l, rfl, k0, r0⟩ := hasZs h0
  obtain ⟨z, rfl, hz⟩ := hasIz h1
  exact law_nil _ l _ z k0 r0 hz g
end Go.Proofs.Ytmnjmeebadpgjab.Set
