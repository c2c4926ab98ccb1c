import Derived.Test.YtjinngfpbmkhaaaHypL
import Derived.Test.YtjinngfpbmkhaaaAvW
/- What hypergraphs the laws are called with. -/
namespace Go.Proofs.Ytjinngfpbmkhaaa.Hyp
open Go Go.Av Go.Proofs.Ytjinngfpbmkhaaa.Set
set_option linter.unusedSimpArgs false
set_option linter.unusedVariables false
set_option maxRecDepth 100000 in
theorem hasL_cells {n : Nat} {cs : List AV} (h : HasT Try.prog (n + 2) 26 cs) : ∃ (b : Bool) (l : List Int), cs = [.isl (some b) (Il l) .no] ∧ l.length ≤ 9000000000000000000 ∧ ∀ z, z ∈ l → -9223372036854775808 ≤ z ∧ z ≤ 9223372036854775807 := by
  unfold HasT at h
  rw [Try.underlying26] at h
  obtain ⟨b, L, rfl, -, hl, hf⟩ := h
  have b3 : Try.prog.bytesOf 3 = 8 := by kernel_rfl
  have hag : HasT.isAggT Try.prog 3 = false := by unfold HasT.isAggT; rw [Try.underlying3]
  rw [b3] at hl
  have key : ∀ (L : List (List AV)), (∀ x, x ∈ L → x.length = Try.prog.cellsOf 3 ∧ HasT Try.prog (n + 1) 3 x) → ∃ V : List Int, L.map (elA false) = Il V ∧ V.length = L.length ∧ ∀ z, z ∈ V → -9223372036854775808 ≤ z ∧ z ≤ 9223372036854775807 := by
    intro L
    induction L with
    | nil => exact fun _ => ⟨[], rfl, rfl, by simp⟩
    | cons y L ih =>
      intro hL
      obtain ⟨V, h1, h2, h3⟩ := ih fun x hx => hL x (by simp [hx])
      obtain ⟨-, hy⟩ := hL y List.mem_cons_self
      unfold HasT at hy
      rw [Try.underlying3] at hy
      obtain ⟨z, rfl, hz⟩ := hy
      refine ⟨z :: V, by rw [List.map_cons, h1]; rfl, by simp [h2], ?_⟩
      intro w hw
      rcases List.mem_cons.1 hw with rfl | hw
      · exact wf_i64 hz
      · exact h3 w hw
  obtain ⟨V, h1, h2, h3⟩ := key L hf
  refine ⟨b, V, ?_, ?_, h3⟩
  · rw [hag, h1]
  · have : reachBytes ≤ 140737488351232 := Nat.le_refl _
    omega
set_option maxRecDepth 100000 in
theorem hasL {n : Nat} {x : AV} (h : HasA Try.prog (n + 2) 26 x) : ∃ (b : Bool) (l : List Int), x = .isl (some b) (Il l) .no ∧ l.length ≤ 9000000000000000000 ∧ ∀ z, z ∈ l → -9223372036854775808 ≤ z ∧ z ≤ 9223372036854775807 := by
  obtain ⟨cs, hx, h⟩ := h
  obtain ⟨b, l, rfl, h1, h2⟩ := hasL_cells h
  refine ⟨b, l, ?_, h1, h2⟩
  rw [hx]; unfold elA HasT.isAggT; rw [Try.underlying26]; rfl
set_option maxRecDepth 100000 in
theorem hasE_cells {n : Nat} {cs : List AV} (h : HasT Try.prog (n + 3) 22 cs) : ∃ (b : Bool) (E : Edges), cs = [.isl (some b) (El E) .no] ∧ szB E ∧ rgH E := by
  unfold HasT at h
  rw [Try.underlying22] at h
  obtain ⟨b, L, rfl, -, hl, hf⟩ := h
  have b3 : Try.prog.bytesOf 26 = 24 := by kernel_rfl
  have hag : HasT.isAggT Try.prog 26 = false := by unfold HasT.isAggT; rw [Try.underlying26]
  rw [b3] at hl
  have key : ∀ (L : List (List AV)), (∀ x, x ∈ L → x.length = Try.prog.cellsOf 26 ∧ HasT Try.prog (n + 2) 26 x) → ∃ E : Edges, L.map (elA false) = El E ∧ E.length = L.length ∧ ∀ p, p ∈ E → p.2.2.length ≤ 9000000000000000000 ∧ ∀ z, z ∈ p.2.2 → -9223372036854775808 ≤ z ∧ z ≤ 9223372036854775807 := by
    intro L
    induction L with
    | nil => exact fun _ => ⟨[], rfl, rfl, by simp⟩
    | cons y L ih =>
      intro hL
      obtain ⟨V, h1, h2, h3⟩ := ih fun x hx => hL x (by simp [hx])
      obtain ⟨-, hy⟩ := hL y List.mem_cons_self
      obtain ⟨b, l, rfl, k1, k2⟩ := hasL_cells hy
      refine ⟨(some b, false, l) :: V, by rw [List.map_cons, h1]; rfl, by simp [h2], ?_⟩
      intro w hw
      rcases List.mem_cons.1 hw with rfl | hw
      · exact ⟨k1, k2⟩
      · exact h3 w hw
  obtain ⟨V, h1, h2, h3⟩ := key L hf
  have hg : ∀ j, j < V.length → eG V j ∈ V := fun j hj => by
    unfold eG; rw [List.getD_eq_getElem?_getD]; simp [hj]
  refine ⟨b, V, ?_, ⟨?_, fun j hj => (h3 _ (hg j hj)).1⟩, fun j hj => (h3 _ (hg j hj)).2⟩
  · rw [hag, h1]
  · have : reachBytes ≤ 140737488351232 := Nat.le_refl _
    omega
set_option maxRecDepth 100000 in
theorem hasHy {n : Nat} {x : AV} (h : HasA Try.prog (n + 4) 24 x) : ∃ (N : Int) (b : Bool) (E : Edges), x = HA' N (some b) E false ∧ szB E ∧ rgH E ∧ -9223372036854775808 ≤ N ∧ N ≤ 9223372036854775807 := by
  obtain ⟨cs, hx, h⟩ := h
  unfold HasT at h
  rw [Try.underlying24] at h
  obtain ⟨hl, hf⟩ := h
  have c3 : Try.prog.cellsOf 3 = 1 := by kernel_rfl
  have c22 : Try.prog.cellsOf 22 = 1 := by kernel_rfl
  have c24 : Try.prog.cellsOf 24 = 2 := by kernel_rfl
  rw [c24] at hl
  simp only [List.mem_cons, List.not_mem_nil, or_false, forall_eq_or_imp, forall_eq, c3, c22] at hf
  obtain ⟨h0, h1⟩ := hf
  match cs, hl with
  | [x, y], _ =>
    unfold HasT at h0
    rw [Try.underlying3] at h0
    obtain ⟨k, hk, wk⟩ := h0
    obtain ⟨b, E, ht, k1, k2⟩ := hasE_cells h1
    simp at hk ht
    subst hk; subst ht
    refine ⟨k, b, E, ?_, k1, k2, wf_i64 wk⟩
    rw [hx]; unfold elA HasT.isAggT; rw [Try.underlying24]; rfl
theorem joins_row (x0 : AV) (h0 : HasA Try.prog 5 24 x0) (g : GH) : PureC Try.prog 3 [x0] g (BB true) := by
  obtain ⟨N, b, E, rfl, h1, h2, -⟩ := hasHy h0
  exact law_joins N _ E _ h1 h2 g
end Go.Proofs.Ytjinngfpbmkhaaa.Hyp
