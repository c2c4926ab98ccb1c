/- Plain words. -/
import Derived.Test.YtcnhpclfflcdfaaDoorRRegQ
/- Rows of places: which are there. -/
namespace Go.Av
set_option linter.unusedVariables false
set_option linter.unusedSimpArgs false
abbrev Bl (l : List Bool) : List AV := l.map fun b => .lit (.bool b)
abbrev Sy := ByteArray × Bool
abbrev syA (s : Sy) : AV := .agg [.lit (.string s.1), .lit (.bool s.2)]
abbrev Syl (l : List Sy) : List AV := l.map syA
theorem Bl_get (l : List Bool) (i : Nat) (h : i < l.length) : (Bl l).getD i .any = .lit (.bool (l.getD i false)) := by simp [List.getD_eq_getElem?_getD, h]
theorem Syl_get (l : List Sy) (i : Nat) (h : i < l.length) : (Syl l).getD i .any = syA (l.getD i (⟨#[]⟩, false)) := by simp [List.getD_eq_getElem?_getD, h]
theorem Bl_splice (l : List Bool) (i : Nat) (x : Bool) (h : i < l.length) : (Bl l).take i ++ [.lit (.bool x)] ++ (Bl l).drop (i + 1) = Bl (l.set i x) := by
  rw [List.set_eq_take_append_cons_drop, if_pos h]
  simp [List.map_take, List.map_drop]
theorem Bl_cells (l : List Bool) : (Bl l).flatMap AV.cells = Bl l := by
  induction l with
  | nil => rfl
  | cons x l ih => exact congrArg (AV.lit (.bool x) :: ·) ih
theorem elsOk_Bl (l : List Bool) : elsOk 1 (Bl l) ↔ True := by
  refine ⟨fun _ => trivial, fun _ e he => ?_⟩
  obtain ⟨p, -, rfl⟩ := List.mem_map.1 he
  exact ⟨rfl, rfl⟩
theorem Bl_only (l : List Bool) {v : Nat} {p : Nat → Prop} : (Blk.cells v (Bl l)).only p := fun x hx => by obtain ⟨_, -, rfl⟩ := List.mem_map.1 hx; exact .lit _
def joinL (to more : List Bool) : List Bool := (List.range to.length).map fun i => to.getD i false || more.getD i false
def joinG (to more : List Bool) : Bool := (List.range more.length).any fun i => more.getD i false && !(to.getD i false)
theorem joinL_len (to more : List Bool) : (joinL to more).length = to.length := by simp [joinL]
theorem joinL_get (to more : List Bool) (i : Nat) (h : i < to.length) : (joinL to more).getD i false = (to.getD i false || more.getD i false) := by
  simp [joinL, List.getD_eq_getElem?_getD, h]
theorem take_getD (l : List Bool) (i j : Nat) : (l.take i).getD j false = if j < i then l.getD j false else false := by
  rw [List.getD_eq_getElem?_getD, List.getD_eq_getElem?_getD, List.getElem?_take]
  split
  · rfl
  · rfl
theorem bl_ext {a b : List Bool} (hl : a.length = b.length) (h : ∀ i, i < a.length → a.getD i false = b.getD i false) : a = b := by
  apply List.ext_getElem hl
  intro i h1 h2
  have := h i h1
  simpa [List.getD_eq_getElem?_getD, h1, h2] using this
theorem set_getD (l : List Bool) (i j : Nat) (x : Bool) (h : i < l.length) : (l.set i x).getD j false = if j = i then x else l.getD j false := by
  simp only [List.getD_eq_getElem?_getD, List.getElem?_set]
  by_cases e : i = j
  · subst e; simp [h]
  · have e2 : ¬ j = i := fun e' => e (Eq.symm e')
    rw [if_neg e, if_neg e2]
theorem joinL_0 (to more : List Bool) : joinL to (more.take 0) = to := by
  refine bl_ext (joinL_len _ _) fun i hi => ?_
  rw [joinL_len] at hi
  rw [joinL_get _ _ _ hi]; simp
theorem joinL_step (to more : List Bool) (i : Nat) (h1 : i < more.length) (h2 : i < to.length) : joinL to (more.take (i + 1)) = (joinL to (more.take i)).set i (to.getD i false || more.getD i false) := by
  refine bl_ext (by simp [joinL_len]) fun j hj => ?_
  rw [joinL_len] at hj
  rw [joinL_get _ _ _ hj, set_getD _ _ _ _ (by rw [joinL_len]; exact h2), joinL_get _ _ _ hj, take_getD, take_getD]
  by_cases e : j = i
  · subst e; simp
  · by_cases e2 : j < i
    · simp [e, e2, show j < i + 1 by omega]
    · simp [e, e2, show ¬ j < i + 1 by omega]
theorem joinL_at (to more : List Bool) (i : Nat) (h2 : i < to.length) : (joinL to (more.take i)).getD i false = to.getD i false := by
  rw [joinL_get _ _ _ h2, take_getD]; simp
theorem joinG_0 (to more : List Bool) : joinG to (more.take 0) = false := by simp [joinG]
theorem joinG_step (to more : List Bool) (i : Nat) (h1 : i < more.length) : joinG to (more.take (i + 1)) = (joinG to (more.take i) || (more.getD i false && !(to.getD i false))) := by
  have e1 : (more.take (i + 1)).length = i + 1 := by rw [List.length_take]; omega
  have e2 : (more.take i).length = i := by rw [List.length_take]; omega
  unfold joinG
  rw [e1, e2, List.range_succ, List.any_append]
  have e3 : ((List.range i).any fun j => (more.take (i + 1)).getD j false && !(to.getD j false)) = ((List.range i).any fun j => (more.take i).getD j false && !(to.getD j false)) := by
    rw [Bool.eq_iff_iff, List.any_eq_true, List.any_eq_true]
    constructor
    · rintro ⟨j, hj, h⟩
      have hj' := List.mem_range.1 hj
      refine ⟨j, hj, ?_⟩
      rw [take_getD, if_pos (by omega)] at h
      rw [take_getD, if_pos hj']; exact h
    · rintro ⟨j, hj, h⟩
      have hj' := List.mem_range.1 hj
      refine ⟨j, hj, ?_⟩
      rw [take_getD, if_pos hj'] at h
      rw [take_getD, if_pos (by omega)]; exact h
  rw [e3]
  simp [take_getD]
end Go.Av

