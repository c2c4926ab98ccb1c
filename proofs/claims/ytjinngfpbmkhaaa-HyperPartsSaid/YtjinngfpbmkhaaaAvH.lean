import Derived.Test.YtjinngfpbmkhaaaAvG
namespace Go.Av
set_option linter.unusedVariables false
set_option linter.unusedSimpArgs false
open Go.RowKit

section
variable {P : Program} {w0 w : World} {M : Mem} {φ : Phi} {g : GH}

def RepL (M : Mem) (φ : Phi) (cs : List AV) (vs : List Value) : Prop := cs.length = vs.length ∧ ∀ (i : Nat) (x : AV) (v : Value), cs[i]? = some x → vs[i]? = some v → Rep M φ x v

theorem RepL.nil : RepL M φ [] [] := ⟨rfl, by simp⟩
theorem RepL.cons {x : AV} {v : Value} {cs : List AV} {vs : List Value} (h : Rep M φ x v) (hl : RepL M φ cs vs) : RepL M φ (x :: cs) (v :: vs) := by
  refine ⟨by simp [hl.1], ?_⟩
  intro i y u h1 h2
  cases i with
  | zero => simp at h1 h2; subst h1; subst h2; exact h
  | succ i => simp at h1 h2; exact hl.2 i y u h1 h2
theorem RepL.append {cs ds : List AV} {vs us : List Value} (h : RepL M φ cs vs) (k : RepL M φ ds us) : RepL M φ (cs ++ ds) (vs ++ us) := by
  refine ⟨by simp [h.1, k.1], ?_⟩
  intro i y u h1 h2
  by_cases hi : i < cs.length
  · rw [List.getElem?_append_left hi] at h1
    rw [List.getElem?_append_left (by rw [← h.1]; exact hi)] at h2
    exact h.2 i y u h1 h2
  · rw [List.getElem?_append_right (by omega)] at h1
    rw [List.getElem?_append_right (by rw [← h.1]; omega), ← h.1] at h2
    exact k.2 _ y u h1 h2
theorem RepL.take {cs : List AV} {vs : List Value} (h : RepL M φ cs vs) (n : Nat) : RepL M φ (cs.take n) (vs.take n) := by
  refine ⟨by simp [h.1], ?_⟩
  intro i y u h1 h2
  have hi : i < n := by have := (List.getElem?_eq_some_iff.1 h1).1; simp at this; omega
  rw [List.getElem?_take_of_lt hi] at h1 h2
  exact h.2 i y u h1 h2
theorem RepL.drop {cs : List AV} {vs : List Value} (h : RepL M φ cs vs) (n : Nat) : RepL M φ (cs.drop n) (vs.drop n) := by
  refine ⟨by simp [h.1], ?_⟩
  intro i y u h1 h2
  rw [List.getElem?_drop] at h1 h2
  exact h.2 _ y u h1 h2
theorem RepL.mono {M' : Mem} {φ' : Phi} {cs : List AV} {vs : List Value} (h : RepL M φ cs vs) (hM : Mem.le M M') (hφ : Phi.le φ φ') : RepL M' φ' cs vs :=
  ⟨h.1, fun i x v h1 h2 => (h.2 i x v h1 h2).mono hM hφ⟩
theorem RepL.splice {cs xs : List AV} {vs us : List Value} (h : RepL M φ cs vs) (k : RepL M φ xs us) (off : Nat) : RepL M φ (splice cs off xs) (vs.take off ++ us ++ vs.drop (off + us.length)) := by
  unfold Go.Av.splice
  rw [k.1]
  exact ((h.take off).append k).append (h.drop _)

theorem rep_cells {x : AV} {v : Value} (h : Rep M φ x v) (hx : ∀ vs, x ≠ .any ∧ x ≠ .tup vs) : RepL M φ x.cells v.cells.toList ∨ ∃ u, x = .lit u := by
  cases h with
  | any => exact absurd rfl (hx []).1
  | lit v => exact .inr ⟨v, rfl⟩
  | agg hl hr => exact .inl ⟨by simpa [AV.cells, Value.cells] using hl, fun i x v h1 h2 => hr i x v h1 (by simpa [Value.cells] using h2)⟩
  | tup hl hr => exact absurd rfl (hx _).2
  | ptr h1 h2 => exact .inl (RepL.cons (.ptr h1 h2) RepL.nil)
  | iptr cv h1 h2 => exact .inl (RepL.cons (.iptr cv h1 h2) RepL.nil)
  | isl sz cv h1 h2 h3 h4 h5 h6 h7 h8 h9 h10 => exact .inl (RepL.cons (.isl sz cv h1 h2 h3 h4 h5 h6 h7 h8 h9 h10) RepL.nil)
  | osl h1 h2 h3 h4 h5 h6 => exact .inl (RepL.cons (.osl h1 h2 h3 h4 h5 h6) RepL.nil)
  | fn h1 h2 => exact .inl (RepL.cons (.fn h1 h2) RepL.nil)

/-- The cells of a value all of whose cells are such. -/
theorem rep_cells_s {x : AV} {v : Value} (h : Rep M φ x v) (hx : x.cells.all AV.scalar = true) : RepL M φ x.cells v.cells.toList ∧ ∀ u, u ∈ v.cells.toList → u.oneCell' = true := by
  have key : RepL M φ x.cells v.cells.toList := by
    cases x with
    | any => simp [AV.cells, AV.scalar] at hx
    | tup vs => simp [AV.cells, AV.scalar] at hx
    | lit u =>
      rw [lit_inv h]
      have : u.cells = #[u] := by cases u <;> first | rfl | (simp [AV.cells, AV.scalar, Value.oneCell'] at hx)
      rw [this]
      exact RepL.cons (.lit u) RepL.nil
    | _ => rcases rep_cells h (by simp) with k | ⟨u, k⟩ <;> first | exact k | cases k
  refine ⟨key, ?_⟩
  intro u hu
  obtain ⟨i, hi, rfl⟩ := List.getElem_of_mem hu
  have hi' : i < x.cells.length := by rw [key.1]; exact hi
  exact (key.2 i x.cells[i] _ (by simp [hi']) (by simp [hi])).scalar (by simpa using List.all_eq_true.1 hx _ (List.getElem_mem hi'))

theorem rep_ofConst (v : Value) : Rep M φ (ofConst v) v := by
  unfold ofConst
  split
  · exact .isl 0 (fun _ _ => undef) rfl (Nat.le_refl _) (by simp) (by simp) (by simp) (by simp) (by simp) (by simp) (by simp) (by simp)
  · exact .lit _

theorem repL_ofConst (vs : List Value) : RepL M φ (vs.map ofConst) vs := by
  refine ⟨by simp, ?_⟩
  intro i x v h1 h2
  simp only [List.getElem?_map, h2, Option.map_some, Option.some.injEq] at h1
  subst h1
  exact rep_ofConst v

theorem fold_set (off : Nat) : ∀ (v : List Value) (k : Nat) (cs : Array Value), off + k + v.length ≤ cs.size →
    ((v.zipIdx k).foldl (fun (cs : Array Value) (p : Value × Nat) => cs.setIfInBounds (off + p.2) p.1) cs).toList = cs.toList.take (off + k) ++ v ++ cs.toList.drop (off + k + v.length)
  | [], k, cs, h => by simp
  | x :: v, k, cs, h => by
    simp only [List.length_cons] at h
    simp only [List.zipIdx_cons, List.foldl_cons]
    rw [fold_set off v (k + 1) _ (by simp; omega)]
    apply List.ext_getElem?
    intro i
    simp only [Array.toList_setIfInBounds, List.append_assoc, List.getElem?_append, List.length_take, List.length_set, Array.length_toList, List.getElem?_drop, List.length_cons]
    have e1 : min (off + (k + 1)) cs.size = off + k + 1 := by omega
    have e2 : min (off + k) cs.size = off + k := by omega
    simp only [e1, e2]
    by_cases h1 : i < off + k
    · have : i < off + k + 1 := by omega
      rw [if_pos this, if_pos h1, List.getElem?_take_of_lt (by omega), List.getElem?_take_of_lt (by omega), List.getElem?_set_ne (by omega)]
    · by_cases h2 : i = off + k
      · subst h2
        rw [if_pos (by omega), if_neg (by omega), if_pos (by omega), List.getElem?_take_of_lt (by omega), Nat.sub_self, List.getElem?_cons_zero, List.getElem?_set_self (by simp; omega)]
      · have a1 : ¬ i < off + k + 1 := by omega
        have a2 : i - (off + k) = (i - (off + k + 1)) + 1 := by omega
        simp only [a1, h1, if_false, a2, List.getElem?_cons_succ, Nat.add_lt_add_iff_right]
        split
        · rfl
        · rw [List.getElem?_set_ne (by omega)]
          congr 1
          omega

/-- Parts laid into a row, in the model's way. -/
inductive Parts (M : Mem) (φ : Phi) : List (Nat × AV) → List (Nat × Value) → Prop where
  | nil : Parts M φ [] []
  | cons {i x v l k} (h : Rep M φ x v) (hl : Parts M φ l k) : Parts M φ ((i, x) :: l) ((i, v) :: k)

theorem rep_cells_any {x : AV} {v : Value} (h : Rep M φ x v) (hx : x.cells.all AV.scalar = true) : v.cells.size = x.cells.length := by
  have := (rep_cells_s h hx).1.1; simpa using this.symm

theorem fillA_run (places : Nat → Option (Nat × Nat)) (t : TypeId) (hpl : ∀ i o sz ag, fldI P t i = some (o, sz, ag) → places i = some (o, sz)) :
    ∀ (ps : List (Nat × AV)) (pv : List (Nat × Value)) (cs : List AV) (vs : Array Value), Parts M φ ps pv → RepL M φ cs vs.toList → (fillA P t cs ps).pre →
      ∃ us, Instr.fill places vs pv = some us ∧ Rep M φ (fillA P t cs ps).v (.agg us) ∧ (fillA P t cs ps).wr = []
  | [], pv, cs, vs, hp, hl, h => by
    cases hp
    exact ⟨vs, rfl, .agg (by simpa using hl.1) fun i x v h1 h2 => hl.2 i x v h1 (by simpa using h2), rfl⟩
  | (i, x) :: ps, pv, cs, vs, hp, hl, h => by
    cases hp with
    | @cons _ _ v _ pv hx hps =>
      simp only [fillA] at h ⊢
      cases hf : fldI P t i with
      | none => rw [hf] at h; exact h.elim
      | some q =>
        obtain ⟨o, sz, ag⟩ := q
        rw [hf] at h
        obtain ⟨⟨h1, h2, hsx⟩, h3⟩ := h
        obtain ⟨k1, k2⟩ := rep_cells_s hx hsx
        have hsize : v.cells.size = sz := by have := k1.1; simp at this; omega
        have hlen : cs.length = vs.size := by simpa using hl.1
        have hfold := fold_set o v.cells.toList 0 vs (by simp; omega)
        simp only [Nat.add_zero] at hfold
        obtain ⟨us, u1, u2, u3⟩ := fillA_run places t hpl ps pv (splice cs o x.cells) ((v.cells.toList.zipIdx 0).foldl (fun (cs : Array Value) (p : Value × Nat) => cs.setIfInBounds (o + p.2) p.1) vs) hps (by
          rw [hfold]; exact hl.splice k1 o) h3
        refine ⟨us, ?_, u2, rfl⟩
        unfold Instr.fill
        rw [hpl i o sz ag hf]
        simp only [hsize, ne_eq, not_true_eq_false, decide_false, Bool.false_or, decide_eq_true_eq]
        rw [if_neg (by omega), ← u1]
        congr 1
        rw [← Array.foldl_toList, Array.toList_zipIdx]

theorem mapM_places (P : Program) : ∀ (fs : List Field), (fs.all fun f => (P.info? f.type).isSome) = true → ∃ places, fs.mapM (fun f => (P.info? f.type).map fun i => (f.offset, i.size)) = some places ∧
    ∀ (i : Nat) (fd : Field) (ti : TypeInfo), fs[i]? = some fd → P.info? fd.type = some ti → places[i]? = some (fd.offset, ti.size)
  | [], _ => ⟨[], rfl, by simp⟩
  | f :: fs, h => by
    simp only [List.all_cons, Bool.and_eq_true] at h
    obtain ⟨ti, hti⟩ := Option.isSome_iff_exists.1 h.1
    obtain ⟨pl, h1, h2⟩ := mapM_places P fs h.2
    refine ⟨(f.offset, ti.size) :: pl, by simp [List.mapM_cons, hti, h1], ?_⟩
    intro i fd ti' k1 k2
    cases i with
    | zero => simp at k1; subst k1; rw [hti] at k2; cases k2; rfl
    | succ i => simp at k1 ⊢; exact h2 i fd ti' k1 k2

theorem zeroI_inv {t : TypeId} {z : List AV} (h : zeroI P t = some z) : ∃ i v, P.info? t = some i ∧ i.zero = some v ∧ z = v.cells.toList.map ofConst := by
  unfold zeroI at h
  split at h
  · rename_i i hi
    split at h
    · rename_i v hv; cases h; exact ⟨i, v, hi, hv, rfl⟩
    · cases h
  · cases h

theorem buildA_gives (hw : Wr w0 M φ g w) {t : TypeId} {ps : List (Nat × AV)} {pv : Array (Nat × Value)} (ha : Parts M φ ps pv.toList) (hp : (buildA P t ps).pre) :
    Gives P (Instr.build t pv) w0 M φ g w (buildA P t ps).v (buildA P t ps).wr := by
  unfold buildA at hp ⊢
  cases hz : zeroI P t with
  | none => rw [hz] at hp; exact hp.elim
  | some z =>
    rw [hz] at hp
    obtain ⟨h1, h2⟩ := hp
    obtain ⟨it, zv, hi, hzv, rfl⟩ := zeroI_inv hz
    unfold bldT at h1
    split at h1
    · rename_i fs hfs
      obtain ⟨places, hpl, hpl2⟩ := mapM_places P fs.toList h1
      obtain ⟨us, u1, u2, u3⟩ := fillA_run (P := P) (M := M) (φ := φ) (fun i => places.toArray[i]?) t (by
        intro i o sz ag hf
        obtain ⟨fs', fd, ti, k1, k2, k3, k4, k5, k6⟩ := fldI_inv hf
        rw [hfs] at k1; cases k1
        obtain ⟨inf, d, j1, j2, j3, j4, j5⟩ := tyI_inv k3
        have := hpl2 i fd inf (by simpa using k2) j1
        simp only [List.getElem?_toArray, this]
        rw [← k4, ← k5, j3]) ps pv.toList _ zv.cells ha (repL_ofConst _) h2
      refine Gives.pure hw (x := .agg us) (run_build w t pv us ?_) u2
      unfold Program.built
      simp only [hi, hfs, hzv, hpl]
      exact u1
    · cases h1

end
end Go.Av
