import Derived.Test.YtjinngfpbmkhaaaAvC
namespace Go.Av
set_option linter.unusedVariables false
set_option linter.unusedSimpArgs false
open Go.RowKit

def gputs (g : GH) : List (Nat × Blk) → GH
  | [] => g
  | (id, b) :: l => gputs (gput g id b) l

/-- What an operation's run comes to. -/
def Gives (P : Program) (s : Sem Value) (w0 : World) (M : Mem) (φ : Phi) (g : GH) (w : World) (v : AV) (wr : List (Nat × Blk)) : Prop :=
  ∃ x w' M' φ', s.run P w = .ok x w' ∧ Mem.le M M' ∧ Phi.le φ φ' ∧ (∀ id ver hd, φ' id ver = some hd → φ id ver = some hd ∨ ∃ b, (id, b) ∈ wr) ∧ Rep M' φ' v x ∧ Wr w0 M' φ' (gputs g wr) w'

section
variable {P : Program} {w0 w : World} {M : Mem} {φ : Phi} {g : GH}

theorem Gives.pure {s : Sem Value} {v : AV} {x : Value} (hw : Wr w0 M φ g w) (hs : s.run P w = .ok x w) (hr : Rep M φ v x) : Gives P s w0 M φ g w v [] :=
  ⟨x, w, M, φ, hs, Mem.le.refl _, Phi.le.refl _, fun _ _ _ h => .inl h, hr, hw⟩

theorem lit_inv {v : Value} {x : Value} (h : Rep M φ (.lit v) x) : x = v := by cases h; rfl

theorem kindT_inv (P : Program) (t : TypeId) :
    (kindT P t = 1 → P.underlying t = some .bool) ∧ (kindT P t = 3 → P.underlying t = some .string) ∧ (kindT P t = 4 → ∃ e, P.underlying t = some (.pointer e)) ∧
    (kindT P t = 5 → ∃ e, P.underlying t = some (.slice e)) ∧ (kindT P t = 6 → ∃ e, P.underlying t = some (.struct e)) ∧ (kindT P t = 2 → ∃ e, P.underlying t = some (.int e)) := by
  unfold kindT
  cases P.underlying t with
  | none => simp
  | some d => cases d <;> simp

theorem slT_inv {t e : TypeId} (h : slT P t = some e) : P.underlying t = some (.slice e) := by
  unfold slT at h
  split at h
  · rename_i e' he; cases h; exact he
  · cases h

theorem intT_inv {t : TypeId} {k : IntKind} (h : intT P t = some k) : P.underlying t = some (.int k) := by
  unfold intT at h
  split at h
  · rename_i e' he; cases h; exact he
  · cases h

theorem tyI_inv {t : TypeId} {ti : TyI} (h : tyI P t = some ti) : ∃ i d, P.info? t = some i ∧ P.underlying t = some d ∧ ti.size = i.size ∧ ti.bytes = i.bytes ∧
    ti.agg = (match d with | .struct _ | .array _ _ => true | _ => false) := by
  unfold tyI at h
  split at h
  · rename_i i d hi hd
    cases h
    exact ⟨i, d, hi, hd, rfl, rfl, rfl⟩
  · cases h

theorem run_sizeOf_ty {t : TypeId} {ti : TyI} (h : tyI P t = some ti) (w : World) : (sizeOf t).run P w = .ok ti.size w := by
  obtain ⟨i, d, hi, hd, h1, h2, h3⟩ := tyI_inv h
  simp [sizeOf, typeInfo, hi, h1]

theorem run_typeInfo_ty {t : TypeId} {ti : TyI} (h : tyI P t = some ti) (w : World) : ∃ i, (typeInfo t).run P w = .ok i w ∧ i.bytes = ti.bytes ∧ i.size = ti.size := by
  obtain ⟨i, d, hi, hd, h1, h2, h3⟩ := tyI_inv h
  exact ⟨i, by simp [typeInfo, hi], h2.symm, h1.symm⟩

theorem run_isAgg_ty {t : TypeId} {ti : TyI} (h : tyI P t = some ti) (w : World) : (isAgg t).run P w = .ok ti.agg w := by
  obtain ⟨i, d, hi, hd, h1, h2, h3⟩ := tyI_inv h
  rw [h3]
  cases d <;> simp [isAgg, underlying, hd]

theorem fldI_inv {t : TypeId} {f o sz : Nat} {ag : Bool} (h : fldI P t f = some (o, sz, ag)) : ∃ (fs : Array Field) (fd : Field) (ti : TyI), P.underlying t = some (.struct fs) ∧ fs[f]? = some fd ∧ tyI P fd.type = some ti ∧ fd.offset = o ∧ ti.size = sz ∧ ti.agg = ag := by
  unfold fldI at h
  split at h
  · rename_i fs hfs
    split at h
    · rename_i fd hfd
      split at h
      · rename_i ti hti
        cases h
        exact ⟨fs, fd, ti, hfs, hfd, hti, rfl, rfl, rfl⟩
      · cases h
    · cases h
  · cases h

theorem addr_add (r off n : Nat) : (⟨r, off, none⟩ : Addr).add n = ⟨r, off + n, none⟩ := by
  unfold Addr.add; split <;> simp_all

/-- a part of a cells' row, read as a variable -/
theorem run_loadVar_cells {t : TypeId} {ti : TyI} (h : tyI P t = some ti) (w : World) (r off : Nat) (cs : List AV) (φ' : Phi) (cv : Nat → Value) (hs : ti.agg = false → ti.size = 1) (hl : ti.size ≤ cs.length)
    (hc : ∀ j, j < ti.size → w.cell? ⟨r, off + j, none⟩ = some (cv j)) (hr : ∀ (j : Nat) (x : AV), cs[j]? = some x → j < ti.size → Rep M φ' x (cv j)) :
    ∃ x, (loadVar t ⟨r, off, none⟩).run P w = .ok x w ∧ Rep M φ' (if ti.agg then .agg (cs.take ti.size) else cs.getD 0 .any) x := by
  cases ha : ti.agg with
  | true =>
    refine ⟨.agg ((List.range ti.size).map cv).toArray, ?_, ?_⟩
    · have := run_loadCells (P := P) (w := w) ⟨r, off, none⟩ ti.size cv (fun j hj => by rw [addr_add]; exact hc j hj)
      simp only [loadVar, Sem.run_bind, run_isAgg_ty h, ha, Result.andThen_ok, if_true, run_sizeOf_ty h, this, Sem.run_pure]
    · simp only [if_true]
      refine .agg (by simp [hl]) ?_
      intro i x v h1 h2
      have hi : i < ti.size := by
        have := (List.getElem?_eq_some_iff.1 h1).1; simp at this; omega
      simp only [List.getElem?_toArray, List.getElem?_map, List.getElem?_range hi, Option.map_some, Option.some.injEq] at h2
      subst h2
      rw [List.getElem?_take_of_lt hi] at h1
      exact hr i x h1 hi
  | false =>
    have h1 := hs ha
    refine ⟨cv 0, ?_, ?_⟩
    · have := hc 0 (by omega)
      simp only [Nat.add_zero] at this
      simp [loadVar, run_isAgg_ty h, ha, this]
    · have hlt : 0 < cs.length := by omega
      simp only [Bool.false_eq_true, if_false]
      exact hr 0 _ (by simp [List.getD_eq_getElem?_getD, hlt]) (by omega)

theorem loadA_run (hw : Wr w0 M φ g w) {t : TypeId} {x : AV} {xv : Value} (ha : Rep M φ x xv) (hp : (loadA P t g x).pre) :
    ∃ y, (Instr.loadAt t xv).run P w = .ok y w ∧ Rep M φ (loadA P t g x).v y := by
  cases x <;> simp only [loadA] at hp ⊢ <;> first | exact hp.elim | skip
  · rename_i id ver off
    cases hti : tyI P t with
    | none => rw [hti] at hp; exact hp.elim
    | some ti =>
      cases hg : g id with
      | none => rw [hti, hg] at hp; exact hp.elim
      | some b =>
        cases b with
        | tok v => rw [hti, hg] at hp; exact hp.elim
        | cells v cs =>
          rw [hti, hg] at hp
          obtain ⟨rfl, hle, hne, hs⟩ := hp
          cases ha with
          | @ptr _ _ _ _ r hd h1 h2 =>
            obtain ⟨hd', hp', hok⟩ := hw.blk id _ hg
            have : hd' = hd := by rw [show (Blk.cells v cs).ver = v from rfl, h1] at hp'; cases hp'; rfl
            subst this
            have hcells : ∃ (arr : Array Value) (e : TypeId), w.heap[r]? = some (.cells arr e (0, 0)) ∧ cs.length ≤ arr.size ∧ ∀ (j : Nat) (x : AV) (v : Value), cs[j]? = some x → arr[j]? = some v → Rep M φ x v := by
              cases hd' with
              | box q =>
                obtain rfl : q = r := by simpa [Hd.blk] using h2
                obtain ⟨_, _, arr, e, h5, h6, h7⟩ := hok
                exact ⟨arr, e, h5, by omega, h7⟩
              | row q sz cap =>
                obtain rfl : q = some r := by simpa [Hd.blk] using h2
                obtain ⟨_, _, arr, e, h5, h6, h7, h8⟩ := hok
                exact ⟨arr, e, h5, h7, h8⟩
              | tk q own sz len cap => cases q <;> cases own <;> exact hok.elim
            obtain ⟨arr, e, h5, h6, h7⟩ := hcells
            have hcell : ∀ j, j < ti.size → w.cell? ⟨r, off + j, none⟩ = some (arr.getD (off + j) undef) := by
              intro j hj
              have : off + j < arr.size := by omega
              simp [World.cell?, h5, Array.getD, this]
            obtain ⟨y, hy1, hy2⟩ := run_loadVar_cells (M := M) hti w r off (cs.drop off) φ (fun j => arr.getD (off + j) undef) hs (by simp; omega) hcell (by
              intro j x hx hj
              have : off + j < arr.size := by omega
              refine h7 (off + j) x _ (by simpa using hx) (by simp [Array.getD, this]))
            refine ⟨y, ?_, ?_⟩
            · simp only [Instr.loadAt, Instr.sureAddr, Sem.run_bind, Sem.run_pure, Result.andThen_ok, hy1]
            · simpa [List.getD_eq_getElem?_getD] using hy2
  · rename_i cs
    cases hti : tyI P t with
    | none => rw [hti] at hp; exact hp.elim
    | some ti =>
      rw [hti] at hp
      obtain ⟨hle, hne, hs⟩ := hp
      cases ha with
      | @iptr _ _ r off cv hm hr =>
        have hcell : ∀ j, j < ti.size → w.cell? ⟨r, off + j, none⟩ = some (cv j) := by
          intro j hj
          have : j < cs.length := by omega
          exact hw.mem r (off + j) (cv j) (hm j cs[j] (by simp [this]))
        obtain ⟨y, hy1, hy2⟩ := run_loadVar_cells (M := M) hti w r off cs φ cv hs (by omega) hcell (fun j x hx _ => (hr j x hx).mono (Mem.le.refl _) (Phi.none_le _))
        refine ⟨y, ?_, ?_⟩
        · simp only [Instr.loadAt, Instr.sureAddr, Sem.run_bind, Sem.run_pure, Result.andThen_ok, hy1]
        · exact hy2

theorem loadA_wr (P : Program) (t : TypeId) (g : GH) (x : AV) : (loadA P t g x).wr = [] := by
  unfold loadA; repeat' (first | split | rfl)

theorem loadA_gives (hw : Wr w0 M φ g w) {t : TypeId} {x : AV} {xv : Value} (ha : Rep M φ x xv) (hp : (loadA P t g x).pre) :
    Gives P (Instr.loadAt t xv) w0 M φ g w (loadA P t g x).v (loadA P t g x).wr := by
  obtain ⟨y, h1, h2⟩ := loadA_run hw ha hp
  rw [loadA_wr]
  exact Gives.pure hw h1 h2

end
end Go.Av
