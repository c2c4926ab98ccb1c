import Derived.Test.YtjinngfpbmkhaaaAvJ
namespace Go.Av
set_option linter.unusedVariables false
set_option linter.unusedSimpArgs false
open Go.RowKit

section
variable {P : Program} {w0 w : World} {M : Mem} {φ : Phi} {g : GH}

theorem run_buildSlice {t e : TypeId} {ti : TyI} (hu : P.underlying t = some (.slice e)) (hti : tyI P e = some ti) (len : Nat) (hz : len * ti.size ≠ 0 → (zeroI P e).isSome = true) (hle : len * ti.size ≤ 16777216) (pv : Array (Nat × Value))
    (hlen : pv.size = len) (hnum : ∀ (i : Nat) (p : Nat × Value), pv.toList[i]? = some p → p.1 = i ∧ p.2.cells.size = ti.size) (w : World) :
    (Instr.buildSlice t len pv).run P w = .ok (.slice (some ⟨w.heap.size, 0, none⟩) len len) (w.alloc (.cells (pv.toList.flatMap fun p => p.2.cells.toList).toArray e (0, 0))) := by
  have hsz := run_sizeOf_ty hti w
  have hflat : ∀ (l : List (Nat × Value)), (∀ p, p ∈ l → p.2.cells.size = ti.size) → (l.flatMap fun p => p.2.cells.toList).length = l.length * ti.size := by
    intro l
    induction l with
    | nil => simp
    | cons p l ih =>
      intro h
      rw [List.flatMap_cons, List.length_append, ih (fun q hq => h q (by simp [hq])), Array.length_toList, h p (by simp), List.length_cons, Nat.add_mul]
      omega
  have hfl := hflat pv.toList (fun p hp => by obtain ⟨i, hi, rfl⟩ := List.getElem_of_mem hp; exact (hnum i _ (by simp [hi])).2)
  have hfl' : (pv.toList.flatMap fun p => p.2.cells.toList).length = len * ti.size := by rw [hfl]; simp [hlen]
  have hfill : ∀ z : Array Value, z.size = len * ti.size → Instr.fill (fun i => some (i * ti.size, ti.size)) z pv.toList = some (pv.toList.flatMap fun p => p.2.cells.toList).toArray := by
    intro z hz
    rw [fill_numbered ti.size pv.toList 0 z _ (fun i p hp => by have := hnum i p hp; exact ⟨by omega, this.2⟩) rfl (by rw [hfl']; omega)]
    congr 1
    apply Array.ext_getElem?
    intro j
    rw [arrSplice_get _ _ _ _ (by rw [hfl']; omega)]
    simp only [Nat.zero_mul, Nat.zero_le, true_and, Nat.zero_add, hfl', Nat.sub_zero, List.getElem?_toArray]
    split
    · rfl
    · rename_i hj
      rw [Array.getElem?_eq_none (by omega), List.getElem?_eq_none (by rw [hfl']; omega)]
  unfold Instr.buildSlice
  simp only [Sem.run_bind, run_underlying hu, Result.andThen_ok, hsz]
  rw [if_neg (by omega)]
  by_cases h0 : len * ti.size = 0
  · simp only [h0, if_true, pure_bind]
    rw [hfill _ (by simp [h0])]
    simp [newRow]
  · obtain ⟨z, hz⟩ := Option.isSome_iff_exists.1 (hz h0)
    obtain ⟨it, zv, h1, h2, _⟩ := zeroI_inv hz
    have hzv : (zeroValue e).run P w = .ok zv w := by simp [zeroValue, typeInfo, h1, h2]
    simp only [h0, if_false, Sem.run_bind, hzv, Result.andThen_ok, Sem.run_pure]
    rw [hfill _ (by simp)]
    simp [newRow]

theorem memAdd_none {M : Mem} {r : Nat} {f : Nat → Option Value} {j : Nat} (h : f j = none) : memAdd M r f r j = M r j := by
  unfold memAdd; simp [h]

theorem parts_erase : ∀ {ps : List (Nat × AV)}, (ps.map fun p => p.2.eraseE).flatMap AV.cells = (ps.flatMap fun p => p.2.cells).map AV.erase
  | [] => rfl
  | p :: ps => by simp only [List.map_cons, List.flatMap_cons, List.map_append, eraseE_cells, parts_erase]

theorem mem_of_list (M : Mem) (w : World) (vs : List Value) (k : Nat) (v : Value) (h : vs[k]? = some v) : memAdd M w.heap.size (vs.toArray[·]?) w.heap.size (0 + k) = some v := by
  refine memAdd_same ?_
  simpa using h

theorem buildSliceA_gives (hw : Wr w0 M φ g w) {C : Cfg} (hP : C.P = P) {d len : Nat} {t : TypeId} {ps : List (Nat × AV)} {pv : Array (Nat × Value)} (ha : Parts M φ ps pv.toList)
    (hp : (buildSliceA C d t len g ps).pre) : Gives P (Instr.buildSlice t len pv) w0 M φ g w (buildSliceA C d t len g ps).v (buildSliceA C d t len g ps).wr := by
  subst hP
  unfold buildSliceA at hp ⊢
  cases he : slT C.P t with
  | none => rw [he] at hp; exact hp.elim
  | some e =>
    simp only [he] at hp ⊢
    cases hti : tyI C.P e with
    | none => simp only [hti] at hp; exact hp.elim
    | some ti =>
      simp only [hti] at hp ⊢
      have hu := slT_inv he
      obtain ⟨hpl, hpg⟩ := parts_vals ha
      -- the three ways share the run
      have run : ∀ (p0 : ps.length = len ∧ numbered ps 0 = true ∧ len * ti.size ≤ 16777216 ∧ (len * ti.size ≠ 0 → (zeroI C.P e).isSome = true)) (hcs : ∀ p, p ∈ ps → p.2.cells.length = ti.size ∧ p.2.cells.all AV.scalar = true),
          (Instr.buildSlice t len pv).run C.P w = .ok (.slice (some ⟨w.heap.size, 0, none⟩) len len) (w.alloc (.cells (pv.toList.flatMap fun p => p.2.cells.toList).toArray e (0, 0))) ∧
          RepL M φ (ps.flatMap fun p => p.2.cells) (pv.toList.flatMap fun p => p.2.cells.toList) := by
        intro p0 hcs
        obtain ⟨h1, h2, h3, h4⟩ := p0
        obtain ⟨c1, c2⟩ := parts_cells ha (fun p hp => (hcs p hp).2)
        refine ⟨run_buildSlice hu hti len h4 h3 pv (by simp at hpl; omega) ?_ w, c1⟩
        intro i q hq
        have hi : i < ps.length := by rw [hpl]; exact (List.getElem?_eq_some_iff.1 hq).1
        obtain ⟨k1, k2⟩ := hpg i ps[i] q (by simp [hi]) hq
        have hn := numbered_get ps 0 h2 i ps[i] (by simp [hi])
        have hc := hcs ps[i] (List.getElem_mem hi)
        refine ⟨by omega, ?_⟩
        rw [rep_cells_any k2 hc.2, hc.1]
      have els : elsOk ti.size (ps.map fun p => p.2.eraseE) → ∀ p, p ∈ ps → p.2.cells.length = ti.size ∧ p.2.cells.all AV.scalar = true := by
        intro h p hp
        obtain ⟨h1, h2⟩ := h p.2.eraseE (List.mem_map.2 ⟨p, hp, rfl⟩)
        rw [eraseE_cells] at h1 h2
        refine ⟨by simpa using h1, ?_⟩
        rw [List.all_eq_true] at h2 ⊢
        intro x hx
        have := idf_scalar (h2 _ (List.mem_map.2 ⟨x, hx, rfl⟩))
        rwa [erase_scalar] at this
      split at hp
      · obtain ⟨p0, hels⟩ := hp
        obtain ⟨hrun, hrep⟩ := run p0 (els hels)
        have hrepE : RepL M Phi.none ((ps.map fun p => p.2.eraseE).flatMap AV.cells) (pv.toList.flatMap fun p => p.2.cells.toList) := by
          have := elsOk_idf hels
          rw [parts_erase] at this ⊢
          exact repL_idf (repL_erase hrep) this
        refine ⟨_, _, _, φ, hrun, memAdd_le fun j _ _ => hw.none_new j, Phi.le.refl _, fun _ _ _ h => .inl h, ?_, hw.alloc_imm _ e⟩
        have := rep_isl_block (M := memAdd M w.heap.size ((pv.toList.flatMap fun p => p.2.cells.toList).toArray[·]?)) (φ := φ) (elsOk_sz hels) (hrepE.mono (memAdd_le fun j _ _ => hw.none_new j) (Phi.le.refl _)) w.heap.size 0
          (fun k v hv => mem_of_list M w _ k v hv) (cap := len) (by simp [p0.1]) (nl := some false) (by simp) (tok := .full) (by simp [p0.1]) (by simp)
        simpa [p0.1] using this
      · obtain ⟨p0, hels, hmay⟩ := hp
        obtain ⟨hrun, hrep⟩ := run p0 (els hels)
        have hrepE : RepL M Phi.none ((ps.map fun p => p.2.eraseE).flatMap AV.cells) (pv.toList.flatMap fun p => p.2.cells.toList) := by
          have := elsOk_idf hels
          rw [parts_erase] at this ⊢
          exact repL_idf (repL_erase hrep) this
        have hn : φ (C.id d) (nextV g (C.id d)) = Option.none := hw.fresh_ver (nextV_lt g _)
        have hfl : (pv.toList.flatMap fun p => p.2.cells.toList).length = len * ti.size := by
          rw [← hrepE.1, flat_len (elsOk_sz hels)]; simp [p0.1]
        refine ⟨_, _, memAdd M w.heap.size ((pv.toList.flatMap fun p => p.2.cells.toList).toArray[·]?), φ.add (C.id d) (nextV g (C.id d)) (.tk (some w.heap.size) true ti.size len len), hrun, memAdd_le fun j _ _ => hw.none_new j, Phi.le_add hn, add_mem, ?_, ?_⟩
        · have := rep_isl_block (M := memAdd M w.heap.size ((pv.toList.flatMap fun p => p.2.cells.toList).toArray[·]?)) (φ := φ.add (C.id d) (nextV g (C.id d)) (.tk (some w.heap.size) true ti.size len len)) (elsOk_sz hels) (hrepE.mono (memAdd_le fun j _ _ => hw.none_new j) (Phi.le.refl _)) w.heap.size 0
            (fun k v hv => mem_of_list M w _ k v hv) (cap := len) (by simp [p0.1]) (nl := some false) (by simp) (tok := .at (C.id d) (nextV g (C.id d))) (by simp) (by
              intro k ver hk; cases hk; exact ⟨true, by simp [Phi.add, p0.1], fun _ => rfl⟩)
          simpa [p0.1] using this
        · exact hw.alloc_named (C.id d) (.tok (nextV g (C.id d))) (.tk (some w.heap.size) true ti.size len len) _ e _ (fun _ _ hv => hv) (nextV_lt g _) rfl
            ⟨hw.below.size, Nat.le_refl _, fun h => h, fun j hj => by
              rw [memAdd_none (Array.getElem?_eq_none (by simp only [List.size_toArray]; omega))]
              exact hw.none_new j, _, e, heap_alloc_new _ _, by simp only [List.size_toArray]; exact hfl⟩
      · obtain ⟨p0, hcs, hmay⟩ := hp
        obtain ⟨hrun, hrep⟩ := run p0 hcs
        have hn : φ (C.id d) (nextV g (C.id d)) = Option.none := hw.fresh_ver (nextV_lt g _)
        have hfl : (pv.toList.flatMap fun p => p.2.cells.toList).length = len * ti.size := by
          have hs : szOk ti.size (ps.map Prod.snd) := by intro y hy; obtain ⟨p, hp, rfl⟩ := List.mem_map.1 hy; exact (hcs p hp).1
          have := flat_len hs
          rw [← hrep.1]
          simpa [List.flatMap_map, p0.1] using this
        have hW := hw.alloc_named (C.id d) (.cells (nextV g (C.id d)) (ps.flatMap fun p => p.2.cells)) (.row (some w.heap.size) ti.size len) (pv.toList.flatMap fun p => p.2.cells.toList).toArray e (fun _ => none) (by simp) (nextV_lt g _) rfl
            ⟨hw.below.size, fun j => by rw [memAdd_nothing]; exact hw.none_new j, _, e, heap_alloc_new _ _, by simp only [List.size_toArray]; exact hfl, by simp only [List.size_toArray]; exact Nat.le_of_eq hrep.1, fun j x v h1 h2 => by
              rw [memAdd_nothing]
              exact (hrep.2 j x v h1 (by simpa using h2)).mono (Mem.le.refl _) (Phi.le_add hn)⟩
        rw [memAdd_nothing] at hW
        refine ⟨_, _, M, _, hrun, Mem.le.refl _, Phi.le_add hn, add_mem, ?_, hW⟩
        exact .osl (r := some w.heap.size) (C := len) (by simp [Phi.add, Blk.ver]) (by omega) (Nat.le_refl _) (by simp) (by simp) (by intro q hq _; cases hq; simp)

end
end Go.Av
