import Derived.Test.YtjinngfpbmkhaaaAvH
namespace Go.Av
set_option linter.unusedVariables false
set_option linter.unusedSimpArgs false
open Go.RowKit

section
variable {P : Program} {w0 w : World} {M : Mem} {φ : Phi} {g : GH}

theorem memAdd_nothing (M : Mem) (r : Nat) : memAdd M r (fun _ => none) = M := by
  funext q j; unfold memAdd; split <;> rfl



theorem add_mem {id ver : Nat} {hd : Hd} {b : Blk} : ∀ i v h, φ.add id ver hd i v = some h → φ i v = some h ∨ ∃ c, (i, c) ∈ [(id, b)] := by
  intro i v h hh
  unfold Phi.add at hh
  split at hh
  · rename_i hc; exact .inr ⟨b, by simp [hc.1]⟩
  · exact .inl hh

/-- cells of one's own, laid in a new block: a box -/
theorem alloc_box (hw : Wr w0 M φ g w) (id : Nat) (cs : List AV) (arr : Array Value) (e : TypeId) (hr : RepL M φ cs arr.toList) :
    Wr w0 M (φ.add id (nextV g id) (.box w.heap.size)) (gput g id (.cells (nextV g id) cs)) (w.alloc (.cells arr e (0, 0))) := by
  have hn : φ id (nextV g id) = Option.none := hw.fresh_ver (nextV_lt g id)
  have := hw.alloc_named id (.cells (nextV g id) cs) (.box w.heap.size) arr e (fun _ => none) (by simp) (nextV_lt g id) rfl (by
    rw [memAdd_nothing]
    refine ⟨hw.below.size, fun j => hw.none_new j, arr, e, heap_alloc_new _ _, by simpa using hr.1.symm, ?_⟩
    intro j x v h1 h2
    exact (hr.2 j x v h1 (by simpa using h2)).mono (Mem.le.refl _) (Phi.le_add hn))
  rw [memAdd_nothing] at this
  exact this

theorem allocA_gives (hw : Wr w0 M φ g w) {C : Cfg} {d : Nat} {cs : List AV} {arr : Array Value} {e : TypeId} (hr : RepL M φ cs arr.toList) :
    Gives P (do pure (.pointer (some (← newRow e arr)))) w0 M φ g w (allocA C d g cs).v (allocA C d g cs).wr := by
  have hn : φ (C.id d) (nextV g (C.id d)) = Option.none := hw.fresh_ver (nextV_lt g _)
  refine ⟨.pointer (some ⟨w.heap.size, 0, none⟩), w.alloc (.cells arr e (0, 0)), M, _, by simp [newRow], Mem.le.refl _, Phi.le_add hn, add_mem, ?_, alloc_box hw (C.id d) cs arr e hr⟩
  exact .ptr (hd := .box w.heap.size) (by simp [Phi.add]) rfl

def arrSplice (arr : Array Value) (k : Nat) (vs : List Value) : Array Value := (arr.toList.take k ++ vs ++ arr.toList.drop (k + vs.length)).toArray

theorem setRow_self (w : World) (g : Nat) (cs : Array Value) (t : TypeId) (fr : Nat × Nat) (hg : w.heap[g]? = some (.cells cs t fr)) : w.setRow g cs = w := by
  have hlt : g < w.heap.size := (Array.getElem?_eq_some_iff.1 hg).1
  have hv : w.heap[g] = .cells cs t fr := (Array.getElem?_eq_some_iff.1 hg).2
  unfold World.setRow
  cases w with
  | mk heap tape drawn os output =>
    congr 1
    apply Array.ext
    · simp
    · intro k h1 h2
      simp only [Array.getElem_modify]
      split
      · rename_i hk; subst hk; simp at hv; simp [hv]
      · rfl

theorem run_storeCells_splice (P : Program) (r : Nat) (t : TypeId) (o : Nat) : ∀ (vs : List Value) (i : Nat) (cur : Array Value) (w : World), w.heap[r]? = some (.cells cur t (0, 0)) → o + i + vs.length ≤ cur.size → (∀ v ∈ vs, v.oneCell' = true) →
    (storeCells ⟨r, o, none⟩ vs i).run P w = .ok () (w.setRow r (arrSplice cur (o + i) vs))
  | [], i, cur, w, hg, hl, _ => by
    have : arrSplice cur (o + i) [] = cur := by simp [arrSplice]
    rw [this, setRow_self w r cur t (0, 0) hg]
    rfl
  | v :: rest, i, cur, w, hg, hl, h1 => by
    simp only [List.length_cons] at hl
    have hi : o + i < cur.size := by omega
    have hcell : w.cell? ⟨r, o + i, none⟩ = some cur[o + i] := by simp [World.cell?, hg, hi]
    have hfro : w.frozen? ⟨r, o + i, none⟩ = false := by simp [World.frozen?, hg]
    have hst : (store ((⟨r, o, none⟩ : Addr).add i) v).run P w = .ok () (w.setRow r (cur.setIfInBounds (o + i) v)) := by
      rw [addr_add, run_store P w _ v _ (h1 v (by simp)), hcell]
      simp [hfro, setCell_eq_setRow w r (o + i) cur t (0, 0) v hg]
    have ih := run_storeCells_splice P r t o rest (i + 1) (cur.setIfInBounds (o + i) v) (w.setRow r (cur.setIfInBounds (o + i) v)) (setRow_heap w r cur _ t _ hg) (by simp; omega) (fun x hx => h1 x (by simp [hx]))
    simp only [storeCells, Sem.run_bind, hst, Result.andThen_ok, ih, setRow_setRow]
    congr 2
    unfold arrSplice
    congr 1
    apply List.ext_getElem?
    intro k
    have e1 : min (o + (i + 1)) cur.size = o + i + 1 := by omega
    have e2 : min (o + i) cur.size = o + i := by omega
    simp only [Array.toList_setIfInBounds, List.append_assoc, List.getElem?_append, List.length_take, List.length_set, Array.length_toList, List.getElem?_drop, List.length_cons, e1, e2]
    by_cases a0 : k < o + i
    · have a1 : k < o + i + 1 := by omega
      rw [if_pos a1, if_pos a0, List.getElem?_take_of_lt (by omega), List.getElem?_take_of_lt (by omega), List.getElem?_set_ne (by omega)]
    · by_cases a2 : k = o + i
      · subst a2
        rw [if_pos (by omega), if_neg (by omega), if_pos (by omega), List.getElem?_take_of_lt (by omega), Nat.sub_self, List.getElem?_cons_zero, List.getElem?_set_self (by simp; omega)]
      · have a1 : ¬ k < o + i + 1 := by omega
        have a3 : k - (o + i) = (k - (o + i + 1)) + 1 := by omega
        simp only [a1, a0, if_false, a3, List.getElem?_cons_succ, Nat.add_lt_add_iff_right]
        split
        · rfl
        · rw [List.getElem?_set_ne (by omega)]
          congr 1
          omega

theorem arrSplice_get (arr : Array Value) (k : Nat) (vs : List Value) (j : Nat) (hk : k + vs.length ≤ arr.size) :
    (arrSplice arr k vs)[j]? = if k ≤ j ∧ j < k + vs.length then vs[j - k]? else arr[j]? := by
  have e2 : min k arr.size = k := by omega
  simp only [arrSplice, List.getElem?_toArray, List.append_assoc, List.getElem?_append, List.length_take, Array.length_toList, List.getElem?_drop, e2]
  by_cases h1 : j < k
  · rw [if_pos h1, if_neg (by omega), List.getElem?_take_of_lt h1]; simp
  · by_cases h2 : j - k < vs.length
    · rw [if_neg h1, if_pos h2, if_pos (by omega)]
    · rw [if_neg h1, if_neg h2, if_neg (by omega)]
      have : k + vs.length + (j - k - vs.length) = j := by omega
      simp [this]

theorem arrSplice_size (arr : Array Value) (k : Nat) (vs : List Value) (hk : k + vs.length ≤ arr.size) : (arrSplice arr k vs).size = arr.size := by
  simp [arrSplice]; omega

theorem below_setRow {w0 w : World} {B r : Nat} {cs : Array Value} (h : Below B w0 w) (hr : B ≤ r) : Below B w0 (w.setRow r cs) :=
  h.trans ⟨rfl, rfl, rfl, by simp, fun k hk => setRow_other w r k cs (by omega)⟩

theorem cell_setRow_ne (w : World) (r q j : Nat) (cs : Array Value) (h : q ≠ r) : (w.setRow r cs).cell? ⟨q, j, none⟩ = w.cell? ⟨q, j, none⟩ := cell_setRow_other w r cs ⟨q, j, none⟩ h

theorem repL_splice_arr {cs xs : List AV} {arr : Array Value} {us : List Value} (off : Nat) (hle : cs.length ≤ arr.size) (hoff : off + xs.length ≤ cs.length) (hr : ∀ (j : Nat) (x : AV) (v : Value), cs[j]? = some x → arr[j]? = some v → Rep M φ x v)
    (hx : RepL M φ xs us) : ∀ (j : Nat) (x : AV) (v : Value), (splice cs off xs)[j]? = some x → (arrSplice arr off us)[j]? = some v → Rep M φ x v := by
  intro j x v h1 h2
  rw [arrSplice_get arr off us j (by rw [← hx.1]; omega)] at h2
  have e2 : min off cs.length = off := by omega
  simp only [splice, List.append_assoc, List.getElem?_append, List.length_take, List.getElem?_drop, e2] at h1
  by_cases a1 : j < off
  · rw [if_pos a1, List.getElem?_take_of_lt a1] at h1
    rw [if_neg (by omega)] at h2
    exact hr j x v h1 h2
  · by_cases a2 : j - off < xs.length
    · rw [if_neg a1, if_pos a2] at h1
      rw [if_pos (by rw [← hx.1]; omega)] at h2
      exact hx.2 _ x v h1 h2
    · rw [if_neg a1, if_neg a2] at h1
      rw [if_neg (by rw [← hx.1]; omega)] at h2
      have : off + xs.length + (j - off - xs.length) = j := by omega
      rw [this] at h1
      exact hr j x v h1 h2

theorem splice_length {cs xs : List AV} {off : Nat} (h : off + xs.length ≤ cs.length) : (splice cs off xs).length = cs.length := by
  simp [splice]; omega

def GivesU (P : Program) (s : Sem Unit) (w0 : World) (M : Mem) (φ : Phi) (g : GH) (w : World) (wr : List (Nat × Blk)) : Prop :=
  ∃ w' M' φ', s.run P w = .ok () w' ∧ Mem.le M M' ∧ Phi.le φ φ' ∧ (∀ id ver hd, φ' id ver = some hd → φ id ver = some hd ∨ ∃ b, (id, b) ∈ wr) ∧ Wr w0 M' φ' (gputs g wr) w'

theorem storeA_gives (hw : Wr w0 M φ g w) {C : Cfg} {t : TypeId} {x a : AV} {xv av : Value} (hP : C.P = P) (hx : Rep M φ x xv) (ha : Rep M φ a av) (hp : (storeA C t g x a).pre) :
    GivesU P (Instr.storeAt t av xv) w0 M φ g w (storeA C t g x a).wr := by
  subst hP
  cases a <;> simp only [storeA] at hp ⊢ <;> first | exact hp.elim | skip
  rename_i id ver off
  cases hti : tyI C.P t with
  | none => rw [hti] at hp; exact hp.elim
  | some ti =>
    cases hg : g id with
    | none => rw [hti, hg] at hp; exact hp.elim
    | some b =>
      cases b with
      | tok v => rw [hti, hg] at hp; exact hp.elim
      | cells v cs =>
        rw [hti, hg] at hp
        obtain ⟨rfl, hle, hsz, hsc, hmay⟩ := hp
        obtain ⟨k1, k2⟩ := rep_cells_s hx hsc
        cases ha with
        | @ptr _ _ _ _ r hd h1 h2 =>
          obtain ⟨hd', hp', hok⟩ := hw.blk id _ hg
          have : hd' = hd := by rw [show (Blk.cells v cs).ver = v from rfl, h1] at hp'; cases hp'; rfl
          subst this
          have hcells : ∃ (arr : Array Value) (e : TypeId), w.heap[r]? = some (.cells arr e (0, 0)) ∧ cs.length ≤ arr.size ∧ w0.heap.size ≤ r ∧ (∀ j, M r j = none) ∧ ∀ (j : Nat) (x : AV) (v : Value), cs[j]? = some x → arr[j]? = some v → Rep M φ x v := by
            cases hd' with
            | box q =>
              obtain rfl : q = r := by simpa [Hd.blk] using h2
              obtain ⟨h3, h4, arr, e, h5, h6, h7⟩ := hok
              exact ⟨arr, e, h5, by omega, h3, h4, h7⟩
            | row q sz cap =>
              obtain rfl : q = some r := by simpa [Hd.blk] using h2
              obtain ⟨h3, h4, arr, e, h5, h6, h7, h8⟩ := hok
              exact ⟨arr, e, h5, h7, h3, h4, h8⟩
            | tk q own sz len cap => cases q <;> cases own <;> exact hok.elim
          obtain ⟨arr, e, h5, h6, hB, hn, h7⟩ := hcells
          have hus : xv.cells.toList.length = ti.size := by rw [← k1.1]; exact hsz
          have hrun := run_storeCells_splice C.P r e off xv.cells.toList 0 arr w h5 (by omega) k2
          simp only [Nat.add_zero] at hrun
          have hle' : off + xv.cells.toList.length ≤ arr.size := by omega
          refine ⟨w.setRow r (arrSplice arr off xv.cells.toList), M, φ, ?_, Mem.le.refl _, Phi.le.refl _, fun _ _ _ h => .inl h, ?_⟩
          · have : xv.cells.size = ti.size := by simpa using hus
            simp only [Instr.storeAt, Instr.sureAddr, Sem.run_bind, Sem.run_pure, Result.andThen_ok, storeVar, run_sizeOf_ty hti, this, ne_eq, not_true_eq_false, if_false, hrun]
          · refine hw.rewrite id (.cells v cs) (.cells v (splice cs off x.cells)) hd' hg h1 rfl (below_setRow hw.below hB) ?_ ?_ ?_
            · intro q j u hm
              have : q ≠ r := by intro e; subst e; rw [hn] at hm; cases hm
              rw [cell_setRow_ne w r q j _ this]
              exact hw.mem q j u hm
            · intro i b hd'' q hi hb hpq hq
              refine setRow_other w r q _ ?_
              intro e; subst e
              exact hi (hw.inj i id b _ hd'' hd' q hb hg hpq h1 hq h2)
            · have hnew := setRow_heap w r arr (arrSplice arr off xv.cells.toList) e (0, 0) h5
              have hrep := repL_splice_arr (M := M) (φ := φ) off h6 (by rw [hsz]; omega) h7 k1
              cases hd' with
              | box q =>
                obtain rfl : q = r := by simpa [Hd.blk] using h2
                obtain ⟨_, _, arr', e', h5', h6', _⟩ := hok
                rw [h5] at h5'; cases h5'
                exact ⟨hB, hn, _, e, hnew, by rw [arrSplice_size _ _ _ hle', splice_length (by rw [hsz]; omega)]; exact h6', hrep⟩
              | row q sz cap =>
                obtain rfl : q = some r := by simpa [Hd.blk] using h2
                obtain ⟨_, _, arr', e', h5', h6', h7', _⟩ := hok
                rw [h5] at h5'; cases h5'
                exact ⟨hB, hn, _, e, hnew, by rw [arrSplice_size _ _ _ hle']; exact h6', by rw [arrSplice_size _ _ _ hle', splice_length (by rw [hsz]; omega)]; exact h6, hrep⟩
              | tk q own sz len cap => cases q <;> cases own <;> exact hok.elim

theorem splice_nil (cs : List AV) (off : Nat) : splice cs off [] = cs := by simp [splice]

theorem gputs_self {g : GH} {id : Nat} {b : Blk} (h : g id = some b) : gputs g [(id, b)] = g := by
  show gput g id b = g
  funext j; unfold gput; split
  · rename_i e; subst e; exact h.symm
  · rfl

theorem clearA_gives (hw : Wr w0 M φ g w) {C : Cfg} {t ty : TypeId} {x : AV} {xv : Value} (hP : C.P = P) (hx : Rep M φ x xv) (hp : (clearA C t g x).pre) :
    Gives P (Builtin.clear_ #[t] ty #[xv]) w0 M φ g w (clearA C t g x).v (clearA C t g x).wr := by
  subst hP
  cases x <;> simp only [clearA] at hp ⊢ <;> first | exact hp.elim | skip
  rename_i id ver sz off len
  cases hsl : slT C.P t with
  | none => rw [hsl] at hp; exact hp.elim
  | some e =>
    cases hg : g id with
    | none => rw [hsl, hg] at hp; exact hp.elim
    | some b =>
      cases b with
      | tok v => rw [hsl, hg] at hp; exact hp.elim
      | cells v cs =>
        simp only [hsl, hg] at hp ⊢
        cases hti : tyI C.P e with
        | none => rw [hti] at hp; exact hp.elim
        | some ti =>
          cases hz : zeroI C.P e with
          | none => rw [hti, hz] at hp; exact hp.elim
          | some zl =>
            match zl, hz, hp with
            | [], hz, hp => rw [hti, hz] at hp; exact hp.elim
            | _ :: _ :: _, hz, hp => rw [hti, hz] at hp; exact hp.elim
            | [z], hz, hp =>
              rw [hti, hz] at hp
              obtain ⟨rfl, rfl, hag, hidf, hle, hmay⟩ := hp
              have hu := slT_inv hsl
              obtain ⟨inf, zv, hi, hiz, hzz⟩ := zeroI_inv hz
              obtain ⟨zc, hzc⟩ : ∃ zc, zv.cells = #[zc] := by
                match h : zv.cells with
                | ⟨[]⟩ => rw [h] at hzz; simp at hzz
                | ⟨[c]⟩ => exact ⟨c, rfl⟩
                | ⟨_ :: _ :: _⟩ => rw [h] at hzz; simp at hzz
              have hzr : Rep M φ z zc := by
                rw [hzc] at hzz; simp at hzz; rw [hzz]; exact rep_ofConst zc
              have hsc : z.scalar = true := by
                revert hidf; cases z <;> simp [AV.idf, AV.scalar]
              have h1 : zc.oneCell' = true := hzr.scalar hsc
              have hzv : ∀ w, (zeroValue e).run C.P w = .ok zv w := fun w => by simp [zeroValue, typeInfo, hi, hiz]
              cases hx with
              | @osl _ _ _ _ _ _ a cap Cp r hφ hC hcap hnone hz0 ha =>
                by_cases hl0 : len = 0
                · subst hl0
                  refine ⟨.tuple #[], w, M, φ, ?_, Mem.le.refl _, Phi.le.refl _, fun _ _ _ h => .inl h, .tup rfl (by simp), ?_⟩
                  · cases a <;> simp [Builtin.clear_, run_underlying hu]
                  · simp only [List.replicate_zero, splice_nil]
                    rw [gputs_self hg]; exact hw
                · obtain ⟨q, rfl⟩ : ∃ q, r = some q := by
                    cases r with
                    | none => have := hz0 rfl; omega
                    | some q => exact ⟨q, rfl⟩
                  have hcap0 : cap ≠ 0 := by omega
                  rw [ha q rfl hcap0] at *
                  obtain ⟨hd', hp', hok⟩ := hw.blk id _ hg
                  have : hd' = .row (some q) 1 Cp := by rw [show (Blk.cells v cs).ver = v from rfl, hφ] at hp'; cases hp'; rfl
                  subst this
                  obtain ⟨hB, hn, arr, et, h5, h6', h6, h7⟩ := hok
                  have hus : (List.replicate len zc).length = len := by simp
                  have hle' : off * 1 + (List.replicate len zc).length ≤ arr.size := by simp; omega
                  have hrun := run_storeCells_splice C.P q et (off * 1) (List.replicate len zc) 0 arr w h5 (by simpa using hle') (by intro v hv; rw [List.eq_of_mem_replicate hv]; exact h1)
                  simp only [Nat.add_zero, Nat.mul_one] at hrun hle'
                  have hzcs : (Builtin.zeroCells zv.cells len).toList = List.replicate len zc := by
                    rw [hzc]
                    simp [Builtin.zeroCells]
                    apply List.ext_getElem
                    · simp
                    · intro i h1 h2
                      simp [Nat.mod_one]
                  have hxs : RepL M φ (List.replicate len z) (List.replicate len zc) := ⟨by simp, fun i x v h1 h2 => by
                    rw [List.eq_of_mem_replicate (List.mem_of_getElem? h1), List.eq_of_mem_replicate (List.mem_of_getElem? h2)]; exact hzr⟩
                  refine ⟨.tuple #[], w.setRow q (arrSplice arr off (List.replicate len zc)), M, φ, ?_, Mem.le.refl _, Phi.le.refl _, fun _ _ _ h => .inl h, .tup rfl (by simp), ?_⟩
                  · obtain ⟨m, rfl⟩ : ∃ m, len = m + 1 := ⟨len - 1, by omega⟩
                    simp [Builtin.clear_, run_underlying hu, hzv, hzcs, hrun]
                  · refine hw.rewrite id (.cells v cs) (.cells v (splice cs off (List.replicate len z))) (.row (some q) 1 Cp) hg hφ rfl (below_setRow hw.below hB) ?_ ?_ ?_
                    · intro q' j u hm
                      have : q' ≠ q := by intro e; subst e; rw [hn] at hm; cases hm
                      rw [cell_setRow_ne w q q' j _ this]
                      exact hw.mem q' j u hm
                    · intro i b hd'' q' hi hb hpq hq
                      refine setRow_other w q q' _ ?_
                      intro e; subst e
                      exact hi (hw.inj i id b _ hd'' _ q' hb hg hpq hφ hq rfl)
                    · have hnew := setRow_heap w q arr (arrSplice arr off (List.replicate len zc)) et (0, 0) h5
                      have hrep := repL_splice_arr (M := M) (φ := φ) off h6 (by simpa using hle) h7 hxs
                      exact ⟨hB, hn, _, et, hnew, by rw [arrSplice_size _ _ _ hle']; exact h6', by rw [arrSplice_size _ _ _ hle', splice_length (by simpa using hle)]; exact h6, hrep⟩

end
end Go.Av
