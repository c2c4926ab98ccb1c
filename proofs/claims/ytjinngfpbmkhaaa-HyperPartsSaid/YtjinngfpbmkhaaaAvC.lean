import Derived.Test.YtjinngfpbmkhaaaAvB
namespace Go.Av
set_option linter.unusedVariables false
set_option linter.unusedSimpArgs false
open Go.RowKit

section
variable {w0 w w' : World} {M M' : Mem} {φ φ' : Phi} {g : GH}

theorem Wr.lt_of_mem (h : Wr w0 M φ g w) {r j : Nat} {v : Value} (hm : M r j = some v) : r < w.heap.size := World.block_lt_of_cell? w (a := ⟨r, j, none⟩) (h.mem r j v hm)

theorem Wr.none_new (h : Wr w0 M φ g w) (j : Nat) : M w.heap.size j = none := by
  cases hm : M w.heap.size j with
  | none => rfl
  | some v => have := h.lt_of_mem hm; omega

theorem heap_lt {w : World} {r : Nat} {o : Obj} (h : w.heap[r]? = some o) : r < w.heap.size := (Array.getElem?_eq_some_iff.1 h).1

theorem BlkOk.keep {B : Nat} {b : Blk} {hd : Hd} (h : BlkOk B M φ w b hd) (hM : Mem.le M M') (hφ : Phi.le φ φ')
    (hr : ∀ r, hd.blk = some r → w'.heap[r]? = w.heap[r]? ∧ ∀ j, M' r j = M r j) : BlkOk B M' φ' w' b hd := by
  cases b with
  | cells ver cs =>
    cases hd with
    | box r =>
      obtain ⟨hB, hn, arr, e, ha, hs, hx⟩ := h
      obtain ⟨h1, h2⟩ := hr r rfl
      exact ⟨hB, fun j => by rw [h2]; exact hn j, arr, e, by rw [h1]; exact ha, hs, fun j x v hj hv => (hx j x v hj hv).mono hM hφ⟩
    | row r sz cap =>
      cases r with
      | none => exact h
      | some r =>
        obtain ⟨hB, hn, arr, e, ha, hs, hl, hx⟩ := h
        obtain ⟨h1, h2⟩ := hr r rfl
        exact ⟨hB, fun j => by rw [h2]; exact hn j, arr, e, by rw [h1]; exact ha, hs, hl, fun j x v hj hv => (hx j x v hj hv).mono hM hφ⟩
    | tk r own sz len cap => cases r <;> cases own <;> exact h.elim
  | tok ver =>
    cases hd with
    | box r => exact h.elim
    | row r sz cap => cases r <;> exact h.elim
    | tk r own sz len cap =>
      cases own with
      | false => cases r <;> exact h
      | true =>
      cases r with
      | none => exact h.elim
      | some r =>
        obtain ⟨hB, hl, hz, hn, arr, e, ha, hs⟩ := h
        obtain ⟨h1, h2⟩ := hr r rfl
        exact ⟨hB, hl, hz, fun j hj => by rw [h2]; exact hn j hj, arr, e, by rw [h1]; exact ha, hs⟩

/-- A claimed block lies in the heap. -/
theorem BlkOk.lt {B : Nat} {b : Blk} {hd : Hd} (h : BlkOk B M φ w b hd) {r : Nat} (hr : hd.blk = some r) : r < w.heap.size ∧ B ≤ r := by
  cases b with
  | cells ver cs =>
    cases hd with
    | box q =>
      obtain rfl : q = r := by simpa [Hd.blk] using hr
      obtain ⟨hB, hn, arr, e, ha, _⟩ := h; exact ⟨heap_lt ha, hB⟩
    | row q sz cap =>
      obtain rfl : q = some r := by simpa [Hd.blk] using hr
      obtain ⟨hB, hn, arr, e, ha, _⟩ := h; exact ⟨heap_lt ha, hB⟩
    | tk q own sz len cap => cases q <;> cases own <;> exact h.elim
  | tok ver =>
    cases hd with
    | box q => exact h.elim
    | row q sz cap => cases q <;> exact h.elim
    | tk q own sz len cap =>
      cases own with
      | false => simp [Hd.blk] at hr
      | true =>
        obtain rfl : q = some r := by simpa [Hd.blk] using hr
        obtain ⟨hB, hl, hz, hn, arr, e, ha, hs⟩ := h; exact ⟨heap_lt ha, hB⟩

def Phi.add (φ : Phi) (id ver : Nat) (hd : Hd) : Phi := fun i v => if i = id ∧ v = ver then some hd else φ i v

theorem Wr.fresh_ver (h : Wr w0 M φ g w) {id ver : Nat} (hv : ∀ b, g id = some b → b.ver < ver) : φ id ver = Option.none := by
  cases hp : φ id ver with
  | none => rfl
  | some hd => obtain ⟨b, hb, hle⟩ := h.dom id ver hd hp; have := hv b hb; omega

theorem Phi.le_add {id ver : Nat} {hd : Hd} (h : φ id ver = Option.none) : Phi.le φ (φ.add id ver hd) := by
  intro i v x hx
  unfold Phi.add
  split
  · rename_i hc; obtain ⟨rfl, rfl⟩ := hc; rw [h] at hx; cases hx
  · exact hx

theorem Wr.renew (h : Wr w0 M φ g w) (id : Nat) (b' : Blk) (hd' : Hd) (hb : Below w0.heap.size w0 w') (hm : ∀ r j v, M' r j = some v → w'.cell? ⟨r, j, none⟩ = some v) (hM : Mem.le M M')
    (hver : ∀ b, g id = some b → b.ver < b'.ver)
    (hkeep : ∀ i b hd r, i ≠ id → g i = some b → φ i b.ver = some hd → hd.blk = some r → w'.heap[r]? = w.heap[r]? ∧ (∀ j, M' r j = M r j) ∧ hd'.blk ≠ some r)
    (hok : BlkOk w0.heap.size M' (φ.add id b'.ver hd') w' b' hd') : Wr w0 M' (φ.add id b'.ver hd') (gput g id b') w' := by
  have hnone := h.fresh_ver hver
  have hadd : ∀ i v, i ≠ id → φ.add id b'.ver hd' i v = φ i v := fun i v hi => by unfold Phi.add; rw [if_neg (fun hc => hi hc.1)]
  have hself : φ.add id b'.ver hd' id b'.ver = some hd' := by unfold Phi.add; simp
  refine ⟨hb, hm, ?_, ?_, ?_⟩
  · intro i b hi
    by_cases e : i = id
    · subst e
      simp only [gput, if_true, Option.some.injEq] at hi
      subst hi
      exact ⟨hd', hself, hok⟩
    · simp only [gput, e, if_false] at hi
      obtain ⟨hd, hp, hk⟩ := h.blk i b hi
      exact ⟨hd, by rw [hadd _ _ e]; exact hp, hk.keep hM (Phi.le_add hnone) fun r hr => ⟨(hkeep i b hd r e hi hp hr).1, (hkeep i b hd r e hi hp hr).2.1⟩⟩
  · intro i i' b b₂ hd hd₂ r h1 h2 h3 h4 h5 h6
    by_cases e : i = id
    · by_cases e' : i' = id
      · omega
      · exfalso
        subst e
        simp only [gput, if_true, Option.some.injEq] at h1
        subst h1
        rw [hself] at h3
        simp only [gput, e', if_false] at h2
        rw [hadd _ _ e'] at h4
        cases h3
        exact (hkeep i' b₂ hd₂ r e' h2 h4 h6).2.2 h5
    · by_cases e' : i' = id
      · exfalso
        subst e'
        simp only [gput, if_true, Option.some.injEq] at h2
        subst h2
        rw [hself] at h4
        simp only [gput, e, if_false] at h1
        rw [hadd _ _ e] at h3
        cases h4
        exact (hkeep i b hd r e h1 h3 h5).2.2 h6
      · simp only [gput, e, if_false] at h1
        simp only [gput, e', if_false] at h2
        rw [hadd _ _ e] at h3
        rw [hadd _ _ e'] at h4
        exact h.inj i i' b b₂ hd hd₂ r h1 h2 h3 h4 h5 h6
  · intro i v hd hp
    by_cases e : i = id
    · subst e
      refine ⟨b', by simp [gput], ?_⟩
      unfold Phi.add at hp
      split at hp
      · rename_i hc; omega
      · obtain ⟨b, hb1, hb2⟩ := h.dom i v hd hp; have := hver b hb1; omega
    · rw [hadd _ _ e] at hp
      simpa [gput, e] using h.dom i v hd hp

/-- A block written anew, under its own name and number. -/
theorem Wr.rewrite (h : Wr w0 M φ g w) (id : Nat) (b b' : Blk) (hd : Hd) (hg : g id = some b) (hφ : φ id b.ver = some hd) (hv : b'.ver = b.ver) (hb : Below w0.heap.size w0 w')
    (hm : ∀ r j v, M r j = some v → w'.cell? ⟨r, j, none⟩ = some v)
    (hkeep : ∀ i b hd' r, i ≠ id → g i = some b → φ i b.ver = some hd' → hd'.blk = some r → w'.heap[r]? = w.heap[r]?)
    (hok : BlkOk w0.heap.size M φ w' b' hd) : Wr w0 M φ (gput g id b') w' := by
  refine ⟨hb, hm, ?_, ?_, ?_⟩
  · intro i b₁ hi
    by_cases e : i = id
    · subst e
      simp only [gput, if_true, Option.some.injEq] at hi
      subst hi
      exact ⟨hd, by rw [hv]; exact hφ, hok⟩
    · simp only [gput, e, if_false] at hi
      obtain ⟨hd₁, hp, hk⟩ := h.blk i b₁ hi
      exact ⟨hd₁, hp, hk.keep (Mem.le.refl _) (Phi.le.refl _) fun r hr => ⟨hkeep i b₁ hd₁ r e hi hp hr, fun _ => rfl⟩⟩
  · intro i i' b₁ b₂ hd₁ hd₂ r h1 h2 h3 h4 h5 h6
    have key : ∀ i b₁, gput g id b' i = some b₁ → ∃ b₀, g i = some b₀ ∧ b₀.ver = b₁.ver := by
      intro i b₁ hi
      by_cases e : i = id
      · subst e
        simp only [gput, if_true, Option.some.injEq] at hi
        subst hi
        exact ⟨b, hg, hv.symm⟩
      · simp only [gput, e, if_false] at hi
        exact ⟨b₁, hi, rfl⟩
    obtain ⟨c₁, k1, k2⟩ := key i b₁ h1
    obtain ⟨c₂, k3, k4⟩ := key i' b₂ h2
    exact h.inj i i' c₁ c₂ hd₁ hd₂ r k1 k3 (by rw [k2]; exact h3) (by rw [k4]; exact h4) h5 h6
  · intro i v hd₁ hp
    obtain ⟨b₁, k1, k2⟩ := h.dom i v hd₁ hp
    by_cases e : i = id
    · subst e
      rw [hg] at k1
      cases k1
      exact ⟨b', by simp [gput], by omega⟩
    · exact ⟨b₁, by simp [gput, e, k1], k2⟩

/-- Memory that has grown, the heap of names as it was. -/
theorem Wr.grow (h : Wr w0 M φ g w) (hb : Below w0.heap.size w0 w') (hm : ∀ r j v, M' r j = some v → w'.cell? ⟨r, j, none⟩ = some v) (hM : Mem.le M M')
    (hkeep : ∀ r, r < w.heap.size → w'.heap[r]? = w.heap[r]? ∧ ∀ j, M' r j = M r j) : Wr w0 M' φ g w' :=
  ⟨hb, hm, fun id b hg => let ⟨hd, hp, hk⟩ := h.blk id b hg; ⟨hd, hp, hk.keep hM (Phi.le.refl _) fun r hr => hkeep r (hk.lt hr).1⟩, h.inj, h.dom⟩

theorem Wr.drew (h : Wr w0 M φ g w) : Wr w0 M φ g w.drew :=
  h.grow h.below.drew (fun r j v hm => h.mem r j v hm) (Mem.le.refl _) fun _ _ => ⟨rfl, fun _ => rfl⟩

def memAdd (M : Mem) (r : Nat) (f : Nat → Option Value) : Mem := fun q j => if q = r then (match f j with | some v => some v | none => M q j) else M q j

theorem memAdd_le {r : Nat} {f : Nat → Option Value} (h : ∀ j v, f j = some v → M r j = none) : Mem.le M (memAdd M r f) := by
  intro q j v hm
  unfold memAdd
  split
  · rename_i e; subst e
    cases hf : f j with
    | none => exact hm
    | some u => rw [h j u hf] at hm; cases hm
  · exact hm

theorem memAdd_other {r q : Nat} {f : Nat → Option Value} (h : q ≠ r) (j : Nat) : memAdd M r f q j = M q j := by unfold memAdd; rw [if_neg h]

theorem memAdd_same {r : Nat} {f : Nat → Option Value} {j : Nat} {v : Value} (h : f j = some v) : memAdd M r f r j = some v := by unfold memAdd; simp [h]

theorem heap_alloc_lt (w : World) (o : Obj) {r : Nat} (h : r < w.heap.size) : (w.alloc o).heap[r]? = w.heap[r]? := Below.heap_alloc w o r h
theorem heap_alloc_new (w : World) (o : Obj) : (w.alloc o).heap[w.heap.size]? = some o := by
  show (w.heap.push o)[w.heap.size]? = some o
  rw [Array.getElem?_push]; simp

theorem Wr.mem_alloc (h : Wr w0 M φ g w) (arr : Array Value) (e : TypeId) (f : Nat → Option Value) (hf : ∀ j v, f j = some v → arr[j]? = some v) :
    ∀ r j v, memAdd M w.heap.size f r j = some v → (w.alloc (.cells arr e (0, 0))).cell? ⟨r, j, none⟩ = some v := by
  intro r j v hm
  by_cases e1 : r = w.heap.size
  · subst e1
    rw [World.cell?_alloc_new]
    unfold memAdd at hm
    simp only [if_true] at hm
    cases hf2 : f j with
    | none => rw [hf2] at hm; simp only [h.none_new] at hm; cases hm
    | some u => rw [hf2] at hm; cases hm; exact hf j v hf2
  · rw [memAdd_other e1] at hm
    have := h.lt_of_mem hm
    rw [World.cell?_alloc_lt (w := w) (a := ⟨r, j, none⟩) (h := this)]
    exact h.mem r j v hm

/-- A new block whose cells nobody writes any more. -/
theorem Wr.alloc_imm (h : Wr w0 M φ g w) (arr : Array Value) (e : TypeId) : Wr w0 (memAdd M w.heap.size (arr[·]?)) φ g (w.alloc (.cells arr e (0, 0))) :=
  h.grow (h.below.alloc h.below.size _) (h.mem_alloc arr e _ fun _ _ hv => hv) (memAdd_le fun j _ _ => h.none_new j)
    fun r hr => ⟨heap_alloc_lt w _ hr, fun j => memAdd_other (by omega) j⟩

/-- A new block under a name. -/
theorem Wr.alloc_named (h : Wr w0 M φ g w) (id : Nat) (b : Blk) (hd : Hd) (arr : Array Value) (e : TypeId) (f : Nat → Option Value) (hf : ∀ j v, f j = some v → arr[j]? = some v)
    (hver : ∀ c, g id = some c → c.ver < b.ver) (hr : hd.blk = some w.heap.size)
    (hok : BlkOk w0.heap.size (memAdd M w.heap.size f) (φ.add id b.ver hd) (w.alloc (.cells arr e (0, 0))) b hd) :
    Wr w0 (memAdd M w.heap.size f) (φ.add id b.ver hd) (gput g id b) (w.alloc (.cells arr e (0, 0))) := by
  refine h.renew id b hd (h.below.alloc h.below.size _) (h.mem_alloc arr e f hf) (memAdd_le fun j _ _ => h.none_new j) hver ?_ hok
  intro i b₁ hd₁ r hi hg hp hr₁
  obtain ⟨hd₂, hp₂, hk⟩ := h.blk i b₁ hg
  rw [hp] at hp₂; cases hp₂
  have hlt := (hk.lt hr₁).1
  refine ⟨heap_alloc_lt w _ hlt, fun j => memAdd_other (by omega) j, ?_⟩
  rw [hr]; intro hc; cases hc; omega

theorem nextV_lt (g : GH) (id : Nat) : ∀ c, g id = some c → c.ver < nextV g id := by
  intro c hc; simp [nextV, hc]

end
end Go.Av
