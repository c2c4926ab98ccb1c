/- The framework of abstract values: how a function is walked. -/
import Derived.Test.YtcnhpclfflcdfaaDoorRAvY
namespace Go.Av
set_option linter.unusedVariables false
set_option linter.unusedSimpArgs false
open Go.RowKit

/-! ### what is one's own, seen as a value, as long as a call lasts -/
/-- An argument, as a call sees it that only reads: without names. -/
def Sees (g : GH) (a a' : AV) : Prop := ∀ (w0 w : World) (M : Mem) (φ : Phi) (v : Value), Wr w0 M φ g w → Rep M φ a v → Rep (memOf w) Phi.none a' v

theorem Sees.idf {g : GH} {a : AV} (h : a.idf = true) : Sees g a a := fun w0 w M φ v hw hr => (idf_rep hr h).mono (fun r j u hu => hw.mem r j u hu) (Phi.le.refl _)

theorem cell_heap {w : World} {r : Nat} {arr : Array Value} {e : TypeId} (h : w.heap[r]? = some (.cells arr e (0, 0))) (j : Nat) : w.cell? ⟨r, j, none⟩ = arr[j]? := by
  simp [World.cell?, h]

theorem cell_lt {w : World} {r j : Nat} {v : Value} (h : w.cell? ⟨r, j, none⟩ = some v) : r < w.heap.size := by
  unfold World.cell? at h
  split at h
  · rename_i h1; exact (Array.getElem?_eq_some_iff.1 h1).1
  · cases h

theorem sees_cells {w0 w : World} {M : Mem} {φ : Phi} {g : GH} (hw : Wr w0 M φ g w) {id ver : Nat} {cs : List AV} (hg : g id = some (.cells ver cs)) {hd : Hd} (hφ : φ id ver = some hd) :
    ∀ r, hd.blk = some r → ∀ (j : Nat) (x : AV), cs[j]? = some x → ∃ u, memOf w r j = some u ∧ Rep M φ x u := by
  obtain ⟨hd', h1, hok⟩ := hw.blk id _ hg
  rw [show (Blk.cells ver cs).ver = ver from rfl, hφ] at h1
  cases h1
  intro r hr j x hx
  have mk : ∀ (arr : Array Value) (e : TypeId), w.heap[r]? = some (.cells arr e (0, 0)) → cs.length ≤ arr.size → (∀ (j : Nat) (x : AV) (u : Value), cs[j]? = some x → arr[j]? = some u → Rep M φ x u) → ∃ u, memOf w r j = some u ∧ Rep M φ x u := by
    intro arr e ha hl hxs
    have hj : j < arr.size := by have := (List.getElem?_eq_some_iff.1 hx).1; omega
    exact ⟨arr[j], by unfold memOf; rw [cell_heap ha]; simp [hj], hxs j x _ hx (by simp [hj])⟩
  cases hd with
  | box q =>
    simp only [Hd.blk, Option.some.injEq] at hr; subst hr
    obtain ⟨_, _, arr, e, ha, hs, hxs⟩ := hok
    exact mk arr e ha (by omega) hxs
  | row q sz cap =>
    cases q with
    | none => simp [Hd.blk] at hr
    | some q =>
      simp only [Hd.blk, Option.some.injEq] at hr; subst hr
      obtain ⟨_, _, arr, e, ha, hs, hl, hxs⟩ := hok
      exact mk arr e ha hl hxs
  | tk q own sz len cap => cases q <;> cases own <;> exact hok.elim

theorem Sees.osl {g : GH} {id ver off len : Nat} {cs : List AV} (hg : g id = some (.cells ver cs)) (hall : cs.all AV.idf = true) (hlen : off + len ≤ cs.length) : Sees g (.osl id ver 1 off len) (.isl none ((cs.drop off).take len) .no) := by
  intro w0 w M φ v hw hr
  have hall : ∀ x, x ∈ cs → x.idf = true := List.all_eq_true.1 hall
  have hφ : ∃ hd, φ id ver = some hd := by
    cases hr with | osl h _ _ _ _ _ => exact ⟨_, h⟩
  obtain ⟨hd, hφ⟩ := hφ
  have hM : Mem.le M (memOf w) := fun r j u hu => hw.mem r j u hu
  have := leF_sound (arr := #[]) hφ hM hall (fun r h j x hx => by
    obtain ⟨u, h1, h2⟩ := sees_cells hw hg hφ r h j x hx
    exact ⟨u, h1, (idf_rep h2 (hall x (List.mem_of_getElem? hx))).mono hM (Phi.le.refl _)⟩) hr (x' := .isl none ((cs.drop off).take len) .no) ⟨rfl, rfl, rfl, rfl, rfl, hlen, rfl⟩
  exact idf_rep this rfl

theorem Sees.box {g : GH} {id ver : Nat} {c c' : AV} (hg : g id = some (.cells ver [c])) (hc : Sees g c c') : Sees g (.ptr id ver 0) (.iptr [c']) := by
  intro w0 w M φ v hw hr
  cases hr with
  | @ptr _ _ _ _ r hd h1 h2 =>
    obtain ⟨u, h3, h4⟩ := sees_cells hw hg h1 r h2 0 c rfl
    refine .iptr (fun _ => u) ?_ ?_
    · intro j x hx
      cases j with
      | zero => exact h3
      | succ j => simp at hx
    · intro j x hx
      cases j with
      | zero => simp at hx; subst hx; exact hc w0 w M φ u hw h4
      | succ j => simp at hx

def SeesL (g : GH) : List AV → List AV → Prop
  | [], [] => True
  | a :: l, b :: m => Sees g a b ∧ SeesL g l m
  | _, _ => False

theorem SeesL.sound {g : GH} {w0 w : World} {M : Mem} {φ : Phi} (hw : Wr w0 M φ g w) : ∀ {l m : List AV} {vs : List Value}, SeesL g l m → RepL M φ l vs → RepL (memOf w) Phi.none m vs
  | [], [], vs, _, h => ⟨h.1, by simp⟩
  | a :: l, b :: m, [], _, h => by have := h.1; simp at this
  | a :: l, b :: m, u :: vs, hs, h => RepL.cons (hs.1 w0 w M φ u hw (h.2 0 a u rfl rfl)) (SeesL.sound hw hs.2 ⟨by have := h.1; simpa using this, fun i x v h1 h2 => h.2 (i + 1) x v (by simpa using h1) (by simpa using h2)⟩)
  | [], b :: m, vs, hs, h => hs.elim
  | a :: l, [], vs, hs, h => hs.elim

/-- a value that reads nothing of the memory -/
def Free (a : AV) : Prop := ∀ (M M' : Mem) (φ : Phi) (v : Value), Rep M φ a v → Rep M' φ a v
theorem Free.lit (v : Value) : Free (.lit v) := fun M M' φ u h => by rw [lit_inv h]; exact .lit v
theorem Free.any : Free .any := fun M M' φ u h => .any u
theorem Free.ptr (i ver off : Nat) : Free (.ptr i ver off) := fun M M' φ u h => by cases h with | ptr h1 h2 => exact .ptr h1 h2
theorem Free.osl (i ver sz off len : Nat) : Free (.osl i ver sz off len) := fun M M' φ u h => by cases h with | osl h hC hcap hnone hz ha => exact .osl h hC hcap hnone hz ha
theorem Free.tup {vs : List AV} (hv : ∀ x, x ∈ vs → Free x) : Free (.tup vs) := fun M M' φ u h => by
  cases h with
  | tup hl hr => exact .tup hl fun i x v h1 h2 => hv x (List.mem_of_getElem? h1) M M' φ v (hr i x v h1 h2)

def gover (g g' : GH) : GH := fun id => match g' id with | some b => some b | none => g id

theorem CallAt.view {P : Program} {n : Nat} {f : FuncId} {args args' : List AV} {g : GH} {R : AV → GH → Prop} (hs : SeesL g args args') (hc : CallAt P n f args' (fun _ => none) R)
    (hR : ∀ r g', R r g' → Free r ∧ ∀ id b, g' id = some b → g id = none ∧ ∃ ver cs, b = .cells ver cs ∧ ∀ x, x ∈ cs → Free x) : CallAt P n f args g (fun r g'' => ∃ g', R r g' ∧ g'' = gover g g') := by
  intro w0 M φ w vs hdom hw hargs
  refine (hc w (memOf w) Phi.none w vs (fun _ _ _ h => by cases h) (wr_start w hw.baseNow) (hs.sound hw hargs)).mono ?_
  rintro e w' ⟨M', φ', v, res, g', rfl, k2, k3, k4, k5, k6, k7⟩
  obtain ⟨hfree, hblk⟩ := hR res g' k7
  have hB : w0.heap.size ≤ w.heap.size := hw.below.size
  have hMlt : ∀ r j u, M r j = some u → r < w.heap.size := fun r j u h => cell_lt (hw.mem r j u h)
  have hold : ∀ id b, g id = some b → g' id = none := fun id b hb => by
    cases h : g' id with
    | none => rfl
    | some c => rw [(hblk id c h).1] at hb; cases hb
  let φ2 : Phi := fun id ver => match φ' id ver with | some hd => some hd | none => φ id ver
  have hφ2 : ∀ id ver hd, φ' id ver = some hd → φ2 id ver = some hd := fun id ver hd h => by simp only [φ2, h]
  have hφn : ∀ id ver, g' id = none → φ' id ver = none := fun id ver h => by
    cases hp : φ' id ver with
    | none => rfl
    | some hd => obtain ⟨b, hb, _⟩ := k5.dom id ver hd hp; rw [h] at hb; cases hb
  have hφ0 : ∀ id ver, g' id = none → φ2 id ver = φ id ver := fun id ver h => by simp only [φ2, hφn id ver h]
  have hle : Phi.le φ φ2 := by
    intro id ver hd h
    obtain ⟨b, hb, _⟩ := hw.dom id ver hd h
    rw [hφ0 id ver (hold id b hb)]; exact h
  have hφ2inv : ∀ id ver hd, φ2 id ver = some hd → φ' id ver = some hd ∨ φ id ver = some hd := by
    intro id ver hd h
    simp only [φ2] at h
    split at h
    · rename_i h1; cases h; exact .inl h1
    · exact .inr h
  have gcase : ∀ id b, gover g g' id = some b → g' id = some b ∨ (g' id = none ∧ g id = some b) := by
    intro id b h
    unfold gover at h
    split at h
    · rename_i h1; cases h; exact .inl h1
    · rename_i h1; exact .inr ⟨h1, h⟩
  have hbig : ∀ id b hd r, g' id = some b → φ' id b.ver = some hd → hd.blk = some r → w.heap.size ≤ r := by
    intro id b hd r hb hp hr
    obtain ⟨hd', h1, hok⟩ := k5.blk id b hb
    rw [hp] at h1; cases h1
    obtain ⟨-, ver, cs, rfl, -⟩ := hblk id b hb
    cases hd with
    | box q => simp only [Hd.blk, Option.some.injEq] at hr; subst hr; exact hok.1
    | row q sz cap => cases q with
      | none => simp [Hd.blk] at hr
      | some q => simp only [Hd.blk, Option.some.injEq] at hr; subst hr; exact hok.1
    | tk q own sz len cap => cases q <;> cases own <;> exact hok.elim
  have hsmall : ∀ id b hd r, g id = some b → φ id b.ver = some hd → hd.blk = some r → r < w.heap.size := by
    intro id b hd r hb hp hr
    obtain ⟨hd', h1, hok⟩ := hw.blk id b hb
    rw [hp] at h1; cases h1
    have key : ∀ {arr : Array Value} {e : TypeId}, w.heap[r]? = some (.cells arr e (0, 0)) → r < w.heap.size := fun h => (Array.getElem?_eq_some_iff.1 h).1
    cases b with
    | cells ver cs =>
      cases hd with
      | box q => simp only [Hd.blk, Option.some.injEq] at hr; subst hr; obtain ⟨_, _, arr, e, ha, _⟩ := hok; exact key ha
      | row q sz cap => cases q with
        | none => simp [Hd.blk] at hr
        | some q => simp only [Hd.blk, Option.some.injEq] at hr; subst hr; obtain ⟨_, _, arr, e, ha, _⟩ := hok; exact key ha
      | tk q own sz len cap => cases q <;> cases own <;> exact hok.elim
    | tok ver =>
      cases hd with
      | box q => exact hok.elim
      | row q sz cap => cases q <;> exact hok.elim
      | tk q own sz len cap =>
        cases own with
        | false => simp [Hd.blk] at hr
        | true =>
          cases q with
          | none => exact hok.elim
          | some q => simp [Hd.blk] at hr; subst hr; obtain ⟨_, _, _, _, arr, e, ha, _⟩ := hok; exact key ha
  have hheap : ∀ r, r < w.heap.size → w'.heap[r]? = w.heap[r]? := fun r hr => k5.below.block r hr
  refine ⟨M, φ2, v, res, gover g g', rfl, Mem.le.refl _, hle, ?_, ?_, (hfree M' M φ' v k6).mono (Mem.le.refl _) hφ2, g', k7, rfl⟩
  · intro id ver hd h
    rcases hφ2inv id ver hd h with h | h
    · exact k4 id ver hd h
    · exact hdom id ver hd h
  · refine ⟨hw.below.trans (k5.below.mono hB), hw.base, ?_, ?_, ?_, ?_⟩
    · intro r j u hu
      rw [k5.below.cell (p := ⟨r, j, none⟩) (hMlt r j u hu)]
      exact hw.mem r j u hu
    · intro id b hb
      rcases gcase id b hb with h1 | ⟨h1, h2⟩
      · obtain ⟨hd, hp, hok⟩ := k5.blk id b h1
        refine ⟨hd, hφ2 _ _ _ hp, ?_⟩
        have hbg := fun r => hbig id b hd r h1 hp
        obtain ⟨-, ver, cs, rfl, hcs⟩ := hblk id b h1
        have hMn : ∀ r, w.heap.size ≤ r → ∀ j, M r j = none := by
          intro r hr j
          cases hu : M r j with
          | none => rfl
          | some u => have := hMlt r j u hu; omega
        have conv : ∀ {arr : Array Value}, (∀ (j : Nat) (x : AV) (u : Value), cs[j]? = some x → arr[j]? = some u → Rep M' φ' x u) → ∀ (j : Nat) (x : AV) (u : Value), cs[j]? = some x → arr[j]? = some u → Rep M φ2 x u :=
          fun hx j x u hj hu => (hcs x (List.mem_of_getElem? hj) M' M φ' u (hx j x u hj hu)).mono (Mem.le.refl _) hφ2
        cases hd with
        | box q =>
          obtain ⟨k1, _, arr, e, ha, hsz, hx⟩ := hok
          exact ⟨by omega, hMn q k1, arr, e, ha, hsz, conv hx⟩
        | row q sz cap =>
          cases q with
          | none => exact hok
          | some q =>
            obtain ⟨k1, _, arr, e, ha, hsz, hl, hx⟩ := hok
            exact ⟨by omega, hMn q k1, arr, e, ha, hsz, hl, conv hx⟩
        | tk q own sz len cap => cases q <;> cases own <;> exact hok.elim
      · obtain ⟨hd, hp, hok⟩ := hw.blk id b h2
        refine ⟨hd, hle _ _ _ hp, hok.keep (Mem.le.refl _) hle fun r hr => ⟨hheap r (hsmall id b hd r h2 hp hr), fun _ => rfl⟩⟩
    · intro i i' b b' hd hd' r h1 h2 h3 h4 h5 h6
      rcases gcase i b h1 with a1 | ⟨a1, b1⟩ <;> rcases gcase i' b' h2 with a2 | ⟨a2, b2⟩
      · have p1 : φ' i b.ver = some hd := by
          obtain ⟨hd1, hp1, _⟩ := k5.blk i b a1
          rw [hφ2 _ _ _ hp1] at h3; cases h3; exact hp1
        have p2 : φ' i' b'.ver = some hd' := by
          obtain ⟨hd1, hp1, _⟩ := k5.blk i' b' a2
          rw [hφ2 _ _ _ hp1] at h4; cases h4; exact hp1
        exact k5.inj i i' b b' hd hd' r a1 a2 p1 p2 h5 h6
      · have p1 : φ' i b.ver = some hd := by
          obtain ⟨hd1, hp1, _⟩ := k5.blk i b a1
          rw [hφ2 _ _ _ hp1] at h3; cases h3; exact hp1
        rw [hφ0 _ _ a2] at h4
        have := hbig i b hd r a1 p1 h5
        have := hsmall i' b' hd' r b2 h4 h6
        omega
      · have p2 : φ' i' b'.ver = some hd' := by
          obtain ⟨hd1, hp1, _⟩ := k5.blk i' b' a2
          rw [hφ2 _ _ _ hp1] at h4; cases h4; exact hp1
        rw [hφ0 _ _ a1] at h3
        have := hbig i' b' hd' r a2 p2 h6
        have := hsmall i b hd r b1 h3 h5
        omega
      · rw [hφ0 _ _ a1] at h3; rw [hφ0 _ _ a2] at h4
        exact hw.inj i i' b b' hd hd' r b1 b2 h3 h4 h5 h6
    · intro id ver hd h
      rcases hφ2inv id ver hd h with h | h
      · obtain ⟨b, hb, hv⟩ := k5.dom id ver hd h
        exact ⟨b, by unfold gover; rw [hb], hv⟩
      · obtain ⟨b, hb, hv⟩ := hw.dom id ver hd h
        exact ⟨b, by unfold gover; rw [hold id b hb]; exact hb, hv⟩

theorem gover_none (g : GH) : gover g (fun _ => none) = g := rfl

/-- a call that only reads, where what it reads is one's own -/
theorem PureC.view {P : Program} {f : FuncId} {args args' : List AV} {g : GH} {res : AV} (hs : SeesL g args args') (hc : PureC P f args' (fun _ => none) res) (hf : Free res) : PureC P f args g res := by
  intro n w0 M φ w vs h1 h2 h3
  refine ((CallAt.view hs (hc n) (by rintro r g' ⟨rfl, rfl⟩; exact ⟨hf, by simp⟩)) w0 M φ w vs h1 h2 h3).mono ?_
  rintro e w' ⟨M', φ', v, r, g', rfl, k2, k3, k4, k5, k6, g'', ⟨rfl, rfl⟩, rfl⟩
  exact ⟨M', φ', v, r, g, rfl, k2, k3, k4, k5, k6, rfl, rfl⟩

theorem keepP_out {n id : Nat} {loc : List (Nat × Blk)} (h : id < n) : keepP n loc id ↔ True := ⟨fun _ => trivial, fun _ => .inl h⟩
/-! ### pointers against none -/
theorem binA_ipeql (P : Program) (t : TypeId) (cs : List AV) : binA P .eql t (.iptr cs) (.lit (.pointer none)) = ⟨kindT P t = 4 ∧ True, .lit (.bool false), [], []⟩ := by exact Eq.trans rfl rfl
theorem binA_ipneq (P : Program) (t : TypeId) (cs : List AV) : binA P .neq t (.iptr cs) (.lit (.pointer none)) = ⟨kindT P t = 4 ∧ True, .lit (.bool true), [], []⟩ := by exact Eq.trans rfl rfl
theorem binA_peql (P : Program) (t : TypeId) (i v o : Nat) : binA P .eql t (.ptr i v o) (.lit (.pointer none)) = ⟨kindT P t = 4 ∧ True, .lit (.bool false), [], []⟩ := by exact Eq.trans rfl rfl
theorem binA_pneq (P : Program) (t : TypeId) (i v o : Nat) : binA P .neq t (.ptr i v o) (.lit (.pointer none)) = ⟨kindT P t = 4 ∧ True, .lit (.bool true), [], []⟩ := by exact Eq.trans rfl rfl
theorem binA_nneql (P : Program) (t : TypeId) : binA P .eql t (.lit (.pointer none)) (.lit (.pointer none)) = ⟨kindT P t = 4 ∧ True, .lit (.bool true), [], []⟩ := by exact Eq.trans rfl rfl
theorem binA_nnneq (P : Program) (t : TypeId) : binA P .neq t (.lit (.pointer none)) (.lit (.pointer none)) = ⟨kindT P t = 4 ∧ True, .lit (.bool false), [], []⟩ := by exact Eq.trans rfl rfl
theorem binA_sleql (P : Program) (t : TypeId) (b : Bool) (l : List AV) (k : Tk) : binA P .eql t (.isl (some b) l k) (.isl (some true) [] .full) = ⟨kindT P t = 5 ∧ True, .lit (.bool b), [], []⟩ := by exact Eq.trans rfl rfl
theorem binA_slneq (P : Program) (t : TypeId) (b : Bool) (l : List AV) (k : Tk) : binA P .neq t (.isl (some b) l k) (.isl (some true) [] .full) = ⟨kindT P t = 5 ∧ True, .lit (.bool (!b)), [], []⟩ := by exact Eq.trans rfl rfl
attribute [go_sem] binA_ipeql binA_ipneq binA_peql binA_pneq binA_nneql binA_nnneq binA_sleql binA_slneq
/-! ### letting go, for simp -/
section frz
variable (id v : Nat) (cs : List AV) (d : Nat)
theorem leFL_nil : leFL id v cs [] [] = True := by exact Eq.trans rfl rfl
theorem leFL_cons (a b : AV) (l m : List AV) : leFL id v cs (a :: l) (b :: m) = (leF id v cs a b ∧ leFL id v cs l m) := by exact Eq.trans rfl rfl
theorem leF_any (a : AV) : leF id v cs a .any = True := by
  cases a <;> simp [leF, leA_any, only_any]
theorem leF_lit (x : Value) : leF id v cs (.lit x) (.lit x) = True := by simp [leF, leA_self, only_lit']
theorem leF_ptrs (i w o : Nat) : leF id v cs (.ptr i w o) (.ptr i w o) = (i ≠ id) := by simp [leF, leA_self, only_ptr]
theorem leF_osls (i w s o l : Nat) : leF id v cs (.osl i w s o l) (.osl i w s o l) = (i ≠ id) := by simp [leF, leA_self, only_osl]
theorem leF_iptrs (xs : List AV) : leF id v cs (.iptr xs) (.iptr xs) = True := by simp [leF, leA_self, only_iptr]
theorem leF_islno (nl : Option Bool) (l : List AV) : leF id v cs (.isl nl l .no) (.isl nl l .no) = True := by simp [leF, leA_self, only_no]
theorem leF_islfull (nl : Option Bool) (l : List AV) : leF id v cs (.isl nl l .full) (.isl nl l .full) = True := by simp [leF, leA_self, only_full]
theorem leF_islw (nl nl' : Option Bool) (l l' : List AV) (t : Tk) : leF id v cs (.isl nl l t) (.isl nl' l' .no) = ((nl' = none ∨ nl' = nl) ∧ l = l') := by simp [leF, leA_isl, only_no]
theorem leF_islat (nl : Option Bool) (l : List AV) (k w : Nat) : leF id v cs (.isl nl l (.at k w)) (.isl nl l (.at k w)) = (k ≠ id) := by simp [leF, leA_self, only_at]
theorem leF_ptr (i w o : Nat) (xs : List AV) : leF id v cs (.ptr i w o) (.iptr xs) = (i = id ∧ w = v ∧ xs = cs.drop o) := by exact Eq.trans rfl rfl
theorem leF_osl (i w s o n : Nat) (nl : Option Bool) (l : List AV) (t : Tk) : leF id v cs (.osl i w s o n) (.isl nl l t) = (i = id ∧ w = v ∧ s = 1 ∧ nl = none ∧ t = .no ∧ o + n ≤ cs.length ∧ l = (cs.drop o).take n) := by exact Eq.trans rfl rfl
theorem leFB_cells (w w' : Nat) (l m : List AV) : leFB id v cs (.cells w l) (.cells w' m) = (w' = w ∧ leFL id v cs l m) := by exact Eq.trans rfl rfl
theorem leFB_tok (w w' : Nat) : leFB id v cs (.tok w) (.tok w') = (w' = w) := by exact Eq.trans rfl rfl
theorem leFH_nil : leFH id v cs d [] [] = True := by unfold leFH; rfl
theorem leFH_cons (k : Nat) (b : Blk) (l : List (Nat × Blk)) (m : List (Nat × Blk)) : leFH id v cs d ((k, b) :: l) m = if k = d then leFH id v cs d l m else match m with
    | (k', b') :: m => k' = k ∧ leFB id v cs b b' ∧ leFH id v cs d l m
    | [] => False := by rw [leFH.eq_def]; rfl
end frz
theorem only_fn' (p : Nat → Prop) (f : FuncId) (cs : List AV) : (AV.fn f cs).only p ↔ ∀ x, x ∈ cs → x.only p := ⟨fun h => by cases h; assumption, .fn⟩
/-! ### calls and ends with effects -/
theorem WE_effX {X : Type} {C : Cfg} {f : FuncId} {args : List AV} {d : Option Tmp} {all : Array Oper} {l : List Oper} {k : List KI} {Q : QT} {fr : List AV} {h : HP} (res : X → AV) (wr : X → List (Nat × Blk))
    (hc : CallAt C.P (C.n + C.nt) f args (h.get C.n) (fun r g' => ∃ x, r = res x ∧ g' = gputs (h.get C.n) (wr x))) (hok : ∀ x p, p ∈ wr x → p.1 < C.n → p.2.only (· < C.n)) (hk : ∀ x, WL C all l k Q (fset fr d (res x)) (h.puts C.n (wr x))) : WE C f args d all l k Q fr h := by
  unfold WE
  refine ⟨_, hc, ?_⟩
  rintro r g' ⟨x, rfl, rfl⟩
  refine ⟨h.puts C.n (wr x), HP.get_puts h C.n (wr x), ?_, hk x⟩
  intro id b hid hb
  rw [HP.get_puts] at hb
  rcases gputs_some hb with h1 | h1
  · exact .inl h1
  · exact .inr (hok x _ h1 hid)
theorem gputs_nil (g : GH) : gputs g [] = g := by exact Eq.trans rfl rfl
theorem gputs_cons (g : GH) (id : Nat) (b : Blk) (l : List (Nat × Blk)) : gputs g ((id, b) :: l) = gputs (gput g id b) l := by exact Eq.trans rfl rfl
theorem gputs_same {g : GH} : ∀ {wr : List (Nat × Blk)}, (∀ p, p ∈ wr → g p.1 = some p.2) → gputs g wr = g
  | [], _ => rfl
  | (id, b) :: l, h => by
    have : gput g id b = g := by
      funext j; unfold gput; split
      · rename_i e; subst e; exact (h (j, b) (by simp)).symm
      · rfl
    rw [gputs_cons, this]
    exact gputs_same fun p hp => h p (by simp [hp])
theorem gputs_cut {n : Nat} {g : GH} (hg : ∀ id, n ≤ id → g id = none) : ∀ {wr : List (Nat × Blk)}, (∀ p, p ∈ wr → p.1 < n) → ∀ id, n ≤ id → gputs g wr id = none
  | [], _, id, hid => hg id hid
  | (i, b) :: l, h, id, hid => by
    refine gputs_cut (g := gput g i b) (fun j hj => ?_) (fun p hp => h p (by simp [hp])) id hid
    unfold gput
    rw [if_neg (by have := h (i, b) (by simp); simp only at this; omega)]
    exact hg j hj
/-- the end of a function that leaves something behind -/
theorem FnPost_effX {X : Type} {C : Cfg} {rs : List ResultVar} {g : GH} {e : Exit} {fr : List AV} {h : HP} (hg : ∀ id, C.n ≤ id → g id = none) (he : e = .normal ∨ e = .ret) (res : X → AV) (wr : X → List (Nat × Blk)) (x : X) (hw : ∀ p, p ∈ wr x → p.1 < C.n)
    (ho : h.out = gputs g (wr x)) (hn : (res x).only (· < C.n)) (hp : resP C.P fr (h.get C.n) rs ∧ leA (resV C.P fr (h.get C.n) rs) (res x)) : FnPost C rs (fun r g' => ∃ x, r = res x ∧ g' = gputs g (wr x)) e fr h := by
  refine FnPost_mk he hp.1 (res x) hp.2 hn ⟨x, rfl, ?_⟩
  funext id
  rw [ho]
  by_cases h1 : id < C.n
  · rw [if_pos h1]
  · rw [if_neg h1]; exact (gputs_cut hg hw id (by omega)).symm
theorem lt_of_named {n id : Nat} {g : GH} {b : Blk} (hg : ∀ id, n ≤ id → g id = none) (h : g id = some b) : id < n := by
  apply Nat.lt_of_not_le
  intro hc; rw [hg id hc] at h; cases h
/-! ### nothing, as a row of one's own: what else is named stays -/
theorem leN_refl (id sz : Nat) (a : AV) : leN id sz a a := by
  cases a with
  | isl nl l tok =>
    unfold leN
    split
    · rename_i h; cases h
    · rfl
  | _ => rfl
theorem leNL_refl (id sz : Nat) : ∀ l : List AV, leNL id sz l l
  | [] => trivial
  | a :: l => ⟨leN_refl id sz a, leNL_refl id sz l⟩
theorem leNB_refl (id sz : Nat) : ∀ b : Blk, leNB id sz b b
  | .cells v l => ⟨rfl, leNL_refl id sz l⟩
  | .tok v => rfl
theorem imp_nilG {C : Cfg} {fr fr' : List AV} {h h' : HP} (id sz : Nat) (hid : id < C.n + C.nt) (hnone : h.get C.n id = none) (hnew : h'.get C.n id = some (.cells 0 []))
    (hold : ∀ i, i ≠ id → h'.get C.n i = h.get C.n i ∨ ∃ b b', h.get C.n i = some b ∧ h'.get C.n i = some b' ∧ leNB id sz b b' ∧ (i < C.n → b'.only (· < C.n))) (hfr : leNL id sz fr fr') : Imp C fr h fr' h' := by
  intro w0 M φ a w hs
  refine imp_nil id sz hid hnone hnew (fun i hi => ?_) hfr w0 M φ a w hs
  rcases hold i hi with h1 | h1
  · cases hb : h.get C.n i with
    | none => exact .inl ⟨by rw [h1, hb], rfl⟩
    | some b => exact .inr ⟨b, b, rfl, by rw [h1, hb], leNB_refl id sz b, fun hlt => hs.out i b hlt hb⟩
  · exact .inr h1
theorem leNL_nil (id sz : Nat) : leNL id sz [] [] = True := by exact Eq.trans rfl rfl
theorem leNL_cons (id sz : Nat) (a b : AV) (l m : List AV) : leNL id sz (a :: l) (b :: m) = (leN id sz a b ∧ leNL id sz l m) := by exact Eq.trans rfl rfl
theorem leN_nil (id sz i ver s off len : Nat) : leN id sz (.isl (some true) [] .full) (.osl i ver s off len) = (i = id ∧ ver = 0 ∧ s = sz ∧ off = 0 ∧ len = 0) := by exact Eq.trans rfl rfl
theorem gover_gput (g g0 : GH) (id : Nat) (b : Blk) : gover g (gput g0 id b) = gput (gover g g0) id b := by
  funext i; unfold gover gput
  by_cases h : i = id <;> simp [h]
theorem gover_gputs (g : GH) : ∀ (wr : List (Nat × Blk)) (g0 : GH), gover g (gputs g0 wr) = gputs (gover g g0) wr
  | [], _ => rfl
  | (id, b) :: l, g0 => by rw [gputs_cons, gover_gputs g l, gover_gput]; rfl
/-- a call that only reads what is one's own, and leaves something new behind -/
theorem CallAt.viewX {X : Type} {P : Program} {n : Nat} {f : FuncId} {args args' : List AV} {g : GH} (res : X → AV) (wr : X → List (Nat × Blk)) (hs : SeesL g args args')
    (hc : CallAt P n f args' (fun _ => none) (fun r g' => ∃ x, r = res x ∧ g' = gputs (fun _ => none) (wr x))) (hf : ∀ x, Free (res x)) (hw : ∀ x p, p ∈ wr x → g p.1 = none ∧ ∃ ver cs, p.2 = .cells ver cs ∧ ∀ y, y ∈ cs → Free y) :
    CallAt P n f args g (fun r g' => ∃ x, r = res x ∧ g' = gputs g (wr x)) := by
  have key := CallAt.view hs hc (by
    rintro r g' ⟨x, rfl, rfl⟩
    refine ⟨hf x, fun id b hb => ?_⟩
    rcases gputs_some hb with h | h
    · cases h
    · exact hw x _ h)
  intro w0 M φ w vs h1 h2 h3
  refine (key w0 M φ w vs h1 h2 h3).mono ?_
  rintro e w' ⟨M', φ', v, r, g', rfl, k2, k3, k4, k5, k6, g'', ⟨x, rfl, rfl⟩, rfl⟩
  refine ⟨M', φ', v, res x, _, rfl, k2, k3, k4, k5, k6, x, rfl, ?_⟩
  rw [gover_gputs]; rfl
/-! ### arguments of which less is told -/
theorem CallAt.le {P : Program} {n : Nat} {f : FuncId} {args args' : List AV} {g : GH} {R : AV → GH → Prop} (h : leL args args') (hc : CallAt P n f args' g R) : CallAt P n f args g R :=
  fun w0 M φ w vs h1 h2 h3 => hc w0 M φ w vs h1 h2 (repL_leL h3 h)
theorem PureC.le {P : Program} {f : FuncId} {args args' : List AV} {g : GH} {res : AV} (h : leL args args') (hc : PureC P f args' g res) : PureC P f args g res := fun n => CallAt.le h (hc n)
/-! ### the first slot of a function without parameters -/
theorem get_loc0 (o : GH) (l : List (Nat × Blk)) (n : Nat) : HP.get ⟨o, l⟩ n n = look l 0 := get_loc o l n 0
theorem put_loc0 (o : GH) (l : List (Nat × Blk)) (n : Nat) (b : Blk) : HP.put ⟨o, l⟩ n n b = ⟨o, insL l 0 b⟩ := put_loc o l n 0 b
theorem may_mk0 (P : Program) (n nt : Nat) (nm : Nat → Option Nat) (md : Nat → Nat) (b : Blk) : Cfg.may ⟨P, n, nt, nm, md⟩ n b = (0 < nt) := may_mk P n nt nm md 0 b
attribute [go_sem] get_loc0 put_loc0 may_mk0
/-! ### a function value, as a call sees it that only reads -/
theorem Sees.fn {g : GH} {f : FuncId} {cs cs' : List AV} (h : SeesL g cs cs') : Sees g (.fn f cs) (.fn f cs') := by
  intro w0 w M φ v hw hr
  cases hr with
  | @fn _ _ _ vs hl hr =>
    have hL : RepL M φ cs vs.toList := ⟨by simpa using hl, fun i x v h1 h2 => hr i x v h1 (by simpa using h2)⟩
    have := SeesL.sound hw h hL
    exact .fn (by simpa using this.1) fun i x v h1 h2 => this.2 i x v h1 (by simpa using h2)
end Go.Av

