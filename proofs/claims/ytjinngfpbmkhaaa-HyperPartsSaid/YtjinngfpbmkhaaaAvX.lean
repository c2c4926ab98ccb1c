import Derived.Test.YtjinngfpbmkhaaaAvV
namespace Go.Av
set_option linter.unusedVariables false
set_option linter.unusedSimpArgs false
open Go.RowKit

/-! ### a block of one's own that nobody writes any more -/
theorem idf_rep {M : Mem} {φ : Phi} {x : AV} {v : Value} (h : Rep M φ x v) (hi : x.idf = true) : Rep M Phi.none x v := by
  refine h.move (p := fun _ => False) ?_ (fun _ _ _ hp => hp.elim)
  unfold AV.idf at hi
  split at hi
  · exact .lit _
  · exact .iptr _
  · rename_i nl l tok
    refine .isl fun k ver ht => ?_
    subst ht; simp [Tk.free] at hi
  · cases hi

theorem idf_cells {x : AV} (hi : x.idf = true) : x.cells = [x] := by
  unfold AV.idf at hi
  split at hi <;> first | rfl | cases hi

/-- What becomes of a value when the block 'id' is let go. -/
def leF (id v : Nat) (cs : List AV) : AV → AV → Prop
  | .ptr i ver off, .iptr xs => i = id ∧ ver = v ∧ xs = cs.drop off
  | .osl i ver sz off len, .isl nl l t => i = id ∧ ver = v ∧ sz = 1 ∧ nl = none ∧ t = .no ∧ off + len ≤ cs.length ∧ l = (cs.drop off).take len
  | a, b => leA a b ∧ b.only (· ≠ id)

def leFL (id v : Nat) (cs : List AV) : List AV → List AV → Prop
  | [], [] => True
  | a :: l, b :: m => leF id v cs a b ∧ leFL id v cs l m
  | _, _ => False

theorem leF_sound {M M' : Mem} {φ : Phi} {id v : Nat} {cs : List AV} {hd : Hd} {arr : Array Value} (hφ : φ id v = some hd) (hM : Mem.le M M') (hall : ∀ x, x ∈ cs → x.idf = true)
    (hm : ∀ r, hd.blk = some r → ∀ (j : Nat) (x : AV), cs[j]? = some x → ∃ u, M' r j = some u ∧ Rep M' Phi.none x u) {x x' : AV} {u : Value} (h : Rep M φ x u) (hl : leF id v cs x x') :
    Rep M' (φ.cut' (· ≠ id)) x' u := by
  have other : ∀ {a b : AV}, Rep M φ a u → leA a b → b.only (· ≠ id) → Rep M' (φ.cut' (· ≠ id)) b u := fun h1 h2 h3 => (rep_cut (rep_leA h1 h2) h3).mono hM (Phi.le.refl _)
  unfold leF at hl
  split at hl
  · rename_i i ver off xs
    obtain ⟨rfl, rfl, rfl⟩ := hl
    cases h with
    | @ptr _ _ _ _ r hd' h1 h2 =>
      rw [hφ] at h1; cases h1
      have hm := hm r h2
      refine .iptr (fun c => (M' r (off + c)).getD undef) ?_ ?_
      · intro c x hx
        rw [List.getElem?_drop] at hx
        obtain ⟨u, h3, h4⟩ := hm _ x hx
        rw [h3]; rfl
      · intro c x hx
        rw [List.getElem?_drop] at hx
        obtain ⟨u, h3, h4⟩ := hm _ x hx
        rw [h3]; exact h4
  · rename_i i ver sz off len nl l t
    obtain ⟨rfl, rfl, rfl, rfl, rfl, hlen, rfl⟩ := hl
    have hget : ∀ (i : Nat) (e : AV), ((cs.drop off).take len)[i]? = some e → cs[off + i]? = some e ∧ i < len := by
      intro i e he
      have hi : i < len := by have := (List.getElem?_eq_some_iff.1 he).1; simp at this; omega
      rw [List.getElem?_take_of_lt hi, List.getElem?_drop] at he
      exact ⟨he, hi⟩
    cases h with
    | @osl _ _ _ _ _ _ a cap C r h hC hcap hnone hz ha =>
      rw [hφ] at h; cases h
      have hlen2 : len = ((cs.drop off).take len).length := by simp; omega
      have key : ∀ q, a = some q → ∀ (i : Nat) (e : AV), ((cs.drop off).take len)[i]? = some e → ∃ b, q = ⟨b, off * 1, none⟩ ∧ r = some b := by
        intro q hq i e he
        have hi := (hget i e he).2
        cases r with
        | none => have := hnone.2 rfl; rw [this] at hq; cases hq
        | some b =>
          have := ha b rfl (by omega)
          rw [hq] at this; cases this
          exact ⟨b, rfl, rfl⟩
      refine .isl 1 (fun i _ => (match r with | some b => (M' b (off + i)).getD undef | none => undef)) hlen2 hcap (by simp) ?_ ?_ ?_ ?_ ?_ (by simp) (by simp)
      · intro hnil
        have := hnone.1 hnil
        have := hz this
        omega
      · intro e he
        obtain ⟨i, hi⟩ := List.getElem?_of_mem he
        have := (hget i e hi).1
        rw [idf_cells (hall e (List.mem_of_getElem? this))]; rfl
      · intro q hq hne
        obtain ⟨e, he⟩ := List.exists_mem_of_ne_nil _ hne
        obtain ⟨i, hi⟩ := List.getElem?_of_mem he
        obtain ⟨b, rfl, _⟩ := key q hq i e hi
        rfl
      · intro q hq i e c x he hx
        obtain ⟨b, rfl, rfl⟩ := key q hq i e he
        obtain ⟨h1, h2⟩ := hget i e he
        have hidf := idf_cells (hall e (List.mem_of_getElem? h1))
        rw [hidf] at hx
        have hc : c = 0 := by
          cases c with
          | zero => rfl
          | succ c => simp at hx
        subst hc
        simp at hx; subst hx
        obtain ⟨u, h3, h4⟩ := hm b rfl _ _ h1
        simp only [Nat.mul_one, Nat.add_zero]
        rw [h3]; rfl
      · intro i e c x he hx
        obtain ⟨h1, h2⟩ := hget i e he
        have hidf := idf_cells (hall e (List.mem_of_getElem? h1))
        rw [hidf] at hx
        have hc : c = 0 := by
          cases c with
          | zero => rfl
          | succ c => simp at hx
        subst hc
        simp at hx; subst hx
        cases r with
        | none =>
          have := hz rfl
          omega
        | some b =>
          obtain ⟨u, h3, h4⟩ := hm b rfl _ _ h1
          simp only [h3, Option.getD_some]
          exact h4
  · exact other h hl.1 hl.2

theorem leFL_sound {M' : Mem} {φ' : Phi} {id v : Nat} {cs : List AV} {R : AV → Value → Prop} (hs : ∀ x x' u, R x u → leF id v cs x x' → Rep M' φ' x' u) : ∀ {l m : List AV} {vs : List Value}, l.length = vs.length → (∀ (i : Nat) (x : AV) (u : Value), l[i]? = some x → vs[i]? = some u → R x u) →
    leFL id v cs l m → RepL M' φ' m vs
  | [], [], vs, hl, hr, _ => ⟨by simpa using hl, by simp⟩
  | a :: l, b :: m, [], hl, hr, _ => by simp at hl
  | a :: l, b :: m, u :: vs, hl, hr, h => RepL.cons (hs a b u (hr 0 a u rfl rfl) h.1) (leFL_sound hs (by simpa using hl) (fun i x y h1 h2 => hr (i + 1) x y (by simpa using h1) (by simpa using h2)) h.2)
  | [], b :: m, vs, hl, hr, h => h.elim
  | a :: l, [], vs, hl, hr, h => h.elim

theorem leFL_len {id v : Nat} {cs : List AV} : ∀ {l m : List AV}, leFL id v cs l m → l.length = m.length
  | [], [], _ => rfl
  | a :: l, b :: m, h => by simp [leFL_len h.2]
  | [], b :: m, h => h.elim
  | a :: l, [], h => h.elim

/-- what becomes of the other blocks -/
def leFB (id v : Nat) (cs : List AV) : Blk → Blk → Prop
  | .cells ver l, .cells ver' m => ver' = ver ∧ leFL id v cs l m
  | .tok ver, .tok ver' => ver' = ver
  | _, _ => False

theorem leFB_ver {id v : Nat} {cs : List AV} {b b' : Blk} (h : leFB id v cs b b') : b'.ver = b.ver := by
  unfold leFB at h
  split at h
  · exact h.1
  · exact h
  · exact h.elim

def leFH (id v : Nat) (cs : List AV) (d : Nat) : List (Nat × Blk) → List (Nat × Blk) → Prop
  | [], [] => True
  | (k, b) :: l, m => if k = d then leFH id v cs d l m else match m with
    | (k', b') :: m => k' = k ∧ leFB id v cs b b' ∧ leFH id v cs d l m
    | [] => False
  | [], _ :: _ => False

theorem leFH_look {id v : Nat} {cs : List AV} {d : Nat} : ∀ {l m : List (Nat × Blk)}, leFH id v cs d l m → ∀ k, k ≠ d → (∀ b', look m k = some b' → ∃ b, look l k = some b ∧ leFB id v cs b b') ∧ (∀ b, look l k = some b → ∃ b', look m k = some b')
  | [], [], h, k, hk => ⟨by simp [look], by simp [look]⟩
  | (j, b) :: l, m, h, k, hk => by
    unfold leFH at h
    by_cases hj : j = d
    · rw [if_pos hj] at h
      have ih := leFH_look h k hk
      have hjk : ¬ j = k := by omega
      simp only [look_cons, if_neg hjk]
      exact ih
    · rw [if_neg hj] at h
      match m, h with
      | (k', b') :: m, h =>
        obtain ⟨rfl, h2, h3⟩ := h
        have ih := leFH_look h3 k hk
        simp only [look_cons]
        by_cases hjk : k' = k
        · simp only [if_pos hjk]
          exact ⟨fun c hc => by cases hc; exact ⟨b, rfl, h2⟩, fun c hc => ⟨b', rfl⟩⟩
        · simp only [if_neg hjk]
          exact ih
  | [], _ :: _, h, k, hk => by simp [leFH] at h

theorem leFH_d {id v : Nat} {cs : List AV} {d : Nat} : ∀ {l m : List (Nat × Blk)}, leFH id v cs d l m → look m d = none
  | [], [], h => rfl
  | (j, b) :: l, m, h => by
    unfold leFH at h
    by_cases hj : j = d
    · rw [if_pos hj] at h; exact leFH_d h
    · rw [if_neg hj] at h
      match m, h with
      | (k', b') :: m, h =>
        obtain ⟨rfl, h2, h3⟩ := h
        rw [look_cons, if_neg hj]
        exact leFH_d h3
  | [], _ :: _, h => by simp [leFH] at h

/-- **A block of one's own is let go: what points at it is a value from here on.** -/
theorem imp_freeze {C : Cfg} {fr fr' : List AV} {o : GH} {loc loc' : List (Nat × Blk)} (d v : Nat) (cs : List AV) (hd : look loc d = some (.cells v cs)) (hall : cs.all AV.idf = true)
    (hfr : leFL (C.n + d) v cs fr fr') (hloc : leFH (C.n + d) v cs d loc loc') : Imp C fr ⟨o, loc⟩ fr' ⟨o, loc'⟩ := by
  intro w0 M φ a w hs
  have hall : ∀ x, x ∈ cs → x.idf = true := List.all_eq_true.1 hall
  have hg : HP.get ⟨o, loc⟩ C.n (C.n + d) = some (.cells v cs) := by rw [get_loc]; exact hd
  obtain ⟨hd0, hφ, hok⟩ := hs.wr.blk _ _ hg
  have hφ : φ (C.n + d) v = some hd0 := hφ
  -- the block's place, and what lies in it
  have hplace : ∃ (M' : Mem), Mem.le M M' ∧ (∀ r j u, M' r j = some u → w.cell? ⟨r, j, none⟩ = some u) ∧ (∀ r, hd0.blk ≠ some r → ∀ j, M' r j = M r j) ∧
      (∀ r, hd0.blk = some r → ∀ (j : Nat) (x : AV), cs[j]? = some x → ∃ u, M' r j = some u ∧ Rep M' Phi.none x u) := by
    have mk : ∀ (r : Nat) (arr : Array Value) (e : TypeId), hd0.blk = some r → (∀ j, M r j = none) → w.heap[r]? = some (.cells arr e (0, 0)) → cs.length ≤ arr.size → (∀ (j : Nat) (x : AV) (u : Value), cs[j]? = some x → arr[j]? = some u → Rep M φ x u) →
        ∃ (M' : Mem), Mem.le M M' ∧ (∀ r j u, M' r j = some u → w.cell? ⟨r, j, none⟩ = some u) ∧ (∀ r, hd0.blk ≠ some r → ∀ j, M' r j = M r j) ∧
        (∀ r, hd0.blk = some r → ∀ (j : Nat) (x : AV), cs[j]? = some x → ∃ u, M' r j = some u ∧ Rep M' Phi.none x u) := by
      intro r arr e hb hn ha hl hx
      have hM : Mem.le M (memAdd M r (arr[·]?)) := memAdd_le fun j _ _ => hn j
      refine ⟨memAdd M r (arr[·]?), hM, ?_, ?_, ?_⟩
      · intro q j u hu
        by_cases hq : q = r
        · subst hq
          unfold memAdd at hu
          simp only [if_true, hn] at hu
          simp only [World.cell?, ha]
          split at hu
          · rename_i u' hu'; cases hu; simpa using hu'
          · cases hu
        · rw [memAdd_other hq] at hu
          exact hs.wr.mem q j u hu
      · intro q hq j
        exact memAdd_other (fun e => hq (by rw [hb, e])) j
      · intro q hq j x hjx
        rw [hb] at hq; cases hq
        have hlt : j < arr.size := by have := (List.getElem?_eq_some_iff.1 hjx).1; omega
        have e1 : arr[j]? = some arr[j] := by simp [hlt]
        exact ⟨arr[j], memAdd_same e1, (idf_rep (hx j x _ hjx e1) (hall x (List.mem_of_getElem? hjx))).mono hM (Phi.le.refl _)⟩
    cases hd0 with
    | box r =>
      obtain ⟨_, hn, arr, e, ha, hsz, hx⟩ := hok
      exact mk r arr e rfl hn ha (by omega) hx
    | row r sz cap =>
      cases r with
      | none => exact ⟨M, Mem.le.refl _, hs.wr.mem, fun _ _ _ => rfl, fun r hr => by simp [Hd.blk] at hr⟩
      | some r =>
        obtain ⟨_, hn, arr, e, ha, hsz, hl, hx⟩ := hok
        exact mk r arr e rfl hn ha hl hx
    | tk r own sz len cap => cases r <;> cases own <;> exact hok.elim
  obtain ⟨M', hM, hmem, hkeep, hcs⟩ := hplace
  have snd : ∀ {x x' : AV} {u : Value}, Rep M φ x u → leF (C.n + d) v cs x x' → Rep M' (φ.cut' (· ≠ C.n + d)) x' u := fun h hl => leF_sound (arr := #[]) hφ hM hall hcs h hl
  have hext : Ext C.n M φ M' (φ.cut' (· ≠ C.n + d)) := ⟨hM, fun id ver hd hid hp => by rw [cut_pos (p := (· ≠ C.n + d)) (by omega)]; exact hp⟩
  -- the other blocks
  have hback : ∀ i b', HP.get ⟨o, loc'⟩ C.n i = some b' → i ≠ C.n + d ∧ ∃ b, HP.get ⟨o, loc⟩ C.n i = some b ∧ ((i < C.n ∧ b' = b) ∨ (C.n ≤ i ∧ leFB (C.n + d) v cs b b')) := by
    intro i b' hb
    unfold HP.get at hb ⊢
    by_cases hi : i < C.n
    · rw [if_pos hi] at hb ⊢
      exact ⟨by omega, b', hb, .inl ⟨hi, rfl⟩⟩
    · rw [if_neg hi] at hb ⊢
      have hne : i - C.n ≠ d := fun e => by rw [e] at hb; simp only at hb; rw [leFH_d hloc] at hb; cases hb
      obtain ⟨b, h1, h2⟩ := (leFH_look hloc _ hne).1 b' hb
      exact ⟨by omega, b, h1, .inr ⟨by omega, h2⟩⟩
  refine ⟨M', φ.cut' (· ≠ C.n + d), hext, leFL_sound (R := fun x u => Rep M φ x u) (fun x x' u h hl => snd h hl) (by have := hs.fr.1; exact this) hs.fr.2 hfr, hs.defers, ?_, ?_, ?_⟩
  · refine ⟨hs.wr.below, hmem, ?_, ?_, ?_⟩
    · intro i b' hb
      obtain ⟨hne, b, hb0, hor⟩ := hback i b' hb
      obtain ⟨hd1, hp1, hok1⟩ := hs.wr.blk i b hb0
      have hver : b'.ver = b.ver := by rcases hor with ⟨_, rfl⟩ | ⟨_, h⟩; rfl; exact leFB_ver h
      refine ⟨hd1, by rw [hver, cut_pos (p := (· ≠ C.n + d)) hne]; exact hp1, ?_⟩
      have hrne : ∀ r, hd1.blk = some r → hd0.blk ≠ some r := fun r h1 h2 => hne (hs.wr.inj i (C.n + d) b _ hd1 hd0 r hb0 hg hp1 hφ h1 h2)
      have hcell : ∀ {l m : List AV} {arr : Array Value}, (b = .cells b.ver l ∧ b' = .cells b.ver m) → (∀ (j : Nat) (x : AV) (u : Value), l[j]? = some x → arr[j]? = some u → Rep M φ x u) →
          l.length = m.length ∧ ∀ (j : Nat) (x : AV) (u : Value), m[j]? = some x → arr[j]? = some u → Rep M' (φ.cut' (· ≠ C.n + d)) x u := by
        rintro l m arr ⟨e1, e2⟩ hx
        rcases hor with ⟨hi, hbb⟩ | ⟨_, h⟩
        · obtain ⟨-, e3⟩ := Blk.cells.inj (e1.symm.trans (hbb.symm.trans e2)); subst e3
          refine ⟨rfl, fun j x u h1 h2 => ?_⟩
          have ho := hs.out i b hi hb0
          rw [e1] at ho
          exact (rep_cut (hx j x u h1 h2) ((ho x (List.mem_of_getElem? h1)).mono fun k hk => by omega)).mono hM (Phi.le.refl _)
        · rw [e1, e2] at h
          obtain ⟨_, h⟩ := h
          have hlen := leFL_len h
          refine ⟨hlen, fun j x u h1 h2 => ?_⟩
          have pick : ∀ {l m : List AV}, leFL (C.n + d) v cs l m → ∀ (j : Nat) (x : AV), m[j]? = some x → ∃ y, l[j]? = some y ∧ leF (C.n + d) v cs y x := by
            intro l
            induction l with
            | nil => intro m hm j x hx; cases m with
              | nil => simp at hx
              | cons a m => exact hm.elim
            | cons a l ih => intro m hm j x hx; cases m with
              | nil => exact hm.elim
              | cons c m =>
                cases j with
                | zero => simp at hx; subst hx; exact ⟨a, rfl, hm.1⟩
                | succ j => simpa using ih hm.2 j x (by simpa using hx)
          obtain ⟨y, hy1, hy2⟩ := pick h j x h1
          exact snd (hx j y u hy1 h2) hy2
      cases b with
      | cells ver l =>
        have hb' : ∃ m, b' = .cells ver m := by
          rcases hor with ⟨_, rfl⟩ | ⟨_, h⟩
          · exact ⟨l, rfl⟩
          · cases b' with
            | cells ver' m => obtain ⟨rfl, _⟩ := h; exact ⟨m, rfl⟩
            | tok ver' => exact h.elim
        obtain ⟨m, rfl⟩ := hb'
        cases hd1 with
        | box r =>
          obtain ⟨h1, h2, arr, e, h3, h4, h5⟩ := hok1
          obtain ⟨k1, k2⟩ := hcell (arr := arr) ⟨rfl, rfl⟩ h5
          exact ⟨h1, fun j => by rw [hkeep r (hrne r rfl)]; exact h2 j, arr, e, h3, by omega, k2⟩
        | row r sz cap =>
          cases r with
          | none =>
            obtain ⟨h1, h2⟩ := hok1
            obtain ⟨k1, k2⟩ := hcell (arr := #[]) ⟨rfl, rfl⟩ (by intro j x u _ hu; simp at hu)
            exact ⟨by subst h1; exact List.length_eq_zero_iff.1 (by simpa using k1.symm), h2⟩
          | some r =>
            obtain ⟨h1, h2, arr, e, h3, h4, h5, h6⟩ := hok1
            obtain ⟨k1, k2⟩ := hcell (arr := arr) ⟨rfl, rfl⟩ h6
            exact ⟨h1, fun j => by rw [hkeep r (hrne r rfl)]; exact h2 j, arr, e, h3, h4, by omega, k2⟩
        | tk r own sz len cap => cases r <;> cases own <;> exact hok1.elim
      | tok ver =>
        have hb' : b' = .tok ver := by
          rcases hor with ⟨_, rfl⟩ | ⟨_, h⟩
          · rfl
          · cases b' with
            | cells ver' m => exact h.elim
            | tok ver' => rw [show ver' = ver from h]
        subst hb'
        cases hd1 with
        | box r => exact hok1.elim
        | row r sz cap => cases r <;> exact hok1.elim
        | tk r own sz len cap =>
          cases own with
          | false => cases r <;> exact hok1
          | true =>
            cases r with
            | none => exact hok1.elim
            | some r =>
              obtain ⟨h1, h2, h3, h4, h5⟩ := hok1
              exact ⟨h1, h2, h3, fun j hj => by rw [hkeep r (hrne r rfl)]; exact h4 j hj, h5⟩
    · intro i i' b b' hd1 hd2 r h1 h2 h3 h4 h5 h6
      obtain ⟨hne, c, hc, hor⟩ := hback i b h1
      obtain ⟨hne', c', hc', hor'⟩ := hback i' b' h2
      have e1 : b.ver = c.ver := by rcases hor with ⟨_, rfl⟩ | ⟨_, h⟩; rfl; exact leFB_ver h
      have e2 : b'.ver = c'.ver := by rcases hor' with ⟨_, rfl⟩ | ⟨_, h⟩; rfl; exact leFB_ver h
      exact hs.wr.inj i i' c c' hd1 hd2 r hc hc' (by rw [← e1]; exact (cut_some h3).2) (by rw [← e2]; exact (cut_some h4).2) h5 h6
    · intro i ver hd1 hp
      obtain ⟨hne, hp⟩ := cut_some hp
      obtain ⟨b, hb, hle⟩ := hs.wr.dom i ver hd1 hp
      unfold HP.get at hb ⊢
      by_cases hi : i < C.n
      · rw [if_pos hi] at hb ⊢
        exact ⟨b, hb, hle⟩
      · rw [if_neg hi] at hb ⊢
        have hne2 : i - C.n ≠ d := by omega
        obtain ⟨b', hb'⟩ := (leFH_look hloc _ hne2).2 b hb
        obtain ⟨b0, h1, h2⟩ := (leFH_look hloc _ hne2).1 b' hb'
        simp only at hb
        rw [hb] at h1; cases h1
        exact ⟨b', hb', by rw [leFB_ver h2]; exact hle⟩
  · intro id ver hd1 hp
    exact hs.dom id ver hd1 (cut_some hp).2
  · intro id b hid hb
    obtain ⟨hne, c, hc, hor⟩ := hback id b hb
    rcases hor with ⟨_, rfl⟩ | ⟨h, _⟩
    · exact hs.out id b hid hc
    · omega
end Go.Av
