/- Plain words. -/
import Derived.Test.YtcnhpclfflcdfaaDoorRAvV
namespace Go.Av
set_option linter.unusedVariables false
set_option linter.unusedSimpArgs false
open Go.RowKit

/-! ### a block of one's own that nobody writes any more -/
theorem idf_rep {M : Mem} {φ : Phi} {x : AV} {v : Value} (h : Rep M φ x v) (hi : x.idf = true) : Rep M Phi.none x v := by
  refine h.move (p := fun _ => False) ?_ (fun _ _ _ hp => hp.elim)
  unfold AV.idf at hi
  split at hi
  · exact .lit _
  · exact .iptr _
  · rename_i nl l tok
    refine .isl fun k ver ht => ?_
    subst ht; simp [Tk.free] at hi
  · cases hi

theorem idf_cells {x : AV} (hi : x.idf = true) : x.cells = [x] := by
  unfold AV.idf at hi
  split at hi <;> first | rfl | cases hi

/-- What becomes of a value when the block 'id' is let go. -/
def leF (id v : Nat) (cs : List AV) : AV → AV → Prop
  | .ptr i ver off, .iptr xs => i = id ∧ ver = v ∧ xs = cs.drop off
  | .osl i ver sz off len, .isl nl l t => i = id ∧ ver = v ∧ sz = 1 ∧ nl = none ∧ t = .no ∧ off + len ≤ cs.length ∧ l = (cs.drop off).take len
  | a, b => leA a b ∧ b.only (· ≠ id)

def leFL (id v : Nat) (cs : List AV) : List AV → List AV → Prop
  | [], [] => True
  | a :: l, b :: m => leF id v cs a b ∧ leFL id v cs l m
  | _, _ => False

theorem leF_sound {M M' : Mem} {φ : Phi} {id v : Nat} {cs : List AV} {hd : Hd} {arr : Array Value} (hφ : φ id v = some hd) (hM : Mem.le M M') (hall : ∀ x, x ∈ cs → x.idf = true)
    (hm : ∀ r, hd.blk = some r → ∀ (j : Nat) (x : AV), cs[j]? = some x → ∃ u, M' r j = some u ∧ Rep M' Phi.none x u) {x x' : AV} {u : Value} (h : Rep M φ x u) (hl : leF id v cs x x') :
    Rep M' (φ.cut' (· ≠ id)) x' u := by
  have other : ∀ {a b : AV}, Rep M φ a u → leA a b → b.only (· ≠ id) → Rep M' (φ.cut' (· ≠ id)) b u := fun h1 h2 h3 => (rep_cut (rep_leA h1 h2) h3).mono hM (Phi.le.refl _)
  unfold leF at hl
  split at hl
  · rename_i i ver off xs
    obtain ⟨rfl, rfl, rfl⟩ := hl
    cases h with
    | @ptr _ _ _ _ r hd' h1 h2 =>
      rw [hφ] at h1; cases h1
      have hm := hm r h2
      refine .iptr (fun c => (M' r (off + c)).getD undef) ?_ ?_
      · intro c x hx
        rw [List.getElem?_drop] at hx
        obtain ⟨u, h3, h4⟩ := hm _ x hx
        rw [h3]; rfl
      · intro c x hx
        rw [List.getElem?_drop] at hx
        obtain ⟨u, h3, h4⟩ := hm _ x hx
        rw [h3]; exact h4
  · rename_i i ver sz off len nl l t
    obtain ⟨rfl, rfl, rfl, rfl, rfl, hlen, rfl⟩ := hl
    have hget : ∀ (i : Nat) (e : AV), ((cs.drop off).take len)[i]? = some e → cs[off + i]? = some e ∧ i < len := by
      intro i e he
      have hi : i < len := by have := (List.getElem?_eq_some_iff.1 he).1; simp at this; omega
      rw [List.getElem?_take_of_lt hi, List.getElem?_drop] at he
      exact ⟨he, hi⟩
    cases h with
    | @osl _ _ _ _ _ _ a cap C r h hC hcap hnone hz ha =>
      rw [hφ] at h; cases h
      have hlen2 : len = ((cs.drop off).take len).length := by simp; omega
      have key : ∀ q, a = some q → ∀ (i : Nat) (e : AV), ((cs.drop off).take len)[i]? = some e → ∃ b, q = ⟨b, off * 1, none⟩ ∧ r = some b := by
        intro q hq i e he
        have hi := (hget i e he).2
        cases r with
        | none => have := hnone.2 rfl; rw [this] at hq; cases hq
        | some b =>
          have := ha b rfl (by omega)
          rw [hq] at this; cases this
          exact ⟨b, rfl, rfl⟩
      refine .isl 1 (fun i _ => (match r with | some b => (M' b (off + i)).getD undef | none => undef)) hlen2 hcap (by simp) ?_ ?_ ?_ ?_ ?_ (by simp) (by simp)
      · intro hnil
        have := hnone.1 hnil
        have := hz this
        omega
      · intro e he
        obtain ⟨i, hi⟩ := List.getElem?_of_mem he
        have := (hget i e hi).1
        rw [idf_cells (hall e (List.mem_of_getElem? this))]; rfl
      · intro q hq hne
        obtain ⟨e, he⟩ := List.exists_mem_of_ne_nil _ hne
        obtain ⟨i, hi⟩ := List.getElem?_of_mem he
        obtain ⟨b, rfl, _⟩ := key q hq i e hi
        rfl
      · intro q hq i e c x he hx
        obtain ⟨b, rfl, rfl⟩ := key q hq i e he
        obtain ⟨h1, h2⟩ := hget i e he
        have hidf := idf_cells (hall e (List.mem_of_getElem? h1))
        rw [hidf] at hx
        have hc : c = 0 := by
          cases c with
          | zero => rfl
          | succ c => simp at hx
        subst hc
        simp at hx; subst hx
        obtain ⟨u, h3, h4⟩ := hm b rfl _ _ h1
        simp only [Nat.mul_one, Nat.add_zero]
        rw [h3]; rfl
      · intro i e c x he hx
        obtain ⟨h1, h2⟩ := hget i e he
        have hidf := idf_cells (hall e (List.mem_of_getElem? h1))
        rw [hidf] at hx
        have hc : c = 0 := by
          cases c with
          | zero => rfl
          | succ c => simp at hx
        subst hc
        simp at hx; subst hx
        cases r with
        | none =>
          have := hz rfl
          omega
        | some b =>
          obtain ⟨u, h3, h4⟩ := hm b rfl _ _ h1
          simp only [h3, Option.getD_some]
          exact h4
  · exact other h hl.1 hl.2

theorem leFL_sound {M' : Mem} {φ' : Phi} {id v : Nat} {cs : List AV} {R : AV → Value → Prop} (hs : ∀ x x' u, R x u → leF id v cs x x' → Rep M' φ' x' u) : ∀ {l m : List AV} {vs : List Value}, l.length = vs.length → (∀ (i : Nat) (x : AV) (u : Value), l[i]? = some x → vs[i]? = some u → R x u) →
    leFL id v cs l m → RepL M' φ' m vs
  | [], [], vs, hl, hr, _ => ⟨by simpa using hl, by simp⟩
  | a :: l, b :: m, [], hl, hr, _ => by simp at hl
  | a :: l, b :: m, u :: vs, hl, hr, h => RepL.cons (hs a b u (hr 0 a u rfl rfl) h.1) (leFL_sound hs (by simpa using hl) (fun i x y h1 h2 => hr (i + 1) x y (by simpa using h1) (by simpa using h2)) h.2)
  | [], b :: m, vs, hl, hr, h => h.elim
  | a :: l, [], vs, hl, hr, h => h.elim

theorem leFL_len {id v : Nat} {cs : List AV} : ∀ {l m : List AV}, leFL id v cs l m → l.length = m.length
  | [], [], _ => rfl
  | a :: l, b :: m, h => by simp [leFL_len h.2]
  | [], b :: m, h => h.elim
  | a :: l, [], h => h.elim

/-- what becomes of the other blocks -/
def leFB (id v : Nat) (cs : List AV) : Blk → Blk → Prop
  | .cells ver l, .cells ver' m => ver' = ver ∧ leFL id v cs l m
  | .tok ver, .tok ver' => ver' = ver
  | _, _ => False

theorem leFB_ver {id v : Nat} {cs : List AV} {b b' : Blk} (h : leFB id v cs b b') : b'.ver = b.ver := by
  unfold leFB at h
  split at h
  · exact h.1
  · exact h
  · exact h.elim

def leFH (id v : Nat) (cs : List AV) (d : Nat) : List (Nat × Blk) → List (Nat × Blk) → Prop
  | [], [] => True
  | (k, b) :: l, m => if k = d then leFH id v cs d l m else match m with
    | (k', b') :: m => k' = k ∧ leFB id v cs b b' ∧ leFH id v cs d l m
    | [] => False
  | [], _ :: _ => False

theorem leFH_look {id v : Nat} {cs : List AV} {d : Nat} : ∀ {l m : List (Nat × Blk)}, leFH id v cs d l m → ∀ k, k ≠ d → (∀ b', look m k = some b' → ∃ b, look l k = some b ∧ leFB id v cs b b') ∧ (∀ b, look l k = some b → ∃ b', look m k = some b')
  | [], [], h, k, hk => ⟨by simp [look], by simp [look]⟩
  | (j, b) :: l, m, h, k, hk => by
    unfold leFH at h
    by_cases hj : j = d
    · rw [if_pos hj] at h
      have ih := leFH_look h k hk
      have hjk : ¬ j = k := by omega
      simp only [look_cons, if_neg hjk]
      exact ih
    · rw [if_neg hj] at h
      match m, h with
      | (k', b') :: m, h =>
        obtain ⟨rfl, h2, h3⟩ := h
        have ih := leFH_look h3 k hk
        simp only [look_cons]
        by_cases hjk : k' = k
        · simp only [if_pos hjk]
          exact ⟨fun c hc => by cases hc; exact ⟨b, rfl, h2⟩, fun c hc => ⟨b', rfl⟩⟩
        · simp only [if_neg hjk]
          exact ih
  | [], _ :: _, h, k, hk => by simp [leFH] at h

theorem leFH_d {id v : Nat} {cs : List AV} {d : Nat} : ∀ {l m : List (Nat × Blk)}, leFH id v cs d l m → look m d = none
  | [], [], h => rfl
  | (j, b) :: l, m, h => by
    unfold leFH at h
    by_cases hj : j = d
    · rw [if_pos hj] at h; exact leFH_d h
    · rw [if_neg hj] at h
      match m, h with
      | (k', b') :: m, h =>
        obtain ⟨rfl, h2, h3⟩ := h
        rw [look_cons, if_neg hj]
        exact leFH_d h3
  | [], _ :: _, h => by simp [leFH] at h

/-- **A block of one's own is let go: what points at it is a value from here on.** -/
theorem imp_freeze {C : Cfg} {fr fr' : List AV} {o : GH} {loc loc' : List (Nat × Blk)} (d v : Nat) (cs : List AV) (hd : look loc d = some (.cells v cs)) (hall : cs.all AV.idf = true)
    (hfr : leFL (C.n + d) v cs fr fr') (hloc : leFH (C.n + d) v cs d loc loc') : Imp C fr ⟨o, loc⟩ fr' ⟨o, loc'⟩ := by
  intro w0 M φ a w hs
  have hall : ∀ x, x ∈ cs → x.idf = true := List.all_eq_true.1 hall
  have hg : HP.get ⟨o, loc⟩ C.n (C.n + d) = some (.cells v cs) := by rw [get_loc]; exact hd
  obtain ⟨hd0, hφ, hok⟩ := hs.wr.blk _ _ hg
  have hφ : φ (C.n + d) v = some hd0 := hφ
  -- the block's place, and what lies in it
  have hplace : ∃ (M' : Mem), Mem.le M M' ∧ (∀ r j u, M' r j = some u → w.cell? ⟨r, j, none⟩ = some u) ∧ (∀ r, hd0.blk ≠ some r → ∀ j, M' r j = M r j) ∧
      (∀ r, hd0.blk = some r → ∀ (j : Nat) (x : AV), cs[j]? = some x → ∃ u, M' r j = some u ∧ Rep M' Phi.none x u) := by
    have mk : ∀ (r : Nat) (arr : Array Value) (e : TypeId), hd0.blk = some r → (∀ j, M r j = none) → w.heap[r]? = some (.cells arr e (0, 0)) → cs.length ≤ arr.size → (∀ (j : Nat) (x : AV) (u : Value), cs[j]? = some x → arr[j]? = some u → Rep M φ x u) →
        ∃ (M' : Mem), Mem.le M M' ∧ (∀ r j u, M' r j = some u → w.cell? ⟨r, j, none⟩ = some u) ∧ (∀ r, hd0.blk ≠ some r → ∀ j, M' r j = M r j) ∧
        (∀ r, hd0.blk = some r → ∀ (j : Nat) (x : AV), cs[j]? = some x → ∃ u, M' r j = some u ∧ Rep M' Phi.none x u) := by
      intro r arr e hb hn ha hl hx
      have hM : Mem.le M (memAdd M r (arr[·]?)) := memAdd_le fun j _ _ => hn j
      refine ⟨memAdd M r (arr[·]?), hM, ?_, ?_, ?_⟩
      · intro q j u hu
        by_cases hq : q = r
        · subst hq
          unfold memAdd at hu
          simp only [if_true, hn] at hu
          simp only [World.cell?, ha]
          split at hu
          · rename_i u' hu'; cases hu; simpa using hu'
          · cases hu
        · rw [memAdd_other hq] at hu
          exact hs.wr.mem q j u hu
      · intro q hq j
        exact memAdd_other (fun e => hq (by rw [hb, e])) j
      · intro q hq j x hjx
        rw [hb] at hq; cases hq
        have hlt : j < arr.size := by have := (List.getElem?_eq_some_iff.1 hjx).1; omega
        have e1 : arr[j]? = some arr[j] := by simp [hlt]
        exact ⟨arr[j], memAdd_same e1, (idf_rep (hx j x _ hjx e1) (hall x (List.mem_of_getElem? hjx))).mono hM (Phi.le.refl _)⟩
    cases hd0 with
    | box r =>
      obtain ⟨_, hn, arr, e, ha, hsz, hx⟩ := hok
      exact mk r arr e rfl hn ha (by omega) hx
    | row r sz cap =>
      cases r with
      | none => exact ⟨M, Mem.le.refl _, hs.wr.mem, fun _ _ _ => rfl, fun r hr => by simp [Hd.blk] at hr⟩
      | some r =>
        obtain ⟨_, hn, arr, e, ha, hsz, hl, hx⟩ := hok
        exact mk r arr e rfl hn ha hl hx
    | tk r own sz len cap => cases r <;> cases own <;> exact hok.elim
  obtain ⟨M', hM, hmem, hkeep, hcs⟩ := hplace
  have snd : ∀ {x x' : AV} {u : Value}, Rep M φ x u → leF (C.n + d) v cs x x' → Rep M' (φ.cut' (· ≠ C.n + d)) x' u := fun h hl => leF_sound (arr := #[]) hφ hM hall hcs h hl
  have hext : Ext C.n M φ M' (φ.cut' (· ≠ C.n + d)) := ⟨hM, fun id ver hd hid hp => by rw [cut_pos (p := (· ≠ C.n + d)) (by omega)]; exact hp⟩
  -- the other blocks
  have hback : ∀ i b', HP.get ⟨o, loc'⟩ C.n i = some b' → i ≠ C.n + d ∧ ∃ b, HP.get ⟨o, loc⟩ C.n i = some b ∧ ((i < C.n ∧ b' = b) ∨ (C.n ≤ i ∧ leFB (C.n + d) v cs b b')) := by
    intro i b' hb
    unfold HP.get at hb ⊢
    by_cases hi : i < C.n
    · rw [if_pos hi] at hb ⊢
      exact ⟨by omega, b', hb, .inl ⟨hi, rfl⟩⟩
    · rw [if_neg hi] at hb ⊢
      have hne : i - C.n ≠ d := fun e => by rw [e] at hb; simp only at hb; rw [leFH_d hloc] at hb; cases hb
      obtain ⟨b, h1, h2⟩ := (leFH_look hloc _ hne).1 b' hb
      exact ⟨by omega, b, h1, .inr ⟨by omega, h2⟩⟩
  refine ⟨M', φ.cut' (· ≠ C.n + d), hext, leFL_sound (R := fun x u => Rep M φ x u) (fun x x' u h hl => snd h hl) (by have := hs.fr.1; exact this) hs.fr.2 hfr, hs.defers, ?_, ?_, ?_⟩
  · refine ⟨hs.wr.below, hs.wr.base, hmem, ?_, ?_, ?_⟩
    · intro i b' hb
      obtain ⟨hne, b, hb0, hor⟩ := hback i b' hb
      obtain ⟨hd1, hp1, hok1⟩ := hs.wr.blk i b hb0
      have hver : b'.ver = b.ver := by rcases hor with ⟨_, rfl⟩ | ⟨_, h⟩; rfl; exact leFB_ver h
      refine ⟨hd1, by rw [hver, cut_pos (p := (· ≠ C.n + d)) hne]; exact hp1, ?_⟩
      have hrne : ∀ r, hd1.blk = some r → hd0.blk ≠ some r := fun r h1 h2 => hne (hs.wr.inj i (C.n + d) b _ hd1 hd0 r hb0 hg hp1 hφ h1 h2)
      have hcell : ∀ {l m : List AV} {arr : Array Value}, (b = .cells b.ver l ∧ b' = .cells b.ver m) → (∀ (j : Nat) (x : AV) (u : Value), l[j]? = some x → arr[j]? = some u → Rep M φ x u) →
          l.length = m.length ∧ ∀ (j : Nat) (x : AV) (u : Value), m[j]? = some x → arr[j]? = some u → Rep M' (φ.cut' (· ≠ C.n + d)) x u := by
        rintro l m arr ⟨e1, e2⟩ hx
        rcases hor with ⟨hi, hbb⟩ | ⟨_, h⟩
        · obtain ⟨-, e3⟩ := Blk.cells.inj (e1.symm.trans (hbb.symm.trans e2)); subst e3
          refine ⟨rfl, fun j x u h1 h2 => ?_⟩
          have ho := hs.out i b hi hb0
          rw [e1] at ho
          exact (rep_cut (hx j x u h1 h2) ((ho x (List.mem_of_getElem? h1)).mono fun k hk => by omega)).mono hM (Phi.le.refl _)
        · rw [e1, e2] at h
          obtain ⟨_, h⟩ := h
          have hlen := leFL_len h
          refine ⟨hlen, fun j x u h1 h2 => ?_⟩
          have pick : ∀ {l m : List AV}, leFL (C.n + d) v cs l m → ∀ (j : Nat) (x : AV), m[j]? = some x → ∃ y, l[j]? = some y ∧ leF (C.n + d) v cs y x := by
            intro l
            induction l with
            | nil => intro m hm j x hx; cases m with
              | nil => simp at hx
              | cons a m => exact hm.elim
            | cons a l ih => intro m hm j x hx; cases m with
              | nil => exact hm.elim
              | cons c m =>
                cases j with
                | zero => simp at hx; subst hx; exact ⟨a, rfl, hm.1⟩
                | succ j => simpa using ih hm.2 j x (by simpa using hx)
          obtain ⟨y, hy1, hy2⟩ := pick h j x h1
          exact snd (hx j y u hy1 h2) hy2
      cases b with
      | cells ver l =>
        have hb' : ∃ m, b' = .cells ver m := by
          rcases hor with ⟨_, rfl⟩ | ⟨_, h⟩
          · exact ⟨l, rfl⟩
          · cases b' with
            | cells ver' m => obtain ⟨rfl, _⟩ := h; exact ⟨m, rfl⟩
            | tok ver' => exact h.elim
        obtain ⟨m, rfl⟩ := hb'
        cases hd1 with
        | box r =>
          obtain ⟨h1, h2, arr, e, h3, h4, h5⟩ := hok1
          obtain ⟨k1, k2⟩ := hcell (arr := arr) ⟨rfl, rfl⟩ h5
          exact ⟨h1, fun j => by rw [hkeep r (hrne r rfl)]; exact h2 j, arr, e, h3, by omega, k2⟩
        | row r sz cap =>
          cases r with
          | none =>
            obtain ⟨h1, h2⟩ := hok1
            obtain ⟨k1, k2⟩ := hcell (arr := #[]) ⟨rfl, rfl⟩ (by intro j x u _ hu; simp at hu)
            exact ⟨by subst h1; exact List.length_eq_zero_iff.1 (by simpa using k1.symm), h2⟩
          | some r =>
            obtain ⟨h1, h2, arr, e, h3, h4, h5, h6⟩ := hok1
            obtain ⟨k1, k2⟩ := hcell (arr := arr) ⟨rfl, rfl⟩ h6
            exact ⟨h1, fun j => by rw [hkeep r (hrne r rfl)]; exact h2 j, arr, e, h3, h4, by omega, k2⟩
        | tk r own sz len cap => cases r <;> cases own <;> exact hok1.elim
      | tok ver =>
        have hb' : b' = .tok ver := by
          rcases hor with ⟨_, rfl⟩ | ⟨_, h⟩
          · rfl
          · cases b' with
            | cells ver' m => exact h.elim
            | tok ver' => rw [show ver' = ver from h]
        subst hb'
        cases hd1 with
        | box r => exact hok1.elim
        | row r sz cap => cases r <;> exact hok1.elim
        | tk r own sz len cap =>
          cases own with
          | false => cases r <;> exact hok1
          | true =>
            cases r with
            | none => exact hok1.elim
            | some r =>
              obtain ⟨h1, h2, h3, h4, h5⟩ := hok1
              exact ⟨h1, h2, h3, fun j hj => by rw [hkeep r (hrne r rfl)]; exact h4 j hj, h5⟩
    · intro i i' b b' hd1 hd2 r h1 h2 h3 h4 h5 h6
      obtain ⟨hne, c, hc, hor⟩ := hback i b h1
      obtain ⟨hne', c', hc', hor'⟩ := hback i' b' h2
      have e1 : b.ver = c.ver := by rcases hor with ⟨_, rfl⟩ | ⟨_, h⟩; rfl; exact leFB_ver h
      have e2 : b'.ver = c'.ver := by rcases hor' with ⟨_, rfl⟩ | ⟨_, h⟩; rfl; exact leFB_ver h
      exact hs.wr.inj i i' c c' hd1 hd2 r hc hc' (by rw [← e1]; exact (cut_some h3).2) (by rw [← e2]; exact (cut_some h4).2) h5 h6
    · intro i ver hd1 hp
      obtain ⟨hne, hp⟩ := cut_some hp
      obtain ⟨b, hb, hle⟩ := hs.wr.dom i ver hd1 hp
      unfold HP.get at hb ⊢
      by_cases hi : i < C.n
      · rw [if_pos hi] at hb ⊢
        exact ⟨b, hb, hle⟩
      · rw [if_neg hi] at hb ⊢
        have hne2 : i - C.n ≠ d := by omega
        obtain ⟨b', hb'⟩ := (leFH_look hloc _ hne2).2 b hb
        obtain ⟨b0, h1, h2⟩ := (leFH_look hloc _ hne2).1 b' hb'
        simp only at hb
        rw [hb] at h1; cases h1
        exact ⟨b', hb', by rw [leFB_ver h2]; exact hle⟩
  · intro id ver hd1 hp
    exact hs.dom id ver hd1 (cut_some hp).2
  · intro id b hid hb
    obtain ⟨hne, c, hc, hor⟩ := hback id b hb
    rcases hor with ⟨_, rfl⟩ | ⟨h, _⟩
    · exact hs.out id b hid hc
    · omega
end Go.Av

namespace Go.Av
set_option linter.unusedVariables false
set_option linter.unusedSimpArgs false
open Go.RowKit

/-! ### names from outside -/
theorem get_out (o : GH) (l : List (Nat × Blk)) (n k : Nat) (h : k < n) : HP.get ⟨o, l⟩ n k = o k := by unfold HP.get; rw [if_pos h]
theorem put_out (o : GH) (l : List (Nat × Blk)) (n k : Nat) (b : Blk) (h : k < n) : HP.put ⟨o, l⟩ n k b = ⟨gput o k b, l⟩ := by unfold HP.put; rw [if_pos h]; rfl
theorem gput_same (o : GH) (k : Nat) (b : Blk) : gput o k b k = some b := by unfold gput; rw [if_pos rfl]
theorem gput_ne (o : GH) (k j : Nat) (b : Blk) (h : j ≠ k) : gput o k b j = o j := by unfold gput; rw [if_neg h]
theorem may_out (P : Program) (n nt : Nat) (nm : Nat → Option Nat) (md : Nat → Nat) (k : Nat) (b : Blk) (h : k < n) : Cfg.may ⟨P, n, nt, nm, md⟩ k b = b.only (· < n) := by
  unfold Cfg.may
  exact propext ⟨fun hh => hh.2 h, fun hh => ⟨by simp only; omega, fun _ => hh⟩⟩

theorem CallAt.body {P : Program} {f : FuncId} {fn : Func} {c : Code} {args : List AV} {g : GH} {R : AV → GH → Prop} (nm : Nat → Option Nat) (md : Nat → Nat) (hf : P.funcs[f]? = some fn) (hb : fn.body = some c) {rs : List ResultVar} (hrs : fn.results = rs.toArray) {nt : Nat} (hnt : fn.ntmps = nt) {n : Nat}
    (ht : (∀ id, n ≤ id → g id = none) → WC ⟨P, n, nt, nm, md⟩ c [] (FnPost ⟨P, n, nt, nm, md⟩ rs R) (args ++ List.replicate (nt - args.length) (.lit undef)) ⟨g, []⟩) : CallAt P n f args g R :=
  CallAt.of_T nm md hf hb rs (by rw [hrs]) nt hnt n fun hn => (T.of_TW (by have := ht hn; unfold WC at this; exact this)).mono fun e fr h hk => by rwa [WX_nil] at hk

/-- a call that leaves this behind -/
theorem WE_eff {C : Cfg} {f : FuncId} {args : List AV} {d : Option Tmp} {all : Array Oper} {l : List Oper} {k : List KI} {Q : QT} {fr : List AV} {h : HP} {res : AV} (wr : List (Nat × Blk))
    (hc : CallAt C.P (C.n + C.nt) f args (h.get C.n) (fun r g' => r = res ∧ g' = gputs (h.get C.n) wr)) (hok : ∀ p, p ∈ wr → p.1 < C.n → p.2.only (· < C.n)) (hk : WL C all l k Q (fset fr d res) (h.puts C.n wr)) : WE C f args d all l k Q fr h := by
  unfold WE
  refine ⟨_, hc, ?_⟩
  rintro r g' ⟨rfl, rfl⟩
  refine ⟨h.puts C.n wr, HP.get_puts h C.n wr, ?_, hk⟩
  intro id b hid hb
  rw [HP.get_puts] at hb
  rcases gputs_some hb with h1 | h1
  · exact .inl h1
  · exact .inr (hok _ h1 hid)

/-- the end of a function, in a state that says less -/
theorem FnPost_imp {C : Cfg} {rs : List ResultVar} {R : AV → GH → Prop} {e : Exit} {fr fr' : List AV} {h h' : HP} (i : Imp C fr h fr' h') (hp : FnPost C rs R e fr' h') : FnPost C rs R e fr h := by
  obtain ⟨he, fr2, h2, i2, h3⟩ := hp
  exact ⟨he, fr2, h2, i.trans i2, h3⟩

/-! ### a loop at whose end a state that says less may be taken -/
def LPF {S : Type} (C : Cfg) (F : S → List AV) (H : S → HP) (inv : S → Prop) (μ : S → Nat) (s : S) (k : List KI) (Q : QT) (e : Exit) (fr : List AV) (h : HP) : Prop :=
  match e with
  | .normal => ∃ s', inv s' ∧ μ s' < μ s ∧ Imp C fr h (F s') (H s')
  | e => ∃ fr' h', Imp C fr h fr' h' ∧ WX C e k Q fr' h'
section lpf
variable {S : Type} {C : Cfg} {F : S → List AV} {H : S → HP} {inv : S → Prop} {μ : S → Nat} {s : S} {k : List KI} {Q : QT} {fr : List AV} {h : HP}
theorem LPF_next (s' : S) (h1 : inv s') (h2 : μ s' < μ s) (h3 : Imp C fr h (F s') (H s')) : LPF C F H inv μ s k Q .normal fr h := ⟨s', h1, h2, h3⟩
theorem LPF_exit {i : Nat} {fr' : List AV} {h' : HP} (h1 : Imp C fr h fr' h') (h2 : WX C (.exit i) k Q fr' h') : LPF C F H inv μ s k Q (.exit i) fr h := ⟨fr', h', h1, h2⟩
theorem LPF_ret {fr' : List AV} {h' : HP} (h1 : Imp C fr h fr' h') (h2 : WX C .ret k Q fr' h') : LPF C F H inv μ s k Q .ret fr h := ⟨fr', h', h1, h2⟩
end lpf
theorem PostT.imp {C : Cfg} {w0 : World} {M : Mem} {φ : Phi} {Q Q' : Exit → List AV → HP → Prop} {e : Exit} {a : Act} {w : World} (h : PostT C w0 M φ Q e a w) (hq : ∀ fr h, Q e fr h → ∃ fr' h', Imp C fr h fr' h' ∧ Q' e fr' h') : PostT C w0 M φ Q' e a w := by
  obtain ⟨M', φ', fr, hp, h1, h2, h3⟩ := h
  obtain ⟨fr', h', i, hq'⟩ := hq fr hp h3
  obtain ⟨M2, φ2, e2, s2⟩ := i w0 M' φ' a w h2
  exact ⟨M2, φ2, fr', h', h1.trans e2, s2, hq'⟩
theorem WC_of_T {C : Cfg} {c : Code} {k : List KI} {Q : QT} {fr : List AV} {h : HP} (ht : T C (.loop c) (fun e fr h => WX C e k Q fr h) fr h) : WC C (.loop c) k Q fr h := by
  unfold WC TW; exact ht
theorem WC_loopF {S : Type} {C : Cfg} {body : Code} {k : List KI} {Q : QT} {fr : List AV} {h : HP} (F : S → List AV) (H : S → HP) (inv : S → Prop) (μ : S → Nat) (s0 : S) (h0 : inv s0) (w0 : Imp C fr h (F s0) (H s0))
    (round : ∀ s, inv s → WC C body [] (LPF C F H inv μ s k Q) (F s) (H s)) : WC C (.loop body) k Q fr h := by
  refine WC_of_T ?_
  have key : T C (.loop body) (fun e fr h => ∃ fr' h', Imp C fr h fr' h' ∧ WX C e k Q fr' h') fr h := by
    refine T.loop F H inv μ s0 h0 w0 fun s hs => (T.of_TW (by have := round s hs; unfold WC at this; exact this)).mono ?_
    intro e fr h hk
    rw [WX_nil] at hk
    cases e <;> exact hk
  intro wb M φ a w hs
  exact wp_mono (key wb M φ a w hs) fun e a w hp => hp.imp fun fr h hq => hq

/-! ### a slice of which it isn't told whether it is nil -/
theorem CallAt.split_nl {P : Program} {n : Nat} {f : FuncId} {pre post : List AV} {l : List AV} {tok : Tk} {g : GH} {R : AV → GH → Prop} (h1 : l = [] → CallAt P n f (pre ++ .isl (some true) l tok :: post) g R) (h2 : CallAt P n f (pre ++ .isl (some false) l tok :: post) g R) :
    CallAt P n f (pre ++ .isl none l tok :: post) g R := by
  intro w0 M φ w vs hdom hw hargs
  have hl := hargs.1
  have hlt : pre.length < vs.toList.length := by rw [← hl]; simp
  have hr := hargs.2 pre.length (.isl none l tok) vs.toList[pre.length] (by simp) (by simp)
  have key : ∀ b, Rep M φ (.isl (some b) l tok) vs.toList[pre.length] → RepL M φ (pre ++ .isl (some b) l tok :: post) vs.toList := by
    intro b hb
    refine ⟨by simpa using hl, ?_⟩
    intro i x v hx hv
    by_cases hi : i = pre.length
    · subst hi
      simp at hx; subst hx
      rw [List.getElem?_eq_getElem hlt] at hv; cases hv
      exact hb
    · refine hargs.2 i x v ?_ hv
      rcases Nat.lt_or_gt_of_ne hi with h | h
      · rw [List.getElem?_append_left h] at hx ⊢; exact hx
      · rw [List.getElem?_append_right (by omega)] at hx ⊢
        obtain ⟨j, hj⟩ : ∃ j, i - pre.length = j + 1 := ⟨i - pre.length - 1, by omega⟩
        rw [hj] at hx ⊢; exact hx
  generalize vs.toList[pre.length] = u at hr key
  cases hr with
  | @isl _ _ _ _ a len cap sz cv hlen hcap hnl hnil hsz hsp hm hr hfull htok =>
    cases a with
    | none =>
      have hl0 : l = [] := List.length_eq_zero_iff.1 (by have := hnil rfl; omega)
      exact h1 hl0 w0 M φ w vs hdom hw (key true (.isl sz cv hlen hcap (by simp) hnil hsz hsp hm hr hfull htok))
    | some a => exact h2 w0 M φ w vs hdom hw (key false (.isl sz cv hlen hcap (by simp) hnil hsz hsp hm hr hfull htok))

/-! ### nothing, as a slice of one's own -/
def leN (id sz : Nat) : AV → AV → Prop
  | .isl (some true) [] .full, .osl i ver s off len => i = id ∧ ver = 0 ∧ s = sz ∧ off = 0 ∧ len = 0
  | a, b => a = b
def leNL (id sz : Nat) : List AV → List AV → Prop
  | [], [] => True
  | a :: l, b :: m => leN id sz a b ∧ leNL id sz l m
  | _, _ => False
def leNB (id sz : Nat) : Blk → Blk → Prop
  | .cells ver x, .cells ver' y => ver' = ver ∧ leNL id sz x y
  | .tok v, .tok v' => v' = v
  | _, _ => False
theorem leN_sound {M : Mem} {φ φ' : Phi} {id sz : Nat} (hφ : Phi.le φ φ') (hid : φ' id 0 = some (.row none sz 0)) {x x' : AV} {u : Value} (h : Rep M φ x u) (hl : leN id sz x x') : Rep M φ' x' u := by
  unfold leN at hl
  split at hl
  · obtain ⟨rfl, rfl, rfl, rfl, rfl⟩ := hl
    cases h with
    | @isl _ _ _ _ a len cap sz' cv hlen hcap hnl hnil hsz hsp hm hr hfull htok =>
      have ha := hnl true rfl
      cases a with
      | some a => simp at ha
      | none =>
        have hc := hnil rfl
        simp at hlen
        subst hlen; subst hc
        exact .osl (r := none) (C := 0) hid rfl (Nat.le_refl _) (by simp) (by simp) (by simp)
  · subst hl; exact h.mono (Mem.le.refl _) hφ
theorem leNL_sound {M : Mem} {φ φ' : Phi} {id sz : Nat} (hφ : Phi.le φ φ') (hid : φ' id 0 = some (.row none sz 0)) : ∀ {l m : List AV} {vs : List Value}, RepL M φ l vs → leNL id sz l m → RepL M φ' m vs
  | [], [], vs, h, _ => ⟨h.1, by simp⟩
  | a :: l, b :: m, [], h, _ => by have := h.1; simp at this
  | a :: l, b :: m, u :: vs, h, hl => RepL.cons (leN_sound hφ hid (h.2 0 a u rfl rfl) hl.1) (leNL_sound hφ hid ⟨by have := h.1; simpa using this, fun i x v h1 h2 => h.2 (i + 1) x v (by simpa using h1) (by simpa using h2)⟩ hl.2)
  | [], b :: m, vs, h, hl => hl.elim
  | a :: l, [], vs, h, hl => hl.elim

theorem leNL_len {id sz : Nat} : ∀ {l m : List AV}, leNL id sz l m → l.length = m.length
  | [], [], _ => rfl
  | a :: l, b :: m, h => by simp [leNL_len h.2]
  | [], b :: m, h => h.elim
  | a :: l, [], h => h.elim
theorem leNL_get {id sz : Nat} : ∀ {l m : List AV}, leNL id sz l m → ∀ (j : Nat) (x : AV), m[j]? = some x → ∃ y, l[j]? = some y ∧ leN id sz y x
  | [], [], _, j, x, h => by simp at h
  | a :: l, b :: m, hl, j, x, h => by
    cases j with
    | zero => simp at h; subst h; exact ⟨a, rfl, hl.1⟩
    | succ j => simpa using leNL_get hl.2 j x (by simpa using h)
  | [], b :: m, h, _, _, _ => h.elim
  | a :: l, [], h, _, _, _ => h.elim
theorem leNB_ver {id sz : Nat} {b b' : Blk} (h : leNB id sz b b') : b'.ver = b.ver := by
  unfold leNB at h
  split at h
  · exact h.1
  · exact h
  · exact h.elim

/-- **Nothing becomes an empty slice of one's own, under a new name.** -/
theorem imp_nil {C : Cfg} {fr fr' : List AV} {h h' : HP} (id sz : Nat) (hid : id < C.n + C.nt) (hnone : h.get C.n id = none) (hnew : h'.get C.n id = some (.cells 0 []))
    (hold : ∀ i, i ≠ id → (h'.get C.n i = none ∧ h.get C.n i = none) ∨ ∃ b b', h.get C.n i = some b ∧ h'.get C.n i = some b' ∧ leNB id sz b b' ∧ (i < C.n → b'.only (· < C.n))) (hfr : leNL id sz fr fr') : Imp C fr h fr' h' := by
  intro w0 M φ a w hs
  have hφn : ∀ ver, φ id ver = none := by
    intro ver
    cases hp : φ id ver with
    | none => rfl
    | some hd => obtain ⟨b, hb, _⟩ := hs.wr.dom id ver hd hp; rw [hnone] at hb; cases hb
  have hle : Phi.le φ (φ.add id 0 (.row none sz 0)) := Phi.le_add (hφn 0)
  have hself : φ.add id 0 (.row none sz 0) id 0 = some (.row none sz 0) := by simp [Phi.add]
  have hadd : ∀ i v, i ≠ id → φ.add id 0 (.row none sz 0) i v = φ i v := fun i v hi => by unfold Phi.add; rw [if_neg (fun hc => hi hc.1)]
  refine ⟨M, _, Ext.of_le (Mem.le.refl _) hle, leNL_sound hle hself hs.fr hfr, hs.defers, ?_, ?_, ?_⟩
  · refine ⟨hs.wr.below, hs.wr.base, hs.wr.mem, ?_, ?_, ?_⟩
    · intro i b' hb
      by_cases e : i = id
      · subst e
        rw [hnew] at hb; cases hb
        exact ⟨_, hself, rfl, rfl⟩
      · rcases hold i e with ⟨h1, _⟩ | ⟨b, b2, h1, h2, h3, _⟩
        · rw [h1] at hb; cases hb
        · rw [h2] at hb; cases hb
          obtain ⟨hd1, hp1, hok1⟩ := hs.wr.blk i b h1
          refine ⟨hd1, by rw [leNB_ver h3, hadd _ _ e]; exact hp1, ?_⟩
          cases b with
          | cells ver l =>
            cases b' with
            | tok v => exact h3.elim
            | cells ver' m =>
              obtain ⟨rfl, h3⟩ := h3
              have hlen := leNL_len h3
              have conv : ∀ {arr : Array Value}, (∀ (j : Nat) (x : AV) (u : Value), l[j]? = some x → arr[j]? = some u → Rep M φ x u) → ∀ (j : Nat) (x : AV) (u : Value), m[j]? = some x → arr[j]? = some u → Rep M (φ.add id 0 (.row none sz 0)) x u := by
                intro arr hx j x u hj hu
                obtain ⟨y, hy1, hy2⟩ := leNL_get h3 j x hj
                exact leN_sound hle hself (hx j y u hy1 hu) hy2
              cases hd1 with
              | box r =>
                obtain ⟨k1, k2, arr, e, k3, k4, k5⟩ := hok1
                exact ⟨k1, k2, arr, e, k3, by omega, conv k5⟩
              | row r sz' cap =>
                cases r with
                | none =>
                  obtain ⟨k1, k2⟩ := hok1
                  exact ⟨by subst k1; exact List.length_eq_zero_iff.1 (by simpa using hlen.symm), k2⟩
                | some r =>
                  obtain ⟨k1, k2, arr, e, k3, k4, k5, k6⟩ := hok1
                  exact ⟨k1, k2, arr, e, k3, k4, by omega, conv k6⟩
              | tk r own sz' len cap => cases r <;> cases own <;> exact hok1.elim
          | tok ver =>
            cases b' with
            | cells ver' m => exact h3.elim
            | tok ver' =>
              have : ver' = ver := h3
              subst this
              exact hok1.keep (Mem.le.refl _) hle fun _ _ => ⟨rfl, fun _ => rfl⟩
    · intro i i' b b' hd1 hd2 r h1 h2 h3 h4 h5 h6
      by_cases e : i = id
      · subst e
        rw [hnew] at h1; cases h1
        rw [show (Blk.cells 0 []).ver = 0 from rfl, hself] at h3; cases h3
        simp [Hd.blk] at h5
      · by_cases e' : i' = id
        · subst e'
          rw [hnew] at h2; cases h2
          rw [show (Blk.cells 0 []).ver = 0 from rfl, hself] at h4; cases h4
          simp [Hd.blk] at h6
        · rcases hold i e with ⟨k1, _⟩ | ⟨c, c2, k1, k2, k3, _⟩
          · rw [k1] at h1; cases h1
          · rcases hold i' e' with ⟨k1', _⟩ | ⟨c', c2', k1', k2', k3', _⟩
            · rw [k1'] at h2; cases h2
            · rw [k2] at h1; cases h1
              rw [k2'] at h2; cases h2
              exact hs.wr.inj i i' c c' hd1 hd2 r k1 k1' (by rw [← leNB_ver k3, ← hadd _ _ e]; exact h3) (by rw [← leNB_ver k3', ← hadd _ _ e']; exact h4) h5 h6
    · intro i ver hd1 hp
      by_cases e : i = id
      · subst e
        refine ⟨_, hnew, ?_⟩
        unfold Phi.add at hp
        split at hp
        · rename_i hc; show ver ≤ 0; omega
        · rw [hφn] at hp; cases hp
      · rw [hadd _ _ e] at hp
        obtain ⟨b, hb, hle2⟩ := hs.wr.dom i ver hd1 hp
        rcases hold i e with ⟨_, k1⟩ | ⟨c, c2, k1, k2, k3, _⟩
        · rw [k1] at hb; cases hb
        · rw [k1] at hb; cases hb
          exact ⟨c2, k2, by rw [leNB_ver k3]; exact hle2⟩
  · intro i ver hd1 hp
    by_cases e : i = id
    · subst e; exact hid
    · rw [hadd _ _ e] at hp; exact hs.dom i ver hd1 hp
  · intro i b hi hb
    by_cases e : i = id
    · subst e; rw [hnew] at hb; cases hb
      intro x hx; simp at hx
    · rcases hold i e with ⟨k1, _⟩ | ⟨c, c2, k1, k2, k3, k4⟩
      · rw [k1] at hb; cases hb
      · rw [k2] at hb; cases hb; exact k4 hi

/-- **The tail of a row is forgotten.** -/
theorem imp_trunc {C : Cfg} {fr : List AV} {h h' : HP} (id ver m : Nat) (cs : List AV) (hg : h.get C.n id = some (.cells ver cs)) (hrow : ∃ (d sz off len : Nat), fr[d]? = some (.osl id ver sz off len))
    (hnew : h'.get C.n id = some (.cells ver (cs.take m))) (hold : ∀ i, i ≠ id → h'.get C.n i = h.get C.n i) : Imp C fr h fr h' := by
  intro w0 M φ a w hs
  obtain ⟨d, sz, off, len, hd⟩ := hrow
  have hlt : d < fr.length := (List.getElem?_eq_some_iff.1 hd).1
  have hl := hs.fr.1
  obtain ⟨u, hrep⟩ : ∃ u, Rep M φ (.osl id ver sz off len) u := ⟨_, hs.fr.2 d _ (a.tmps.toList[d]'(by omega)) hd (by simp [show d < a.tmps.toList.length by omega])⟩
  refine ⟨M, φ, Ext.refl _ _ _, hs.fr, hs.defers, ?_, hs.dom, ?_⟩
  · refine ⟨hs.wr.below, hs.wr.base, hs.wr.mem, ?_, ?_, ?_⟩
    · intro i b hb
      by_cases e : i = id
      · subst e
        rw [hnew] at hb; cases hb
        obtain ⟨hd1, hp1, hok1⟩ := hs.wr.blk i _ hg
        refine ⟨hd1, hp1, ?_⟩
        cases hrep with
        | osl h1 hC hcap hnone hz ha =>
          rw [show (Blk.cells ver cs).ver = ver from rfl, h1] at hp1; cases hp1
          rename_i r
          cases r with
          | none =>
            obtain ⟨k1, k2⟩ := hok1
            exact ⟨by subst k1; simp, k2⟩
          | some r =>
            obtain ⟨k1, k2, arr, e, k3, k4, k5, k6⟩ := hok1
            exact ⟨k1, k2, arr, e, k3, k4, by simp; omega, fun j x v hj hv => by
              have hjm : j < m := by have := (List.getElem?_eq_some_iff.1 hj).1; simp at this; omega
              rw [List.getElem?_take_of_lt hjm] at hj
              exact k6 j x v hj hv⟩
      · rw [hold i e] at hb
        exact hs.wr.blk i b hb
    · intro i i' b b' hd1 hd2 r h1 h2 h3 h4 h5 h6
      have key : ∀ i b, h'.get C.n i = some b → ∃ c, h.get C.n i = some c ∧ c.ver = b.ver := by
        intro i b hb
        by_cases e : i = id
        · subst e; rw [hnew] at hb; cases hb; exact ⟨_, hg, rfl⟩
        · rw [hold i e] at hb; exact ⟨b, hb, rfl⟩
      obtain ⟨c, k1, k2⟩ := key i b h1
      obtain ⟨c', k3, k4⟩ := key i' b' h2
      exact hs.wr.inj i i' c c' hd1 hd2 r k1 k3 (by rw [k2]; exact h3) (by rw [k4]; exact h4) h5 h6
    · intro i v hd1 hp
      obtain ⟨b, hb, hle⟩ := hs.wr.dom i v hd1 hp
      by_cases e : i = id
      · subst e; rw [hg] at hb; cases hb; exact ⟨_, hnew, hle⟩
      · exact ⟨b, by rw [hold i e]; exact hb, hle⟩
  · intro i b hi hb
    by_cases e : i = id
    · subst e; rw [hnew] at hb; cases hb
      have := hs.out i _ hi hg
      intro x hx; exact this x (List.mem_of_mem_take hx)
    · rw [hold i e] at hb; exact hs.out i b hi hb

end Go.Av

