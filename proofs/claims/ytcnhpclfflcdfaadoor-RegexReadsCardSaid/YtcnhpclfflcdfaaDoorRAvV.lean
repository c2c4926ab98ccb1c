/- Plain words. -/
import Derived.Test.YtcnhpclfflcdfaaDoorRAvT
import Derived.Orders
namespace Go.Av
set_option linter.unusedVariables false
set_option linter.unusedSimpArgs false
open Go.RowKit

/-! ### what an operation looks at -/
theorem map_pairs {fr fr' : List AV} {ps : List (Nat × Operand)} (h : ∀ p, p ∈ ps → ev fr' p.2 = ev fr p.2) : (ps.map fun p => (p.1, ev fr' p.2)) = ps.map fun p => (p.1, ev fr p.2) :=
  List.map_congr_left fun p hp => by rw [h p hp]

theorem stepf_congr {C : Cfg} {fr fr' : List AV} {g : GH} (o : Oper) (h : ∀ x, x ∈ o.op.operands → ev fr' x = ev fr x) : stepf C o (ev fr') g = stepf C o (ev fr) g := by
  obtain ⟨dst, op, type, pos, after, guard⟩ := o
  cases op <;> simp only [Op.operands] at h <;> simp only [stepf]
  case build t ps => rw [map_pairs (ps := ps.toList) fun p hp => h p.2 (by simp; exact ⟨p.1, by simpa using hp⟩)]
  case buildSlice t n ps => rw [map_pairs (ps := ps.toList) fun p hp => h p.2 (by simp; exact ⟨p.1, by simpa using hp⟩)]
  case makeFunc fn first cap =>
    cases fn <;> simp only
    rw [List.map_congr_left (l := cap.toList) fun x hx => h x (by simp [Array.mem_toList_iff.1 hx])]
    rw [List.map_congr_left (l := first.toList) fun x hx => h x (by simp [Array.mem_toList_iff.1 hx])]
  case call c =>
    obtain ⟨callee, args, ats⟩ := c
    cases callee <;> simp only
    rw [List.map_congr_left (l := args.toList) fun x hx => h x (by simp [Call.operands, Array.mem_toList_iff.1 hx])]
  case slice t x lo hi mx => cases lo <;> cases hi <;> cases mx <;> simp_all
  all_goals (first | rfl | (simp_all; done))

theorem nextV_eq {g g' : GH} {id : Nat} (h : g' id = g id) : nextV g' id = nextV g id := by unfold nextV; rw [h]

theorem loadA_foot {P : Program} {t : TypeId} {x : AV} {g g' : GH} (hp : (loadA P t g x).pre) (h : ∀ id, id ∈ (loadA P t g x).rd → g' id = g id) : loadA P t g' x = loadA P t g x := by
  cases x <;> simp only [loadA] at hp h ⊢
  rename_i id ver off
  cases hti : tyI P t with
  | none => rfl
  | some ti =>
    rw [hti] at h hp
    cases hg : g id with
    | none => rw [hg] at hp; exact hp.elim
    | some b =>
      cases b with
      | tok v => rw [hg] at hp; exact hp.elim
      | cells v cs =>
        rw [hg] at h
        have := h id (by simp)
        rw [this, hg]

theorem clearA_foot {C : Cfg} {t : TypeId} {x : AV} {g g' : GH} (hp : (clearA C t g x).pre) (h : ∀ id, id ∈ (clearA C t g x).rd → g' id = g id) : clearA C t g' x = clearA C t g x := by
  cases x <;> simp only [clearA] at hp h ⊢
  rename_i id ver sz off len
  cases hsl : slT C.P t with
  | none => rfl
  | some e =>
    rw [hsl] at h hp
    cases hg : g id with
    | none => rw [hg] at hp; exact hp.elim
    | some b =>
      cases b with
      | tok v => rw [hg] at hp; exact hp.elim
      | cells v cs =>
        simp only [hg] at h hp
        cases hti : tyI C.P e with
        | none => rw [hti] at hp; exact hp.elim
        | some ti =>
          cases hz : zeroI C.P e with
          | none => rw [hti, hz] at hp; exact hp.elim
          | some zl =>
            match zl, hz, hp, h with
            | [], hz, hp, h => rw [hti, hz] at hp; exact hp.elim
            | _ :: _ :: _, hz, hp, h => rw [hti, hz] at hp; exact hp.elim
            | [z], hz, hp, h =>
              rw [hti, hz] at h
              have := h id (by simp)
              simp only [this, hg]

theorem storeA_foot {C : Cfg} {t : TypeId} {x y : AV} {g g' : GH} (hp : (storeA C t g x y).pre) (h : ∀ id, id ∈ (storeA C t g x y).rd → g' id = g id) : storeA C t g' x y = storeA C t g x y := by
  cases y <;> simp only [storeA] at hp h ⊢
  rename_i id ver off
  cases hti : tyI C.P t with
  | none => rfl
  | some ti =>
    rw [hti] at h hp
    cases hg : g id with
    | none => rw [hg] at hp; exact hp.elim
    | some b =>
      cases b with
      | tok v => rw [hg] at hp; exact hp.elim
      | cells v cs =>
        rw [hg] at h
        have := h id (by simp)
        rw [this, hg]

theorem allocA_foot {C : Cfg} {d : Nat} {cs : List AV} {g g' : GH} (h : ∀ id, id ∈ (allocA C d g cs).rd → g' id = g id) : allocA C d g' cs = allocA C d g cs := by
  have := nextV_eq (h (C.id d) (by simp [allocA]))
  simp only [allocA, this]

theorem makeSliceA_foot {C : Cfg} {d : Nat} {t : TypeId} {x y : AV} {g g' : GH} (h : ∀ id, id ∈ (makeSliceA C d t g x y).rd → g' id = g id) : makeSliceA C d t g' x y = makeSliceA C d t g x y := by
  revert h
  unfold makeSliceA
  split
  · split
    · split
      · intro h
        simp only at h ⊢
        by_cases hm : C.md d = 0
        · simp only [hm]
        · have := nextV_eq (h (C.id d) (by
            split
            · exact absurd ‹_› hm
            · simp))
          simp only [this]
      · intro h; rfl
    · intro h; rfl
  · intro h; rfl

theorem buildSliceA_foot {C : Cfg} {d : Nat} {t : TypeId} {len : Nat} {ps : List (Nat × AV)} {g g' : GH} (h : ∀ id, id ∈ (buildSliceA C d t len g ps).rd → g' id = g id) : buildSliceA C d t len g' ps = buildSliceA C d t len g ps := by
  revert h
  unfold buildSliceA
  split
  · split
    · simp only
      split
      · intro h; rfl
      · intro h
        have := nextV_eq (h (C.id d) (by simp))
        simp only [this]
      · intro h
        have := nextV_eq (h (C.id d) (by simp))
        simp only [this]
    · intro h; rfl
  · intro h; rfl

theorem assignA_foot {C : Cfg} {d : Nat} {x : AV} {g g' : GH} (h : ∀ id, id ∈ (assignA C d g x).rd → g' id = g id) : assignA C d g' x = assignA C d g x := by
  revert h
  unfold assignA
  split
  · intro h
    have := nextV_eq (h (C.id d) (by simp))
    simp only [this]
  · intro h; rfl

theorem appendA_foot {C : Cfg} {d : Nat} {ts : List TypeId} {s x : AV} {g g' : GH} (hp : (appendA C d ts g s x).pre) (h : ∀ id, id ∈ (appendA C d ts g s x).rd → g' id = g id) : appendA C d ts g' s x = appendA C d ts g s x := by
  revert hp h
  unfold appendA
  split
  case h_2 => intros; rfl
  split
  case h_2 => intros; rfl
  split
  case h_2 => intros; rfl
  simp only
  split
  · rename_i nl l k ver
    cases hg : g k with
    | none => exact fun hp => hp.elim
    | some b =>
      cases b with
      | cells v cs => exact fun hp => hp.elim
      | tok v =>
        intro hp h
        have := h k (by simp)
        rw [this, hg]
  · split
    · intros; rfl
    · intro hp h
      have := nextV_eq (h (C.id d) (by simp))
      simp only [this]
  · rename_i id ver sz off len
    cases hg : g id with
    | none => exact fun hp => hp.elim
    | some b =>
      cases b with
      | tok v => exact fun hp => hp.elim
      | cells v cs =>
        intro hp h
        have := h id (by simp)
        rw [this, hg]
  · intros; rfl

theorem stepf_foot {C : Cfg} {o : Oper} {e : Operand → AV} {g g' : GH} (hp : (stepf C o e g).pre) (h : ∀ id, id ∈ (stepf C o e g).rd → g' id = g id) : stepf C o e g' = stepf C o e g := by
  obtain ⟨dst, op, ty, pos, after, guard⟩ := o
  cases op <;> simp only [stepf] at hp h ⊢
  case makeFunc fn first cap => cases fn <;> rfl
  case assign x => exact assignA_foot h
  case alloc t =>
    cases hz : zeroI C.P t with
    | none => rfl
    | some z => rw [hz] at h; exact allocA_foot h
  case box t x => exact allocA_foot h
  case buildSlice t len ps => exact buildSliceA_foot h
  case load t x => exact loadA_foot hp h
  case store t x y => exact storeA_foot hp h
  case makeSlice t l c => exact makeSliceA_foot h
  case call c =>
    obtain ⟨callee, args, ats⟩ := c
    cases callee <;> simp only at hp h ⊢
    rename_i b
    revert hp h
    unfold builtinA
    split
    · exact appendA_foot
    · intros; rfl
    · intros; rfl
    · intros; rfl
    · split
      · exact clearA_foot
      · intros; rfl
    · intros; rfl

/-! ### one operation's footprint -/
structure Ft where
  rd : List Nat := []
  wr : List Nat := []

def Ft.of (F : Ft) (o : Out) : Prop := (∀ id, id ∈ o.rd → id ∈ F.rd) ∧ ∀ p, p ∈ o.wr → p.1 ∈ F.wr

/-- two operations keep out of one another's way -/
def HA (a b : Ft) : Prop := (∀ id, id ∈ a.wr → id ∉ b.rd ∧ id ∉ b.wr) ∧ ∀ id, id ∈ b.wr → id ∉ a.rd ∧ id ∉ a.wr

def gateO (o : Oper) (all : Array Oper) (fr : List AV) : Option Bool :=
  match o.guard with
  | none => some true
  | some (j, want) => match gval all fr j with
    | .lit (.bool b) => some (b == want)
    | .lit (.tuple _) => some false
    | _ => none

def opY (C : Cfg) (F : Ft) (o : Oper) (fr : List AV) (h : HP) (v : AV) (wr : List (Nat × Blk)) : Prop :=
  match o.op with
  | .call ⟨.value x, args, _⟩ => (∀ p, p ∈ wr → p.1 ∈ F.wr ∧ (p.1 < C.n → p.2.only (· < C.n))) ∧ ∃ f cap, ev fr x = .fn f cap ∧ callable C.P f = true ∧ ∀ g', (∀ id, id ∈ F.rd → g' id = h.get C.n id) → CallC C.P f (args.toList.map (ev fr) ++ cap) g' fun r g'' => r = v ∧ g'' = gputs g' wr
  | _ => (stepf C o (ev fr) (h.get C.n)).pre ∧ (stepf C o (ev fr) (h.get C.n)).v = v ∧ (stepf C o (ev fr) (h.get C.n)).wr = wr ∧ F.of (stepf C o (ev fr) (h.get C.n))

/-- An operation that comes up leaves this. -/
def YA (C : Cfg) (all : Array Oper) (F : Ft) (o : Oper) (fr : List AV) (h : HP) (v : AV) (wr : List (Nat × Blk)) : Prop :=
  (gateO o all fr = some true ∧ opY C F o fr h v wr) ∨ (gateO o all fr = some false ∧ v = .lit undef ∧ wr = [])

theorem opY_wr {C : Cfg} {F : Ft} {o : Oper} {fr : List AV} {h : HP} {v : AV} {wr : List (Nat × Blk)} (hy : opY C F o fr h v wr) : ∀ p, p ∈ wr → p.1 ∈ F.wr := by
  unfold opY at hy
  split at hy
  · exact fun p hp => (hy.1 p hp).1
  · obtain ⟨-, -, rfl, h2⟩ := hy; exact h2.2

theorem YA.wr {C : Cfg} {all : Array Oper} {F : Ft} {o : Oper} {fr : List AV} {h : HP} {v : AV} {wr : List (Nat × Blk)} (hy : YA C all F o fr h v wr) : ∀ p, p ∈ wr → p.1 ∈ F.wr := by
  rcases hy with ⟨-, hy⟩ | ⟨-, -, rfl⟩
  · exact opY_wr hy
  · simp

theorem opY_congr {C : Cfg} {F : Ft} {o : Oper} {fr fr' : List AV} {h h' : HP} {v : AV} {wr : List (Nat × Blk)} (hy : opY C F o fr h v wr) (he : ∀ x, x ∈ o.op.operands → ev fr' x = ev fr x)
    (hg : ∀ id, id ∈ F.rd → h'.get C.n id = h.get C.n id) : opY C F o fr' h' v wr := by
  unfold opY at hy ⊢
  split at hy
  · rename_i x args ats ho
    obtain ⟨h1, f, cap, h2, h3, h4⟩ := hy
    have hx := he x (by rw [ho]; simp [Op.operands, Call.operands])
    have hargs : args.toList.map (ev fr') = args.toList.map (ev fr) := List.map_congr_left fun y hy => he y (by rw [ho]; simp [Op.operands, Call.operands, Array.mem_toList_iff.1 hy])
    refine ⟨h1, f, cap, by rw [hx, h2], h3, ?_⟩
    rw [hargs]
    intro g' hg'
    exact h4 g' fun id hid => by rw [hg' id hid, hg id hid]
  · obtain ⟨h1, h2, h3, h4⟩ := hy
    have e1 : stepf C o (ev fr') (h'.get C.n) = stepf C o (ev fr) (h.get C.n) := by
      rw [stepf_congr o he]
      exact stepf_foot h1 fun id hid => hg id (h4.1 id hid)
    simp only [e1]
    exact ⟨h1, h2, h3, h4⟩

theorem ev_fset {fr : List AV} {d : Option Tmp} {v : AV} {x : Operand} (h : ∀ t, d = some t → x ≠ .tmp t) : ev (fset fr d v) x = ev fr x := by
  cases d with
  | none => rfl
  | some d =>
    cases x with
    | tmp t =>
      have hne : (d : Nat) ≠ t := fun e => h d rfl (by rw [show d = t from e])
      show (List.set fr d v).getD t _ = fr.getD t _
      rw [List.getD_eq_getElem?_getD, List.getD_eq_getElem?_getD, List.getElem?_set_ne hne]
    | _ => rfl

theorem gateO_fset {all : Array Oper} {o : Oper} {fr : List AV} {d : Option Tmp} {v : AV} (h : ∀ t, d = some t → t ∉ o.looksAt all) : gateO o all (fset fr d v) = gateO o all fr := by
  unfold gateO
  cases hg : o.guard with
  | none => rfl
  | some q =>
    obtain ⟨j, want⟩ := q
    have : gval all (fset fr d v) j = gval all fr j := by
      unfold gval
      cases ht : (all[j]?).bind (·.dst) with
      | none => rfl
      | some t =>
        cases d with
        | none => rfl
        | some d =>
          have hne : (d : Nat) ≠ t := fun e => h d rfl (by rw [show d = t from e]; simp [Oper.looksAt, hg, ht])
          show (List.set fr d v).getD t _ = fr.getD t _
          rw [List.getD_eq_getElem?_getD, List.getD_eq_getElem?_getD, List.getElem?_set_ne hne]
    simp only [this]

theorem gputs_other {id : Nat} : ∀ {wr : List (Nat × Blk)} {g : GH}, (∀ p, p ∈ wr → p.1 ≠ id) → gputs g wr id = g id
  | [], g, h => rfl
  | (i, b) :: l, g, h => by
    show gputs (gput g i b) l id = g id
    rw [gputs_other (wr := l) fun p hp => h p (by simp [hp])]
    unfold gput
    rw [if_neg (fun e => h (i, b) (by simp) e.symm)]

theorem YA.move {C : Cfg} {all : Array Oper} {F : Ft} {o : Oper} {fr : List AV} {h : HP} {v : AV} {wr : List (Nat × Blk)} (hy : YA C all F o fr h v wr) (d : Option Tmp) (u : AV) (wr' : List (Nat × Blk))
    (hd : ∀ t, d = some t → t ∉ o.looksAt all) (hw : ∀ p, p ∈ wr' → p.1 ∉ F.rd) : YA C all F o (fset fr d u) (h.puts C.n wr') v wr := by
  have e1 := gateO_fset (all := all) (o := o) (fr := fr) (v := u) hd
  rcases hy with ⟨h1, h2⟩ | ⟨h1, h2⟩
  · refine .inl ⟨by rw [e1]; exact h1, opY_congr h2 (fun x hx => ev_fset fun t ht hxt => hd t ht ?_) fun id hid => ?_⟩
    · subst hxt
      exact List.mem_append_left _ (List.mem_filterMap.2 ⟨.tmp t, by simpa using hx, rfl⟩)
    · rw [HP.get_puts]
      exact gputs_other fun p hp e => hw p hp (e ▸ hid)
  · exact .inr ⟨by rw [e1]; exact h1, h2⟩

theorem YA.move_back {C : Cfg} {all : Array Oper} {F : Ft} {o : Oper} {fr : List AV} {h : HP} {v : AV} {wr : List (Nat × Blk)} (d : Option Tmp) (u : AV) (wr' : List (Nat × Blk))
    (hd : ∀ t, d = some t → t ∉ o.looksAt all) (hw : ∀ p, p ∈ wr' → p.1 ∉ F.rd) (hy : YA C all F o (fset fr d u) (h.puts C.n wr') v wr) : YA C all F o fr h v wr := by
  have e1 := gateO_fset (all := all) (o := o) (fr := fr) (v := u) hd
  rcases hy with ⟨h1, h2⟩ | ⟨h1, h2⟩
  · refine .inl ⟨by rw [← e1]; exact h1, opY_congr h2 (fun x hx => (ev_fset fun t ht hxt => hd t ht ?_).symm) fun id hid => ?_⟩
    · subst hxt
      exact List.mem_append_left _ (List.mem_filterMap.2 ⟨.tmp t, by simpa using hx, rfl⟩)
    · rw [HP.get_puts]
      exact (gputs_other fun p hp e => hw p hp (e ▸ hid)).symm
  · exact .inr ⟨by rw [← e1]; exact h1, h2⟩

/-! ### writes under unlike names -/
theorem insL_comm (k1 : Nat) (b1 : Blk) (k2 : Nat) (b2 : Blk) (hne : k1 ≠ k2) : ∀ (l : List (Nat × Blk)), insL (insL l k1 b1) k2 b2 = insL (insL l k2 b2) k1 b1
  | [] => by
    simp only [insL]
    have h3 : ¬ k2 = k1 := fun e => hne e.symm
    rw [if_neg hne, if_neg h3]
    by_cases h : k2 < k1
    · have h2 : ¬ k1 < k2 := by omega
      rw [if_pos h, if_neg h2]
    · have h2 : k1 < k2 := by omega
      rw [if_neg h, if_pos h2]
  | (d, c) :: l => by
    have ih := insL_comm k1 b1 k2 b2 hne l
    have h3 : ¬ k2 = k1 := fun e => hne e.symm
    by_cases a1 : d = k1
    · by_cases a2 : d = k2
      · omega
      · by_cases a3 : k2 < d
        · simp [insL, a1, a3, hne, h3, show k2 < k1 by omega, show ¬ k1 < k2 by omega]
        · simp [insL, a1, a3, hne, h3, show ¬ k2 < k1 by omega, show k1 < k2 by omega]
    · by_cases a2 : d = k2
      · by_cases a3 : k1 < d
        · simp [insL, a2, a3, hne, h3, show k1 < k2 by omega, show ¬ k2 < k1 by omega]
        · simp [insL, a2, a3, hne, h3, show ¬ k1 < k2 by omega, show k2 < k1 by omega]
      · by_cases a3 : k1 < d
        · by_cases a4 : k2 < d
          · by_cases a5 : k1 < k2
            · simp [insL, a1, a2, a3, a4, a5, hne, h3, show ¬ k2 < k1 by omega]
            · simp [insL, a1, a2, a3, a4, a5, hne, h3, show k2 < k1 by omega]
          · simp [insL, a1, a2, a3, a4, hne, h3, show ¬ k2 < k1 by omega]
        · by_cases a4 : k2 < d
          · simp [insL, a1, a2, a3, a4, hne, h3, show ¬ k1 < k2 by omega]
          · simp [insL, a1, a2, a3, a4, ih]

theorem HP.put_comm (h : HP) (n i : Nat) (b : Blk) (j : Nat) (c : Blk) (hne : i ≠ j) : (h.put n i b).put n j c = (h.put n j c).put n i b := by
  obtain ⟨o, l⟩ := h
  unfold HP.put
  by_cases h1 : i < n <;> by_cases h2 : j < n <;> simp only [h1, h2, if_true, if_false]
  · congr 1
    funext k
    by_cases h3 : k = i
    · subst h3
      have : ¬ k = j := hne
      simp [this]
    · by_cases h4 : k = j
      · subst h4; simp [h3]
      · simp [h3, h4]
  · congr 1
    exact insL_comm _ _ _ _ (by omega) _

theorem HP.put_puts (n i : Nat) (b : Blk) : ∀ (l : List (Nat × Blk)) (h : HP), (∀ p, p ∈ l → p.1 ≠ i) → (h.put n i b).puts n l = (h.puts n l).put n i b
  | [], h, _ => rfl
  | (j, c) :: l, h, hl => by
    show ((h.put n i b).put n j c).puts n l = ((h.put n j c).puts n l).put n i b
    rw [HP.put_comm h n i b j c (fun e => hl (j, c) (by simp) e.symm), HP.put_puts n i b l _ fun p hp => hl p (by simp [hp])]

theorem HP.puts_comm (n : Nat) : ∀ (l m : List (Nat × Blk)) (h : HP), (∀ p q, p ∈ l → q ∈ m → p.1 ≠ q.1) → (h.puts n l).puts n m = (h.puts n m).puts n l
  | [], m, h, _ => rfl
  | (i, b) :: l, m, h, hl => by
    show ((h.put n i b).puts n l).puts n m = ((h.puts n m).put n i b).puts n l
    rw [HP.puts_comm n l m _ fun p q hp hq => hl p q (by simp [hp]) hq, HP.put_puts n i b m h fun p hp e => hl (i, b) p (by simp) hp e.symm]

theorem fset_comm (fr : List AV) {x y : Option Tmp} (v u : AV) (h : ∀ d, x = some d → y ≠ some d) : fset (fset fr x v) y u = fset (fset fr y u) x v := by
  cases x with
  | none => rfl
  | some d =>
    cases y with
    | none => rfl
    | some e =>
      have hne : (d : Nat) ≠ e := fun he => h d rfl (by rw [show d = e from he])
      exact List.set_comm _ _ hne

/-! ### all orders -/
def TAny (C : Cfg) (all : Array Oper) (F : Nat → Ft) (K : List AV → HP → Prop) : Nat → Array Bool → List AV → HP → Prop
  | 0, listed, fr, h => Region.ready .any all listed = [] ∧ K fr h
  | fuel + 1, listed, fr, h => (Region.ready .any all listed = [] → K fr h) ∧
    ∀ i, i ∈ Region.ready .any all listed → ∀ o, all[i]? = some o → ∃ v wr, YA C all (F i) o fr h v wr ∧ TAny C all F K fuel (listed.setIfInBounds i true) (fset fr o.dst v) (h.puts C.n wr)

inductive Reach (all : Array Oper) : Nat → Nat → Prop where
  | one {j : Nat} {o : Oper} {e : Edge} (h : all[j]? = some o) (he : e ∈ o.after) (hb : Region.binds .any e = true) : Reach all j e.on
  | more {j m i : Nat} {o : Oper} {e : Edge} (h : all[j]? = some o) (he : e ∈ o.after) (hb : Region.binds .any e = true) (hm : e.on = m) (hr : Reach all m i) : Reach all j i

def ClosedB (all : Array Oper) (listed : Array Bool) : Prop := ∀ j o, all[j]? = some o → listed.getD j false = true → ∀ e, e ∈ o.after → Region.binds .any e = true → listed.getD e.on false = true

theorem getD_ff {listed : Array Bool} {i : Nat} (h1 : listed.getD i true = false) (h2 : listed.getD i false = true) : False := by
  rcases Nat.lt_or_ge i listed.size with h' | h'
  · simp [h'] at h1 h2; rw [h1] at h2; cases h2
  · simp [Array.getElem?_eq_none h'] at h2

theorem closed_reach {all : Array Oper} {listed : Array Bool} (hc : ClosedB all listed) {j i : Nat} (hr : Reach all j i) : listed.getD j false = true → listed.getD i false = true := by
  induction hr with
  | one h he hb => exact fun hj => hc _ _ h hj _ he hb
  | more h he hb hm hr ih => subst hm; exact fun hj => ih (hc _ _ h hj _ he hb)

theorem ready_reach {all : Array Oper} {listed : Array Bool} (hc : ClosedB all listed) {j i : Nat} (hj : j ∈ Region.ready .any all listed) (hr : Reach all j i) : listed.getD i false = true := by
  obtain ⟨h0, o, ho, hall⟩ := mem_ready.1 hj
  cases hr with
  | one h he hb => rw [ho] at h; cases h; exact hall _ he hb
  | more h he hb hm hr =>
    rw [ho] at h; cases h; subst hm
    exact closed_reach hc hr (hall _ he hb)

theorem closed_set {all : Array Oper} {listed : Array Bool} (hc : ClosedB all listed) {i : Nat} (hi : i ∈ Region.ready .any all listed) : ClosedB all (listed.setIfInBounds i true) := by
  intro j o ho hj e he hb
  refine getD_set_true ?_
  by_cases hij : i = j
  · subst hij
    obtain ⟨h0, o', ho', hall⟩ := mem_ready.1 hi
    rw [ho] at ho'; cases ho'
    exact hall e he hb
  · rw [getD_set_ne false hij] at hj
    exact hc j o ho hj e he hb

/-- An operation that may come up may be taken first. -/
theorem TAny_first {C : Cfg} {all : Array Oper} {F : Nat → Ft} {K : List AV → HP → Prop} {i : Nat} {oi : Oper} (hi : all[i]? = some oi) :
    ∀ (fuel : Nat) (listed : Array Bool) (fr : List AV) (h : HP) (v : AV) (wr : List (Nat × Blk)), ClosedB all listed →
      (∀ j oj, all[j]? = some oj → j ≠ i → listed.getD j true = false → ¬ Reach all j i → oi.apart all oj = true ∧ HA (F i) (F j)) →
      i ∈ Region.ready .any all listed → YA C all (F i) oi fr h v wr →
      TAny C all F K fuel (listed.setIfInBounds i true) (fset fr oi.dst v) (h.puts C.n wr) → TAny C all F K (fuel + 1) listed fr h := by
  intro fuel
  induction fuel with
  | zero =>
    intro listed fr h v wr hc _ hr hy H
    refine ⟨fun h => (by rw [h] at hr; cases hr), fun j hj o ho => ?_⟩
    by_cases hji : j = i
    · subst hji; rw [hi] at ho; cases ho; exact ⟨v, wr, hy, H⟩
    · have := ready_mono hj hji
      rw [H.1] at this
      cases this
  | succ fuel ih =>
    intro listed fr h v wr hc hfree hr hy H
    refine ⟨fun h => (by rw [h] at hr; cases hr), fun j hj oj hoj => ?_⟩
    by_cases hji : j = i
    · subst hji; rw [hi] at hoj; cases hoj; exact ⟨v, wr, hy, H⟩
    · obtain ⟨v', wr', h1, h2⟩ := H.2 j (ready_mono hj hji) oj hoj
      have hjun := (mem_ready.1 hj).1
      have hnot : ¬ Reach all j i := fun hre => getD_ff (mem_ready.1 hr).1 (ready_reach hc hj hre)
      obtain ⟨hap, hha⟩ := hfree j oj hoj hji hjun hnot
      obtain ⟨a1, a2, a3⟩ := Oper.apart_spec hap
      have hwi := hy.wr
      have hy' : YA C all (F j) oj fr h v' wr' := YA.move_back oi.dst v wr a1 (fun p hp => (hha.1 p.1 (hwi p hp)).1) h1
      have hwj := hy'.wr
      refine ⟨v', wr', hy', ih (listed.setIfInBounds j true) _ _ v wr (closed_set hc hj) ?_ (ready_mono hr (Ne.symm hji)) (hy.move oj.dst v' wr' a3 fun p hp => (hha.2 p.1 (hwj p hp)).1) ?_⟩
      · intro k ok hk hki hun hno
        refine hfree k ok hk hki ?_ hno
        by_cases hjk : j = k
        · subst hjk; exact hjun
        · rw [getD_set_ne true hjk] at hun; exact hun
      · rw [Array.setIfInBounds_comm _ _ hji, ← fset_comm fr v v' a2, ← HP.puts_comm C.n wr wr' h fun p q hp hq e => (hha.1 p.1 (hwi p hp)).2 (e ▸ hwj q hq)]
        exact h2

/-! ### the order of the text -/
def LF (C : Cfg) (all : Array Oper) (F : Nat → Ft) (K : List AV → HP → Prop) : Nat → List Oper → List AV → HP → Prop
  | _, [], fr, h => K fr h
  | k, o :: l, fr, h => ∃ v wr, YA C all (F k) o fr h v wr ∧ LF C all F K (k + 1) l (fset fr o.dst v) (h.puts C.n wr)

theorem LF_end {C : Cfg} {all : Array Oper} {F : Nat → Ft} {p : Prop} {K : List AV → HP → Prop} : ∀ {l : List Oper} {k : Nat} {fr : List AV} {h : HP}, LF C all F (fun fr h => p ∧ K fr h) k l fr h → p ∧ LF C all F K k l fr h
  | [], k, fr, h, hh => hh
  | o :: l, k, fr, h, ⟨v, wr, h1, h2⟩ => let ⟨a, b⟩ := LF_end (l := l) h2; ⟨a, v, wr, h1, b⟩

theorem TAny_lex {C : Cfg} {all : Array Oper} {F : Nat → Ft} {K : List AV → HP → Prop} (hap : ∀ i j oi oj, i < j → all[i]? = some oi → all[j]? = some oj → Reach all j i ∨ oi.apart all oj = true ∧ HA (F i) (F j))
    (hed : ∀ j oj, all[j]? = some oj → ∀ e, e ∈ oj.after → Region.binds .any e = true → e.on < j) :
    ∀ (l : List Oper) (k : Nat) (listed : Array Bool) (fr : List AV) (h : HP), (∀ j, l[j]? = all[k + j]?) → ClosedB all listed → listed.size = all.size → (∀ j, j < all.size → (listed.getD j false = true ↔ j < k)) →
      LF C all F K k l fr h → TAny C all F K l.length listed fr h
  | [], k, listed, fr, h, hl, hc, hs, hk, hh => by
    refine ⟨?_, hh⟩
    have hsz : all.size ≤ k := by
      have := (hl 0).symm
      simp at this; exact this
    cases hr : Region.ready .any all listed with
    | nil => rfl
    | cons j r =>
      have hj : j ∈ Region.ready .any all listed := by rw [hr]; simp
      obtain ⟨h0, o, ho, -⟩ := mem_ready.1 hj
      have hlt := (Array.getElem?_eq_some_iff.1 ho).1
      exact (getD_ff h0 ((hk j hlt).2 (by omega))).elim
  | o :: l, k, listed, fr, h, hl, hc, hs, hk, ⟨v, wr, h1, h2⟩ => by
    have h0 : all[k]? = some o := by simpa using (hl 0).symm
    have hlt := (Array.getElem?_eq_some_iff.1 h0).1
    have hkf : listed.getD k true = false := by
      have hkl : k < listed.size := by omega
      have hn : ¬ listed.getD k false = true := fun e => by have := (hk k hlt).1 e; omega
      simp [hkl] at hn ⊢; exact hn
    have hready : k ∈ Region.ready .any all listed := mem_ready.2 ⟨hkf, o, h0, fun e he hb => by
      have := hed k o h0 e he hb
      exact (hk e.on (by omega)).2 this⟩
    refine TAny_first h0 l.length listed fr h v wr hc ?_ hready h1 (TAny_lex hap hed l (k + 1) _ _ _ ?_ (closed_set hc hready) (by simpa using hs) ?_ h2)
    · intro j oj hj hne hun hnr
      have hjk : ¬ j < k := fun e => getD_ff hun ((hk j (Array.getElem?_eq_some_iff.1 hj).1).2 e)
      rcases hap k j o oj (by omega) h0 hj with h3 | h3
      · exact absurd h3 hnr
      · exact h3
    · intro j
      have := hl (j + 1)
      simpa [Nat.add_assoc, Nat.add_comm 1 j] using this
    · intro j hj
      by_cases e : k = j
      · subst e
        have hkl : k < listed.size := by omega
        simp [hkl]
      · rw [getD_set_ne false e, hk j hj]; omega

/-! ### the static look at a region -/
def maskE (ms : List Nat) : List Edge → Nat → Nat
  | [], a => a
  | e :: l, a => maskE ms l (if Region.binds .any e then a ||| (1 <<< e.on) ||| ms.getD e.on 0 else a)

def masks : List Oper → List Nat → List Nat
  | [], ms => ms
  | o :: l, ms => masks l (ms ++ [maskE ms o.after.toList 0])

def pairB (all : Array Oper) (m : Nat) (oj : Oper) : List Oper → Nat → Bool
  | [], _ => true
  | oi :: l, i => (m.testBit i || oi.apart all oj) && pairB all m oj l (i + 1)

def drawL (all : Array Oper) (ls : List Oper) (ms : List Nat) : List Oper → Nat → Bool
  | [], _ => true
  | oj :: l, j => (oj.after.toList.all fun e => !Region.binds .any e || decide (e.on < j)) && pairB all (ms.getD j 0) oj (ls.take j) 0 && drawL all ls ms l (j + 1)

def drawB (ls : List Oper) : Bool := drawL ls.toArray ls (masks ls []) ls 0

theorem maskE_spec {all : Array Oper} {ms : List Nat} (hms : ∀ j i, (ms.getD j 0).testBit i = true → Reach all j i) {j : Nat} {o : Oper} (ho : all[j]? = some o) : ∀ (l : List Edge) (a : Nat), (∀ e, e ∈ l → e ∈ o.after) →
    (∀ i, a.testBit i = true → Reach all j i) → ∀ i, (maskE ms l a).testBit i = true → Reach all j i
  | [], a, _, ha, i, h => ha i h
  | e :: l, a, hl, ha, i, h => by
    refine maskE_spec hms ho l _ (fun e' he' => hl e' (by simp [he'])) ?_ i h
    intro i hi
    split at hi
    · rename_i hb
      rw [Nat.testBit_or, Nat.testBit_or, Bool.or_eq_true, Bool.or_eq_true] at hi
      rcases hi with (hi | hi) | hi
      · exact ha i hi
      · have : i = e.on := by
          rw [Nat.testBit_shiftLeft, Bool.and_eq_true] at hi
          obtain ⟨h1, h2⟩ := hi
          have h1 := of_decide_eq_true h1
          have : i - e.on = 0 := by
            cases hd : i - e.on with
            | zero => rfl
            | succ d => rw [hd] at h2; simp [Nat.testBit_succ] at h2
          omega
        subst this
        exact .one ho (hl e (by simp)) hb
      · exact .more ho (hl e (by simp)) hb rfl (hms _ _ hi)
    · exact ha i hi

theorem masks_spec {all : Array Oper} : ∀ (l : List Oper) (ms : List Nat), (∀ j, l[j]? = all[ms.length + j]?) → (∀ j i, (ms.getD j 0).testBit i = true → Reach all j i) → ∀ j i, ((masks l ms).getD j 0).testBit i = true → Reach all j i
  | [], ms, _, hms => hms
  | o :: l, ms, hl, hms => by
    refine masks_spec l (ms ++ [maskE ms o.after.toList 0]) ?_ ?_
    · intro j
      have := hl (j + 1)
      simpa [Nat.add_assoc, Nat.add_comm 1 j] using this
    · intro j i h
      have h0 : all[ms.length]? = some o := by simpa using (hl 0).symm
      rw [List.getD_eq_getElem?_getD] at h
      by_cases hj : j < ms.length
      · rw [List.getElem?_append_left hj] at h
        exact hms j i (by rw [List.getD_eq_getElem?_getD]; exact h)
      · by_cases hj2 : j = ms.length
        · subst hj2
          simp at h
          exact maskE_spec hms h0 _ 0 (fun e he => by simpa using he) (by simp) i h
        · rw [List.getElem?_eq_none (by simp; omega)] at h
          simp at h

theorem pairB_spec {all : Array Oper} {m : Nat} {oj : Oper} : ∀ {l : List Oper} {i : Nat}, pairB all m oj l i = true → ∀ k oi, l[k]? = some oi → m.testBit (i + k) = true ∨ oi.apart all oj = true
  | [], i, _, k, oi, h => by simp at h
  | o :: l, i, hb, k, oi, h => by
    simp only [pairB, Bool.and_eq_true, Bool.or_eq_true] at hb
    cases k with
    | zero => simp at h; subst h; exact hb.1
    | succ k =>
      have := pairB_spec hb.2 k oi (by simpa using h)
      rwa [Nat.add_assoc, Nat.add_comm 1 k] at this

theorem drawL_spec {all : Array Oper} {ls : List Oper} {ms : List Nat} : ∀ {l : List Oper} {j : Nat}, drawL all ls ms l j = true → ∀ k oj, l[k]? = some oj →
    (∀ e, e ∈ oj.after → Region.binds .any e = true → e.on < j + k) ∧ ∀ i oi, i < j + k → ls[i]? = some oi → (ms.getD (j + k) 0).testBit i = true ∨ oi.apart all oj = true
  | [], j, _, k, oj, h => by simp at h
  | o :: l, j, hb, k, oj, h => by
    simp only [drawL, Bool.and_eq_true] at hb
    obtain ⟨⟨h1, h2⟩, h3⟩ := hb
    cases k with
    | zero =>
      simp at h; subst h
      refine ⟨fun e he hbd => ?_, fun i oi hi hoi => ?_⟩
      · have := List.all_eq_true.1 h1 e (by simpa using he)
        simpa [hbd] using this
      · have := pairB_spec h2 i oi (by rw [List.getElem?_take_of_lt (by omega)]; exact hoi)
        simpa using this
    | succ k =>
      have := drawL_spec h3 k oj (by simpa using h)
      rwa [Nat.add_assoc, Nat.add_comm 1 k] at this

/-! ### the walk, with what was looked at and written kept -/
def PO1 (m : Nat) (a : Ft) : List Ft → Nat → Prop
  | [], _ => True
  | b :: l, i => (m.testBit i = true ∨ HA b a) ∧ PO1 m a l (i + 1)

def POL (ms : List Nat) (tr : List Ft) : List Ft → Nat → Prop
  | [], _ => True
  | a :: l, j => PO1 (ms.getD j 0) a (tr.take j) 0 ∧ POL ms tr l (j + 1)

theorem PO1_spec {m : Nat} {a : Ft} : ∀ {l : List Ft} {i : Nat}, PO1 m a l i → ∀ k b, l[k]? = some b → m.testBit (i + k) = true ∨ HA b a
  | [], i, _, k, b, h => by simp at h
  | c :: l, i, hb, k, b, h => by
    cases k with
    | zero => simp at h; subst h; exact hb.1
    | succ k =>
      have := PO1_spec hb.2 k b (by simpa using h)
      rwa [Nat.add_assoc, Nat.add_comm 1 k] at this

theorem POL_spec {ms : List Nat} {tr : List Ft} : ∀ {l : List Ft} {j : Nat}, POL ms tr l j → ∀ k a, l[k]? = some a → ∀ i b, i < j + k → tr[i]? = some b → (ms.getD (j + k) 0).testBit i = true ∨ HA b a
  | [], j, _, k, a, h => by simp at h
  | c :: l, j, hb, k, a, h => by
    intro i b hi hbb
    cases k with
    | zero =>
      simp at h; subst h
      have := PO1_spec hb.1 i b (by rw [List.getElem?_take_of_lt (by omega)]; exact hbb)
      simpa using this
    | succ k =>
      have := POL_spec hb.2 k a (by simpa using h) i b (by omega) hbb
      rwa [Nat.add_assoc, Nat.add_comm 1 k] at this

/-- the walk in the order of the text, what is looked at and written kept in a row -/
def LX (C : Cfg) (all : Array Oper) (K : List Ft → List AV → HP → Prop) : List Oper → List Ft → List AV → HP → Prop
  | [], tr, fr, h => K tr fr h
  | o :: l, tr, fr, h => gateK o.guard all fr
      (match o.op with
        | .call ⟨.value x, args, _⟩ => (match ev fr x with
          | .fn f cap => callable C.P f = true ∧ ∃ rd v wr, (∀ p, p ∈ wr → p.1 < C.n → p.2.only (· < C.n)) ∧ (∀ g', (∀ id, id ∈ rd → g' id = h.get C.n id) → CallC C.P f (args.toList.map (ev fr) ++ cap) g' fun r g'' => r = v ∧ g'' = gputs g' wr) ∧ LX C all K l (tr ++ [⟨rd, wr.map (·.1)⟩]) (fset fr o.dst v) (h.puts C.n wr)
          | _ => False)
        | _ => (stepf C o (ev fr) (h.get C.n)).pre ∧ LX C all K l (tr ++ [⟨(stepf C o (ev fr) (h.get C.n)).rd, (stepf C o (ev fr) (h.get C.n)).wr.map (·.1)⟩]) (fset fr o.dst (stepf C o (ev fr) (h.get C.n)).v) (h.puts C.n (stepf C o (ev fr) (h.get C.n)).wr))
      (LX C all K l (tr ++ [⟨[], []⟩]) (fset fr o.dst (.lit undef)) h)

theorem gateK_O {o : Oper} {all : Array Oper} {fr : List AV} {A B : Prop} (h : gateK o.guard all fr A B) : (gateO o all fr = some true ∧ A) ∨ (gateO o all fr = some false ∧ B) := by
  unfold gateK at h
  unfold gateO
  cases hg : o.guard with
  | none => rw [hg] at h; exact .inl ⟨rfl, h⟩
  | some q =>
    obtain ⟨j, want⟩ := q
    rw [hg] at h
    simp only at h ⊢
    unfold gateV at h
    split at h
    · rename_i b hb
      rw [hb]
      by_cases e : b = want
      · rw [if_pos e] at h; subst e; exact .inl ⟨by simp, h⟩
      · rw [if_neg e] at h; exact .inr ⟨by simp [e], h⟩
    · rename_i t hb
      rw [hb]; exact .inr ⟨rfl, h⟩
    · exact h.elim

theorem LX_LF {C : Cfg} {all : Array Oper} {K : List Ft → List AV → HP → Prop} : ∀ {l : List Oper} {tr : List Ft} {fr : List AV} {h : HP}, LX C all K l tr fr h →
    ∃ t : List Ft, t.length = l.length ∧ ∀ F : Nat → Ft, (∀ j, j < l.length → F (tr.length + j) = t.getD j ⟨[], []⟩) → LF C all F (fun fr h => K (tr ++ t) fr h) tr.length l fr h
  | [], tr, fr, h, hh => ⟨[], rfl, fun F hF => by unfold LX at hh; simpa [LF] using hh⟩
  | o :: l, tr, fr, h, hh => by
    have key : ∀ (a : Ft) (v : AV) (wr : List (Nat × Blk)), YA C all a o fr h v wr → LX C all K l (tr ++ [a]) (fset fr o.dst v) (h.puts C.n wr) → ∃ t : List Ft, t.length = (o :: l).length ∧ ∀ F : Nat → Ft, (∀ j, j < (o :: l).length → F (tr.length + j) = t.getD j ⟨[], []⟩) → LF C all F (fun fr h => K (tr ++ t) fr h) tr.length (o :: l) fr h := by
      intro a v wr hy hl
      obtain ⟨t, h1, h2⟩ := LX_LF hl
      refine ⟨a :: t, by simp [h1], ?_⟩
      intro F hF
      have e0 : F tr.length = a := by have := hF 0 (by simp); simpa using this
      refine ⟨v, wr, by rw [e0]; exact hy, ?_⟩
      have := h2 F (by
        intro j hj
        have := hF (j + 1) (by simp; omega)
        simp only [List.length_append, List.length_cons, List.length_nil]
        rw [show tr.length + (0 + 1) + j = tr.length + (j + 1) by omega, this]
        rfl)
      simpa using this
    unfold LX at hh
    rcases gateK_O hh with ⟨hg, hh⟩ | ⟨hg, hh⟩
    · split at hh
      · rename_i x args ats ho
        split at hh
        · rename_i f cap hf
          obtain ⟨hc, rd, v, wr, h0, h1, h2⟩ := hh
          refine key ⟨rd, wr.map (·.1)⟩ v wr (.inl ⟨hg, ?_⟩) h2
          unfold opY
          rw [ho]
          exact ⟨fun p hp => ⟨List.mem_map.2 ⟨p, hp, rfl⟩, h0 p hp⟩, f, cap, hf, hc, h1⟩
        · exact hh.elim
      · rename_i hno
        obtain ⟨h1, h2⟩ := hh
        refine key _ _ _ (.inl ⟨hg, ?_⟩) h2
        unfold opY
        split
        · rename_i x args ats ho
          exact (hno x args ats ho).elim
        · exact ⟨h1, rfl, rfl, fun id hid => hid, fun p hp => List.mem_map.2 ⟨p, hp, rfl⟩⟩
    · exact key ⟨[], []⟩ (.lit undef) [] (.inr ⟨hg, rfl, rfl⟩) hh

/-! ### against the model -/
theorem gateO_sound {M : Mem} {φ : Phi} {all : Array Oper} {fr : List AV} {a : Act} (hf : FrOk M φ fr a) (o : Oper) {b : Bool} (h : gateO o all fr = some b) : Region.wanted o (yielded all a.tmps) = b := by
  have := gateK_sound (all := all) hf o (A := b = true) (B := b = false) (by
    unfold gateK
    unfold gateO at h
    cases hg : o.guard with
    | none => rw [hg] at h; simp at h; simp [h.symm]
    | some q =>
      obtain ⟨j, want⟩ := q
      rw [hg] at h
      simp only at h ⊢
      unfold gateV
      split at h
      · rename_i c hc
        rw [hc]
        simp only [Option.some.injEq] at h
        subst h
        by_cases e : c = want
        · simp [e]
        · simp [e]
      · rename_i t hc
        rw [hc]; simp at h; simp [h.symm]
      · cases h)
  rcases this with ⟨h1, h2⟩ | ⟨h1, h2⟩
  · rw [h1, h2]
  · rw [h1, h2]

theorem TAny_sound {C : Cfg} {w0 : World} {all : Array Oper} {F : Nat → Ft} {Q : Exit → List AV → HP → Prop} {M0 : Mem} {φ0 : Phi} : ∀ (fuel : Nat) (listed : Array Bool) (M : Mem) (φ : Phi) (fr : List AV) (h : HP) (a : Act) (w : World),
    Ext C.n M0 φ0 M φ → St C w0 M φ fr h a w → TAny C all F (Q .normal) fuel listed fr h → wpAny C.P .any all (PostT C w0 M0 φ0 Q) fuel listed a w
  | 0, listed, M, φ, fr, h, a, w, he, hs, ht => ⟨ht.1, M, φ, fr, h, he, hs, ht.2⟩
  | fuel + 1, listed, M, φ, fr, h, a, w, he, hs, ht => by
    refine ⟨fun hr => ⟨M, φ, fr, h, he, hs, ht.1 hr⟩, fun i hi => ?_⟩
    obtain ⟨h0, o, ho, -⟩ := mem_ready.1 hi
    obtain ⟨v, wr, hy, hk⟩ := ht.2 i hi o ho
    unfold wpOp
    simp only [ho]
    rcases hy with ⟨hg, hy⟩ | ⟨hg, rfl, rfl⟩
    · rw [gateO_sound hs.fr o hg, if_pos rfl]
      refine .inl (TOp_sound (K := fun v' h' => v' = v ∧ h' = h.puts C.n wr) hs o ?_ ?_)
      · unfold opY at hy
        unfold TOp
        split at hy
        · rename_i x args ats hop
          obtain ⟨h1, f, cap, h2, h3, h4⟩ := hy
          rw [hop]
          simp only [h2, TCall]
          refine ⟨h3, _, h4 _ (fun _ _ => rfl) _, ?_⟩
          rintro r g' ⟨rfl, rfl⟩
          refine ⟨h.puts C.n wr, HP.get_puts h C.n wr, ?_, rfl, rfl⟩
          intro id b hid hb
          rw [HP.get_puts] at hb
          rcases gputs_some hb with k1 | k1
          · exact .inl k1
          · exact .inr ((h1 _ k1).2 hid)
        · rename_i hno
          obtain ⟨h1, h2, h3, -⟩ := hy
          split
          · rename_i x args ats hop
            exact (hno x args ats hop).elim
          · exact ⟨h1, h2, by rw [h3]⟩
      · rintro v' h' x w' M' φ' ⟨rfl, rfl⟩ he' hs'
        exact TAny_sound fuel _ M' φ' _ _ _ w' (he.trans he') hs' hk
    · rw [gateO_sound hs.fr o hg, if_neg (by simp)]
      exact TAny_sound fuel _ M φ _ _ _ w he ⟨hs.fr.put o.dst (.lit _), by rw [Go.Av.put_defers]; exact hs.defers, hs.wr, hs.dom, hs.out⟩ hk

theorem T.draw {C : Cfg} {id : Nat} {ls : List Oper} {Q : Exit → List AV → HP → Prop} {fr : List AV} {h : HP} (hm : C.P.follows .mixedOrders = true) (hb : drawB ls = true)
    (ht : LX C ls.toArray (fun tr fr h => POL (masks ls []) tr tr 0 ∧ Q .normal fr h) ls [] fr h) : T C (.region id ls.toArray true) Q fr h := by
  intro w0 M φ a w hs
  refine wp_region_any hm ?_
  have hs' : St C w0 M φ fr h a { w with drawn := w.drawn + 1 } := ⟨hs.fr, hs.defers, hs.wr.drew, hs.dom, hs.out⟩
  obtain ⟨t, h1, h2⟩ := LX_LF ht
  have h3 := h2 (fun j => t.getD j ⟨[], []⟩) (by simp)
  simp only [List.nil_append, List.length_nil] at h3
  obtain ⟨hpo, h4⟩ := LF_end h3
  have hms := masks_spec (all := ls.toArray) ls [] (by simp) (by simp)
  have hdr := drawL_spec hb
  have := TAny_lex (C := C) (all := ls.toArray) (F := fun j => t.getD j ⟨[], []⟩) (K := Q .normal) ?_ ?_ ls 0 (Array.replicate ls.toArray.size false) fr h (by simp) (by intro j o ho hj; exfalso; revert hj; simp [Array.getElem?_replicate]; split <;> simp) (by simp) (by intro j hj; simp at hj; simp [Array.getElem?_replicate, hj]) h4
  · have h5 := TAny_sound (Q := Q) ls.length _ M φ fr h a _ (Ext.refl _ _ _) hs' this
    simpa using h5
  · intro i j oi oj hij hi hj
    have hi' : ls[i]? = some oi := by simpa using hi
    have hj' : ls[j]? = some oj := by simpa using hj
    have hjl : j < t.length := by rw [h1]; exact (List.getElem?_eq_some_iff.1 hj').1
    have hil : i < t.length := by omega
    have k1 := (hdr j oj hj').2 i oi (by omega) hi'
    have k2 := POL_spec hpo j t[j] (by simp [hjl]) i t[i] (by omega) (by simp [hil])
    simp only [Nat.zero_add] at k1 k2
    rcases k1 with k1 | k1
    · exact .inl (hms j i k1)
    · rcases k2 with k2 | k2
      · exact .inl (hms j i k2)
      · refine .inr ⟨k1, ?_⟩
        simpa [List.getD_eq_getElem?_getD, hil, hjl] using k2
  · intro j oj hj e he hb'
    have := (hdr j oj (by simpa using hj)).1 e he hb'
    simpa using this

end Go.Av

namespace Go.Av
set_option linter.unusedVariables false
set_option linter.unusedSimpArgs false
open Go.RowKit

/-! ### a region that draws its order, as the evaluator meets it -/
def WD (C : Cfg) (ls l : List Oper) (k : List KI) (Q : QT) (fr : List AV) (h : HP) (tr : List Ft) : Prop :=
  LX C ls.toArray (fun tr fr h => POL (masks ls []) tr tr 0 ∧ WX C .normal k Q fr h) l tr fr h
def DK (C : Cfg) (o : Out) (d : Option Tmp) (ls l : List Oper) (k : List KI) (Q : QT) (fr : List AV) (h : HP) (tr : List Ft) : Prop :=
  o.pre ∧ WD C ls l k Q (fset fr d o.v) (h.puts C.n o.wr) (tr ++ [⟨o.rd, o.wr.map (·.1)⟩])
def DE (C : Cfg) (f : FuncId) (args : List AV) (d : Option Tmp) (ls l : List Oper) (k : List KI) (Q : QT) (fr : List AV) (h : HP) (tr : List Ft) : Prop :=
  ∃ rd v wr, (∀ p, p ∈ wr → p.1 < C.n → p.2.only (· < C.n)) ∧ (∀ g', (∀ id, id ∈ rd → g' id = h.get C.n id) → CallC C.P f args g' fun r g'' => r = v ∧ g'' = gputs g' wr) ∧ WD C ls l k Q (fset fr d v) (h.puts C.n wr) (tr ++ [⟨rd, wr.map (·.1)⟩])
def DF (C : Cfg) (fv : AV) (args : List AV) (d : Option Tmp) (ls l : List Oper) (k : List KI) (Q : QT) (fr : List AV) (h : HP) (tr : List Ft) : Prop :=
  match fv with
  | .fn f cap => callable C.P f = true ∧ DE C f (args ++ cap) d ls l k Q fr h tr
  | _ => False
def DO (C : Cfg) (op : Op) (d : Option Tmp) (ls l : List Oper) (k : List KI) (Q : QT) (fr : List AV) (h : HP) (tr : List Ft) : Prop :=
  match op with
  | .call ⟨.value x, args, _⟩ => DF C (ev fr x) (args.toList.map (ev fr)) d ls l k Q fr h tr
  | op => DK C (stepf C ⟨d, op, 0, "", #[], none⟩ (ev fr) (h.get C.n)) d ls l k Q fr h tr
def DG (C : Cfg) (v : AV) (want : Bool) (op : Op) (d : Option Tmp) (ls l : List Oper) (k : List KI) (Q : QT) (fr : List AV) (h : HP) (tr : List Ft) : Prop :=
  gateV v want (DO C op d ls l k Q fr h tr) (WD C ls l k Q (fset fr d (.lit undef)) h (tr ++ [⟨[], []⟩]))

section eqs
variable (C : Cfg) (k : List KI) (Q : QT) (fr : List AV) (h : HP) (tr : List Ft) (ls l : List Oper)
theorem WD_nil : WD C ls [] k Q fr h tr = (POL (masks ls []) tr tr 0 ∧ WX C .normal k Q fr h) := by exact Eq.trans rfl rfl
theorem WD_body (d : Option Tmp) (op : Op) (t : TypeId) (p : String) (es : Array Edge) (gd : Option (Nat × Bool)) :
    WD C ls (⟨d, op, t, p, es, gd⟩ :: l) k Q fr h tr = gateK gd ls.toArray fr (DO C op d ls l k Q fr h tr) (WD C ls l k Q (fset fr d (.lit undef)) h (tr ++ [⟨[], []⟩])) := by
  unfold WD DO
  cases op <;> try rfl
  rename_i c
  obtain ⟨callee, args, ats⟩ := c
  cases callee <;> rfl
theorem WD_cons (d : Option Tmp) (op : Op) (t : TypeId) (p : String) (es : Array Edge) : WD C ls (⟨d, op, t, p, es, none⟩ :: l) k Q fr h tr = DO C op d ls l k Q fr h tr := by
  rw [WD_body]; rfl
theorem WD_cons_g (d : Option Tmp) (op : Op) (t : TypeId) (p : String) (es : Array Edge) (j : Nat) (want : Bool) : WD C ls (⟨d, op, t, p, es, some (j, want)⟩ :: l) k Q fr h tr = DG C (gval ls.toArray fr j) want op d ls l k Q fr h tr := by
  rw [WD_body]; rfl
variable (op : Op) (d : Option Tmp)
theorem DG_bool (b want : Bool) : DG C (.lit (.bool b)) want op d ls l k Q fr h tr = if b = want then DO C op d ls l k Q fr h tr else WD C ls l k Q (fset fr d (.lit undef)) h (tr ++ [⟨[], []⟩]) := by exact Eq.trans rfl rfl
theorem DG_tt : DG C (.lit (.bool true)) true op d ls l k Q fr h tr = DO C op d ls l k Q fr h tr := by simp only [DG_bool, if_true]
theorem DG_ff : DG C (.lit (.bool false)) false op d ls l k Q fr h tr = DO C op d ls l k Q fr h tr := by simp only [DG_bool, if_true]
theorem DG_tf : DG C (.lit (.bool true)) false op d ls l k Q fr h tr = WD C ls l k Q (fset fr d (.lit undef)) h (tr ++ [⟨[], []⟩]) := by rw [DG_bool, if_neg (by decide)]
theorem DG_ft : DG C (.lit (.bool false)) true op d ls l k Q fr h tr = WD C ls l k Q (fset fr d (.lit undef)) h (tr ++ [⟨[], []⟩]) := by rw [DG_bool, if_neg (by decide)]
theorem DG_split {b want : Bool} (ht : b = true → DG C (.lit (.bool true)) want op d ls l k Q fr h tr) (hf : b = false → DG C (.lit (.bool false)) want op d ls l k Q fr h tr) : DG C (.lit (.bool b)) want op d ls l k Q fr h tr := by
  cases b
  · exact hf rfl
  · exact ht rfl
theorem DG_undef (want : Bool) : DG C (.lit undef) want op d ls l k Q fr h tr = WD C ls l k Q (fset fr d (.lit undef)) h (tr ++ [⟨[], []⟩]) := by exact Eq.trans rfl rfl
theorem DK_mk0 (v : AV) (rd : List Nat) : DK C ⟨True, v, rd, []⟩ d ls l k Q fr h tr = WD C ls l k Q (fset fr d v) h (tr ++ [⟨rd, []⟩]) := by simp [DK, HP.puts]
theorem DK_mk (p : Prop) (v : AV) (rd : List Nat) (wr : List (Nat × Blk)) : DK C ⟨p, v, rd, wr⟩ d ls l k Q fr h tr = (p ∧ WD C ls l k Q (fset fr d v) (h.puts C.n wr) (tr ++ [⟨rd, wr.map (·.1)⟩])) := by exact Eq.trans rfl rfl
theorem DF_fn (f : FuncId) (cap args : List AV) : DF C (.fn f cap) args d ls l k Q fr h tr = (callable C.P f = true ∧ DE C f (args ++ cap) d ls l k Q fr h tr) := by exact Eq.trans rfl rfl
theorem DO_call (x : Operand) (args : List Operand) (ats : Array TypeId) : DO C (.call ⟨.value x, args.toArray, ats⟩) d ls l k Q fr h tr = DF C (ev fr x) (args.map (ev fr)) d ls l k Q fr h tr := by exact Eq.trans rfl rfl
theorem DO_move (x : Operand) : DO C (.move x) d ls l k Q fr h tr = DK C ⟨True, ev fr x, [], []⟩ d ls l k Q fr h tr := by exact Eq.trans rfl rfl
theorem DO_makeFunc (f : FuncId) (cap : List Operand) : DO C (.makeFunc (.func f) #[] cap.toArray) d ls l k Q fr h tr = DK C ⟨True, .fn f (cap.map (ev fr)), [], []⟩ d ls l k Q fr h tr := by simp [DO, stepf, DK]
theorem DO_builtin (b : Builtin) (args : List Operand) (ats : List TypeId) : DO C (.call ⟨.builtin b, args.toArray, ats.toArray⟩) d ls l k Q fr h tr = DK C (builtinA C (d.getD 0) b ats (h.get C.n) (args.map (ev fr))) d ls l k Q fr h tr := by exact Eq.trans rfl rfl
theorem DO_assign (x : Operand) : DO C (.assign x) d ls l k Q fr h tr = DK C (assignA C (d.getD 0) (h.get C.n) (ev fr x)) d ls l k Q fr h tr := by exact Eq.trans rfl rfl
theorem DO_pick (c a b : Operand) : DO C (.pick c a b) d ls l k Q fr h tr = DK C (pickA (ev fr c) (ev fr a) (ev fr b)) d ls l k Q fr h tr := by exact Eq.trans rfl rfl
theorem DO_alloc (u : TypeId) : DO C (.alloc u) d ls l k Q fr h tr = DK C (allocZ C (d.getD 0) u (h.get C.n)) d ls l k Q fr h tr := by exact Eq.trans rfl rfl
theorem DO_box (u : TypeId) (x : Operand) : DO C (.box u x) d ls l k Q fr h tr = DK C (allocA C (d.getD 0) (h.get C.n) (ev fr x).cells) d ls l k Q fr h tr := by exact Eq.trans rfl rfl
theorem DO_build (u : TypeId) (ps : List (Nat × Operand)) : DO C (.build u ps.toArray) d ls l k Q fr h tr = DK C (buildA C.P u (ps.map fun p => (p.1, ev fr p.2))) d ls l k Q fr h tr := by exact Eq.trans rfl rfl
theorem DO_buildSlice (u : TypeId) (len : Nat) (ps : List (Nat × Operand)) : DO C (.buildSlice u len ps.toArray) d ls l k Q fr h tr = DK C (buildSliceA C (d.getD 0) u len (h.get C.n) (ps.map fun p => (p.1, ev fr p.2))) d ls l k Q fr h tr := by exact Eq.trans rfl rfl
theorem DO_load (u : TypeId) (x : Operand) : DO C (.load u x) d ls l k Q fr h tr = DK C (loadA C.P u (h.get C.n) (ev fr x)) d ls l k Q fr h tr := by exact Eq.trans rfl rfl
theorem DO_store (u : TypeId) (x y : Operand) : DO C (.store u x y) d ls l k Q fr h tr = DK C (storeA C u (h.get C.n) (ev fr y) (ev fr x)) d ls l k Q fr h tr := by exact Eq.trans rfl rfl
theorem DO_nilCheck (x : Operand) : DO C (.nilCheck x) d ls l k Q fr h tr = DK C (nilCheckA (ev fr x)) d ls l k Q fr h tr := by exact Eq.trans rfl rfl
theorem DO_binOp (o : BinOp) (u u' : TypeId) (x y : Operand) : DO C (.binOp o u x y u') d ls l k Q fr h tr = DK C (binA C.P o u (ev fr x) (ev fr y)) d ls l k Q fr h tr := by exact Eq.trans rfl rfl
theorem DO_unOp (o : UnOp) (u : TypeId) (x : Operand) : DO C (.unOp o u x) d ls l k Q fr h tr = DK C (unA o (ev fr x)) d ls l k Q fr h tr := by exact Eq.trans rfl rfl
theorem DO_convert (s u : TypeId) (x : Operand) : DO C (.convert s u x) d ls l k Q fr h tr = DK C (convO C.P s u (ev fr x)) d ls l k Q fr h tr := by exact Eq.trans rfl rfl
theorem DO_makeSlice (u : TypeId) (x y : Operand) : DO C (.makeSlice u x y) d ls l k Q fr h tr = DK C (makeSliceA C (d.getD 0) u (h.get C.n) (ev fr x) (ev fr y)) d ls l k Q fr h tr := by exact Eq.trans rfl rfl
theorem DO_slice (u : TypeId) (x : Operand) (lo hi mx : Option Operand) : DO C (.slice u x lo hi mx) d ls l k Q fr h tr = DK C (sliceA C.P u (ev fr x) (lo.map (ev fr)) (hi.map (ev fr)) (mx.map (ev fr))) d ls l k Q fr h tr := by exact Eq.trans rfl rfl
theorem DO_fieldAddr (u : TypeId) (x : Operand) (f : Nat) : DO C (.fieldAddr u x f) d ls l k Q fr h tr = DK C (fieldAddrA C.P u f (ev fr x)) d ls l k Q fr h tr := by exact Eq.trans rfl rfl
theorem DO_field (u : TypeId) (x : Operand) (f : Nat) : DO C (.field u x f) d ls l k Q fr h tr = DK C (fieldA C.P u f (ev fr x)) d ls l k Q fr h tr := by exact Eq.trans rfl rfl
theorem DO_indexAddr (u : TypeId) (x y : Operand) : DO C (.indexAddr u x y) d ls l k Q fr h tr = DK C (indexAddrA C.P u (ev fr x) (ev fr y)) d ls l k Q fr h tr := by exact Eq.trans rfl rfl
theorem DO_index (u : TypeId) (x y : Operand) : DO C (.index u x y) d ls l k Q fr h tr = DK C (indexA C.P u (ev fr x) (ev fr y)) d ls l k Q fr h tr := by exact Eq.trans rfl rfl
theorem DO_extract (x : Operand) (i : Nat) : DO C (.extract x i) d ls l k Q fr h tr = DK C (extractA i (ev fr x)) d ls l k Q fr h tr := by exact Eq.trans rfl rfl
theorem DE_pure {f : FuncId} {args : List AV} {res : AV} (rd : List Nat) (hc : ∀ g', (∀ id, id ∈ rd → g' id = h.get C.n id) → PureC C.P f args g' res) (hk : WD C ls l k Q (fset fr d res) h (tr ++ [⟨rd, []⟩])) : DE C f args d ls l k Q fr h tr :=
  ⟨rd, res, [], by simp, fun g' hg' => hc g' hg', hk⟩
theorem DE_eff {f : FuncId} {args : List AV} {res : AV} (rd : List Nat) (wr : List (Nat × Blk)) (hc : ∀ g', (∀ id, id ∈ rd → g' id = h.get C.n id) → CallC C.P f args g' fun r g'' => r = res ∧ g'' = gputs g' wr) (hok : ∀ p, p ∈ wr → p.1 < C.n → p.2.only (· < C.n))
    (hk : WD C ls l k Q (fset fr d res) (h.puts C.n wr) (tr ++ [⟨rd, wr.map (·.1)⟩])) : DE C f args d ls l k Q fr h tr := ⟨rd, res, wr, hok, hc, hk⟩
end eqs

def nwr : List Ft → Bool
  | [] => true
  | a :: l => a.wr.isEmpty && nwr l
theorem nwr_nil : nwr [] = true := rfl
theorem nwr_cons (rd : List Nat) (l : List Ft) : nwr (⟨rd, []⟩ :: l) = nwr l := by exact Eq.trans rfl rfl
theorem nwr_get : ∀ {tr : List Ft}, nwr tr = true → ∀ a, a ∈ tr → a.wr = []
  | [], _, a, ha => by simp at ha
  | b :: l, h, a, ha => by
    simp only [nwr, Bool.and_eq_true, List.isEmpty_iff] at h
    rcases List.mem_cons.1 ha with rfl | ha
    · exact h.1
    · exact nwr_get h.2 a ha
theorem HA_nowr {a b : Ft} (ha : a.wr = []) (hb : b.wr = []) : HA a b := by
  unfold HA; rw [ha, hb]; simp
theorem PO1_nowr {m : Nat} {a : Ft} (ha : a.wr = []) : ∀ {l : List Ft} {i : Nat}, (∀ b, b ∈ l → b.wr = []) → PO1 m a l i
  | [], i, _ => trivial
  | b :: l, i, h => ⟨.inr (HA_nowr (h b (by simp)) ha), PO1_nowr ha fun c hc => h c (by simp [hc])⟩
theorem POL_nowr {ms : List Nat} {tr : List Ft} (h : ∀ b, b ∈ tr → b.wr = []) : ∀ {l : List Ft} {j : Nat}, (∀ b, b ∈ l → b.wr = []) → POL ms tr l j
  | [], j, _ => trivial
  | a :: l, j, hl => ⟨PO1_nowr (hl a (by simp)) fun b hb => h b (List.mem_of_mem_take hb), POL_nowr h fun b hb => hl b (by simp [hb])⟩
theorem WD_nil0 {C : Cfg} {ls : List Oper} {k : List KI} {Q : QT} {fr : List AV} {h : HP} {tr : List Ft} (hn : nwr tr = true) : WD C ls [] k Q fr h tr = WX C .normal k Q fr h := by
  rw [WD_nil]
  exact propext ⟨fun h => h.2, fun h => ⟨POL_nowr (nwr_get hn) (nwr_get hn), h⟩⟩
theorem WD_end {C : Cfg} {ls : List Oper} {k : List KI} {Q : QT} {fr : List AV} {h : HP} {tr : List Ft} (hp : POL (masks ls []) tr tr 0) (hk : WX C .normal k Q fr h) : WD C ls [] k Q fr h tr := by
  rw [WD_nil]; exact ⟨hp, hk⟩
theorem T_eq (C : Cfg) (id : Nat) (ops : Array Oper) (k : List KI) (Q : QT) (fr : List AV) (h : HP) (ht : T C (.region id ops true) (fun e fr h => WX C e k Q fr h) fr h) : WC C (.region id ops true) k Q fr h := by
  unfold WC TW; exact ht
theorem WC_draw {C : Cfg} {id : Nat} {ls : List Oper} {k : List KI} {Q : QT} {fr : List AV} {h : HP} (hm : C.P.follows .mixedOrders = true) (hb : drawB ls = true) (ht : WD C ls ls k Q fr h []) : WC C (.region id ls.toArray true) k Q fr h :=
  T_eq _ _ _ _ _ _ _ (T.draw hm hb ht)

/-- a function that never looks at memory, by what is known of its runs -/
theorem PureC.of_lit {P : Program} {f : FuncId} {as : List Value} {r : Value} (h : ∀ w, Calls P f as.toArray w fun e w' => e = .returned r ∧ w' = w) (g : GH) : PureC P f (as.map .lit) g (.lit r) := by
  intro n w0 M φ w vs hdom hw hargs
  have hvs : vs = as.toArray := by
    apply Array.ext'
    have hl : as.length = vs.toList.length := by have := hargs.1; simpa using this
    apply List.ext_getElem?
    intro i
    by_cases hi : i < as.length
    · have := hargs.2 i (.lit as[i]) (vs.toList[i]'(by omega)) (by simp [hi]) (by simp)
      rw [List.getElem?_eq_getElem (by omega), lit_inv this]; simp [hi]
    · rw [List.getElem?_eq_none (by omega), List.getElem?_eq_none (by simpa using hi)]
  rw [hvs]
  refine (h w).mono ?_
  rintro e w' ⟨rfl, rfl⟩
  exact ⟨M, φ, r, .lit r, g, rfl, Mem.le.refl _, Phi.le.refl _, hdom, hw, .lit r, rfl, rfl⟩

attribute [go_sem] WD_nil0 WD_cons WD_cons_g DG_tt DG_tf DG_ft DG_ff DG_undef DK_mk0 DK_mk DF_fn DO_call DO_move DO_makeFunc nwr_nil nwr_cons DO_builtin DO_assign DO_pick DO_alloc DO_box DO_build DO_buildSlice DO_load DO_store DO_nilCheck DO_binOp DO_unOp DO_convert DO_makeSlice DO_slice DO_fieldAddr DO_field DO_indexAddr DO_index DO_extract
attribute [irreducible] WD DK DE DF DO DG
end Go.Av

