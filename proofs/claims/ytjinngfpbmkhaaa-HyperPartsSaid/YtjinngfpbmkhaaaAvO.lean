import Derived.Test.YtjinngfpbmkhaaaAvN
namespace Go.Av
set_option linter.unusedVariables false
set_option linter.unusedSimpArgs false
open Go.RowKit

def FrOk (M : Mem) (φ : Phi) (fr : List AV) (a : Act) : Prop := RepL M φ fr a.tmps.toList

def GivesN (P : Program) (s : Sem Next) (w0 : World) (M : Mem) (φ : Phi) (g : GH) (w : World) (v : AV) (wr : List (Nat × Blk)) : Prop :=
  ∃ nx x w' M' φ', s.run P w = .ok nx w' ∧ (nx = .value x ∨ nx = .skip ∧ x = undef) ∧ Mem.le M M' ∧ Phi.le φ φ' ∧ (∀ id ver hd, φ' id ver = some hd → φ id ver = some hd ∨ ∃ b, (id, b) ∈ wr) ∧ Rep M' φ' v x ∧ Wr w0 M' φ' (gputs g wr) w'

section
variable {P : Program} {w0 w : World} {M : Mem} {φ : Phi} {g : GH}

theorem Gives.next {s : Sem Value} {v : AV} {wr : List (Nat × Blk)} (h : Gives P s w0 M φ g w v wr) : GivesN P (do Pure.pure (Next.value (← s))) w0 M φ g w v wr := by
  obtain ⟨x, w', M', φ', h1, h2⟩ := h
  exact ⟨.value x, x, w', M', φ', by simp [h1], .inl rfl, h2⟩

theorem GivesU.next {s : Sem Unit} {wr : List (Nat × Blk)} (h : GivesU P s w0 M φ g w wr) : GivesN P (do s; pure Next.skip) w0 M φ g w (.lit undef) wr := by
  obtain ⟨w', M', φ', h1, h2, h3, h4, h5⟩ := h
  exact ⟨.skip, undef, w', M', φ', by simp [h1], .inr ⟨rfl, rfl⟩, h2, h3, h4, .lit _, h5⟩

theorem rep_ev {fr : List AV} {a : Act} (h : FrOk M φ fr a) (x : Operand) : Rep M φ (ev fr x) (a.eval x) := by
  cases x with
  | tmp t =>
    obtain ⟨t, rfl⟩ : ∃ t' : Nat, t' = t := ⟨t, rfl⟩
    simp only [ev, Act.eval]
    by_cases ht : t < fr.length
    · have hl : fr.length = a.tmps.size := by simpa using h.1
      have ht' : t < a.tmps.size := by omega
      exact h.2 t _ _ (by simp [List.getD_eq_getElem?_getD, ht]) (by simp [Array.getD, ht'])
    · have hl : fr.length = a.tmps.size := by simpa using h.1
      have ht' : ¬ t < a.tmps.size := by omega
      have e1 : fr.getD t (.lit undef) = .lit undef := by simp [List.getD_eq_getElem?_getD, List.getElem?_eq_none (by omega : fr.length ≤ t)]
      have e2 : a.tmps.getD t undef = undef := by simp [Array.getD, ht']
      rw [e1, e2]; exact .lit _
  | const v => exact rep_ofConst v
  | global g => exact .lit _
  | func f => exact .fn (by simp) (by simp)

theorem repO_map {fr : List AV} {a : Act} (h : FrOk M φ fr a) (x : Option Operand) : RepO M φ (x.map (ev fr)) (x.map a.eval) := by
  cases x with
  | none => exact .none
  | some x => exact .some (rep_ev h x)

theorem parts_ev {fr : List AV} {a : Act} (h : FrOk M φ fr a) : ∀ (ps : List (Nat × Operand)), Parts M φ (ps.map fun p => (p.1, ev fr p.2)) (ps.map fun p => (p.1, a.eval p.2))
  | [] => .nil
  | p :: ps => .cons (rep_ev h p.2) (parts_ev h ps)

theorem repL_map {fr : List AV} {a : Act} (h : FrOk M φ fr a) (xs : List Operand) : RepL M φ (xs.map (ev fr)) (xs.map a.eval) := by
  induction xs with
  | nil => exact RepL.nil
  | cons x xs ih => exact RepL.cons (rep_ev h x) ih

theorem assignA_gives (hw : Wr w0 M φ g w) {C : Cfg} {d : Nat} {x : AV} {xv : Value} (hx : Rep M φ x xv) (hp : (assignA C d g x).pre) :
    Gives P (pure xv) w0 M φ g w (assignA C d g x).v (assignA C d g x).wr := by
  unfold assignA at hp ⊢
  split at hp
  · have hn : φ (C.id d) (nextV g (C.id d)) = Option.none := hw.fresh_ver (nextV_lt g _)
    cases hx with
    | @isl _ _ _ _ a len cap sz cv hlen hcap hnl hnil hsz hsp hm hr hfull htok =>
      have hcl := hfull rfl
      simp only [List.length_nil] at hlen
      subst hlen; subst hcl
      refine ⟨.slice a 0 0, w, M, φ.add (C.id d) (nextV g (C.id d)) (.tk (a.map (·.block)) false sz 0 0), rfl, Mem.le.refl _, Phi.le_add hn, add_mem, ?_, ?_⟩
      · exact .isl sz cv rfl (Nat.le_refl _) hnl (by simp) (by simp) (by simp) (by simp) (by simp) (by simp) (by
          intro k ver hk; cases hk; exact ⟨false, by simp [Phi.add], by simp⟩)
      · refine hw.renew (C.id d) (.tok (nextV g (C.id d))) _ hw.below hw.mem (Mem.le.refl _) (nextV_lt g _) ?_ ?_
        · intro i b hd r hi hb hpq hr
          exact ⟨rfl, fun _ => rfl, by simp [Hd.blk]⟩
        · cases a <;> rfl
  · exact Gives.pure hw rfl hx

theorem nilCheckA_gives (hw : Wr w0 M φ g w) {x : AV} {xv : Value} (hx : Rep M φ x xv) (hp : (nilCheckA x).pre) :
    (∃ a, xv = .pointer (some a)) ∨ (∃ f vs, xv = .func (.func f) #[] vs) := by
  unfold nilCheckA at hp
  split at hp
  · cases hx; exact .inl ⟨_, rfl⟩
  · cases hx; exact .inl ⟨_, rfl⟩
  · cases hx; exact .inr ⟨_, _, rfl⟩
  · exact hp.elim

theorem nilCheckA_v (x : AV) (hp : (nilCheckA x).pre) : (nilCheckA x).v = x ∧ (nilCheckA x).wr = [] := by
  unfold nilCheckA at hp ⊢
  split at hp
  · exact ⟨rfl, rfl⟩
  · exact ⟨rfl, rfl⟩
  · exact ⟨rfl, rfl⟩
  · exact hp.elim

theorem arr2 {α : Type} {xs : Array α} {a b : α} (h : xs.toList = [a, b]) : xs = #[a, b] := by
  obtain ⟨l⟩ := xs; simp at h; subst h; rfl

theorem builtinA_gives (hw : Wr w0 M φ g w) {C : Cfg} (hP : C.P = P) {d : Nat} {b : Builtin} {ts : Array TypeId} {ty : TypeId} {cs : Array Bool} {xs : List AV} {vs : Array Value} (hr : RepL M φ xs vs.toList) (hp : (builtinA C d b ts.toList g xs).pre) :
    GivesN P (builtin b ts ty cs vs) w0 M φ g w (builtinA C d b ts.toList g xs).v (builtinA C d b ts.toList g xs).wr := by
  unfold builtinA at hp ⊢
  split at hp
  · rename_i s x
    have h2 : ∃ sv xv, vs = #[sv, xv] := by
      obtain ⟨l⟩ := vs
      match l, hr.1 with
      | [sv, xv], _ => exact ⟨sv, xv, rfl⟩
    obtain ⟨sv, xv, rfl⟩ := h2
    exact (appendA_gives hw hP (hr.2 0 s sv rfl rfl) (hr.2 1 x xv rfl rfl) hp).next
  · rename_i x
    have h2 : ∃ xv, vs = #[xv] := by
      obtain ⟨l⟩ := vs
      match l, hr.1 with
      | [xv], _ => exact ⟨xv, rfl⟩
    obtain ⟨xv, rfl⟩ := h2
    split at hp
    · rename_i t ht
      have : ts = #[t] := by obtain ⟨l⟩ := ts; simp at ht; subst ht; rfl
      subst this
      subst hP
      exact (lenA_gives hw (hr.2 0 x xv rfl rfl) hp).next
    · exact hp.elim
  · have := mxA_gives (P := P) hw (big := true) (by simpa using hr.1) (fun i x v h1 h2 => hr.2 i x v h1 (by simpa using h2)) ts ty hp
    exact this.next
  · have := mxA_gives (P := P) hw (big := false) (by simpa using hr.1) (fun i x v h1 h2 => hr.2 i x v h1 (by simpa using h2)) ts ty hp
    exact this.next
  · rename_i x
    have h2 : ∃ xv, vs = #[xv] := by
      obtain ⟨l⟩ := vs
      match l, hr.1 with
      | [xv], _ => exact ⟨xv, rfl⟩
    obtain ⟨xv, rfl⟩ := h2
    split at hp
    · rename_i t ht
      have : ts = #[t] := by obtain ⟨l⟩ := ts; simp at ht; subst ht; rfl
      subst this
      exact (clearA_gives (ty := ty) hw hP (hr.2 0 x xv rfl rfl) hp).next
    · exact hp.elim
  · exact hp.elim

theorem stepf_gives (hw : Wr w0 M φ g w) {C : Cfg} (hP : C.P = P) {fr : List AV} {a : Act} (ha : FrOk M φ fr a) (o : Oper) (hp : (stepf C o (ev fr) g).pre) :
    GivesN P (execOp a.eval o) w0 M φ g w (stepf C o (ev fr) g).v (stepf C o (ev fr) g).wr := by
  subst hP
  obtain ⟨dst, op, ty, pos, after, guard⟩ := o
  cases op <;> simp only [stepf] at hp ⊢ <;> first | exact hp.elim | skip
  case move x => exact (Gives.pure (P := C.P) (s := pure (a.eval x)) hw rfl (rep_ev ha x)).next
  case assign x => exact (assignA_gives (P := C.P) hw (rep_ev ha x) hp).next
  case pick c x y =>
    have := pickA_gives (P := C.P) hw (rep_ev ha c) (rep_ev ha x) (rep_ev ha y) hp
    obtain ⟨v, w', M', φ', h1, h2⟩ := this
    refine ⟨.value v, v, w', M', φ', ?_, .inl rfl, h2⟩
    simp only [execOp, Sem.run_bind, Sem.run_pure] at h1 ⊢
    cases hb : (asBool (a.eval c)).run C.P w with
    | ok b w1 => rw [hb] at h1; simp only [Result.andThen_ok] at h1 ⊢; cases h1; rfl
    | halt h w1 => rw [hb] at h1; simp at h1
  case alloc t =>
    cases hz : zeroI C.P t with
    | none => rw [hz] at hp; exact hp.elim
    | some z =>
      rw [hz] at hp
      obtain ⟨i, v, h1, h2, rfl⟩ := zeroI_inv hz
      have := allocA_gives (P := C.P) hw (C := C) (d := dst.getD 0) (e := t) (repL_ofConst v.cells.toList)
      refine (this.congr (s' := Instr.alloc t true (.tuple #[])) ?_).next
      simp [Instr.alloc, zeroValue, typeInfo, h1, h2, newVar]
  case box t x =>
    have hsc : (ev fr x).cells.all AV.scalar = true := hp.1
    have hc := (rep_cells_s (rep_ev ha x) hsc).1
    have := allocA_gives (P := C.P) hw (C := C) (d := dst.getD 0) (e := t) hc
    exact (this.congr (s' := Instr.box t (a.eval x)) (by simp [Instr.box, newVar])).next
  case build t ps =>
    have := buildA_gives (P := C.P) hw (pv := ps.map fun (p : Nat × Operand) => (p.1, a.eval p.2)) (by simpa using parts_ev ha ps.toList) hp
    exact this.next
  case buildSlice t len ps =>
    have := buildSliceA_gives (P := C.P) hw rfl (pv := ps.map fun (p : Nat × Operand) => (p.1, a.eval p.2)) (by simpa using parts_ev ha ps.toList) hp
    exact this.next
  case load t x => exact (loadA_gives hw (rep_ev ha x) hp).next
  case store t x y => 
    have := storeA_gives (P := C.P) hw rfl (rep_ev ha y) (rep_ev ha x) hp
    have hv : (storeA C t g (ev fr y) (ev fr x)).v = .lit undef := by
      revert hp; unfold storeA
      split
      · split
        · exact fun _ => rfl
        · exact fun h => h.elim
      · exact fun h => h.elim
    rw [hv]
    exact this.next
  case nilCheck x =>
    obtain ⟨h1, h2⟩ := nilCheckA_v _ hp
    rw [h1, h2]
    rcases nilCheckA_gives hw (rep_ev ha x) hp with ⟨q, hq⟩ | ⟨f, vs, hq⟩
    · exact ⟨.value (a.eval x), a.eval x, w, M, φ, by simp only [execOp, hq]; rfl, .inl rfl, Mem.le.refl _, Phi.le.refl _, fun _ _ _ h => .inl h, rep_ev ha x, hw⟩
    · exact ⟨.value (a.eval x), a.eval x, w, M, φ, by simp only [execOp, hq]; rfl, .inl rfl, Mem.le.refl _, Phi.le.refl _, fun _ _ _ h => .inl h, rep_ev ha x, hw⟩
  case binOp op t x y yt => exact (binA_gives (P := C.P) hw (rep_ev ha x) (rep_ev ha y) x y hp).next
  case unOp op t x => exact (unA_gives (P := C.P) hw (rep_ev ha x) hp).next
  case convert s d x => exact (convA_gives (P := C.P) hw hp.1 (rep_ev ha x) hp.2).next
  case makeFunc f first cap =>
    cases f <;> simp only at hp ⊢ <;> first | exact hp.elim | skip
    rename_i f
    have hf : first = #[] := Array.eq_empty_of_size_eq_zero hp
    subst hf
    refine (Gives.pure (P := C.P) (s := Instr.makeFunc (.func f) (#[].map a.eval) (cap.map a.eval)) hw (x := .func (.func f) #[] (cap.map a.eval)) (by simp [Instr.makeFunc]) ?_).next
    have := repL_map ha cap.toList
    exact .fn (by simp) fun i x v h1 h2 => this.2 i x v h1 (by simpa using h2)
  case makeSlice t l c => exact (makeSliceA_gives (P := C.P) hw rfl (rep_ev ha l) (rep_ev ha c) hp).next
  case slice t x lo hi mx => exact (sliceA_gives (P := C.P) hw (rep_ev ha x) (repO_map ha lo) (repO_map ha hi) (repO_map ha mx) hp).next
  case fieldAddr s x f => exact (fieldAddrA_gives (P := C.P) hw (rep_ev ha x) hp).next
  case field s x f => exact (fieldA_gives (P := C.P) hw (rep_ev ha x) hp).next
  case indexAddr t x i => exact (indexAddrA_gives (P := C.P) hw (rep_ev ha x) (rep_ev ha i) hp).next
  case index t x i => exact (indexA_gives (P := C.P) hw (rep_ev ha x) (rep_ev ha i) hp).next
  case extract t i => exact (extractA_gives (P := C.P) hw (rep_ev ha t) hp).next
  case call c =>
    obtain ⟨callee, args, ats⟩ := c
    cases callee <;> simp only at hp ⊢ <;> first | exact hp.elim | skip
    rename_i b
    have := builtinA_gives (P := C.P) hw rfl (cs := args.map fun | .const _ => true | _ => false) (ty := ty) (vs := args.map a.eval) (by simpa using repL_map ha args.toList) hp
    obtain ⟨nx, x, w', M', φ', h1, h2⟩ := this
    refine ⟨nx, x, w', M', φ', ?_, h2⟩
    simp only [execOp, resolve, pure_bind, invoke]
    exact h1

end
end Go.Av
