import Derived.Test.YtjinngfpbmkhaaaAvO
namespace Go.Av
set_option linter.unusedVariables false
set_option linter.unusedSimpArgs false
open Go.RowKit

theorem HP.get_puts (h : HP) (n : Nat) : ∀ (wr : List (Nat × Blk)), (h.puts n wr).get n = gputs (h.get n) wr
  | [] => rfl
  | (id, b) :: l => by
    show ((h.put n id b).puts n l).get n = _
    rw [HP.get_puts (h.put n id b) n l, HP.get_put]; rfl

/-- The state of an activation. -/
structure St (C : Cfg) (w0 : World) (M : Mem) (φ : Phi) (fr : List AV) (h : HP) (a : Act) (w : World) : Prop where
  fr : FrOk M φ fr a
  defers : a.defers = []
  wr : Wr w0 M φ (h.get C.n) w
  dom : ∀ id ver hd, φ id ver = some hd → id < C.n + C.nt
  out : ∀ id b, id < C.n → h.get C.n id = some b → b.only (· < C.n)

def Ext (n : Nat) (M : Mem) (φ : Phi) (M' : Mem) (φ' : Phi) : Prop := Mem.le M M' ∧ ∀ id ver hd, id < n → φ id ver = some hd → φ' id ver = some hd

theorem Ext.refl (n : Nat) (M : Mem) (φ : Phi) : Ext n M φ M φ := ⟨Mem.le.refl _, fun _ _ _ _ h => h⟩
theorem Ext.trans {n : Nat} {M M' M'' : Mem} {φ φ' φ'' : Phi} (h : Ext n M φ M' φ') (k : Ext n M' φ' M'' φ'') : Ext n M φ M'' φ'' :=
  ⟨h.1.trans k.1, fun id ver hd hi hp => k.2 id ver hd hi (h.2 id ver hd hi hp)⟩
theorem Ext.of_le {n : Nat} {M M' : Mem} {φ φ' : Phi} (h : Mem.le M M') (k : Phi.le φ φ') : Ext n M φ M' φ' := ⟨h, fun id ver hd _ hp => k id ver hd hp⟩

/-- What holds behind a run, of the model's state. -/
def PostT (C : Cfg) (w0 : World) (M : Mem) (φ : Phi) (Q : Exit → List AV → HP → Prop) (e : Exit) (a : Act) (w : World) : Prop :=
  ∃ M' φ' fr h, Ext C.n M φ M' φ' ∧ St C w0 M' φ' fr h a w ∧ Q e fr h

def T (C : Cfg) (c : Code) (Q : Exit → List AV → HP → Prop) (fr : List AV) (h : HP) : Prop :=
  ∀ w0 M φ a w, St C w0 M φ fr h a w → c.wp C.P (PostT C w0 M φ Q) a w

theorem PostT.mono {C : Cfg} {w0 : World} {M M' : Mem} {φ φ' : Phi} {Q Q' : Exit → List AV → HP → Prop} {e : Exit} {a : Act} {w : World} (he : Ext C.n M φ M' φ') (h : PostT C w0 M' φ' Q e a w) (hq : ∀ fr h, Q e fr h → Q' e fr h) :
    PostT C w0 M φ Q' e a w := by
  obtain ⟨M'', φ'', fr, hp, h1, h2, h3⟩ := h
  exact ⟨M'', φ'', fr, hp, he.trans h1, h2, hq _ _ h3⟩

/-! ### calls -/
def CallAt (P : Program) (n : Nat) (f : FuncId) (args : List AV) (g : GH) (R : AV → GH → Prop) : Prop :=
  ∀ (w0 : World) (M : Mem) (φ : Phi) (w : World) (vs : Array Value), (∀ id ver hd, φ id ver = some hd → id < n) → Wr w0 M φ g w → RepL M φ args vs.toList →
    Calls P f vs w fun e w' => ∃ M' φ' v res g', e = .returned v ∧ Mem.le M M' ∧ Phi.le φ φ' ∧ (∀ id ver hd, φ' id ver = some hd → id < n) ∧ Wr w0 M' φ' g' w' ∧ Rep M' φ' res v ∧ R res g'

def CallC (P : Program) (f : FuncId) (args : List AV) (g : GH) (R : AV → GH → Prop) : Prop := ∀ n, CallAt P n f args g R

/-- a contract that lays what it makes under the given names -/
def CallN (P : Program) (f : FuncId) (args : List AV) (g : GH) (K : List Nat) (R : AV → GH → Prop) : Prop := ∀ n, (∀ k, k ∈ K → k < n) → CallAt P n f args g R

def PureC (P : Program) (f : FuncId) (args : List AV) (g : GH) (res : AV) : Prop := CallC P f args g fun r g' => r = res ∧ g' = g

theorem CallC.mono {P : Program} {f : FuncId} {args : List AV} {g : GH} {R R' : AV → GH → Prop} (h : CallC P f args g R) (hr : ∀ r g', R r g' → R' r g') : CallC P f args g R' := by
  intro n w0 M φ w vs h1 h2 h3
  refine (h n w0 M φ w vs h1 h2 h3).mono ?_
  rintro e w' ⟨M', φ', v, res, g', k1, k2, k3, k4, k5, k6, k7⟩
  exact ⟨M', φ', v, res, g', k1, k2, k3, k4, k5, k6, hr _ _ k7⟩

def callable (P : Program) (f : FuncId) : Bool :=
  match P.funcs[f]? with
  | some fn => fn.name != "runtime.NumGoroutine" && fn.body.isSome
  | none => false

theorem run_callFunc {P : Program} {f : FuncId} (h : callable P f = true) (args : Array Value) (w : World) : (callFunc f args).run P w = .ok (.enter f args) w := by
  unfold callable at h
  split at h
  · rename_i fn hf
    simp only [Bool.and_eq_true, bne_iff_ne, ne_eq] at h
    obtain ⟨h1, h2⟩ := h
    obtain ⟨c, hc⟩ := Option.isSome_iff_exists.1 h2
    simp [callFunc, hf, h1, hc]
  · cases h

theorem execOp_call {P : Program} {a : Act} {o : Oper} {c : Call} {x : Operand} {f : FuncId} {cap : Array Value} (ho : o.op = .call c) (hc : c.callee = .value x) (hx : a.eval x = .func (.func f) #[] cap) (hf : callable P f = true) (w : World) :
    (execOp a.eval o).run P w = .ok (.enter f (c.args.map a.eval ++ cap)) w := by
  simp only [execOp, ho, resolve, hc, hx, Deferred.ofValue, pure_bind, invoke, List.size_toArray, Array.empty_append]
  exact run_callFunc hf _ w

/-! ### frames -/
theorem FrOk.put {M : Mem} {φ : Phi} {fr : List AV} {a : Act} (h : FrOk M φ fr a) (d : Option Tmp) {v : AV} {x : Value} (hx : Rep M φ v x) : FrOk M φ (fset fr d v) (a.put d x) := by
  cases d with
  | none => exact h
  | some d =>
    unfold FrOk fset Act.put at *
    simp only [Array.toList_setIfInBounds]
    refine ⟨by simp [h.1], ?_⟩
    intro i y u h1 h2
    by_cases e : d = i
    · subst e
      have h3 : d < fr.length := by have := (List.getElem?_eq_some_iff.1 h1).1; simpa using this
      have h4 : d < a.tmps.toList.length := by rw [← h.1]; exact h3
      rw [List.getElem?_set_self h3] at h1
      rw [List.getElem?_set_self h4] at h2
      cases h1; cases h2; exact hx
    · rw [List.getElem?_set_ne e] at h1 h2
      exact h.2 i y u h1 h2

theorem FrOk.mono {M M' : Mem} {φ φ' : Phi} {fr : List AV} {a : Act} (h : FrOk M φ fr a) (hM : Mem.le M M') (hφ : Phi.le φ φ') : FrOk M' φ' fr a := RepL.mono h hM hφ

theorem put_defers (a : Act) (d : Option Tmp) (v : Value) : (a.put d v).defers = a.defers := by cases d <;> rfl

/-! ### one operation -/
theorem allocA_may {C : Cfg} {d : Nat} {g : GH} {cs : List AV} (hp : (allocA C d g cs).pre) : ∀ id b, (id, b) ∈ (allocA C d g cs).wr → C.may id b := by
  intro id b h; simp [allocA] at h; obtain ⟨rfl, rfl⟩ := h; exact hp.2

theorem storeA_may {C : Cfg} {t : TypeId} {g : GH} {x y : AV} : (storeA C t g x y).pre → ∀ id b, (id, b) ∈ (storeA C t g x y).wr → C.may id b := by
  unfold storeA
  split
  · split
    · intro hp id b h; simp at h; obtain ⟨rfl, rfl⟩ := h; exact hp.2.2.2.2
    · exact fun h => h.elim
  · exact fun h => h.elim

theorem buildSliceA_may {C : Cfg} {d len : Nat} {t : TypeId} {g : GH} {ps : List (Nat × AV)} : (buildSliceA C d t len g ps).pre → ∀ id b, (id, b) ∈ (buildSliceA C d t len g ps).wr → C.may id b := by
  unfold buildSliceA
  split
  · split
    · simp only
      split
      · intro hp id b h; simp at h
      · intro hp id b h; simp at h; obtain ⟨rfl, rfl⟩ := h; exact hp.2.2
      · intro hp id b h; simp at h; obtain ⟨rfl, rfl⟩ := h; exact hp.2.2
    · exact fun h => h.elim
  · exact fun h => h.elim

theorem makeSliceA_may {C : Cfg} {d : Nat} {t : TypeId} {g : GH} {x y : AV} : (makeSliceA C d t g x y).pre → ∀ id b, (id, b) ∈ (makeSliceA C d t g x y).wr → C.may id b := by
  unfold makeSliceA
  split
  · split
    · split
      · simp only
        split
        · intro hp id b h; simp at h
        · intro hp id b h
          simp only [List.mem_singleton, Prod.mk.injEq] at h
          obtain ⟨rfl, rfl⟩ := h; exact hp.2
      · exact fun h => h.elim
    · exact fun h => h.elim
  · exact fun h => h.elim

theorem clearA_may {C : Cfg} {t : TypeId} {g : GH} {x : AV} : (clearA C t g x).pre → ∀ id b, (id, b) ∈ (clearA C t g x).wr → C.may id b := by
  unfold clearA
  split
  · split
    · split
      · intro hp id b h; simp at h; obtain ⟨rfl, rfl⟩ := h; exact hp.2.2.2.2.2
      · exact fun h => h.elim
    · exact fun h => h.elim
  · exact fun h => h.elim

theorem appendA_may {C : Cfg} {d : Nat} {ts : List TypeId} {g : GH} {x y : AV} : (appendA C d ts g x y).pre → ∀ id b, (id, b) ∈ (appendA C d ts g x y).wr → C.may id b := by
  unfold appendA
  split
  case h_2 => exact fun h => h.elim
  split
  case h_2 => exact fun h => h.elim
  split
  case h_2 => exact fun h => h.elim
  simp only
  split
  · split
    · intro hp id b h; simp at h; obtain ⟨rfl, rfl⟩ := h; exact hp.2.2.2.2.2.2.2
    · exact fun h => h.elim
  · split
    · intro hp id b h; simp at h
    · intro hp id b h; simp at h; obtain ⟨rfl, rfl⟩ := h; exact hp.2
  · split
    · intro hp id b h; simp at h; obtain ⟨rfl, rfl⟩ := h; exact hp.2.2.2.2.2.2.2.2.2
    · exact fun h => h.elim
  · exact fun h => h.elim

theorem fillA_wr (P : Program) (t : TypeId) : ∀ (ps : List (Nat × AV)) (cs : List AV), (fillA P t cs ps).wr = []
  | [], cs => rfl
  | (i, x) :: ps, cs => by
    unfold fillA
    split <;> rfl

theorem stepf_may {C : Cfg} {o : Oper} {e : Operand → AV} {g : GH} (hp : (stepf C o e g).pre) : ∀ id b, (id, b) ∈ (stepf C o e g).wr → C.may id b := by
  obtain ⟨dst, op, ty, pos, after, guard⟩ := o
  cases op <;> simp only [stepf] at hp ⊢ <;> first | exact hp.elim | skip
  case move x => simp
  case assign x =>
    revert hp
    unfold assignA
    split
    · intro hp id b h; simp at h; obtain ⟨rfl, rfl⟩ := h; exact hp
    · simp
  case pick c x y => unfold pickA; split <;> simp [Out.bad]
  case alloc t =>
    cases hz : zeroI C.P t with
    | none => rw [hz] at hp; exact hp.elim
    | some z => rw [hz] at hp; exact allocA_may hp
  case box t x => exact allocA_may hp
  case build t ps =>
    unfold buildA at hp ⊢
    split
    · simp
    · simp [Out.bad]
  case buildSlice t len ps => exact buildSliceA_may hp
  case load t x => unfold loadA; repeat' (first | split | simp [Out.bad])
  case store t x y => exact storeA_may hp
  case nilCheck x => unfold nilCheckA; split <;> simp [Out.bad]
  case binOp op t x y yt =>
    unfold binA
    split <;> (try simp [Out.bad])
    · unfold eqA; split <;> simp [Out.bad]
    · split
      · cases op <;> simp [binSh, Out.bad]
      · split
        · simp [binI_wr]
        · simp [Out.bad]
    · cases op <;> simp [binS, Out.bad]
  case unOp op t x =>
    unfold unA
    split
    · split <;> simp [Out.bad]
    · split <;> simp [Out.bad, binI_wr]
    · simp [Out.bad]
  case convert s d x => unfold convA; repeat' (first | split | simp [Out.bad])
  case makeFunc f first cap => cases f <;> simp [Out.bad]
  case makeSlice t l c => exact makeSliceA_may hp
  case slice t x lo hi mx => unfold sliceA; repeat' (first | split | simp [Out.bad])
  case fieldAddr s x f => unfold fieldAddrA; repeat' (first | split | simp [Out.bad])
  case field s x f => unfold fieldA; repeat' (first | split | simp [Out.bad])
  case indexAddr t x i => unfold indexAddrA; repeat' (first | split | simp [Out.bad])
  case index t x i => unfold indexA; split <;> simp [Out.bad]
  case extract t i => unfold extractA; split <;> simp [Out.bad]
  case call c =>
    obtain ⟨callee, args, ats⟩ := c
    cases callee <;> simp only at hp ⊢ <;> first | exact hp.elim | skip
    rename_i b
    revert hp
    unfold builtinA
    split
    · exact appendA_may
    · split
      · unfold lenA; split <;> simp [Out.bad]
      · exact fun h => h.elim
    · unfold mxA; split <;> simp [Out.bad]
    · unfold mxA; split <;> simp [Out.bad]
    · split
      · exact clearA_may
      · exact fun h => h.elim
    · exact fun h => h.elim

end Go.Av
