/- Plain words. -/
import Derived.Test.YtcnhpclfflcdfaaDoorRAvO
import Derived.Deep.LoopGhost
namespace Go.Av
set_option linter.unusedVariables false
set_option linter.unusedSimpArgs false
open Go.RowKit

theorem HP.get_puts (h : HP) (n : Nat) : ∀ (wr : List (Nat × Blk)), (h.puts n wr).get n = gputs (h.get n) wr
  | [] => rfl
  | (id, b) :: l => by
    show ((h.put n id b).puts n l).get n = _
    rw [HP.get_puts (h.put n id b) n l, HP.get_put]; rfl

/-- The state of an activation. -/
structure St (C : Cfg) (w0 : World) (M : Mem) (φ : Phi) (fr : List AV) (h : HP) (a : Act) (w : World) : Prop where
  fr : FrOk M φ fr a
  defers : a.defers = []
  wr : Wr w0 M φ (h.get C.n) w
  dom : ∀ id ver hd, φ id ver = some hd → id < C.n + C.nt
  out : ∀ id b, id < C.n → h.get C.n id = some b → b.only (· < C.n)

def Ext (n : Nat) (M : Mem) (φ : Phi) (M' : Mem) (φ' : Phi) : Prop := Mem.le M M' ∧ ∀ id ver hd, id < n → φ id ver = some hd → φ' id ver = some hd

theorem Ext.refl (n : Nat) (M : Mem) (φ : Phi) : Ext n M φ M φ := ⟨Mem.le.refl _, fun _ _ _ _ h => h⟩
theorem Ext.trans {n : Nat} {M M' M'' : Mem} {φ φ' φ'' : Phi} (h : Ext n M φ M' φ') (k : Ext n M' φ' M'' φ'') : Ext n M φ M'' φ'' :=
  ⟨h.1.trans k.1, fun id ver hd hi hp => k.2 id ver hd hi (h.2 id ver hd hi hp)⟩
theorem Ext.of_le {n : Nat} {M M' : Mem} {φ φ' : Phi} (h : Mem.le M M') (k : Phi.le φ φ') : Ext n M φ M' φ' := ⟨h, fun id ver hd _ hp => k id ver hd hp⟩

/-- What holds behind a run, of the model's state. -/
def PostT (C : Cfg) (w0 : World) (M : Mem) (φ : Phi) (Q : Exit → List AV → HP → Prop) (e : Exit) (a : Act) (w : World) : Prop :=
  ∃ M' φ' fr h, Ext C.n M φ M' φ' ∧ St C w0 M' φ' fr h a w ∧ Q e fr h

def T (C : Cfg) (c : Code) (Q : Exit → List AV → HP → Prop) (fr : List AV) (h : HP) : Prop :=
  ∀ w0 M φ a w, St C w0 M φ fr h a w → c.wp C.P (PostT C w0 M φ Q) a w

theorem PostT.mono {C : Cfg} {w0 : World} {M M' : Mem} {φ φ' : Phi} {Q Q' : Exit → List AV → HP → Prop} {e : Exit} {a : Act} {w : World} (he : Ext C.n M φ M' φ') (h : PostT C w0 M' φ' Q e a w) (hq : ∀ fr h, Q e fr h → Q' e fr h) :
    PostT C w0 M φ Q' e a w := by
  obtain ⟨M'', φ'', fr, hp, h1, h2, h3⟩ := h
  exact ⟨M'', φ'', fr, hp, he.trans h1, h2, hq _ _ h3⟩

/-! ### calls -/
def CallAt (P : Program) (n : Nat) (f : FuncId) (args : List AV) (g : GH) (R : AV → GH → Prop) : Prop :=
  ∀ (w0 : World) (M : Mem) (φ : Phi) (w : World) (vs : Array Value), (∀ id ver hd, φ id ver = some hd → id < n) → Wr w0 M φ g w → RepL M φ args vs.toList →
    Calls P f vs w fun e w' => ∃ M' φ' v res g', e = .returned v ∧ Mem.le M M' ∧ Phi.le φ φ' ∧ (∀ id ver hd, φ' id ver = some hd → id < n) ∧ Wr w0 M' φ' g' w' ∧ Rep M' φ' res v ∧ R res g'

def CallC (P : Program) (f : FuncId) (args : List AV) (g : GH) (R : AV → GH → Prop) : Prop := ∀ n, CallAt P n f args g R

/-- a contract that lays what it makes under the given names -/
def CallN (P : Program) (f : FuncId) (args : List AV) (g : GH) (K : List Nat) (R : AV → GH → Prop) : Prop := ∀ n, (∀ k, k ∈ K → k < n) → CallAt P n f args g R

def PureC (P : Program) (f : FuncId) (args : List AV) (g : GH) (res : AV) : Prop := CallC P f args g fun r g' => r = res ∧ g' = g

theorem CallC.mono {P : Program} {f : FuncId} {args : List AV} {g : GH} {R R' : AV → GH → Prop} (h : CallC P f args g R) (hr : ∀ r g', R r g' → R' r g') : CallC P f args g R' := by
  intro n w0 M φ w vs h1 h2 h3
  refine (h n w0 M φ w vs h1 h2 h3).mono ?_
  rintro e w' ⟨M', φ', v, res, g', k1, k2, k3, k4, k5, k6, k7⟩
  exact ⟨M', φ', v, res, g', k1, k2, k3, k4, k5, k6, hr _ _ k7⟩

def callable (P : Program) (f : FuncId) : Bool :=
  match P.funcs[f]? with
  | some fn => fn.name != "runtime.NumGoroutine" && fn.body.isSome
  | none => false

theorem run_callFunc {P : Program} {f : FuncId} (h : callable P f = true) (args : Array Value) (w : World) : (callFunc f args).run P w = .ok (.enter f args) w := by
  unfold callable at h
  split at h
  · rename_i fn hf
    simp only [Bool.and_eq_true, bne_iff_ne, ne_eq] at h
    obtain ⟨h1, h2⟩ := h
    obtain ⟨c, hc⟩ := Option.isSome_iff_exists.1 h2
    simp [callFunc, hf, h1, hc]
  · cases h

theorem execOp_call {P : Program} {a : Act} {o : Oper} {c : Call} {x : Operand} {f : FuncId} {cap : Array Value} (ho : o.op = .call c) (hc : c.callee = .value x) (hx : a.eval x = .func (.func f) #[] cap) (hf : callable P f = true) (w : World) :
    (execOp a.eval o).run P w = .ok (.enter f (c.args.map a.eval ++ cap)) w := by
  simp only [execOp, ho, resolve, hc, hx, Deferred.ofValue, pure_bind, invoke, List.size_toArray, Array.empty_append]
  exact run_callFunc hf _ w

theorem execOp_callB {P : Program} {a : Act} {o : Oper} {c : Call} {x : Operand} {f : FuncId} {bd : Array Value} (ho : o.op = .call c) (hc : c.callee = .value x) (hx : a.eval x = .func (.func f) bd #[]) (hf : callable P f = true) (w : World) :
    (execOp a.eval o).run P w = .ok (.enter f (bd ++ c.args.map a.eval)) w := by
  simp only [execOp, ho, resolve, hc, hx, Deferred.ofValue, pure_bind, invoke, List.size_toArray, Array.append_empty]
  exact run_callFunc hf _ w

/-! ### frames -/
theorem FrOk.put {M : Mem} {φ : Phi} {fr : List AV} {a : Act} (h : FrOk M φ fr a) (d : Option Tmp) {v : AV} {x : Value} (hx : Rep M φ v x) : FrOk M φ (fset fr d v) (a.put d x) := by
  cases d with
  | none => exact h
  | some d =>
    unfold FrOk fset Act.put at *
    simp only [Array.toList_setIfInBounds]
    refine ⟨by simp [h.1], ?_⟩
    intro i y u h1 h2
    by_cases e : d = i
    · subst e
      have h3 : d < fr.length := by have := (List.getElem?_eq_some_iff.1 h1).1; simpa using this
      have h4 : d < a.tmps.toList.length := by rw [← h.1]; exact h3
      rw [List.getElem?_set_self h3] at h1
      rw [List.getElem?_set_self h4] at h2
      cases h1; cases h2; exact hx
    · rw [List.getElem?_set_ne e] at h1 h2
      exact h.2 i y u h1 h2

theorem FrOk.mono {M M' : Mem} {φ φ' : Phi} {fr : List AV} {a : Act} (h : FrOk M φ fr a) (hM : Mem.le M M') (hφ : Phi.le φ φ') : FrOk M' φ' fr a := RepL.mono h hM hφ

theorem put_defers (a : Act) (d : Option Tmp) (v : Value) : (a.put d v).defers = a.defers := by cases d <;> rfl

/-! ### one operation -/
theorem allocA_may {C : Cfg} {d : Nat} {g : GH} {cs : List AV} (hp : (allocA C d g cs).pre) : ∀ id b, (id, b) ∈ (allocA C d g cs).wr → C.may id b := by
  intro id b h; simp [allocA] at h; obtain ⟨rfl, rfl⟩ := h; exact hp.2

theorem storeA_may {C : Cfg} {t : TypeId} {g : GH} {x y : AV} : (storeA C t g x y).pre → ∀ id b, (id, b) ∈ (storeA C t g x y).wr → C.may id b := by
  unfold storeA
  split
  · split
    · intro hp id b h; simp at h; obtain ⟨rfl, rfl⟩ := h; exact hp.2.2.2.2
    · exact fun h => h.elim
  · exact fun h => h.elim

theorem buildSliceA_may {C : Cfg} {d len : Nat} {t : TypeId} {g : GH} {ps : List (Nat × AV)} : (buildSliceA C d t len g ps).pre → ∀ id b, (id, b) ∈ (buildSliceA C d t len g ps).wr → C.may id b := by
  unfold buildSliceA
  split
  · split
    · simp only
      split
      · intro hp id b h; simp at h
      · intro hp id b h; simp at h; obtain ⟨rfl, rfl⟩ := h; exact hp.2.2
      · intro hp id b h; simp at h; obtain ⟨rfl, rfl⟩ := h; exact hp.2.2
    · exact fun h => h.elim
  · exact fun h => h.elim

theorem makeSliceA_may {C : Cfg} {d : Nat} {t : TypeId} {g : GH} {x y : AV} : (makeSliceA C d t g x y).pre → ∀ id b, (id, b) ∈ (makeSliceA C d t g x y).wr → C.may id b := by
  unfold makeSliceA
  split
  · split
    · split
      · simp only
        split
        · intro hp id b h; simp at h
        · intro hp id b h
          simp only [List.mem_singleton, Prod.mk.injEq] at h
          obtain ⟨rfl, rfl⟩ := h; exact hp.2
      · exact fun h => h.elim
    · exact fun h => h.elim
  · exact fun h => h.elim

theorem clearA_may {C : Cfg} {t : TypeId} {g : GH} {x : AV} : (clearA C t g x).pre → ∀ id b, (id, b) ∈ (clearA C t g x).wr → C.may id b := by
  unfold clearA
  split
  · split
    · split
      · intro hp id b h; simp at h; obtain ⟨rfl, rfl⟩ := h; exact hp.2.2.2.2.2
      · exact fun h => h.elim
    · exact fun h => h.elim
  · exact fun h => h.elim

theorem appendA_may {C : Cfg} {d : Nat} {ts : List TypeId} {g : GH} {x y : AV} : (appendA C d ts g x y).pre → ∀ id b, (id, b) ∈ (appendA C d ts g x y).wr → C.may id b := by
  unfold appendA
  split
  case h_2 => exact fun h => h.elim
  split
  case h_2 => exact fun h => h.elim
  split
  case h_2 => exact fun h => h.elim
  simp only
  split
  · split
    · intro hp id b h; simp at h; obtain ⟨rfl, rfl⟩ := h; exact hp.2.2.2.2.2.2.2
    · exact fun h => h.elim
  · split
    · intro hp id b h; simp at h
    · intro hp id b h; simp at h; obtain ⟨rfl, rfl⟩ := h; exact hp.2
  · split
    · intro hp id b h; simp at h; obtain ⟨rfl, rfl⟩ := h; exact hp.2.2.2.2.2.2.2.2.2
    · exact fun h => h.elim
  · exact fun h => h.elim

theorem fillA_wr (P : Program) (t : TypeId) : ∀ (ps : List (Nat × AV)) (cs : List AV), (fillA P t cs ps).wr = []
  | [], cs => rfl
  | (i, x) :: ps, cs => by
    unfold fillA
    split <;> rfl

theorem stepf_may {C : Cfg} {o : Oper} {e : Operand → AV} {g : GH} (hp : (stepf C o e g).pre) : ∀ id b, (id, b) ∈ (stepf C o e g).wr → C.may id b := by
  obtain ⟨dst, op, ty, pos, after, guard⟩ := o
  cases op <;> simp only [stepf] at hp ⊢ <;> first | exact hp.elim | skip
  case move x => simp
  case assign x =>
    revert hp
    unfold assignA
    split
    · intro hp id b h; simp at h; obtain ⟨rfl, rfl⟩ := h; exact hp
    · simp
  case pick c x y => unfold pickA; split <;> simp [Out.bad]
  case alloc t =>
    cases hz : zeroI C.P t with
    | none => rw [hz] at hp; exact hp.elim
    | some z => rw [hz] at hp; exact allocA_may hp
  case box t x => exact allocA_may hp
  case build t ps =>
    unfold buildA at hp ⊢
    split
    · simp
    · simp [Out.bad]
  case buildSlice t len ps => exact buildSliceA_may hp
  case load t x => unfold loadA; repeat' (first | split | simp [Out.bad])
  case store t x y => exact storeA_may hp
  case nilCheck x => unfold nilCheckA; split <;> simp [Out.bad]
  case binOp op t x y yt =>
    unfold binA
    split <;> (try simp [Out.bad])
    · unfold eqA; split <;> simp [Out.bad]
    · split
      · cases op <;> simp [binSh, Out.bad]
      · split
        · simp [binI_wr]
        · simp [Out.bad]
    · cases op <;> simp [binS, Out.bad]
  case unOp op t x =>
    unfold unA
    split
    · split <;> simp [Out.bad]
    · split <;> simp [Out.bad, binI_wr]
    · simp [Out.bad]
  case convert s d x => unfold convA; repeat' (first | split | simp [Out.bad])
  case makeFunc f first cap => cases f <;> simp [Out.bad] <;> split <;> simp
  case makeSlice t l c => exact makeSliceA_may hp
  case slice t x lo hi mx => unfold sliceA; repeat' (first | split | simp [Out.bad])
  case fieldAddr s x f => unfold fieldAddrA; repeat' (first | split | simp [Out.bad])
  case field s x f => unfold fieldA; repeat' (first | split | simp [Out.bad])
  case indexAddr t x i => unfold indexAddrA; repeat' (first | split | simp [Out.bad])
  case index t x i => unfold indexA; split <;> simp [Out.bad]
  case extract t i => unfold extractA; split <;> simp [Out.bad]
  case call c =>
    obtain ⟨callee, args, ats⟩ := c
    cases callee <;> simp only at hp ⊢ <;> first | exact hp.elim | skip
    rename_i b
    revert hp
    unfold builtinA
    split
    · exact appendA_may
    · split
      · unfold lenA; split <;> simp [Out.bad]
      · exact fun h => h.elim
    · unfold mxA; split <;> simp [Out.bad]
    · unfold mxA; split <;> simp [Out.bad]
    · split
      · exact clearA_may
      · exact fun h => h.elim
    · exact fun h => h.elim

end Go.Av

namespace Go.Av
set_option linter.unusedVariables false
set_option linter.unusedSimpArgs false
open Go.RowKit

theorem gputs_some {id : Nat} {b : Blk} : ∀ {wr : List (Nat × Blk)} {g : GH}, gputs g wr id = some b → g id = some b ∨ (id, b) ∈ wr
  | [], g, h => .inl h
  | (i, c) :: l, g, h => by
    rcases gputs_some (wr := l) (g := gput g i c) h with h1 | h1
    · unfold gput at h1
      split at h1
      · rename_i e; subst e; cases h1; exact .inr (by simp)
      · exact .inl h1
    · exact .inr (by simp [h1])

theorem St.op {C : Cfg} {w0 : World} {M : Mem} {φ : Phi} {fr : List AV} {h : HP} {a : Act} {w : World} (hs : St C w0 M φ fr h a w) (o : Oper) (hp : (stepf C o (ev fr) (h.get C.n)).pre) :
    ∃ nx x w' M' φ', (execOp a.eval o).run C.P w = .ok nx w' ∧ (nx = .value x ∨ nx = .skip ∧ x = undef) ∧ Ext C.n M φ M' φ' ∧
      St C w0 M' φ' (fset fr o.dst (stepf C o (ev fr) (h.get C.n)).v) (h.puts C.n (stepf C o (ev fr) (h.get C.n)).wr) (a.put o.dst x) w' := by
  obtain ⟨nx, x, w', M', φ', h1, h2, h3, h4, h5, h6, h7⟩ := stepf_gives hs.wr (P := C.P) rfl hs.fr o hp
  have hm := stepf_may hp
  refine ⟨nx, x, w', M', φ', h1, h2, Ext.of_le h3 h4, (hs.fr.mono h3 h4).put o.dst h6, by rw [put_defers]; exact hs.defers, by rw [HP.get_puts]; exact h7, ?_, ?_⟩
  · intro id ver hd hpp
    rcases h5 id ver hd hpp with k | ⟨b, k⟩
    · exact hs.dom id ver hd k
    · exact (hm id b k).1
  · intro id b hid hb
    rw [HP.get_puts] at hb
    rcases gputs_some hb with k | k
    · exact hs.out id b hid k
    · exact (hm id b k).2 hid

/-! ### guards -/
def gval (all : Array Oper) (fr : List AV) (j : Nat) : AV :=
  match (all[j]?).bind (·.dst) with
  | some d => fr.getD d (.lit undef)
  | none => .lit undef

def gateV (v : AV) (want : Bool) (A B : Prop) : Prop :=
  match v with
  | .lit (.bool b) => if b = want then A else B
  | .lit (.tuple _) => B
  | _ => False

def gateK (gd : Option (Nat × Bool)) (all : Array Oper) (fr : List AV) (A B : Prop) : Prop :=
  match gd with
  | none => A
  | some (j, want) => gateV (gval all fr j) want A B

theorem gateK_sound {M : Mem} {φ : Phi} {all : Array Oper} {fr : List AV} {a : Act} (hf : FrOk M φ fr a) (o : Oper) {A B : Prop} (h : gateK o.guard all fr A B) :
    (Region.wanted o (yielded all a.tmps) = true ∧ A) ∨ (Region.wanted o (yielded all a.tmps) = false ∧ B) := by
  unfold gateK at h
  unfold Region.wanted
  cases hg : o.guard with
  | none => rw [hg] at h; exact .inl ⟨rfl, h⟩
  | some q =>
    obtain ⟨j, want⟩ := q
    rw [hg] at h
    simp only at h ⊢
    unfold gval at h
    unfold yielded
    cases hd : (all[j]?).bind (·.dst) with
    | none =>
      rw [hd] at h
      simp only [gateV, undef] at h
      right; exact ⟨by simp, h⟩
    | some d =>
      obtain ⟨d, rfl⟩ : ∃ d' : Nat, d' = d := ⟨d, rfl⟩
      rw [hd] at h
      simp only [Option.bind_some] at h ⊢
      have hl : fr.length = a.tmps.size := by simpa using hf.1
      by_cases hlt : d < fr.length
      · have hlt' : d < a.tmps.size := by omega
        have hr := hf.2 d (fr.getD d (.lit undef)) a.tmps[d] (by simp [List.getD_eq_getElem?_getD, hlt]) (by simp [hlt'])
        rw [Array.getElem?_eq_getElem hlt']
        generalize fr.getD d (.lit undef) = v at h hr
        unfold gateV at h
        split at h
        · rename_i b
          have := lit_inv hr
          rw [this]
          by_cases e : b = want
          · rw [if_pos e] at h; subst e; exact .inl ⟨by simp, h⟩
          · rw [if_neg e] at h; exact .inr ⟨by simp [e], h⟩
        · have := lit_inv hr
          rw [this]
          exact .inr ⟨by simp, h⟩
        · exact h.elim
      · have e1 : fr.getD d (.lit undef) = .lit undef := by simp [List.getD_eq_getElem?_getD, List.getElem?_eq_none (by omega : fr.length ≤ d)]
        rw [e1] at h
        simp only [gateV, undef] at h
        rw [Array.getElem?_eq_none (by omega)]
        exact .inr ⟨by simp, h⟩

/-! ### calls in a region -/
def OutOk (C : Cfg) (h h' : HP) : Prop := ∀ id b, id < C.n → h'.get C.n id = some b → h.get C.n id = some b ∨ b.only (· < C.n)

def ECall (C : Cfg) (f : FuncId) (args : List AV) (h : HP) (K : AV → HP → Prop) : Prop :=
  ∃ R, CallAt C.P (C.n + C.nt) f args (h.get C.n) R ∧ ∀ res g', R res g' → ∃ h' : HP, h'.get C.n = g' ∧ OutOk C h h' ∧ K res h'

theorem ECall.pure {C : Cfg} {f : FuncId} {args : List AV} {h : HP} {K : AV → HP → Prop} {res : AV} (hc : PureC C.P f args (h.get C.n) res) (hk : K res h) : ECall C f args h K := by
  refine ⟨_, hc _, ?_⟩
  rintro r g' ⟨rfl, rfl⟩
  exact ⟨h, rfl, fun id b hid hb => .inl hb, hk⟩

def TCall (C : Cfg) (fv : AV) (args : List AV) (h : HP) (K : AV → HP → Prop) : Prop :=
  match fv with
  | .fn f cap => callable C.P f = true ∧ ECall C f (args ++ cap) h K
  | .bfn f bd => callable C.P f = true ∧ ECall C f (bd ++ args) h K
  | _ => False

def TOp (C : Cfg) (o : Oper) (fr : List AV) (h : HP) (K : AV → HP → Prop) : Prop :=
  match o.op with
  | .call ⟨.value x, args, _⟩ => TCall C (ev fr x) (args.toList.map (ev fr)) h K
  | _ => (stepf C o (ev fr) (h.get C.n)).pre ∧ K (stepf C o (ev fr) (h.get C.n)).v (h.puts C.n (stepf C o (ev fr) (h.get C.n)).wr)

theorem TOp_sound {C : Cfg} {w0 : World} {M : Mem} {φ : Phi} {fr : List AV} {h : HP} {a : Act} {w : World} (hs : St C w0 M φ fr h a w) (o : Oper) {K : AV → HP → Prop} (ht : TOp C o fr h K) {next : Act → World → Prop} {Q : Exit → Act → World → Prop}
    (hn : ∀ v h' x w' M' φ', K v h' → Ext C.n M φ M' φ' → St C w0 M' φ' (fset fr o.dst v) h' (a.put o.dst x) w' → next (a.put o.dst x) w') : o.wp C.P a w next Q := by
  unfold TOp at ht
  split at ht
  · rename_i x args ats ho
    unfold TCall at ht
    split at ht
    · rename_i f cap hev
      obtain ⟨hcl, R, hR, hK⟩ := ht
      have hx := rep_ev hs.fr x
      rw [hev] at hx
      generalize hax : a.eval x = xv at hx
      cases hx with
      | @fn _ _ _ vs hl hr =>
        have hrun := execOp_call (P := C.P) (a := a) (c := ⟨.value x, args, ats⟩) ho rfl hax hcl w
        unfold Oper.wp Oper.upon
        rw [hrun]
        have hargs : RepL M φ (args.toList.map (ev fr) ++ cap) (args.map a.eval ++ vs).toList := by
          have := (repL_map hs.fr args.toList).append (⟨by simpa using hl, fun i x v h1 h2 => hr i x v h1 (by simpa using h2)⟩ : RepL M φ cap vs.toList)
          simpa using this
        refine (hR w0 M φ w _ hs.dom hs.wr hargs).mono ?_
        rintro e w' ⟨M', φ', v, res, g', rfl, k2, k3, k4, k5, k6, k7⟩
        obtain ⟨h', hg', hout, hk⟩ := hK res g' k7
        refine hn res h' v w' M' φ' hk (Ext.of_le k2 k3) ⟨(hs.fr.mono k2 k3).put o.dst k6, by rw [put_defers]; exact hs.defers, by rw [hg']; exact k5, k4, ?_⟩
        intro id b hid hb
        rcases hout id b hid hb with j | j
        · exact hs.out id b hid j
        · exact j
    · rename_i f bd hev
      obtain ⟨hcl, R, hR, hK⟩ := ht
      have hx := rep_ev hs.fr x
      rw [hev] at hx
      generalize hax : a.eval x = xv at hx
      cases hx with
      | @bfn _ _ _ vs hl hr =>
        have hrun := execOp_callB (P := C.P) (a := a) (c := ⟨.value x, args, ats⟩) ho rfl hax hcl w
        unfold Oper.wp Oper.upon
        rw [hrun]
        have hargs : RepL M φ (bd ++ args.toList.map (ev fr)) (vs ++ args.map a.eval).toList := by
          have hbd : RepL M φ bd vs.toList := ⟨by simpa using hl, fun i x v h1 h2 => hr i x v h1 (by simpa using h2)⟩
          have := RepL.append hbd (repL_map hs.fr args.toList)
          simpa using this
        refine (hR w0 M φ w _ hs.dom hs.wr hargs).mono ?_
        rintro e w' ⟨M', φ', v, res, g', rfl, k2, k3, k4, k5, k6, k7⟩
        obtain ⟨h', hg', hout, hk⟩ := hK res g' k7
        refine hn res h' v w' M' φ' hk (Ext.of_le k2 k3) ⟨(hs.fr.mono k2 k3).put o.dst k6, by rw [put_defers]; exact hs.defers, by rw [hg']; exact k5, k4, ?_⟩
        intro id b hid hb
        rcases hout id b hid hb with j | j
        · exact hs.out id b hid j
        · exact j
    · exact ht.elim
  · obtain ⟨hp, hk⟩ := ht
    obtain ⟨nx, x, w', M', φ', h1, h2, h3, h4⟩ := hs.op o hp
    have := hn _ _ x w' M' φ' hk h3 h4
    unfold Oper.wp Oper.upon
    rw [h1]
    rcases h2 with rfl | ⟨rfl, rfl⟩
    · exact this
    · exact this

/-! ### a region in the order of its text -/
def TL (C : Cfg) (all : Array Oper) : List Oper → (List AV → HP → Prop) → List AV → HP → Prop
  | [], K, fr, h => K fr h
  | o :: rest, K, fr, h => gateK o.guard all fr (TOp C o fr h fun v h' => TL C all rest K (fset fr o.dst v) h') (TL C all rest K (fset fr o.dst (.lit undef)) h)

theorem TL_sound {C : Cfg} {w0 : World} {all : Array Oper} {Q : Exit → List AV → HP → Prop} {K : List AV → HP → Prop} (hK : ∀ fr h, K fr h → Q .normal fr h) :
    ∀ (ops : List Oper) (M0 : Mem) (φ0 : Phi) (M : Mem) (φ : Phi) (fr : List AV) (h : HP) (a : Act) (w : World), Ext C.n M0 φ0 M φ → St C w0 M φ fr h a w → TL C all ops K fr h → wpList C.P all (PostT C w0 M0 φ0 Q) ops a w
  | [], M0, φ0, M, φ, fr, h, a, w, he, hs, ht => ⟨M, φ, fr, h, he, hs, hK _ _ ht⟩
  | o :: rest, M0, φ0, M, φ, fr, h, a, w, he, hs, ht => by
    unfold TL at ht
    unfold wpList
    rcases gateK_sound hs.fr o ht with ⟨hw, ht⟩ | ⟨hw, ht⟩
    · rw [if_pos hw]
      refine .inl (TOp_sound hs o ht ?_)
      intro v h' x w' M' φ' hk he' hs'
      exact TL_sound hK rest M0 φ0 M' φ' _ h' _ w' (he.trans he') hs' hk
    · rw [if_neg (by simp [hw])]
      exact TL_sound hK rest M0 φ0 M φ _ h _ w he ⟨hs.fr.put o.dst (.lit _), by rw [put_defers]; exact hs.defers, hs.wr, hs.dom, hs.out⟩ ht

/-! ### code -/
theorem T.skip {C : Cfg} {Q : Exit → List AV → HP → Prop} {fr : List AV} {h : HP} (hq : Q .normal fr h) : T C .skip Q fr h :=
  fun w0 M φ a w hs => wp_skip ⟨M, φ, fr, h, Ext.refl _ _ _, hs, hq⟩

theorem T.ret {C : Cfg} {Q : Exit → List AV → HP → Prop} {fr : List AV} {h : HP} (hq : Q .ret fr h) : T C .ret Q fr h :=
  fun w0 M φ a w hs => wp_ret ⟨M, φ, fr, h, Ext.refl _ _ _, hs, hq⟩

theorem T.exit {C : Cfg} {Q : Exit → List AV → HP → Prop} {fr : List AV} {h : HP} {id : Nat} (hq : Q (.exit id) fr h) : T C (.exit id) Q fr h :=
  fun w0 M φ a w hs => wp_exit ⟨M, φ, fr, h, Ext.refl _ _ _, hs, hq⟩

theorem T.label {C : Cfg} {Q : Exit → List AV → HP → Prop} {fr : List AV} {h : HP} {l : Nat} (hq : Q .normal fr h) : T C (.label l) Q fr h :=
  fun w0 M φ a w hs => wp_label ⟨M, φ, fr, h, Ext.refl _ _ _, hs, hq⟩

def seqK (e : Exit) (A B : Prop) : Prop := match e with | .normal => A | _ => B

theorem T.seq {C : Cfg} {x y : Code} {Q : Exit → List AV → HP → Prop} {fr : List AV} {h : HP} (ht : T C x (fun e fr h => seqK e (T C y Q fr h) (Q e fr h)) fr h) : T C (.seq x y) Q fr h := by
  intro w0 M φ a w hs
  refine wp_seq (wp_mono (ht w0 M φ a w hs) ?_)
  rintro e a' w' ⟨M', φ', fr', h', k1, k2, k3⟩
  cases e <;> simp only [Exit.then, seqK] at k3 ⊢
  · exact wp_mono (k3 w0 M' φ' a' w' k2) fun e a w hp => hp.mono k1 fun _ _ h => h
  all_goals exact ⟨M', φ', fr', h', k1, k2, k3⟩

theorem T.mono {C : Cfg} {c : Code} {Q Q' : Exit → List AV → HP → Prop} {fr : List AV} {h : HP} (ht : T C c Q fr h) (hq : ∀ e fr h, Q e fr h → Q' e fr h) : T C c Q' fr h :=
  fun w0 M φ a w hs => wp_mono (ht w0 M φ a w hs) fun e a w hp => hp.mono (Ext.refl _ _ _) (hq e)

def condK (v : AV) (A B : Prop) : Prop := match v with | .lit (.bool b) => if b = true then A else B | _ => False

theorem T.cond {C : Cfg} {c : Operand} {x y : Code} {Q : Exit → List AV → HP → Prop} {fr : List AV} {h : HP} (ht : condK (ev fr c) (T C x Q fr h) (T C y Q fr h)) : T C (.cond c x y) Q fr h := by
  intro w0 M φ a w hs
  unfold condK at ht
  split at ht
  · rename_i b hb
    have := rep_ev hs.fr c
    rw [hb] at this
    have := lit_inv this
    refine wp_cond this ?_
    cases b
    · simp only [Bool.false_eq_true, if_false] at ht ⊢; exact ht w0 M φ a w hs
    · simp only [if_true] at ht ⊢; exact ht w0 M φ a w hs
  · exact ht.elim

def blockK (id : Nat) (e : Exit) (A B : Prop) : Prop := match e with | .exit i => if i = id then A else B | _ => B

theorem T.block {C : Cfg} {id : Nat} {c : Code} {Q : Exit → List AV → HP → Prop} {fr : List AV} {h : HP} (ht : T C c (fun e fr h => blockK id e (Q .normal fr h) (Q e fr h)) fr h) : T C (.block id c) Q fr h := by
  intro w0 M φ a w hs
  refine wp_block (wp_mono (ht w0 M φ a w hs) ?_)
  rintro e a' w' ⟨M', φ', fr', h', k1, k2, k3⟩
  cases e <;> simp only [Exit.inBlock, blockK] at k3 ⊢
  case exit i =>
    by_cases e : i = id
    · rw [if_pos e] at k3 ⊢; exact ⟨M', φ', fr', h', k1, k2, k3⟩
    · rw [if_neg e] at k3 ⊢; exact ⟨M', φ', fr', h', k1, k2, k3⟩
  all_goals exact ⟨M', φ', fr', h', k1, k2, k3⟩

theorem T.region {C : Cfg} {id : Nat} {ops : Array Oper} {Q : Exit → List AV → HP → Prop} {fr : List AV} {h : HP} (ht : TL C ops ops.toList (Q .normal) fr h) : T C (.region id ops false) Q fr h :=
  fun w0 M φ a w hs => wp_region_list (TL_sound (fun _ _ h => h) ops.toList M φ M φ fr h a w (Ext.refl _ _ _) hs ht)

end Go.Av

namespace Go.Av
set_option linter.unusedVariables false
set_option linter.unusedSimpArgs false
open Go.RowKit

/-! ### weaker states -/
def leA : AV → AV → Prop
  | _, .any => True
  | .isl nl l t, .isl nl' l' t' => (nl' = none ∨ nl' = nl) ∧ l = l' ∧ (t' = .no ∨ t' = t)
  | a, b => a = b

def leL : List AV → List AV → Prop
  | [], [] => True
  | a :: l, b :: m => leA a b ∧ leL l m
  | _, _ => False

theorem rep_leA {M : Mem} {φ : Phi} {a b : AV} {v : Value} (h : Rep M φ a v) (hl : leA a b) : Rep M φ b v := by
  unfold leA at hl
  split at hl
  · exact .any v
  · rename_i nl l t nl' l' t'
    obtain ⟨h1, rfl, h3⟩ := hl
    cases h with
    | isl sz cv hlen hcap hnl hnil hsz hsp hm hr hfull htok =>
      refine .isl sz cv hlen hcap ?_ hnil hsz hsp hm hr ?_ ?_
      · intro b hb; rcases h1 with rfl | rfl
        · cases hb
        · exact hnl b hb
      · intro e; rcases h3 with rfl | rfl
        · cases e
        · exact hfull e
      · intro k ver e; rcases h3 with rfl | rfl
        · cases e
        · exact htok k ver e
  · subst hl; exact h

theorem repL_leL {M : Mem} {φ : Phi} : ∀ {l m : List AV} {vs : List Value}, RepL M φ l vs → leL l m → RepL M φ m vs
  | [], [], vs, h, hl => h
  | a :: l, b :: m, [], h, hl => by have := h.1; simp at this
  | a :: l, b :: m, v :: vs, h, hl => by
    refine RepL.cons (rep_leA (h.2 0 a v rfl rfl) hl.1) (repL_leL (l := l) ⟨by have := h.1; simpa using this, fun i x u h1 h2 => h.2 (i + 1) x u (by simpa using h1) (by simpa using h2)⟩ hl.2)
  | [], b :: m, vs, h, hl => hl.elim
  | a :: l, [], vs, h, hl => hl.elim

open Classical in
noncomputable def Phi.cut' (φ : Phi) (p : Nat → Prop) : Phi := fun id ver => if p id then φ id ver else Option.none

theorem cut_pos {φ : Phi} {p : Nat → Prop} {id : Nat} (h : p id) (ver : Nat) : φ.cut' p id ver = φ id ver := by unfold Phi.cut'; rw [if_pos h]
theorem cut_some {φ : Phi} {p : Nat → Prop} {id ver : Nat} {hd : Hd} (h : φ.cut' p id ver = some hd) : p id ∧ φ id ver = some hd := by
  unfold Phi.cut' at h; split at h
  · exact ⟨‹_›, h⟩
  · cases h

theorem rep_cut {M : Mem} {φ : Phi} {p : Nat → Prop} {a : AV} {v : Value} (h : Rep M φ a v) (ho : a.only p) : Rep M (φ.cut' p) a v :=
  h.move ho fun id ver hd hp hh => by rw [cut_pos hp]; exact hh

theorem repL_cut {M : Mem} {φ : Phi} {p : Nat → Prop} {cs : List AV} {vs : List Value} (h : RepL M φ cs vs) (ho : ∀ x, x ∈ cs → x.only p) : RepL M (φ.cut' p) cs vs :=
  ⟨h.1, fun i x v h1 h2 => rep_cut (h.2 i x v h1 h2) (ho x (List.mem_of_getElem? h1))⟩

theorem BlkOk.cut {B : Nat} {M : Mem} {φ : Phi} {w : World} {b : Blk} {hd : Hd} {p : Nat → Prop} (h : BlkOk B M φ w b hd) (ho : b.only p) : BlkOk B M (φ.cut' p) w b hd := by
  cases b with
  | cells ver cs =>
    cases hd with
    | box r =>
      obtain ⟨hB, hn, arr, e, ha, hs, hx⟩ := h
      exact ⟨hB, hn, arr, e, ha, hs, fun j x v hj hv => rep_cut (hx j x v hj hv) (ho x (List.mem_of_getElem? hj))⟩
    | row r sz cap =>
      cases r with
      | none => exact h
      | some r =>
        obtain ⟨hB, hn, arr, e, ha, hs, hl, hx⟩ := h
        exact ⟨hB, hn, arr, e, ha, hs, hl, fun j x v hj hv => rep_cut (hx j x v hj hv) (ho x (List.mem_of_getElem? hj))⟩
    | tk r own sz len cap => cases r <;> cases own <;> exact h.elim
  | tok ver =>
    cases hd with
    | box r => exact h.elim
    | row r sz cap => cases r <;> exact h.elim
    | tk r own sz len cap => cases r <;> cases own <;> exact h

theorem Wr.cut {w0 w : World} {M : Mem} {φ : Phi} {g g' : GH} {p : Nat → Prop} (h : Wr w0 M φ g w) (hsub : ∀ id b, g' id = some b → g id = some b ∧ p id ∧ b.only p) (hall : ∀ id b, p id → g id = some b → g' id = some b) :
    Wr w0 M (φ.cut' p) g' w := by
  refine ⟨h.below, h.base, h.mem, ?_, ?_, ?_⟩
  · intro id b hb
    obtain ⟨h1, h2, h3⟩ := hsub id b hb
    obtain ⟨hd, hp, hok⟩ := h.blk id b h1
    exact ⟨hd, by rw [cut_pos h2]; exact hp, hok.cut h3⟩
  · intro id id' b b' hd hd' r h1 h2 h3 h4 h5 h6
    exact h.inj id id' b b' hd hd' r (hsub id b h1).1 (hsub id' b' h2).1 (cut_some h3).2 (cut_some h4).2 h5 h6
  · intro id ver hd hp
    obtain ⟨k1, k2⟩ := cut_some hp
    obtain ⟨b, k3, k4⟩ := h.dom id ver hd k2
    exact ⟨b, hall id b k1 k3, k4⟩

/-- A state that says less of the model's. -/
def Imp (C : Cfg) (fr : List AV) (h : HP) (fr' : List AV) (h' : HP) : Prop :=
  ∀ w0 M φ a w, St C w0 M φ fr h a w → ∃ M' φ', Ext C.n M φ M' φ' ∧ St C w0 M' φ' fr' h' a w

theorem Imp.refl (C : Cfg) (fr : List AV) (h : HP) : Imp C fr h fr h := fun w0 M φ a w hs => ⟨M, φ, Ext.refl _ _ _, hs⟩
theorem Imp.trans {C : Cfg} {fr fr' fr'' : List AV} {h h' h'' : HP} (i : Imp C fr h fr' h') (j : Imp C fr' h' fr'' h'') : Imp C fr h fr'' h'' := by
  intro w0 M φ a w hs
  obtain ⟨M', φ', e1, s1⟩ := i w0 M φ a w hs
  obtain ⟨M'', φ'', e2, s2⟩ := j w0 M' φ' a w s1
  exact ⟨M'', φ'', e1.trans e2, s2⟩

theorem T.imp {C : Cfg} {c : Code} {Q : Exit → List AV → HP → Prop} {fr fr' : List AV} {h h' : HP} (i : Imp C fr h fr' h') (ht : T C c Q fr' h') : T C c Q fr h := by
  intro w0 M φ a w hs
  obtain ⟨M', φ', e1, s1⟩ := i w0 M φ a w hs
  exact wp_mono (ht w0 M' φ' a w s1) fun e a w hp => hp.mono e1 fun _ _ h => h

def keepP (n : Nat) (loc : List (Nat × Blk)) (id : Nat) : Prop := id < n ∨ (look loc (id - n)).isSome = true

/-- Slots forgotten, names of one's own let go. -/
structure Weak (C : Cfg) (fr : List AV) (h : HP) (fr' : List AV) (h' : HP) : Prop where
  fr : leL fr fr'
  out : h'.out = h.out
  loc : ∀ d b, look h'.loc d = some b → look h.loc d = some b
  ofr : ∀ x, x ∈ fr' → x.only (keepP C.n h'.loc)
  oloc : ∀ d b, look h'.loc d = some b → b.only (keepP C.n h'.loc)

theorem Blk.only_mono {p q : Nat → Prop} {b : Blk} (h : b.only p) (hpq : ∀ i, p i → q i) : b.only q := by
  cases b with
  | cells v cs => exact fun x hx => (h x hx).mono hpq
  | tok v => trivial

theorem Weak.imp {C : Cfg} {fr fr' : List AV} {h h' : HP} (k : Weak C fr h fr' h') : Imp C fr h fr' h' := by
  intro w0 M φ a w hs
  refine ⟨M, φ.cut' (keepP C.n h'.loc), ⟨Mem.le.refl _, fun id ver hd hid hp => by rw [cut_pos (.inl hid)]; exact hp⟩, ?_, hs.defers, ?_, ?_, ?_⟩
  · exact repL_cut (repL_leL hs.fr k.fr) k.ofr
  · refine hs.wr.cut ?_ ?_
    · intro id b hb
      unfold HP.get at hb ⊢
      by_cases hid : id < C.n
      · rw [if_pos hid, k.out] at hb
        rw [if_pos hid]
        have ho := hs.out id b hid (by unfold HP.get; rw [if_pos hid]; exact hb)
        exact ⟨hb, .inl hid, Blk.only_mono ho fun i hi => .inl hi⟩
      · rw [if_neg hid] at hb ⊢
        exact ⟨k.loc _ _ hb, .inr (by rw [hb]; rfl), k.oloc _ _ hb⟩
    · intro id b hp hb
      unfold HP.get at hb ⊢
      by_cases hid : id < C.n
      · rw [if_pos hid] at hb ⊢; rw [k.out]; exact hb
      · rw [if_neg hid] at hb ⊢
        rcases hp with hp | hp
        · exact absurd hp hid
        · obtain ⟨b', hb'⟩ := Option.isSome_iff_exists.1 hp
          rw [k.loc _ _ hb'] at hb; cases hb; exact hb'
  · intro id ver hd hp
    exact hs.dom id ver hd (cut_some hp).2
  · intro id b hid hb
    refine hs.out id b hid ?_
    unfold HP.get at hb ⊢
    rw [if_pos hid] at hb ⊢; rw [← k.out]; exact hb

/-! ### loops -/
theorem T.loop {C : Cfg} {body : Code} {Q : Exit → List AV → HP → Prop} {fr : List AV} {h : HP} {S : Type} (F : S → List AV) (H : S → HP) (inv : S → Prop) (μ : S → Nat) (s0 : S) (h0 : inv s0) (w0 : Imp C fr h (F s0) (H s0))
    (round : ∀ s, inv s → T C body (fun e fr' h' => seqK e (∃ s', inv s' ∧ μ s' < μ s ∧ Imp C fr' h' (F s') (H s')) (Q e fr' h')) (F s) (H s)) : T C (.loop body) Q fr h := by
  refine T.imp w0 ?_
  intro wb M φ a w hs
  refine wp_loop_ghost (fun n a w => ∃ s M' φ', inv s ∧ μ s = n ∧ Ext C.n M φ M' φ' ∧ St C wb M' φ' (F s) (H s) a w) (μ s0) ⟨s0, M, φ, h0, rfl, Ext.refl _ _ _, hs⟩ ?_
  rintro n a w ⟨s, M', φ', hi, rfl, he, hs'⟩
  refine wp_mono (round s hi wb M' φ' a w hs') ?_
  rintro e a' w' ⟨M'', φ'', fr', h', k1, k2, k3⟩
  cases e <;> simp only [Exit.then, seqK] at k3 ⊢
  · obtain ⟨s', j1, j2, j3⟩ := k3
    obtain ⟨M3, φ3, e3, s3⟩ := j3 wb M'' φ'' a' w' k2
    exact ⟨μ s', j2, s', M3, φ3, j1, rfl, (he.trans k1).trans e3, s3⟩
  all_goals exact ⟨M'', φ'', fr', h', he.trans k1, k2, k3⟩

/-! ### functions -/
def res1 (P : Program) (fr : List AV) (g : GH) : ResultVar → Out
  | .tmp t => ⟨True, fr.getD t (.lit undef), [], []⟩
  | .cell a t => loadA P t g (fr.getD a (.lit undef))

def resP (P : Program) (fr : List AV) (g : GH) : List ResultVar → Prop
  | [] => True
  | r :: rs => (res1 P fr g r).pre ∧ resP P fr g rs

def resV (P : Program) (fr : List AV) (g : GH) (rs : List ResultVar) : AV :=
  match rs.map fun r => (res1 P fr g r).v with
  | [v] => v
  | vs => .tup vs

def resSem (a : Act) : ResultVar → Sem Value
  | .tmp t => pure (a.tmps.getD t undef)
  | .cell x t => do loadVar t (← asAddr (a.tmps.getD x undef))

theorem run_res1 {P : Program} {w0 w : World} {M : Mem} {φ : Phi} {g : GH} {fr : List AV} {a : Act} (hw : Wr w0 M φ g w) (hf : FrOk M φ fr a) (r : ResultVar) (hp : (res1 P fr g r).pre) :
    ∃ v, (resSem a r).run P w = .ok v w ∧ Rep M φ (res1 P fr g r).v v := by
  cases r with
  | tmp t => exact ⟨_, rfl, rep_ev hf (.tmp t)⟩
  | cell x t =>
    have hx : Rep M φ (fr.getD x (.lit undef)) (a.tmps.getD x undef) := rep_ev hf (.tmp x)
    obtain ⟨v, h1, h2⟩ := loadA_run (P := P) hw hx hp
    refine ⟨v, ?_, h2⟩
    simp only [resSem, Instr.loadAt, Sem.run_bind] at h1 ⊢
    generalize a.tmps.getD x undef = xv at h1 hx
    cases xv <;> simp only [Instr.sureAddr, run_stuck, Result.andThen_halt, reduceCtorEq] at h1
    rename_i q
    cases q with
    | none => simp only [run_stuck, Result.andThen_halt, reduceCtorEq] at h1
    | some q => simpa [asAddr] using h1

theorem run_mapM_res {P : Program} {w0 w : World} {M : Mem} {φ : Phi} {g : GH} {fr : List AV} {a : Act} (hw : Wr w0 M φ g w) (hf : FrOk M φ fr a) : ∀ (rs : List ResultVar), resP P fr g rs →
    ∃ vs : List Value, (rs.mapM (resSem a)).run P w = .ok vs w ∧ RepL M φ (rs.map fun r => (res1 P fr g r).v) vs
  | [], _ => ⟨[], by simp, RepL.nil⟩
  | r :: rs, hp => by
    obtain ⟨v, h1, h2⟩ := run_res1 hw hf r hp.1
    obtain ⟨vs, h3, h4⟩ := run_mapM_res hw hf rs hp.2
    refine ⟨v :: vs, ?_, RepL.cons h2 h4⟩
    simp only [List.mapM_cons, Sem.run_bind, h1, Result.andThen_ok, h3, Sem.run_pure]

theorem run_results {P : Program} {w0 w : World} {M : Mem} {φ : Phi} {g : GH} {fr : List AV} {a : Act} (hw : Wr w0 M φ g w) (hf : FrOk M φ fr a) (fn : Func) (hp : resP P fr g fn.results.toList) :
    ∃ v, (results fn a.tmps).run P w = .ok v w ∧ Rep M φ (resV P fr g fn.results.toList) v := by
  obtain ⟨vs, h1, h2⟩ := run_mapM_res hw hf fn.results.toList hp
  have hrun : (results fn a.tmps).run P w = .ok (if h : vs.toArray.size = 1 then vs.toArray[0] else .tuple vs.toArray) w := by
    have he : results fn a.tmps = (do let vs ← fn.results.mapM (resSem a); pure (if h : vs.size = 1 then vs[0] else .tuple vs)) := by
      unfold results
      congr 1
    rw [he, Sem.run_bind, Array.mapM_eq_mapM_toList]
    simp only [Sem.run_map, h1, Result.andThen_ok, Sem.run_pure]
  refine ⟨_, hrun, ?_⟩
  unfold resV
  match hm : fn.results.toList.map (fun r => (res1 P fr g r).v), vs, h2 with
  | [x], [v], h2 => simpa using h2.2 0 x v rfl rfl
  | [], [], h2 => exact .tup rfl (by simp)
  | x :: y :: l, u :: v :: k, h2 => simpa using Rep.tup (by simpa using h2.1) (fun i x v h3 h4 => h2.2 i x v h3 (by simpa using h4))
  | [x], [], h2 => have := h2.1; simp at this
  | [x], u :: v :: k, h2 => have := h2.1; simp at this
  | [], u :: k, h2 => have := h2.1; simp at this
  | x :: y :: l, [], h2 => have := h2.1; simp at this
  | x :: y :: l, [u], h2 => have := h2.1; simp at this

/-- What a function's body must come to. -/
def FnPost (C : Cfg) (rs : List ResultVar) (R : AV → GH → Prop) (e : Exit) (fr : List AV) (h : HP) : Prop :=
  (e = .normal ∨ e = .ret) ∧ ∃ fr' h', Imp C fr h fr' h' ∧ resP C.P fr' (h'.get C.n) rs ∧ ∃ res, leA (resV C.P fr' (h'.get C.n) rs) res ∧ res.only (· < C.n) ∧ R res fun id => if id < C.n then h'.out id else none

theorem CallAt.of_T {P : Program} {f : FuncId} {fn : Func} {c : Code} {args : List AV} {g : GH} {R : AV → GH → Prop} (nm : Nat → Option Nat) (md : Nat → Nat) (hf : P.funcs[f]? = some fn) (hb : fn.body = some c) (rs : List ResultVar) (hrs : fn.results.toList = rs) (nt : Nat) (hnt : fn.ntmps = nt) (n : Nat)
    (ht : (∀ id, n ≤ id → g id = none) → T ⟨P, n, nt, nm, md⟩ c (FnPost ⟨P, n, nt, nm, md⟩ rs R) (args ++ List.replicate (nt - args.length) (.lit undef)) ⟨g, []⟩) : CallAt P n f args g R := by
  intro w0 M φ w vs hdom hw hargs
  refine calls_of_wp hf hb ?_
  subst hnt hrs
  have hg : ∀ id, n ≤ id → g id = none := by
    intro id hid
    cases hgi : g id with
    | none => rfl
    | some b =>
      obtain ⟨hd, hp, _⟩ := hw.blk id b hgi
      have := hdom id _ hd hp; omega
  have hget : (⟨g, []⟩ : HP).get n = g := by
    funext id
    unfold HP.get
    by_cases h : id < n
    · rw [if_pos h]
    · rw [if_neg h, hg id (by omega)]; rfl
  have hst : St ⟨P, n, fn.ntmps, nm, md⟩ w0 M φ (args ++ List.replicate (fn.ntmps - args.length) (.lit undef)) ⟨g, []⟩ { tmps := vs ++ Array.replicate (fn.ntmps - vs.size) undef, defers := [] } w := by
    refine ⟨?_, rfl, by rw [hget]; exact hw, fun id ver hd hp => Nat.lt_of_lt_of_le (hdom id ver hd hp) (Nat.le_add_right _ _), ?_⟩
    · have hl : args.length = vs.size := by simpa using hargs.1
      have hrep : RepL M φ (List.replicate (fn.ntmps - args.length) (.lit undef)) (List.replicate (fn.ntmps - vs.size) undef) := by
        rw [hl]
        refine ⟨by simp, ?_⟩
        intro i x v h1 h2
        rw [List.eq_of_mem_replicate (List.mem_of_getElem? h1), List.eq_of_mem_replicate (List.mem_of_getElem? h2)]
        exact .lit _
      have := hargs.append hrep
      simpa [FrOk] using this
    · intro id b hid hb
      rw [hget] at hb
      obtain ⟨hd, hp, hok⟩ := hw.blk id b hb
      cases b with
      | tok v => trivial
      | cells v cs =>
        intro x hx
        obtain ⟨i, hi, rfl⟩ := List.getElem_of_mem hx
        have hr : ∃ u, Rep M φ cs[i] u := by
          cases hd with
          | box r =>
            obtain ⟨_, _, arr, e, ha, hs, hxr⟩ := hok
            exact ⟨arr[i], hxr i cs[i] _ (by simp [hi]) (by simp)⟩
          | row r sz cap =>
            cases r with
            | none => obtain ⟨rfl, _⟩ := hok; simp at hi
            | some r =>
              obtain ⟨_, _, arr, e, ha, hs, hl, hxr⟩ := hok
              exact ⟨arr[i], hxr i cs[i] _ (by simp [hi]) (by simp)⟩
          | tk r own sz len cap => cases r <;> cases own <;> exact hok.elim
        obtain ⟨u, hu⟩ := hr
        exact hu.only hdom
  refine wp_mono (ht hg w0 M φ _ w hst) ?_
  rintro e a' w' ⟨M', φ', fr, h, k1, k2, k3⟩
  obtain ⟨he, fr', h', himp, hrp, res, hle, hlt, hR⟩ := k3
  obtain ⟨M2, φ2, e2, s2⟩ := himp w0 M' φ' a' w' k2
  obtain ⟨v, hv1, hv2⟩ := run_results s2.wr s2.fr fn hrp
  have hres := rep_cut (p := (· < n)) (rep_leA hv2 hle) hlt
  have hext := k1.trans e2
  have hfin : Wr w0 M2 (φ2.cut' (· < n)) (fun id => if id < n then h'.out id else none) w' := by
    refine s2.wr.cut ?_ ?_
    · intro id b hb
      by_cases hid : id < n
      · rw [if_pos hid] at hb
        have hb' : h'.get n id = some b := by unfold HP.get; rw [if_pos hid]; exact hb
        exact ⟨hb', hid, s2.out id b hid hb'⟩
      · rw [if_neg hid] at hb; cases hb
    · intro id b hid hb
      rw [if_pos hid]
      unfold HP.get at hb
      rw [if_pos hid] at hb; exact hb
  have post : ∃ M' φ' v' res g', Ending.returned v = .returned v' ∧ Mem.le M M' ∧ Phi.le φ φ' ∧ (∀ id ver hd, φ' id ver = some hd → id < n) ∧ Wr w0 M' φ' g' w' ∧ Rep M' φ' res v' ∧ R res g' :=
    ⟨M2, φ2.cut' (· < n), v, res, _, rfl, hext.1, fun id ver hd hp => by
      have hid := hdom id ver hd hp
      rw [cut_pos (p := fun x => x < n) hid]; exact hext.2 id ver hd hid hp, fun id ver hd hp => (cut_some hp).1, hfin, hres, hR⟩
  rcases he with rfl | rfl
  · exact ⟨s2.defers, v, hv1, post⟩
  · exact ⟨s2.defers, v, hv1, post⟩

theorem CallC.of_T {P : Program} {f : FuncId} {fn : Func} {c : Code} {args : List AV} {g : GH} {R : AV → GH → Prop} (nm : Nat → Option Nat) (md : Nat → Nat) (hf : P.funcs[f]? = some fn) (hb : fn.body = some c) (rs : List ResultVar) (hrs : fn.results.toList = rs) (nt : Nat) (hnt : fn.ntmps = nt)
    (ht : ∀ n, (∀ id, n ≤ id → g id = none) → T ⟨P, n, nt, nm, md⟩ c (FnPost ⟨P, n, nt, nm, md⟩ rs R) (args ++ List.replicate (nt - args.length) (.lit undef)) ⟨g, []⟩) : CallC P f args g R :=
  fun n => CallAt.of_T nm md hf hb rs hrs nt hnt n (ht n)

end Go.Av

