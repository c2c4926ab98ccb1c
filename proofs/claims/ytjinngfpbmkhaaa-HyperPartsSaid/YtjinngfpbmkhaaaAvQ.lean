import Derived.Test.YtjinngfpbmkhaaaAvP
namespace Go.Av
set_option linter.unusedVariables false
set_option linter.unusedSimpArgs false
open Go.RowKit

theorem gputs_some {id : Nat} {b : Blk} : ∀ {wr : List (Nat × Blk)} {g : GH}, gputs g wr id = some b → g id = some b ∨ (id, b) ∈ wr
  | [], g, h => .inl h
  | (i, c) :: l, g, h => by
    rcases gputs_some (wr := l) (g := gput g i c) h with h1 | h1
    · unfold gput at h1
      split at h1
      · rename_i e; subst e; cases h1; exact .inr (by simp)
      · exact .inl h1
    · exact .inr (by simp [h1])

theorem St.op {C : Cfg} {w0 : World} {M : Mem} {φ : Phi} {fr : List AV} {h : HP} {a : Act} {w : World} (hs : St C w0 M φ fr h a w) (o : Oper) (hp : (stepf C o (ev fr) (h.get C.n)).pre) :
    ∃ nx x w' M' φ', (execOp a.eval o).run C.P w = .ok nx w' ∧ (nx = .value x ∨ nx = .skip ∧ x = undef) ∧ Ext C.n M φ M' φ' ∧
      St C w0 M' φ' (fset fr o.dst (stepf C o (ev fr) (h.get C.n)).v) (h.puts C.n (stepf C o (ev fr) (h.get C.n)).wr) (a.put o.dst x) w' := by
  obtain ⟨nx, x, w', M', φ', h1, h2, h3, h4, h5, h6, h7⟩ := stepf_gives hs.wr (P := C.P) rfl hs.fr o hp
  have hm := stepf_may hp
  refine ⟨nx, x, w', M', φ', h1, h2, Ext.of_le h3 h4, (hs.fr.mono h3 h4).put o.dst h6, by rw [put_defers]; exact hs.defers, by rw [HP.get_puts]; exact h7, ?_, ?_⟩
  · intro id ver hd hpp
    rcases h5 id ver hd hpp with k | ⟨b, k⟩
    · exact hs.dom id ver hd k
    · exact (hm id b k).1
  · intro id b hid hb
    rw [HP.get_puts] at hb
    rcases gputs_some hb with k | k
    · exact hs.out id b hid k
    · exact (hm id b k).2 hid

/-! ### guards -/
def gval (all : Array Oper) (fr : List AV) (j : Nat) : AV :=
  match (all[j]?).bind (·.dst) with
  | some d => fr.getD d (.lit undef)
  | none => .lit undef

def gateV (v : AV) (want : Bool) (A B : Prop) : Prop :=
  match v with
  | .lit (.bool b) => if b = want then A else B
  | .lit (.tuple _) => B
  | _ => False

def gateK (gd : Option (Nat × Bool)) (all : Array Oper) (fr : List AV) (A B : Prop) : Prop :=
  match gd with
  | none => A
  | some (j, want) => gateV (gval all fr j) want A B

theorem gateK_sound {M : Mem} {φ : Phi} {all : Array Oper} {fr : List AV} {a : Act} (hf : FrOk M φ fr a) (o : Oper) {A B : Prop} (h : gateK o.guard all fr A B) :
    (Region.wanted o (yielded all a.tmps) = true ∧ A) ∨ (Region.wanted o (yielded all a.tmps) = false ∧ B) := by
  unfold gateK at h
  unfold Region.wanted
  cases hg : o.guard with
  | none => rw [hg] at h; exact .inl ⟨rfl, h⟩
  | some q =>
    obtain ⟨j, want⟩ := q
    rw [hg] at h
    simp only at h ⊢
    unfold gval at h
    unfold yielded
    cases hd : (all[j]?).bind (·.dst) with
    | none =>
      rw [hd] at h
      simp only [gateV, undef] at h
      right; exact ⟨by simp, h⟩
    | some d =>
      obtain ⟨d, rfl⟩ : ∃ d' : Nat, d' = d := ⟨d, rfl⟩
      rw [hd] at h
      simp only [Option.bind_some] at h ⊢
      have hl : fr.length = a.tmps.size := by simpa using hf.1
      by_cases hlt : d < fr.length
      · have hlt' : d < a.tmps.size := by omega
        have hr := hf.2 d (fr.getD d (.lit undef)) a.tmps[d] (by simp [List.getD_eq_getElem?_getD, hlt]) (by simp [hlt'])
        rw [Array.getElem?_eq_getElem hlt']
        generalize fr.getD d (.lit undef) = v at h hr
        unfold gateV at h
        split at h
        · rename_i b
          have := lit_inv hr
          rw [this]
          by_cases e : b = want
          · rw [if_pos e] at h; subst e; exact .inl ⟨by simp, h⟩
          · rw [if_neg e] at h; exact .inr ⟨by simp [e], h⟩
        · have := lit_inv hr
          rw [this]
          exact .inr ⟨by simp, h⟩
        · exact h.elim
      · have e1 : fr.getD d (.lit undef) = .lit undef := by simp [List.getD_eq_getElem?_getD, List.getElem?_eq_none (by omega : fr.length ≤ d)]
        rw [e1] at h
        simp only [gateV, undef] at h
        rw [Array.getElem?_eq_none (by omega)]
        exact .inr ⟨by simp, h⟩

/-! ### calls in a region -/
def OutOk (C : Cfg) (h h' : HP) : Prop := ∀ id b, id < C.n → h'.get C.n id = some b → h.get C.n id = some b ∨ b.only (· < C.n)

def ECall (C : Cfg) (f : FuncId) (args : List AV) (h : HP) (K : AV → HP → Prop) : Prop :=
  ∃ R, CallAt C.P (C.n + C.nt) f args (h.get C.n) R ∧ ∀ res g', R res g' → ∃ h' : HP, h'.get C.n = g' ∧ OutOk C h h' ∧ K res h'

theorem ECall.pure {C : Cfg} {f : FuncId} {args : List AV} {h : HP} {K : AV → HP → Prop} {res : AV} (hc : PureC C.P f args (h.get C.n) res) (hk : K res h) : ECall C f args h K := by
  refine ⟨_, hc _, ?_⟩
  rintro r g' ⟨rfl, rfl⟩
  exact ⟨h, rfl, fun id b hid hb => .inl hb, hk⟩

def TCall (C : Cfg) (fv : AV) (args : List AV) (h : HP) (K : AV → HP → Prop) : Prop :=
  match fv with
  | .fn f cap => callable C.P f = true ∧ ECall C f (args ++ cap) h K
  | _ => False

def TOp (C : Cfg) (o : Oper) (fr : List AV) (h : HP) (K : AV → HP → Prop) : Prop :=
  match o.op with
  | .call ⟨.value x, args, _⟩ => TCall C (ev fr x) (args.toList.map (ev fr)) h K
  | _ => (stepf C o (ev fr) (h.get C.n)).pre ∧ K (stepf C o (ev fr) (h.get C.n)).v (h.puts C.n (stepf C o (ev fr) (h.get C.n)).wr)

theorem TOp_sound {C : Cfg} {w0 : World} {M : Mem} {φ : Phi} {fr : List AV} {h : HP} {a : Act} {w : World} (hs : St C w0 M φ fr h a w) (o : Oper) {K : AV → HP → Prop} (ht : TOp C o fr h K) {next : Act → World → Prop} {Q : Exit → Act → World → Prop}
    (hn : ∀ v h' x w' M' φ', K v h' → Ext C.n M φ M' φ' → St C w0 M' φ' (fset fr o.dst v) h' (a.put o.dst x) w' → next (a.put o.dst x) w') : o.wp C.P a w next Q := by
  unfold TOp at ht
  split at ht
  · rename_i x args ats ho
    unfold TCall at ht
    split at ht
    · rename_i f cap hev
      obtain ⟨hcl, R, hR, hK⟩ := ht
      have hx := rep_ev hs.fr x
      rw [hev] at hx
      generalize hax : a.eval x = xv at hx
      cases hx with
      | @fn _ _ _ vs hl hr =>
        have hrun := execOp_call (P := C.P) (a := a) (c := ⟨.value x, args, ats⟩) ho rfl hax hcl w
        unfold Oper.wp Oper.upon
        rw [hrun]
        have hargs : RepL M φ (args.toList.map (ev fr) ++ cap) (args.map a.eval ++ vs).toList := by
          have := (repL_map hs.fr args.toList).append (⟨by simpa using hl, fun i x v h1 h2 => hr i x v h1 (by simpa using h2)⟩ : RepL M φ cap vs.toList)
          simpa using this
        refine (hR w0 M φ w _ hs.dom hs.wr hargs).mono ?_
        rintro e w' ⟨M', φ', v, res, g', rfl, k2, k3, k4, k5, k6, k7⟩
        obtain ⟨h', hg', hout, hk⟩ := hK res g' k7
        refine hn res h' v w' M' φ' hk (Ext.of_le k2 k3) ⟨(hs.fr.mono k2 k3).put o.dst k6, by rw [put_defers]; exact hs.defers, by rw [hg']; exact k5, k4, ?_⟩
        intro id b hid hb
        rcases hout id b hid hb with j | j
        · exact hs.out id b hid j
        · exact j
    · exact ht.elim
  · obtain ⟨hp, hk⟩ := ht
    obtain ⟨nx, x, w', M', φ', h1, h2, h3, h4⟩ := hs.op o hp
    have := hn _ _ x w' M' φ' hk h3 h4
    unfold Oper.wp Oper.upon
    rw [h1]
    rcases h2 with rfl | ⟨rfl, rfl⟩
    · exact this
    · exact this

/-! ### a region in the order of its text -/
def TL (C : Cfg) (all : Array Oper) : List Oper → (List AV → HP → Prop) → List AV → HP → Prop
  | [], K, fr, h => K fr h
  | o :: rest, K, fr, h => gateK o.guard all fr (TOp C o fr h fun v h' => TL C all rest K (fset fr o.dst v) h') (TL C all rest K (fset fr o.dst (.lit undef)) h)

theorem TL_sound {C : Cfg} {w0 : World} {all : Array Oper} {Q : Exit → List AV → HP → Prop} {K : List AV → HP → Prop} (hK : ∀ fr h, K fr h → Q .normal fr h) :
    ∀ (ops : List Oper) (M0 : Mem) (φ0 : Phi) (M : Mem) (φ : Phi) (fr : List AV) (h : HP) (a : Act) (w : World), Ext C.n M0 φ0 M φ → St C w0 M φ fr h a w → TL C all ops K fr h → wpList C.P all (PostT C w0 M0 φ0 Q) ops a w
  | [], M0, φ0, M, φ, fr, h, a, w, he, hs, ht => ⟨M, φ, fr, h, he, hs, hK _ _ ht⟩
  | o :: rest, M0, φ0, M, φ, fr, h, a, w, he, hs, ht => by
    unfold TL at ht
    unfold wpList
    rcases gateK_sound hs.fr o ht with ⟨hw, ht⟩ | ⟨hw, ht⟩
    · rw [if_pos hw]
      refine .inl (TOp_sound hs o ht ?_)
      intro v h' x w' M' φ' hk he' hs'
      exact TL_sound hK rest M0 φ0 M' φ' _ h' _ w' (he.trans he') hs' hk
    · rw [if_neg (by simp [hw])]
      exact TL_sound hK rest M0 φ0 M φ _ h _ w he ⟨hs.fr.put o.dst (.lit _), by rw [put_defers]; exact hs.defers, hs.wr, hs.dom, hs.out⟩ ht

/-! ### code -/
theorem T.skip {C : Cfg} {Q : Exit → List AV → HP → Prop} {fr : List AV} {h : HP} (hq : Q .normal fr h) : T C .skip Q fr h :=
  fun w0 M φ a w hs => wp_skip ⟨M, φ, fr, h, Ext.refl _ _ _, hs, hq⟩

theorem T.ret {C : Cfg} {Q : Exit → List AV → HP → Prop} {fr : List AV} {h : HP} (hq : Q .ret fr h) : T C .ret Q fr h :=
  fun w0 M φ a w hs => wp_ret ⟨M, φ, fr, h, Ext.refl _ _ _, hs, hq⟩

theorem T.exit {C : Cfg} {Q : Exit → List AV → HP → Prop} {fr : List AV} {h : HP} {id : Nat} (hq : Q (.exit id) fr h) : T C (.exit id) Q fr h :=
  fun w0 M φ a w hs => wp_exit ⟨M, φ, fr, h, Ext.refl _ _ _, hs, hq⟩

theorem T.label {C : Cfg} {Q : Exit → List AV → HP → Prop} {fr : List AV} {h : HP} {l : Nat} (hq : Q .normal fr h) : T C (.label l) Q fr h :=
  fun w0 M φ a w hs => wp_label ⟨M, φ, fr, h, Ext.refl _ _ _, hs, hq⟩

def seqK (e : Exit) (A B : Prop) : Prop := match e with | .normal => A | _ => B

theorem T.seq {C : Cfg} {x y : Code} {Q : Exit → List AV → HP → Prop} {fr : List AV} {h : HP} (ht : T C x (fun e fr h => seqK e (T C y Q fr h) (Q e fr h)) fr h) : T C (.seq x y) Q fr h := by
  intro w0 M φ a w hs
  refine wp_seq (wp_mono (ht w0 M φ a w hs) ?_)
  rintro e a' w' ⟨M', φ', fr', h', k1, k2, k3⟩
  cases e <;> simp only [Exit.then, seqK] at k3 ⊢
  · exact wp_mono (k3 w0 M' φ' a' w' k2) fun e a w hp => hp.mono k1 fun _ _ h => h
  all_goals exact ⟨M', φ', fr', h', k1, k2, k3⟩

theorem T.mono {C : Cfg} {c : Code} {Q Q' : Exit → List AV → HP → Prop} {fr : List AV} {h : HP} (ht : T C c Q fr h) (hq : ∀ e fr h, Q e fr h → Q' e fr h) : T C c Q' fr h :=
  fun w0 M φ a w hs => wp_mono (ht w0 M φ a w hs) fun e a w hp => hp.mono (Ext.refl _ _ _) (hq e)

def condK (v : AV) (A B : Prop) : Prop := match v with | .lit (.bool b) => if b = true then A else B | _ => False

theorem T.cond {C : Cfg} {c : Operand} {x y : Code} {Q : Exit → List AV → HP → Prop} {fr : List AV} {h : HP} (ht : condK (ev fr c) (T C x Q fr h) (T C y Q fr h)) : T C (.cond c x y) Q fr h := by
  intro w0 M φ a w hs
  unfold condK at ht
  split at ht
  · rename_i b hb
    have := rep_ev hs.fr c
    rw [hb] at this
    have := lit_inv this
    refine wp_cond this ?_
    cases b
    · simp only [Bool.false_eq_true, if_false] at ht ⊢; exact ht w0 M φ a w hs
    · simp only [if_true] at ht ⊢; exact ht w0 M φ a w hs
  · exact ht.elim

def blockK (id : Nat) (e : Exit) (A B : Prop) : Prop := match e with | .exit i => if i = id then A else B | _ => B

theorem T.block {C : Cfg} {id : Nat} {c : Code} {Q : Exit → List AV → HP → Prop} {fr : List AV} {h : HP} (ht : T C c (fun e fr h => blockK id e (Q .normal fr h) (Q e fr h)) fr h) : T C (.block id c) Q fr h := by
  intro w0 M φ a w hs
  refine wp_block (wp_mono (ht w0 M φ a w hs) ?_)
  rintro e a' w' ⟨M', φ', fr', h', k1, k2, k3⟩
  cases e <;> simp only [Exit.inBlock, blockK] at k3 ⊢
  case exit i =>
    by_cases e : i = id
    · rw [if_pos e] at k3 ⊢; exact ⟨M', φ', fr', h', k1, k2, k3⟩
    · rw [if_neg e] at k3 ⊢; exact ⟨M', φ', fr', h', k1, k2, k3⟩
  all_goals exact ⟨M', φ', fr', h', k1, k2, k3⟩

theorem T.region {C : Cfg} {id : Nat} {ops : Array Oper} {Q : Exit → List AV → HP → Prop} {fr : List AV} {h : HP} (ht : TL C ops ops.toList (Q .normal) fr h) : T C (.region id ops false) Q fr h :=
  fun w0 M φ a w hs => wp_region_list (TL_sound (fun _ _ h => h) ops.toList M φ M φ fr h a w (Ext.refl _ _ _) hs ht)

end Go.Av
