import Derived.Test.YtjinngfpbmkhaaaAvU
namespace Go.Av
set_option linter.unusedVariables false
set_option linter.unusedSimpArgs false
open Go.RowKit

/-! ### a region that draws its order, as the evaluator meets it -/
def WD (C : Cfg) (ls l : List Oper) (k : List KI) (Q : QT) (fr : List AV) (h : HP) (tr : List Ft) : Prop :=
  LX C ls.toArray (fun tr fr h => POL (masks ls []) tr tr 0 ∧ WX C .normal k Q fr h) l tr fr h
def DK (C : Cfg) (o : Out) (d : Option Tmp) (ls l : List Oper) (k : List KI) (Q : QT) (fr : List AV) (h : HP) (tr : List Ft) : Prop :=
  o.pre ∧ WD C ls l k Q (fset fr d o.v) (h.puts C.n o.wr) (tr ++ [⟨o.rd, o.wr.map (·.1)⟩])
def DE (C : Cfg) (f : FuncId) (args : List AV) (d : Option Tmp) (ls l : List Oper) (k : List KI) (Q : QT) (fr : List AV) (h : HP) (tr : List Ft) : Prop :=
  ∃ rd v, (∀ g', (∀ id, id ∈ rd → g' id = h.get C.n id) → PureC C.P f args g' v) ∧ WD C ls l k Q (fset fr d v) h (tr ++ [⟨rd, []⟩])
def DF (C : Cfg) (fv : AV) (args : List AV) (d : Option Tmp) (ls l : List Oper) (k : List KI) (Q : QT) (fr : List AV) (h : HP) (tr : List Ft) : Prop :=
  match fv with
  | .fn f cap => callable C.P f = true ∧ DE C f (args ++ cap) d ls l k Q fr h tr
  | _ => False
def DO (C : Cfg) (op : Op) (d : Option Tmp) (ls l : List Oper) (k : List KI) (Q : QT) (fr : List AV) (h : HP) (tr : List Ft) : Prop :=
  match op with
  | .call ⟨.value x, args, _⟩ => DF C (ev fr x) (args.toList.map (ev fr)) d ls l k Q fr h tr
  | op => DK C (stepf C ⟨d, op, 0, "", #[], none⟩ (ev fr) (h.get C.n)) d ls l k Q fr h tr
def DG (C : Cfg) (v : AV) (want : Bool) (op : Op) (d : Option Tmp) (ls l : List Oper) (k : List KI) (Q : QT) (fr : List AV) (h : HP) (tr : List Ft) : Prop :=
  gateV v want (DO C op d ls l k Q fr h tr) (WD C ls l k Q (fset fr d (.lit undef)) h (tr ++ [⟨[], []⟩]))

section eqs
variable (C : Cfg) (k : List KI) (Q : QT) (fr : List AV) (h : HP) (tr : List Ft) (ls l : List Oper)
theorem WD_nil : WD C ls [] k Q fr h tr = (POL (masks ls []) tr tr 0 ∧ WX C .normal k Q fr h) := by exact Eq.trans rfl rfl
theorem WD_body (d : Option Tmp) (op : Op) (t : TypeId) (p : String) (es : Array Edge) (gd : Option (Nat × Bool)) :
    WD C ls (⟨d, op, t, p, es, gd⟩ :: l) k Q fr h tr = gateK gd ls.toArray fr (DO C op d ls l k Q fr h tr) (WD C ls l k Q (fset fr d (.lit undef)) h (tr ++ [⟨[], []⟩])) := by
  unfold WD DO
  cases op <;> try rfl
  rename_i c
  obtain ⟨callee, args, ats⟩ := c
  cases callee <;> rfl
theorem WD_cons (d : Option Tmp) (op : Op) (t : TypeId) (p : String) (es : Array Edge) : WD C ls (⟨d, op, t, p, es, none⟩ :: l) k Q fr h tr = DO C op d ls l k Q fr h tr := by
  rw [WD_body]; rfl
theorem WD_cons_g (d : Option Tmp) (op : Op) (t : TypeId) (p : String) (es : Array Edge) (j : Nat) (want : Bool) : WD C ls (⟨d, op, t, p, es, some (j, want)⟩ :: l) k Q fr h tr = DG C (gval ls.toArray fr j) want op d ls l k Q fr h tr := by
  rw [WD_body]; rfl
variable (op : Op) (d : Option Tmp)
theorem DG_bool (b want : Bool) : DG C (.lit (.bool b)) want op d ls l k Q fr h tr = if b = want then DO C op d ls l k Q fr h tr else WD C ls l k Q (fset fr d (.lit undef)) h (tr ++ [⟨[], []⟩]) := by exact Eq.trans rfl rfl
theorem DG_tt : DG C (.lit (.bool true)) true op d ls l k Q fr h tr = DO C op d ls l k Q fr h tr := by simp only [DG_bool, if_true]
theorem DG_ff : DG C (.lit (.bool false)) false op d ls l k Q fr h tr = DO C op d ls l k Q fr h tr := by simp only [DG_bool, if_true]
theorem DG_tf : DG C (.lit (.bool true)) false op d ls l k Q fr h tr = WD C ls l k Q (fset fr d (.lit undef)) h (tr ++ [⟨[], []⟩]) := by rw [DG_bool, if_neg (by decide)]
theorem DG_ft : DG C (.lit (.bool false)) true op d ls l k Q fr h tr = WD C ls l k Q (fset fr d (.lit undef)) h (tr ++ [⟨[], []⟩]) := by rw [DG_bool, if_neg (by decide)]
theorem DG_split {b want : Bool} (ht : b = true → DG C (.lit (.bool true)) want op d ls l k Q fr h tr) (hf : b = false → DG C (.lit (.bool false)) want op d ls l k Q fr h tr) : DG C (.lit (.bool b)) want op d ls l k Q fr h tr := by
  cases b
  · exact hf rfl
  · exact ht rfl
theorem DG_undef (want : Bool) : DG C (.lit undef) want op d ls l k Q fr h tr = WD C ls l k Q (fset fr d (.lit undef)) h (tr ++ [⟨[], []⟩]) := by exact Eq.trans rfl rfl
theorem DK_mk0 (v : AV) (rd : List Nat) : DK C ⟨True, v, rd, []⟩ d ls l k Q fr h tr = WD C ls l k Q (fset fr d v) h (tr ++ [⟨rd, []⟩]) := by simp [DK, HP.puts]
theorem DK_mk (p : Prop) (v : AV) (rd : List Nat) (wr : List (Nat × Blk)) : DK C ⟨p, v, rd, wr⟩ d ls l k Q fr h tr = (p ∧ WD C ls l k Q (fset fr d v) (h.puts C.n wr) (tr ++ [⟨rd, wr.map (·.1)⟩])) := by exact Eq.trans rfl rfl
theorem DF_fn (f : FuncId) (cap args : List AV) : DF C (.fn f cap) args d ls l k Q fr h tr = (callable C.P f = true ∧ DE C f (args ++ cap) d ls l k Q fr h tr) := by exact Eq.trans rfl rfl
theorem DO_call (x : Operand) (args : List Operand) (ats : Array TypeId) : DO C (.call ⟨.value x, args.toArray, ats⟩) d ls l k Q fr h tr = DF C (ev fr x) (args.map (ev fr)) d ls l k Q fr h tr := by exact Eq.trans rfl rfl
theorem DO_move (x : Operand) : DO C (.move x) d ls l k Q fr h tr = DK C ⟨True, ev fr x, [], []⟩ d ls l k Q fr h tr := by exact Eq.trans rfl rfl
theorem DO_makeFunc (f : FuncId) (cap : List Operand) : DO C (.makeFunc (.func f) #[] cap.toArray) d ls l k Q fr h tr = DK C ⟨True, .fn f (cap.map (ev fr)), [], []⟩ d ls l k Q fr h tr := by simp [DO, stepf, DK]
theorem DO_builtin (b : Builtin) (args : List Operand) (ats : List TypeId) : DO C (.call ⟨.builtin b, args.toArray, ats.toArray⟩) d ls l k Q fr h tr = DK C (builtinA C (d.getD 0) b ats (h.get C.n) (args.map (ev fr))) d ls l k Q fr h tr := by exact Eq.trans rfl rfl
theorem DO_assign (x : Operand) : DO C (.assign x) d ls l k Q fr h tr = DK C (assignA C (d.getD 0) (h.get C.n) (ev fr x)) d ls l k Q fr h tr := by exact Eq.trans rfl rfl
theorem DO_pick (c a b : Operand) : DO C (.pick c a b) d ls l k Q fr h tr = DK C (pickA (ev fr c) (ev fr a) (ev fr b)) d ls l k Q fr h tr := by exact Eq.trans rfl rfl
theorem DO_alloc (u : TypeId) : DO C (.alloc u) d ls l k Q fr h tr = DK C (allocZ C (d.getD 0) u (h.get C.n)) d ls l k Q fr h tr := by exact Eq.trans rfl rfl
theorem DO_box (u : TypeId) (x : Operand) : DO C (.box u x) d ls l k Q fr h tr = DK C (allocA C (d.getD 0) (h.get C.n) (ev fr x).cells) d ls l k Q fr h tr := by exact Eq.trans rfl rfl
theorem DO_build (u : TypeId) (ps : List (Nat × Operand)) : DO C (.build u ps.toArray) d ls l k Q fr h tr = DK C (buildA C.P u (ps.map fun p => (p.1, ev fr p.2))) d ls l k Q fr h tr := by exact Eq.trans rfl rfl
theorem DO_buildSlice (u : TypeId) (len : Nat) (ps : List (Nat × Operand)) : DO C (.buildSlice u len ps.toArray) d ls l k Q fr h tr = DK C (buildSliceA C (d.getD 0) u len (h.get C.n) (ps.map fun p => (p.1, ev fr p.2))) d ls l k Q fr h tr := by exact Eq.trans rfl rfl
theorem DO_load (u : TypeId) (x : Operand) : DO C (.load u x) d ls l k Q fr h tr = DK C (loadA C.P u (h.get C.n) (ev fr x)) d ls l k Q fr h tr := by exact Eq.trans rfl rfl
theorem DO_store (u : TypeId) (x y : Operand) : DO C (.store u x y) d ls l k Q fr h tr = DK C (storeA C u (h.get C.n) (ev fr y) (ev fr x)) d ls l k Q fr h tr := by exact Eq.trans rfl rfl
theorem DO_nilCheck (x : Operand) : DO C (.nilCheck x) d ls l k Q fr h tr = DK C (nilCheckA (ev fr x)) d ls l k Q fr h tr := by exact Eq.trans rfl rfl
theorem DO_binOp (o : BinOp) (u u' : TypeId) (x y : Operand) : DO C (.binOp o u x y u') d ls l k Q fr h tr = DK C (binA C.P o u (ev fr x) (ev fr y)) d ls l k Q fr h tr := by exact Eq.trans rfl rfl
theorem DO_unOp (o : UnOp) (u : TypeId) (x : Operand) : DO C (.unOp o u x) d ls l k Q fr h tr = DK C (unA o (ev fr x)) d ls l k Q fr h tr := by exact Eq.trans rfl rfl
theorem DO_convert (s u : TypeId) (x : Operand) : DO C (.convert s u x) d ls l k Q fr h tr = DK C (convO C.P s u (ev fr x)) d ls l k Q fr h tr := by exact Eq.trans rfl rfl
theorem DO_makeSlice (u : TypeId) (x y : Operand) : DO C (.makeSlice u x y) d ls l k Q fr h tr = DK C (makeSliceA C (d.getD 0) u (h.get C.n) (ev fr x) (ev fr y)) d ls l k Q fr h tr := by exact Eq.trans rfl rfl
theorem DO_slice (u : TypeId) (x : Operand) (lo hi mx : Option Operand) : DO C (.slice u x lo hi mx) d ls l k Q fr h tr = DK C (sliceA C.P u (ev fr x) (lo.map (ev fr)) (hi.map (ev fr)) (mx.map (ev fr))) d ls l k Q fr h tr := by exact Eq.trans rfl rfl
theorem DO_fieldAddr (u : TypeId) (x : Operand) (f : Nat) : DO C (.fieldAddr u x f) d ls l k Q fr h tr = DK C (fieldAddrA C.P u f (ev fr x)) d ls l k Q fr h tr := by exact Eq.trans rfl rfl
theorem DO_field (u : TypeId) (x : Operand) (f : Nat) : DO C (.field u x f) d ls l k Q fr h tr = DK C (fieldA C.P u f (ev fr x)) d ls l k Q fr h tr := by exact Eq.trans rfl rfl
theorem DO_indexAddr (u : TypeId) (x y : Operand) : DO C (.indexAddr u x y) d ls l k Q fr h tr = DK C (indexAddrA C.P u (ev fr x) (ev fr y)) d ls l k Q fr h tr := by exact Eq.trans rfl rfl
theorem DO_index (u : TypeId) (x y : Operand) : DO C (.index u x y) d ls l k Q fr h tr = DK C (indexA C.P u (ev fr x) (ev fr y)) d ls l k Q fr h tr := by exact Eq.trans rfl rfl
theorem DO_extract (x : Operand) (i : Nat) : DO C (.extract x i) d ls l k Q fr h tr = DK C (extractA i (ev fr x)) d ls l k Q fr h tr := by exact Eq.trans rfl rfl
theorem DE_pure {f : FuncId} {args : List AV} {res : AV} (rd : List Nat) (hc : ∀ g', (∀ id, id ∈ rd → g' id = h.get C.n id) → PureC C.P f args g' res) (hk : WD C ls l k Q (fset fr d res) h (tr ++ [⟨rd, []⟩])) : DE C f args d ls l k Q fr h tr := ⟨rd, res, hc, hk⟩
end eqs

def nwr : List Ft → Bool
  | [] => true
  | a :: l => a.wr.isEmpty && nwr l
theorem nwr_nil : nwr [] = true := rfl
theorem nwr_cons (rd : List Nat) (l : List Ft) : nwr (⟨rd, []⟩ :: l) = nwr l := by exact Eq.trans rfl rfl
theorem nwr_get : ∀ {tr : List Ft}, nwr tr = true → ∀ a, a ∈ tr → a.wr = []
  | [], _, a, ha => by simp at ha
  | b :: l, h, a, ha => by
    simp only [nwr, Bool.and_eq_true, List.isEmpty_iff] at h
    rcases List.mem_cons.1 ha with rfl | ha
    · exact h.1
    · exact nwr_get h.2 a ha
theorem HA_nowr {a b : Ft} (ha : a.wr = []) (hb : b.wr = []) : HA a b := by
  unfold HA; rw [ha, hb]; simp
theorem PO1_nowr {m : Nat} {a : Ft} (ha : a.wr = []) : ∀ {l : List Ft} {i : Nat}, (∀ b, b ∈ l → b.wr = []) → PO1 m a l i
  | [], i, _ => trivial
  | b :: l, i, h => ⟨.inr (HA_nowr (h b (by simp)) ha), PO1_nowr ha fun c hc => h c (by simp [hc])⟩
theorem POL_nowr {ms : List Nat} {tr : List Ft} (h : ∀ b, b ∈ tr → b.wr = []) : ∀ {l : List Ft} {j : Nat}, (∀ b, b ∈ l → b.wr = []) → POL ms tr l j
  | [], j, _ => trivial
  | a :: l, j, hl => ⟨PO1_nowr (hl a (by simp)) fun b hb => h b (List.mem_of_mem_take hb), POL_nowr h fun b hb => hl b (by simp [hb])⟩
theorem WD_nil0 {C : Cfg} {ls : List Oper} {k : List KI} {Q : QT} {fr : List AV} {h : HP} {tr : List Ft} (hn : nwr tr = true) : WD C ls [] k Q fr h tr = WX C .normal k Q fr h := by
  rw [WD_nil]
  exact propext ⟨fun h => h.2, fun h => ⟨POL_nowr (nwr_get hn) (nwr_get hn), h⟩⟩
theorem WD_end {C : Cfg} {ls : List Oper} {k : List KI} {Q : QT} {fr : List AV} {h : HP} {tr : List Ft} (hp : POL (masks ls []) tr tr 0) (hk : WX C .normal k Q fr h) : WD C ls [] k Q fr h tr := by
  rw [WD_nil]; exact ⟨hp, hk⟩
theorem T_eq (C : Cfg) (id : Nat) (ops : Array Oper) (k : List KI) (Q : QT) (fr : List AV) (h : HP) (ht : T C (.region id ops true) (fun e fr h => WX C e k Q fr h) fr h) : WC C (.region id ops true) k Q fr h := by
  unfold WC TW; exact ht
theorem WC_draw {C : Cfg} {id : Nat} {ls : List Oper} {k : List KI} {Q : QT} {fr : List AV} {h : HP} (hm : C.P.follows .mixedOrders = true) (hb : drawB ls = true) (ht : WD C ls ls k Q fr h []) : WC C (.region id ls.toArray true) k Q fr h :=
  T_eq _ _ _ _ _ _ _ (T.draw hm hb ht)

/-- a function that never looks at memory, by what is known of its runs -/
theorem PureC.of_lit {P : Program} {f : FuncId} {as : List Value} {r : Value} (h : ∀ w, Calls P f as.toArray w fun e w' => e = .returned r ∧ w' = w) (g : GH) : PureC P f (as.map .lit) g (.lit r) := by
  intro n w0 M φ w vs hdom hw hargs
  have hvs : vs = as.toArray := by
    apply Array.ext'
    have hl : as.length = vs.toList.length := by have := hargs.1; simpa using this
    apply List.ext_getElem?
    intro i
    by_cases hi : i < as.length
    · have := hargs.2 i (.lit as[i]) (vs.toList[i]'(by omega)) (by simp [hi]) (by simp)
      rw [List.getElem?_eq_getElem (by omega), lit_inv this]; simp [hi]
    · rw [List.getElem?_eq_none (by omega), List.getElem?_eq_none (by simpa using hi)]
  rw [hvs]
  refine (h w).mono ?_
  rintro e w' ⟨rfl, rfl⟩
  exact ⟨M, φ, r, .lit r, g, rfl, Mem.le.refl _, Phi.le.refl _, hdom, hw, .lit r, rfl, rfl⟩

attribute [go_sem] WD_nil0 WD_cons WD_cons_g DG_tt DG_tf DG_ft DG_ff DG_undef DK_mk0 DK_mk DF_fn DO_call DO_move DO_makeFunc nwr_nil nwr_cons DO_builtin DO_assign DO_pick DO_alloc DO_box DO_build DO_buildSlice DO_load DO_store DO_nilCheck DO_binOp DO_unOp DO_convert DO_makeSlice DO_slice DO_fieldAddr DO_field DO_indexAddr DO_index DO_extract
attribute [irreducible] WD DK DE DF DO DG
end Go.Av
