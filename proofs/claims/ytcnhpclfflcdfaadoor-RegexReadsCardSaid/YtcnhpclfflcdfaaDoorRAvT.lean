/- Plain words. -/
import Derived.ScopeJumps
import Derived.Test.YtcnhpclfflcdfaaDoorRAvR
namespace Go.Av
set_option linter.unusedVariables false
set_option linter.unusedSimpArgs false
open Go.RowKit

/-- The code, read as what must hold ahead of it. -/
def TW (C : Cfg) : Code → (Exit → List AV → HP → Prop) → List AV → HP → Prop
  | .skip, Q, fr, h => Q .normal fr h
  | .seq a b, Q, fr, h => TW C a (fun e fr h => seqK e (TW C b Q fr h) (Q e fr h)) fr h
  | .cond c t e, Q, fr, h => condK (ev fr c) (TW C t Q fr h) (TW C e Q fr h)
  | .block id c, Q, fr, h => TW C c (fun e fr h => blockK id e (Q .normal fr h) (Q e fr h)) fr h
  | .exit id, Q, fr, h => Q (.exit id) fr h
  | .ret, Q, fr, h => Q .ret fr h
  | .label _, Q, fr, h => Q .normal fr h
  | .region _ ops false, Q, fr, h => TL C ops ops.toList (Q .normal) fr h
  | c, Q, fr, h => T C c Q fr h

theorem T.of_TW {C : Cfg} : ∀ {c : Code} {Q : Exit → List AV → HP → Prop} {fr : List AV} {h : HP}, TW C c Q fr h → T C c Q fr h
  | .skip, Q, fr, h, ht => T.skip ht
  | .seq a b, Q, fr, h, ht => by
    refine T.seq ((T.of_TW (c := a) ht).mono ?_)
    intro e fr h hk
    cases e <;> first | exact T.of_TW hk | exact hk
  | .cond c t e, Q, fr, h, ht => by
    refine T.cond ?_
    unfold TW at ht
    unfold condK at ht ⊢
    split at ht
    · split at ht
      · rename_i hb; rw [if_pos hb]; exact T.of_TW ht
      · rename_i hb; rw [if_neg hb]; exact T.of_TW ht
    · exact ht
  | .block id c, Q, fr, h, ht => T.block (T.of_TW (c := c) ht)
  | .exit id, Q, fr, h, ht => T.exit ht
  | .ret, Q, fr, h, ht => T.ret ht
  | .label l, Q, fr, h, ht => T.label ht
  | .region id ops false, Q, fr, h, ht => T.region ht
  | .region id ops true, Q, fr, h, ht => ht
  | .loop c, Q, fr, h, ht => ht
  | .rangeFunc f ps a b, Q, fr, h, ht => ht
  | .scope c, Q, fr, h, ht => ht
  | .goto l, Q, fr, h, ht => ht
  | .refuse w, Q, fr, h, ht => ht


theorem puts_nil (h : HP) (n : Nat) : h.puts n [] = h := rfl

/-! ### the same, with what follows kept as data: so that 'simp' goes along the run, and not into what follows -/
inductive KI where
  | code (c : Code)
  | blk (id : Nat)

abbrev QT := Exit → List AV → HP → Prop

/-- what must hold where the run leaves a piece of code so -/
def WX (C : Cfg) (e : Exit) : List KI → QT → List AV → HP → Prop
  | [], Q, fr, h => Q e fr h
  | .code c :: k, Q, fr, h => match e with
    | .normal => TW C c (fun e fr h => WX C e k Q fr h) fr h
    | e => WX C e k Q fr h
  | .blk id :: k, Q, fr, h => match e with
    | .exit i => if i = id then WX C .normal k Q fr h else WX C (.exit i) k Q fr h
    | e => WX C e k Q fr h

def WC (C : Cfg) (c : Code) (k : List KI) (Q : QT) (fr : List AV) (h : HP) : Prop := TW C c (fun e fr h => WX C e k Q fr h) fr h
def WL (C : Cfg) (all : Array Oper) (l : List Oper) (k : List KI) (Q : QT) (fr : List AV) (h : HP) : Prop := TL C all l (fun fr h => WX C .normal k Q fr h) fr h
def WO (C : Cfg) (op : Op) (d : Option Tmp) (all : Array Oper) (l : List Oper) (k : List KI) (Q : QT) (fr : List AV) (h : HP) : Prop :=
  TOp C ⟨d, op, 0, "", #[], none⟩ fr h fun v h' => WL C all l k Q (fset fr d v) h'
def WK (C : Cfg) (o : Out) (d : Option Tmp) (all : Array Oper) (l : List Oper) (k : List KI) (Q : QT) (fr : List AV) (h : HP) : Prop := o.pre ∧ WL C all l k Q (fset fr d o.v) (h.puts C.n o.wr)
def WE (C : Cfg) (f : FuncId) (args : List AV) (d : Option Tmp) (all : Array Oper) (l : List Oper) (k : List KI) (Q : QT) (fr : List AV) (h : HP) : Prop := ECall C f args h fun v h' => WL C all l k Q (fset fr d v) h'
def WF (C : Cfg) (fv : AV) (args : List AV) (d : Option Tmp) (all : Array Oper) (l : List Oper) (k : List KI) (Q : QT) (fr : List AV) (h : HP) : Prop := TCall C fv args h fun v h' => WL C all l k Q (fset fr d v) h'
def WG (C : Cfg) (v : AV) (want : Bool) (op : Op) (d : Option Tmp) (all : Array Oper) (l : List Oper) (k : List KI) (Q : QT) (fr : List AV) (h : HP) : Prop :=
  gateV v want (WO C op d all l k Q fr h) (WL C all l k Q (fset fr d (.lit undef)) h)
def WB (C : Cfg) (v : AV) (t e : Code) (k : List KI) (Q : QT) (fr : List AV) (h : HP) : Prop := condK v (WC C t k Q fr h) (WC C e k Q fr h)

theorem TOp_same (C : Cfg) (d : Option Tmp) (op : Op) (t : TypeId) (p : String) (es : Array Edge) (gd : Option (Nat × Bool)) (fr : List AV) (h : HP) (K : AV → HP → Prop) :
    TOp C ⟨d, op, t, p, es, gd⟩ fr h K = TOp C ⟨d, op, 0, "", #[], none⟩ fr h K := by
  cases op <;> rfl

section eqs
variable (C : Cfg) (k : List KI) (Q : QT) (fr : List AV) (h : HP)
theorem WX_nil (e : Exit) : WX C e [] Q fr h = Q e fr h := by exact Eq.trans rfl rfl
theorem WX_code (c : Code) : WX C .normal (.code c :: k) Q fr h = WC C c k Q fr h := by exact Eq.trans rfl rfl
theorem WX_blk (id : Nat) : WX C .normal (.blk id :: k) Q fr h = WX C .normal k Q fr h := by exact Eq.trans rfl rfl
theorem WX_ret_code (c : Code) : WX C .ret (.code c :: k) Q fr h = WX C .ret k Q fr h := by exact Eq.trans rfl rfl
theorem WX_ret_blk (id : Nat) : WX C .ret (.blk id :: k) Q fr h = WX C .ret k Q fr h := by exact Eq.trans rfl rfl
theorem WX_exit_code (i : Nat) (c : Code) : WX C (.exit i) (.code c :: k) Q fr h = WX C (.exit i) k Q fr h := by exact Eq.trans rfl rfl
theorem WX_exit_blk (i id : Nat) : WX C (.exit i) (.blk id :: k) Q fr h = if i = id then WX C .normal k Q fr h else WX C (.exit i) k Q fr h := by exact Eq.trans rfl rfl
theorem WC_skip : WC C .skip k Q fr h = WX C .normal k Q fr h := by exact Eq.trans rfl rfl
theorem WC_label (l : Nat) : WC C (.label l) k Q fr h = WX C .normal k Q fr h := by exact Eq.trans rfl rfl
theorem WC_ret : WC C .ret k Q fr h = WX C .ret k Q fr h := by exact Eq.trans rfl rfl
theorem WC_exit (i : Nat) : WC C (.exit i) k Q fr h = WX C (.exit i) k Q fr h := by exact Eq.trans rfl rfl
theorem WC_seq (a b : Code) : WC C (.seq a b) k Q fr h = WC C a (.code b :: k) Q fr h := by
  unfold WC
  show TW C a _ fr h = TW C a _ fr h
  congr 1
  funext e fr h
  cases e <;> rfl
theorem WC_block (id : Nat) (a : Code) : WC C (.block id a) k Q fr h = WC C a (.blk id :: k) Q fr h := by
  unfold WC
  show TW C a _ fr h = TW C a _ fr h
  congr 1
  funext e fr h
  cases e <;> rfl
theorem WC_cond (c : Operand) (t e : Code) : WC C (.cond c t e) k Q fr h = WB C (ev fr c) t e k Q fr h := by exact Eq.trans rfl rfl
theorem WB_bool (b : Bool) (t e : Code) : WB C (.lit (.bool b)) t e k Q fr h = if b = true then WC C t k Q fr h else WC C e k Q fr h := by exact Eq.trans rfl rfl
theorem WC_region (id : Nat) (ops : List Oper) : WC C (.region id ops.toArray false) k Q fr h = WL C ops.toArray ops k Q fr h := by exact Eq.trans rfl rfl
variable (all : Array Oper) (l : List Oper)
theorem WL_nil : WL C all [] k Q fr h = WX C .normal k Q fr h := by exact Eq.trans rfl rfl
theorem WL_cons (d : Option Tmp) (op : Op) (t : TypeId) (p : String) (es : Array Edge) : WL C all (⟨d, op, t, p, es, none⟩ :: l) k Q fr h = WO C op d all l k Q fr h := by
  unfold WO; rw [← TOp_same C d op t p es none]; rfl
theorem WL_cons_g (d : Option Tmp) (op : Op) (t : TypeId) (p : String) (es : Array Edge) (j : Nat) (want : Bool) : WL C all (⟨d, op, t, p, es, some (j, want)⟩ :: l) k Q fr h = WG C (gval all fr j) want op d all l k Q fr h := by
  unfold WG WO; rw [← TOp_same C d op t p es (some (j, want))]; rfl
variable (op : Op) (d : Option Tmp)
theorem WG_bool (b want : Bool) : WG C (.lit (.bool b)) want op d all l k Q fr h = if b = want then WO C op d all l k Q fr h else WL C all l k Q (fset fr d (.lit undef)) h := by exact Eq.trans rfl rfl
theorem WG_tt : WG C (.lit (.bool true)) true op d all l k Q fr h = WO C op d all l k Q fr h := by simp only [WG_bool, if_true]
theorem WG_ff : WG C (.lit (.bool false)) false op d all l k Q fr h = WO C op d all l k Q fr h := by simp only [WG_bool, if_true]
theorem WG_tf : WG C (.lit (.bool true)) false op d all l k Q fr h = WL C all l k Q (fset fr d (.lit undef)) h := by rw [WG_bool, if_neg (by decide)]
theorem WG_ft : WG C (.lit (.bool false)) true op d all l k Q fr h = WL C all l k Q (fset fr d (.lit undef)) h := by rw [WG_bool, if_neg (by decide)]
theorem WG_split {b want : Bool} (ht : b = true → WG C (.lit (.bool true)) want op d all l k Q fr h) (hf : b = false → WG C (.lit (.bool false)) want op d all l k Q fr h) : WG C (.lit (.bool b)) want op d all l k Q fr h := by
  cases b
  · exact hf rfl
  · exact ht rfl
theorem WG_undef (want : Bool) : WG C (.lit undef) want op d all l k Q fr h = WL C all l k Q (fset fr d (.lit undef)) h := by exact Eq.trans rfl rfl
theorem WK_mk0 (v : AV) (rd : List Nat) : WK C ⟨True, v, rd, []⟩ d all l k Q fr h = WL C all l k Q (fset fr d v) h := by simp [WK, HP.puts]
theorem WK_mk (p : Prop) (v : AV) (rd : List Nat) (wr : List (Nat × Blk)) : WK C ⟨p, v, rd, wr⟩ d all l k Q fr h = (p ∧ WL C all l k Q (fset fr d v) (h.puts C.n wr)) := by exact Eq.trans rfl rfl
theorem WF_bfn (f : FuncId) (bd args : List AV) : WF C (.bfn f bd) args d all l k Q fr h = (callable C.P f = true ∧ WE C f (bd ++ args) d all l k Q fr h) := by exact Eq.trans rfl rfl
theorem WF_fn (f : FuncId) (cap args : List AV) : WF C (.fn f cap) args d all l k Q fr h = (callable C.P f = true ∧ WE C f (args ++ cap) d all l k Q fr h) := by exact Eq.trans rfl rfl
theorem WO_call (x : Operand) (args : List Operand) (ats : Array TypeId) : WO C (.call ⟨.value x, args.toArray, ats⟩) d all l k Q fr h = WF C (ev fr x) (args.map (ev fr)) d all l k Q fr h := by exact Eq.trans rfl rfl
theorem WO_builtin (b : Builtin) (args : List Operand) (ats : List TypeId) : WO C (.call ⟨.builtin b, args.toArray, ats.toArray⟩) d all l k Q fr h = WK C (builtinA C (d.getD 0) b ats (h.get C.n) (args.map (ev fr))) d all l k Q fr h := by exact Eq.trans rfl rfl
theorem WO_move (x : Operand) : WO C (.move x) d all l k Q fr h = WL C all l k Q (fset fr d (ev fr x)) h := by simp [WO, TOp, stepf, HP.puts]
theorem WO_assign (x : Operand) : WO C (.assign x) d all l k Q fr h = WK C (assignA C (d.getD 0) (h.get C.n) (ev fr x)) d all l k Q fr h := by exact Eq.trans rfl rfl
theorem WO_pick (c a b : Operand) : WO C (.pick c a b) d all l k Q fr h = WK C (pickA (ev fr c) (ev fr a) (ev fr b)) d all l k Q fr h := by exact Eq.trans rfl rfl
def allocZ (C : Cfg) (d : Nat) (u : TypeId) (g : GH) : Out := match zeroI C.P u with | some z => allocA C d g z | none => .bad
theorem WO_alloc (u : TypeId) : WO C (.alloc u) d all l k Q fr h = WK C (allocZ C (d.getD 0) u (h.get C.n)) d all l k Q fr h := by exact Eq.trans rfl rfl
theorem WO_box (u : TypeId) (x : Operand) : WO C (.box u x) d all l k Q fr h = WK C (allocA C (d.getD 0) (h.get C.n) (ev fr x).cells) d all l k Q fr h := by exact Eq.trans rfl rfl
theorem WO_build (u : TypeId) (ps : List (Nat × Operand)) : WO C (.build u ps.toArray) d all l k Q fr h = WK C (buildA C.P u (ps.map fun p => (p.1, ev fr p.2))) d all l k Q fr h := by exact Eq.trans rfl rfl
theorem WO_buildSlice (u : TypeId) (len : Nat) (ps : List (Nat × Operand)) : WO C (.buildSlice u len ps.toArray) d all l k Q fr h = WK C (buildSliceA C (d.getD 0) u len (h.get C.n) (ps.map fun p => (p.1, ev fr p.2))) d all l k Q fr h := by exact Eq.trans rfl rfl
theorem WO_load (u : TypeId) (x : Operand) : WO C (.load u x) d all l k Q fr h = WK C (loadA C.P u (h.get C.n) (ev fr x)) d all l k Q fr h := by exact Eq.trans rfl rfl
theorem WO_store (u : TypeId) (x y : Operand) : WO C (.store u x y) d all l k Q fr h = WK C (storeA C u (h.get C.n) (ev fr y) (ev fr x)) d all l k Q fr h := by exact Eq.trans rfl rfl
theorem WO_nilCheck (x : Operand) : WO C (.nilCheck x) d all l k Q fr h = WK C (nilCheckA (ev fr x)) d all l k Q fr h := by exact Eq.trans rfl rfl
theorem WO_binOp (o : BinOp) (u u' : TypeId) (x y : Operand) : WO C (.binOp o u x y u') d all l k Q fr h = WK C (binA C.P o u (ev fr x) (ev fr y)) d all l k Q fr h := by exact Eq.trans rfl rfl
theorem WO_unOp (o : UnOp) (u : TypeId) (x : Operand) : WO C (.unOp o u x) d all l k Q fr h = WK C (unA o (ev fr x)) d all l k Q fr h := by exact Eq.trans rfl rfl
def hasT (P : Program) (t : TypeId) : Bool := (P.underlying t).isSome
noncomputable def convO (P : Program) (s d : TypeId) (x : AV) : Out := ⟨hasT P s = true ∧ (convA P s d x).pre, (convA P s d x).v, (convA P s d x).rd, (convA P s d x).wr⟩
theorem WO_convert (s u : TypeId) (x : Operand) : WO C (.convert s u x) d all l k Q fr h = WK C (convO C.P s u (ev fr x)) d all l k Q fr h := by exact Eq.trans rfl rfl
theorem WO_makeFunc (f : FuncId) (cap : List Operand) : WO C (.makeFunc (.func f) #[] cap.toArray) d all l k Q fr h = WL C all l k Q (fset fr d (.fn f (cap.map (ev fr)))) h := by simp [WO, TOp, stepf, HP.puts]
theorem WO_makeFuncB (f : FuncId) (x : Operand) (xs : List Operand) : WO C (.makeFunc (.func f) (x :: xs).toArray #[]) d all l k Q fr h = WL C all l k Q (fset fr d (.bfn f ((x :: xs).map (ev fr)))) h := by simp [WO, TOp, stepf, HP.puts]
theorem WO_makeSlice (u : TypeId) (x y : Operand) : WO C (.makeSlice u x y) d all l k Q fr h = WK C (makeSliceA C (d.getD 0) u (h.get C.n) (ev fr x) (ev fr y)) d all l k Q fr h := by exact Eq.trans rfl rfl
theorem WO_slice (u : TypeId) (x : Operand) (lo hi mx : Option Operand) : WO C (.slice u x lo hi mx) d all l k Q fr h = WK C (sliceA C.P u (ev fr x) (lo.map (ev fr)) (hi.map (ev fr)) (mx.map (ev fr))) d all l k Q fr h := by exact Eq.trans rfl rfl
theorem WO_fieldAddr (u : TypeId) (x : Operand) (f : Nat) : WO C (.fieldAddr u x f) d all l k Q fr h = WK C (fieldAddrA C.P u f (ev fr x)) d all l k Q fr h := by exact Eq.trans rfl rfl
theorem WO_field (u : TypeId) (x : Operand) (f : Nat) : WO C (.field u x f) d all l k Q fr h = WK C (fieldA C.P u f (ev fr x)) d all l k Q fr h := by exact Eq.trans rfl rfl
theorem WO_indexAddr (u : TypeId) (x y : Operand) : WO C (.indexAddr u x y) d all l k Q fr h = WK C (indexAddrA C.P u (ev fr x) (ev fr y)) d all l k Q fr h := by exact Eq.trans rfl rfl
theorem WO_index (u : TypeId) (x y : Operand) : WO C (.index u x y) d all l k Q fr h = WK C (indexA C.P u (ev fr x) (ev fr y)) d all l k Q fr h := by exact Eq.trans rfl rfl
theorem WO_extract (x : Operand) (i : Nat) : WO C (.extract x i) d all l k Q fr h = WK C (extractA i (ev fr x)) d all l k Q fr h := by exact Eq.trans rfl rfl
theorem WE_pure {f : FuncId} {args : List AV} {res : AV} (hc : PureC C.P f args (h.get C.n) res) (hk : WL C all l k Q (fset fr d res) h) : WE C f args d all l k Q fr h := ECall.pure hc hk
end eqs

theorem CallC.body {P : Program} {f : FuncId} {fn : Func} {c : Code} {args : List AV} {g : GH} {R : AV → GH → Prop} (nm : Nat → Option Nat) (md : Nat → Nat) (hf : P.funcs[f]? = some fn) (hb : fn.body = some c) {rs : List ResultVar} (hrs : fn.results = rs.toArray) {nt : Nat} (hnt : fn.ntmps = nt)
    (ht : ∀ n, (∀ id, n ≤ id → g id = none) → WC ⟨P, n, nt, nm, md⟩ c [] (FnPost ⟨P, n, nt, nm, md⟩ rs R) (args ++ List.replicate (nt - args.length) (.lit undef)) ⟨g, []⟩) : CallC P f args g R :=
  CallC.of_T nm md hf hb rs (by rw [hrs]) nt hnt fun n hn => T.of_TW (ht n hn)

def andI (k : IntKind) (a b : Int) : Int := k.wrap (BitVec.ofInt k.bits a &&& BitVec.ofInt k.bits b).toNat
def orI (k : IntKind) (a b : Int) : Int := k.wrap (BitVec.ofInt k.bits a ||| BitVec.ofInt k.bits b).toNat
def xorI (k : IntKind) (a b : Int) : Int := k.wrap (BitVec.ofInt k.bits a ^^^ BitVec.ofInt k.bits b).toNat
def andNotI (k : IntKind) (a b : Int) : Int := k.wrap (BitVec.ofInt k.bits a &&& ~~~(BitVec.ofInt k.bits b)).toNat
section binops
variable (P : Program) (t : TypeId)
theorem binA_int (op : BinOp) (k : IntKind) (a b : Int) (h : isSh op = false) : binA P op t (.lit (.int k a)) (.lit (.int k b)) = binI op k a b := by simp [binA, h]
theorem binA_add (k : IntKind) (a b : Int) : binA P .add t (.lit (.int k a)) (.lit (.int k b)) = ⟨True, .lit (.int k (k.wrap (a + b))), [], []⟩ := binA_int P t _ k a b rfl
theorem binA_sub (k : IntKind) (a b : Int) : binA P .sub t (.lit (.int k a)) (.lit (.int k b)) = ⟨True, .lit (.int k (k.wrap (a - b))), [], []⟩ := binA_int P t _ k a b rfl
theorem binA_mul (k : IntKind) (a b : Int) : binA P .mul t (.lit (.int k a)) (.lit (.int k b)) = ⟨True, .lit (.int k (k.wrap (a * b))), [], []⟩ := binA_int P t _ k a b rfl
theorem binA_quo (k : IntKind) (a b : Int) : binA P .quo t (.lit (.int k a)) (.lit (.int k b)) = ⟨b ≠ 0, .lit (.int k (k.wrap (a.tdiv b))), [], []⟩ := binA_int P t _ k a b rfl
theorem binA_rem (k : IntKind) (a b : Int) : binA P .rem t (.lit (.int k a)) (.lit (.int k b)) = ⟨b ≠ 0, .lit (.int k (a.tmod b)), [], []⟩ := binA_int P t _ k a b rfl
theorem binA_and (k : IntKind) (a b : Int) : binA P .and t (.lit (.int k a)) (.lit (.int k b)) = ⟨True, .lit (.int k (andI k a b)), [], []⟩ := binA_int P t _ k a b rfl
theorem binA_or (k : IntKind) (a b : Int) : binA P .or t (.lit (.int k a)) (.lit (.int k b)) = ⟨True, .lit (.int k (orI k a b)), [], []⟩ := binA_int P t _ k a b rfl
theorem binA_xor (k : IntKind) (a b : Int) : binA P .xor t (.lit (.int k a)) (.lit (.int k b)) = ⟨True, .lit (.int k (xorI k a b)), [], []⟩ := binA_int P t _ k a b rfl
theorem binA_andNot (k : IntKind) (a b : Int) : binA P .andNot t (.lit (.int k a)) (.lit (.int k b)) = ⟨True, .lit (.int k (andNotI k a b)), [], []⟩ := binA_int P t _ k a b rfl
theorem binA_eql (k : IntKind) (a b : Int) : binA P .eql t (.lit (.int k a)) (.lit (.int k b)) = ⟨True, .lit (.bool (decide (a = b))), [], []⟩ := binA_int P t _ k a b rfl
theorem binA_neq (k : IntKind) (a b : Int) : binA P .neq t (.lit (.int k a)) (.lit (.int k b)) = ⟨True, .lit (.bool (!decide (a = b))), [], []⟩ := binA_int P t _ k a b rfl
theorem binA_lss (k : IntKind) (a b : Int) : binA P .lss t (.lit (.int k a)) (.lit (.int k b)) = ⟨True, .lit (.bool (decide (a < b))), [], []⟩ := binA_int P t _ k a b rfl
theorem binA_leq (k : IntKind) (a b : Int) : binA P .leq t (.lit (.int k a)) (.lit (.int k b)) = ⟨True, .lit (.bool (decide (a ≤ b))), [], []⟩ := binA_int P t _ k a b rfl
theorem binA_gtr (k : IntKind) (a b : Int) : binA P .gtr t (.lit (.int k a)) (.lit (.int k b)) = ⟨True, .lit (.bool (decide (b < a))), [], []⟩ := binA_int P t _ k a b rfl
theorem binA_geq (k : IntKind) (a b : Int) : binA P .geq t (.lit (.int k a)) (.lit (.int k b)) = ⟨True, .lit (.bool (decide (b ≤ a))), [], []⟩ := binA_int P t _ k a b rfl
theorem binA_shl (k k' : IntKind) (a b : Int) : binA P .shl t (.lit (.int k a)) (.lit (.int k' b)) = ⟨0 ≤ b, .lit (.int k (k.wrap (a * 2 ^ (min b.toNat k.bits)))), [], []⟩ := by exact Eq.trans rfl rfl
theorem binA_shr (k k' : IntKind) (a b : Int) : binA P .shr t (.lit (.int k a)) (.lit (.int k' b)) = ⟨0 ≤ b, .lit (.int k (a / 2 ^ (min b.toNat k.bits))), [], []⟩ := by exact Eq.trans rfl rfl
theorem binA_seql (a b : ByteArray) : binA P .eql t (.lit (.string a)) (.lit (.string b)) = ⟨True, .lit (.bool (a.data.toList == b.data.toList)), [], []⟩ := by exact Eq.trans rfl rfl
theorem binA_sneq (a b : ByteArray) : binA P .neq t (.lit (.string a)) (.lit (.string b)) = ⟨True, .lit (.bool (!(a.data.toList == b.data.toList))), [], []⟩ := by exact Eq.trans rfl rfl
theorem binA_slss (a b : ByteArray) : binA P .lss t (.lit (.string a)) (.lit (.string b)) = ⟨True, .lit (.bool (Op.bytesLess a.data.toList b.data.toList)), [], []⟩ := by exact Eq.trans rfl rfl
theorem binA_sadd (a b : ByteArray) : binA P .add t (.lit (.string a)) (.lit (.string b)) = ⟨((a.size + b.size : Nat) : Int) ≤ 9223372036854775807, .lit (.string (a ++ b)), [], []⟩ := by exact Eq.trans rfl rfl
theorem binA_beql (a b : Bool) : binA P .eql t (.lit (.bool a)) (.lit (.bool b)) = ⟨kindT P t = 1 ∧ True, .lit (.bool (a == b)), [], []⟩ := by exact Eq.trans rfl rfl
theorem binA_bneq (a b : Bool) : binA P .neq t (.lit (.bool a)) (.lit (.bool b)) = ⟨kindT P t = 1 ∧ True, .lit (.bool (!(a == b))), [], []⟩ := by exact Eq.trans rfl rfl
theorem binA_aeql (cs ds : List AV) : binA P .eql t (.agg cs) (.agg ds) = eqA .eql cs ds (eqT P t) := by exact Eq.trans rfl rfl
theorem binA_aneq (cs ds : List AV) : binA P .neq t (.agg cs) (.agg ds) = eqA .neq cs ds (eqT P t) := by exact Eq.trans rfl rfl
theorem eqA_eql (cs ds : List AV) (fs : List (Nat × Nat)) : eqA .eql cs ds (some fs) = ⟨eqP cs ds fs ∧ True, .lit (.bool (eqB cs ds fs)), [], []⟩ := by exact Eq.trans rfl rfl
theorem eqA_neq (cs ds : List AV) (fs : List (Nat × Nat)) : eqA .neq cs ds (some fs) = ⟨eqP cs ds fs ∧ True, .lit (.bool (!eqB cs ds fs)), [], []⟩ := by exact Eq.trans rfl rfl
theorem eqP_nil (cs ds : List AV) : eqP cs ds [] = True := by exact Eq.trans rfl rfl
theorem eqP_cons (cs ds : List AV) (o k : Nat) (l : List (Nat × Nat)) : eqP cs ds ((o, k) :: l) = ((o < cs.length ∧ o < ds.length ∧ eqP1 k (cs.getD o .any) (ds.getD o .any)) ∧ eqP cs ds l) := by exact Eq.trans rfl rfl
theorem eqB_nil (cs ds : List AV) : eqB cs ds [] = true := by exact Eq.trans rfl rfl
theorem eqB_cons (cs ds : List AV) (o k : Nat) (l : List (Nat × Nat)) : eqB cs ds ((o, k) :: l) = (eqB1 (cs.getD o .any) (ds.getD o .any) && eqB cs ds l) := by exact Eq.trans rfl rfl
theorem eqP1_int (k : Nat) (k1 k2 : IntKind) (a b : Int) : eqP1 k (.lit (.int k1 a)) (.lit (.int k2 b)) = (k = 2 ∧ k1 = k2) := by exact Eq.trans rfl rfl
theorem eqP1_str (k : Nat) (a b : ByteArray) : eqP1 k (.lit (.string a)) (.lit (.string b)) = (k = 3) := by exact Eq.trans rfl rfl
theorem eqP1_bool (k : Nat) (a b : Bool) : eqP1 k (.lit (.bool a)) (.lit (.bool b)) = (k = 1) := by exact Eq.trans rfl rfl
theorem eqB1_int (k1 k2 : IntKind) (a b : Int) : eqB1 (.lit (.int k1 a)) (.lit (.int k2 b)) = decide (a = b) := by exact Eq.trans rfl rfl
theorem eqB1_str (a b : ByteArray) : eqB1 (.lit (.string a)) (.lit (.string b)) = (a.data.toList == b.data.toList) := by exact Eq.trans rfl rfl
theorem eqB1_bool (a b : Bool) : eqB1 (.lit (.bool a)) (.lit (.bool b)) = (a == b) := by exact Eq.trans rfl rfl
theorem unA_not (b : Bool) : unA .not (.lit (.bool b)) = ⟨True, .lit (.bool (!b)), [], []⟩ := by exact Eq.trans rfl rfl
theorem unA_neg (k : IntKind) (n : Int) : unA .neg (.lit (.int k n)) = ⟨True, .lit (.int k (k.wrap (0 - n))), [], []⟩ := by exact Eq.trans rfl rfl
theorem unA_xor (k : IntKind) (n : Int) : unA .xor (.lit (.int k n)) = binI .xor k (if k.signed then -1 else k.max) n := by exact Eq.trans rfl rfl
def convI (k : Option IntKind) (n : Int) : Out := match k with | some k => ⟨True, .lit (.int k (k.wrap n)), [], []⟩ | none => .bad
theorem convI_some (k : IntKind) (n : Int) : convI (some k) n = ⟨True, .lit (.int k (k.wrap n)), [], []⟩ := by exact Eq.trans rfl rfl
theorem convO_int (k : IntKind) (n : Int) (s d : TypeId) : convO P s d (.lit (.int k n)) = ⟨hasT P s = true ∧ (convI (intT P d) n).pre, (convI (intT P d) n).v, [], []⟩ := by
  unfold convO convA convI; cases intT P d <;> rfl
theorem convO_bytes (s : ByteArray) (u d : TypeId) : convO P u d (.lit (.string s)) = ⟨hasT P u = true ∧ (convA P u d (.lit (.string s))).pre, (convA P u d (.lit (.string s))).v, (convA P u d (.lit (.string s))).rd, (convA P u d (.lit (.string s))).wr⟩ := rfl
theorem convO_isl (nl : Option Bool) (l : List AV) (k : Tk) (u d : TypeId) : convO P u d (.isl nl l k) = ⟨hasT P u = true ∧ (convA P u d (.isl nl l k)).pre, (convA P u d (.isl nl l k)).v, (convA P u d (.isl nl l k)).rd, (convA P u d (.isl nl l k)).wr⟩ := rfl
theorem pickA_bool (b : Bool) (x y : AV) : pickA (.lit (.bool b)) x y = ⟨True, if b then x else y, [], []⟩ := by exact Eq.trans rfl rfl
theorem extractA_tup (i : Nat) (vs : List AV) : extractA i (.tup vs) = ⟨i < vs.length, vs.getD i .any, [], []⟩ := by exact Eq.trans rfl rfl
end binops

theorem ofConst_lit_int (k : IntKind) (n : Int) : ofConst (.int k n) = .lit (.int k n) := rfl
theorem ofConst_lit_bool (b : Bool) : ofConst (.bool b) = .lit (.bool b) := rfl
theorem ofConst_lit_string (s : ByteArray) : ofConst (.string s) = .lit (.string s) := rfl
theorem ofConst_nil : ofConst (.slice none 0 0) = .isl (some true) [] .full := rfl
theorem ofConst_ptr : ofConst (.pointer none) = .lit (.pointer none) := rfl
theorem ev_tmp (fr : List AV) (t : Tmp) : ev fr (.tmp t) = fr.getD t (.lit undef) := rfl
theorem ev_const (fr : List AV) (v : Value) : ev fr (.const v) = ofConst v := rfl
theorem ev_func (fr : List AV) (f : FuncId) : ev fr (.func f) = .fn f [] := rfl
theorem getD_zero (a : AV) (l : List AV) (d : AV) : (a :: l).getD 0 d = a := rfl
theorem getD_succ (a : AV) (l : List AV) (n : Nat) (d : AV) : (a :: l).getD (n + 1) d = l.getD n d := rfl
theorem set_zero (a b : AV) (l : List AV) : (a :: l).set 0 b = b :: l := rfl
theorem set_succ (a b : AV) (l : List AV) (n : Nat) : (a :: l).set (n + 1) b = a :: l.set n b := rfl
theorem fset_some (fr : List AV) (d : Tmp) (v : AV) : fset fr (some d) v = fr.set d v := rfl
theorem fset_none (fr : List AV) (v : AV) : fset fr none v = fr := rfl
def gvalL (ops : List Oper) (fr : List AV) (j : Nat) : AV :=
  match (ops[j]?).bind (·.dst) with
  | some d => fr.getD d (.lit undef)
  | none => .lit undef
theorem gval_mk (ops : List Oper) (fr : List AV) (j : Nat) : gval ops.toArray fr j = gvalL ops fr j := by
  unfold gval gvalL; rw [List.getElem?_toArray]; rfl
theorem gvalL_succ (o : Oper) (ops : List Oper) (fr : List AV) (j : Nat) : gvalL (o :: ops) fr (j + 1) = gvalL ops fr j := by exact Eq.trans rfl rfl
theorem gvalL_zero (d : Tmp) (op : Op) (t : TypeId) (p : String) (es : Array Edge) (gd : Option (Nat × Bool)) (ops : List Oper) (fr : List AV) : gvalL (⟨some d, op, t, p, es, gd⟩ :: ops) fr 0 = fr.getD d (.lit undef) := by exact Eq.trans rfl rfl
@[congr] theorem gvalL_congr {ops : List Oper} {fr fr' : List AV} {j : Nat} (e : fr = fr') : gvalL ops fr j = gvalL ops fr' j := by rw [e]
@[congr] theorem gval_congr {ops : Array Oper} {fr fr' : List AV} {j : Nat} (e : fr = fr') : gval ops fr j = gval ops fr' j := by rw [e]
theorem assignA_zero {C : Cfg} {d : Nat} {g : GH} {x : AV} (h : C.md d = 0) : assignA C d g x = ⟨True, x, [], []⟩ := by
  unfold assignA; split
  · rename_i h1; rw [h] at h1; cases h1
  · rfl
theorem args_frame (args : List AV) (nt : Nat) : args ++ List.replicate (nt - args.length) (.lit undef) = args ++ List.replicate (nt - args.length) (.lit undef) := rfl

theorem indexA_str (P : Program) (t : TypeId) (s : ByteArray) (k : IntKind) (i : Int) : indexA P t (.lit (.string s)) (.lit (.int k i)) = ⟨kindT P t = 3 ∧ 0 ≤ i ∧ i < s.size, .lit (.int .u8 (byteAt s i.toNat)), [], []⟩ := by exact Eq.trans rfl rfl
/-- what a function hands back, at its end -/
theorem FnPost_mk {C : Cfg} {rs : List ResultVar} {R : AV → GH → Prop} {e : Exit} {fr : List AV} {h : HP} (he : e = .normal ∨ e = .ret) (hp : resP C.P fr (h.get C.n) rs) (res : AV) (hle : leA (resV C.P fr (h.get C.n) rs) res) (ho : res.only (· < C.n))
    (hr : R res fun id => if id < C.n then h.out id else none) : FnPost C rs R e fr h := ⟨he, fr, h, Imp.refl _ _ _, hp, res, hle, ho, hr⟩

theorem leA_refl (a : AV) : leA a a := by unfold leA; split <;> simp

/-- a function of numbers and texts alone -/
theorem FnPost_pure {C : Cfg} {rs : List ResultVar} {res : AV} {g : GH} {e : Exit} {fr : List AV} {h : HP} (hg : ∀ id, C.n ≤ id → g id = none) (he : e = .normal ∨ e = .ret) (ho : h.out = g) (hp : resP C.P fr (h.get C.n) rs) (hle : leA (resV C.P fr (h.get C.n) rs) res) (hn : res.only (· < C.n)) :
    FnPost C rs (fun r g' => r = res ∧ g' = g) e fr h := by
  refine FnPost_mk he hp res hle hn ⟨rfl, ?_⟩
  funext id
  rw [ho]
  by_cases h1 : id < C.n
  · rw [if_pos h1]
  · rw [if_neg h1, hg id (by omega)]

theorem res1_tmp (P : Program) (fr : List AV) (g : GH) (t : Tmp) : res1 P fr g (.tmp t) = ⟨True, fr.getD t (.lit undef), [], []⟩ := by exact Eq.trans rfl rfl
theorem resP_nil (P : Program) (fr : List AV) (g : GH) : resP P fr g [] = True := by exact Eq.trans rfl rfl
theorem resP_cons (P : Program) (fr : List AV) (g : GH) (r : ResultVar) (rs : List ResultVar) : resP P fr g (r :: rs) = ((res1 P fr g r).pre ∧ resP P fr g rs) := by exact Eq.trans rfl rfl
theorem resV_one (P : Program) (fr : List AV) (g : GH) (r : ResultVar) : resV P fr g [r] = (res1 P fr g r).v := by exact Eq.trans rfl rfl
theorem resV_two (P : Program) (fr : List AV) (g : GH) (r s : ResultVar) (rs : List ResultVar) : resV P fr g (r :: s :: rs) = .tup ((r :: s :: rs).map fun r => (res1 P fr g r).v) := by exact Eq.trans rfl rfl

/-- the memory as a call finds it -/
def memOf (W : World) : Mem := fun r j => W.cell? ⟨r, j, none⟩

theorem wr_start (W : World) (hB : BaseW W) : Wr W (memOf W) Phi.none (fun _ => Option.none) W := by
  refine ⟨Below.refl _ _, hB, fun _ _ _ h => h, ?_, ?_, ?_⟩
  · intro id b h; cases h
  · intro id id' b b' hd hd' r h; cases h
  · intro id ver hd h; cases h

theorem law_calls {P : Program} {f : FuncId} {args : List AV} {res : Value} (h : PureC P f args (fun _ => Option.none) (.lit res)) (W : World) (vs : Array Value) (hB : BaseW W) (hr : RepL (memOf W) Phi.none args vs.toList) :
    Calls P f vs W fun e W' => e = .returned res ∧ Below W.heap.size W W' := by
  refine (h 0 W (memOf W) Phi.none W vs (fun _ _ _ h => by cases h) (wr_start W hB) hr).mono ?_
  rintro e W' ⟨M', φ', v, r, g', rfl, h2, h3, h4, h5, h6, rfl, rfl⟩
  exact ⟨by rw [lit_inv h6], h5.below⟩

theorem leA_of_eq {a b : AV} (h : a = b) : leA a b := h ▸ leA_refl a
theorem leA_lit {a b : Value} : leA (.lit a) (.lit b) = (a = b) := by simp [leA]
theorem leA_int {k : IntKind} {a b : Int} (h : a = b) : leA (.lit (.int k a)) (.lit (.int k b)) := h ▸ leA_refl _
theorem leA_bool {a b : Bool} (h : a = b) : leA (.lit (.bool a)) (.lit (.bool b)) := h ▸ leA_refl _

/-- a function that hands back one value and leaves the named memory alone: its end -/
theorem FnPost_end {C : Cfg} {rs : List ResultVar} {res : AV} {g : GH} {e : Exit} {fr : List AV} {h : HP} (hg : ∀ id, C.n ≤ id → g id = none) (he : e = .normal ∨ e = .ret) (ho : h.out = g) (hn : res.only (· < C.n)) (hp : resP C.P fr (h.get C.n) rs ∧ leA (resV C.P fr (h.get C.n) rs) res) :
    FnPost C rs (fun r g' => r = res ∧ g' = g) e fr h := FnPost_pure hg he ho hp.1 hp.2 hn
theorem only_lit (p : Nat → Prop) (v : Value) : (AV.lit v).only p := .lit v


/-! ### loops, as the evaluator meets them -/
/-- what a round of a loop must come to -/
def LP {S : Type} (C : Cfg) (F : S → List AV) (H : S → HP) (inv : S → Prop) (μ : S → Nat) (s : S) (k : List KI) (Q : QT) (e : Exit) (fr : List AV) (h : HP) : Prop :=
  match e with
  | .normal => ∃ s', inv s' ∧ μ s' < μ s ∧ Imp C fr h (F s') (H s')
  | e => WX C e k Q fr h
section lp
variable {S : Type} {C : Cfg} {F : S → List AV} {H : S → HP} {inv : S → Prop} {μ : S → Nat} {s : S} {k : List KI} {Q : QT} {fr : List AV} {h : HP}
theorem LP_ret : LP C F H inv μ s k Q .ret fr h = WX C .ret k Q fr h := by exact Eq.trans rfl rfl
theorem LP_exit (i : Nat) : LP C F H inv μ s k Q (.exit i) fr h = WX C (.exit i) k Q fr h := by exact Eq.trans rfl rfl
theorem LP_next (s' : S) (h1 : inv s') (h2 : μ s' < μ s) (h3 : Imp C fr h (F s') (H s')) : LP C F H inv μ s k Q .normal fr h := ⟨s', h1, h2, h3⟩
end lp
theorem WC_loop {S : Type} {C : Cfg} {body : Code} {k : List KI} {Q : QT} {fr : List AV} {h : HP} (F : S → List AV) (H : S → HP) (inv : S → Prop) (μ : S → Nat) (s0 : S) (h0 : inv s0) (w0 : Imp C fr h (F s0) (H s0))
    (round : ∀ s, inv s → WC C body [] (LP C F H inv μ s k Q) (F s) (H s)) : WC C (.loop body) k Q fr h := by
  show T C (.loop body) _ fr h
  refine T.loop F H inv μ s0 h0 w0 fun s hs => (T.of_TW (round s hs)).mono ?_
  intro e fr h hk
  cases e <;> exact hk
/-! ### jumps back to a label -/
theorem least_of {p : Nat → Prop} (h : ∃ n, p n) : ∃ n, p n ∧ ∀ m, p m → n ≤ m := by
  obtain ⟨n, hn⟩ := h
  induction n using Nat.strongRecOn with
  | _ n ih =>
    by_cases hk : ∃ m, m < n ∧ p m
    · obtain ⟨m, hm, hp⟩ := hk; exact ih m hm hp
    · exact ⟨n, hn, fun m hm => Nat.le_of_not_lt fun hl => hk ⟨m, hl, hm⟩⟩
open Classical in
noncomputable def leastN (p : Nat → Prop) : Nat := if h : ∃ n, p n then Classical.choose (least_of h) else 0
theorem leastN_spec {p : Nat → Prop} (h : ∃ n, p n) : p (leastN p) ∧ ∀ m, p m → leastN p ≤ m := by
  unfold leastN; rw [dif_pos h]; exact Classical.choose_spec (least_of h)
theorem wp_scope_ghost {P : Program} {a : Act} {w : World} {Q : Exit → Act → World → Prop} {c rest : Code} (l : Nat) (J : Nat → Act → World → Prop) (hf : findLabel c l = some rest)
    (first : c.wp P (Exit.jump l (fun a w => ∃ n, J n a w) Q) a w)
    (pass : ∀ n a w, J n a w → rest.wp P (Exit.jump l (fun a' w' => ∃ m, m < n ∧ J m a' w') Q) a w) : (Code.scope c).wp P Q a w := by
  refine wp_scope_jumps l (fun a w => ∃ n, J n a w) (fun a w => leastN fun n => J n a w) hf first ?_
  intro a w hJ
  obtain ⟨h1, -⟩ := leastN_spec hJ
  refine wp_mono (pass _ a w h1) ?_
  intro e a' w' hq
  cases e <;> try exact hq
  obtain ⟨h2, m, hm, hJ'⟩ := hq
  exact ⟨h2, ⟨m, hJ'⟩, Nat.lt_of_le_of_lt ((leastN_spec ⟨m, hJ'⟩).2 m hJ') hm⟩
theorem T.goto {C : Cfg} {Q : Exit → List AV → HP → Prop} {fr : List AV} {h : HP} {l : Nat} (hq : Q (.goto l) fr h) : T C (.goto l) Q fr h :=
  fun w0 M φ a w hs => wp_goto ⟨M, φ, fr, h, Ext.refl _ _ _, hs, hq⟩
/-- what a pass of a scope must come to: it ends, or jumps back -/
def GX {S : Type} (C : Cfg) (F : S → List AV) (H : S → HP) (inv : S → Prop) (μ : S → Nat) (l : Nat) (m : Option Nat) (k : List KI) (Q : QT) (e : Exit) (fr : List AV) (h : HP) : Prop :=
  match e with
  | .goto l' => l' = l ∧ ∃ s', inv s' ∧ (∀ x, m = some x → μ s' < x) ∧ Imp C fr h (F s') (H s')
  | e => WX C e k Q fr h
section gx
variable {S : Type} {C : Cfg} {F : S → List AV} {H : S → HP} {inv : S → Prop} {μ : S → Nat} {l : Nat} {m : Option Nat} {k : List KI} {Q : QT} {fr : List AV} {h : HP}
theorem GX_normal : GX C F H inv μ l m k Q .normal fr h = WX C .normal k Q fr h := by exact Eq.trans rfl rfl
theorem GX_ret : GX C F H inv μ l m k Q .ret fr h = WX C .ret k Q fr h := by exact Eq.trans rfl rfl
theorem GX_exit (i : Nat) : GX C F H inv μ l m k Q (.exit i) fr h = WX C (.exit i) k Q fr h := by exact Eq.trans rfl rfl
theorem GX_jump (s' : S) (h1 : inv s') (h2 : ∀ x, m = some x → μ s' < x) (h3 : Imp C fr h (F s') (H s')) : GX C F H inv μ l m k Q (.goto l) fr h := ⟨rfl, s', h1, h2, h3⟩
theorem WX_goto_code (i : Nat) (c : Code) : WX C (.goto i) (.code c :: k) Q fr h = WX C (.goto i) k Q fr h := by exact Eq.trans rfl rfl
theorem WX_goto_blk (i id : Nat) : WX C (.goto i) (.blk id :: k) Q fr h = WX C (.goto i) k Q fr h := by exact Eq.trans rfl rfl
theorem LP_goto {S : Type} (F : S → List AV) (H : S → HP) (inv : S → Prop) (μ : S → Nat) (s : S) (i : Nat) : LP C F H inv μ s k Q (.goto i) fr h = WX C (.goto i) k Q fr h := by exact Eq.trans rfl rfl
theorem WC_goto (i : Nat) (hx : WX C (.goto i) k Q fr h) : WC C (.goto i) k Q fr h := by
  show T C (.goto i) _ fr h
  exact T.goto hx
end gx
theorem T.scopeG {S : Type} {C : Cfg} {c rest : Code} {k : List KI} {Q : QT} {fr : List AV} {h : HP} (l : Nat) (hf : findLabel c l = some rest) (F : S → List AV) (H : S → HP) (inv : S → Prop) (μ : S → Nat)
    (first : T C c (GX C F H inv μ l none k Q) fr h) (pass : ∀ s, inv s → T C rest (GX C F H inv μ l (some (μ s)) k Q) (F s) (H s)) : T C (.scope c) (fun e fr h => WX C e k Q fr h) fr h := by
  intro wb M φ a w hs
  refine wp_scope_ghost l (fun n a w => ∃ s M' φ', inv s ∧ μ s = n ∧ Ext C.n M φ M' φ' ∧ St C wb M' φ' (F s) (H s) a w) hf ?_ ?_
  · refine wp_mono (first wb M φ a w hs) ?_
    rintro e a' w' ⟨M', φ', fr', h', k1, k2, k3⟩
    cases e with
    | goto l' =>
      obtain ⟨rfl, s', j1, -, j3⟩ := k3
      obtain ⟨M3, φ3, e3, s3⟩ := j3 wb M' φ' a' w' k2
      exact ⟨rfl, μ s', s', M3, φ3, j1, rfl, k1.trans e3, s3⟩
    | _ => exact ⟨M', φ', fr', h', k1, k2, k3⟩
  · rintro n a w ⟨s, M', φ', hi, rfl, he, hs'⟩
    refine wp_mono ((pass s hi) wb M' φ' a w hs') ?_
    rintro e a' w' ⟨M'', φ'', fr', h', k1, k2, k3⟩
    cases e with
    | goto l' =>
      obtain ⟨rfl, s', j1, j2, j3⟩ := k3
      obtain ⟨M3, φ3, e3, s3⟩ := j3 wb M'' φ'' a' w' k2
      exact ⟨rfl, μ s', j2 _ rfl, s', M3, φ3, j1, rfl, (he.trans k1).trans e3, s3⟩
    | _ => exact ⟨M'', φ'', fr', h', he.trans k1, k2, k3⟩
theorem WC_scope {S : Type} {C : Cfg} {c rest : Code} {k : List KI} {Q : QT} {fr : List AV} {h : HP} (l : Nat) (hf : findLabel c l = some rest) (F : S → List AV) (H : S → HP) (inv : S → Prop) (μ : S → Nat)
    (first : WC C c [] (GX C F H inv μ l none k Q) fr h) (pass : ∀ s, inv s → WC C rest [] (GX C F H inv μ l (some (μ s)) k Q) (F s) (H s)) : WC C (.scope c) k Q fr h := by
  show T C (.scope c) _ fr h
  exact T.scopeG l hf F H inv μ (T.of_TW first) fun s hs => T.of_TW (pass s hs)
/-- the run comes to a state that holds at the label -/
def GI {S : Type} (C : Cfg) (F : S → List AV) (H : S → HP) (inv : S → Prop) (e : Exit) (fr : List AV) (h : HP) : Prop :=
  match e with
  | .normal => ∃ s, inv s ∧ Imp C fr h (F s) (H s)
  | _ => False
theorem GI_mk {S : Type} {C : Cfg} {F : S → List AV} {H : S → HP} {inv : S → Prop} {fr : List AV} {h : HP} (s : S) (h1 : inv s) (h2 : Imp C fr h (F s) (H s)) : GI C F H inv .normal fr h := ⟨s, h1, h2⟩
theorem findLabel_here {a b : Code} {l : Nat} (h : findLabel a l = none) : findLabel (.seq a (.seq (.label l) b)) l = some (.seq .skip b) := by
  simp [findLabel, h]
theorem WC_scope2 {S : Type} {C : Cfg} {a b : Code} {k : List KI} {Q : QT} {fr : List AV} {h : HP} (l : Nat) (hf : findLabel a l = none) (F : S → List AV) (H : S → HP) (inv : S → Prop) (μ : S → Nat)
    (first : WC C a [] (GI C F H inv) fr h) (pass : ∀ s m, inv s → (∀ x, m = some x → x = μ s) → WC C b [] (GX C F H inv μ l m k Q) (F s) (H s)) : WC C (.scope (.seq a (.seq (.label l) b))) k Q fr h := by
  show T C (.scope (.seq a (.seq (.label l) b))) _ fr h
  refine T.scopeG l (findLabel_here hf) F H inv μ (T.seq ((T.of_TW first).mono ?_)) fun s hs => T.of_TW (c := .seq .skip b) (pass s _ hs fun x hx => (Option.some.inj hx).symm)
  intro e fr h hk
  cases e with
  | normal =>
    obtain ⟨s, h1, h2⟩ := hk
    exact T.imp h2 (T.of_TW (c := .seq (.label l) b) (pass s none h1 (fun x hx => by cases hx)))
  | _ => exact hk.elim
theorem only_any (p : Nat → Prop) : AV.any.only p ↔ True := ⟨fun _ => trivial, fun _ => .any⟩
theorem only_lit' (p : Nat → Prop) (v : Value) : (AV.lit v).only p ↔ True := ⟨fun _ => trivial, fun _ => .lit v⟩
theorem only_iptr (p : Nat → Prop) (cs : List AV) : (AV.iptr cs).only p ↔ True := ⟨fun _ => trivial, fun _ => .iptr cs⟩
theorem only_no (p : Nat → Prop) (nl : Option Bool) (l : List AV) : (AV.isl nl l .no).only p ↔ True := ⟨fun _ => trivial, fun _ => .isl (by intro k ver h; cases h)⟩
theorem only_full (p : Nat → Prop) (nl : Option Bool) (l : List AV) : (AV.isl nl l .full).only p ↔ True := ⟨fun _ => trivial, fun _ => .isl (by intro k ver h; cases h)⟩
theorem only_at (p : Nat → Prop) (nl : Option Bool) (l : List AV) (k ver : Nat) : (AV.isl nl l (.at k ver)).only p ↔ p k :=
  ⟨fun h => by cases h with | isl h => exact h k ver rfl, fun h => .isl (by intro k' ver' e; cases e; exact h)⟩
theorem only_ptr (p : Nat → Prop) (id ver off : Nat) : (AV.ptr id ver off).only p ↔ p id := ⟨fun h => by cases h; assumption, .ptr⟩
theorem only_osl (p : Nat → Prop) (id ver sz off len : Nat) : (AV.osl id ver sz off len).only p ↔ p id := ⟨fun h => by cases h; assumption, .osl⟩
theorem only_agg (p : Nat → Prop) (cs : List AV) : (AV.agg cs).only p ↔ ∀ x, x ∈ cs → x.only p := ⟨fun h => by cases h; assumption, .agg⟩
theorem only_tup (p : Nat → Prop) (cs : List AV) : (AV.tup cs).only p ↔ ∀ x, x ∈ cs → x.only p := ⟨fun h => by cases h; assumption, .tup⟩
theorem only_bfn (p : Nat → Prop) (f : FuncId) (cs : List AV) : (AV.bfn f cs).only p ↔ ∀ x, x ∈ cs → x.only p := ⟨fun h => by cases h; assumption, .bfn⟩
theorem only_fn (p : Nat → Prop) (f : FuncId) (cs : List AV) : (AV.fn f cs).only p ↔ ∀ x, x ∈ cs → x.only p := ⟨fun h => by cases h; assumption, .fn⟩
theorem leL_nil : leL [] [] ↔ True := Iff.rfl
theorem leL_cons (a b : AV) (l m : List AV) : leL (a :: l) (b :: m) ↔ leA a b ∧ leL l m := Iff.rfl
theorem leA_any (a : AV) : leA a .any ↔ True := by unfold leA; simp
theorem leA_lits (a b : Value) : leA (.lit a) (.lit b) ↔ a = b := by simp [leA]
theorem leA_isl (nl nl' : Option Bool) (l l' : List AV) (t t' : Tk) : leA (.isl nl l t) (.isl nl' l' t') ↔ ((nl' = none ∨ nl' = nl) ∧ l = l' ∧ (t' = .no ∨ t' = t)) := Iff.rfl
theorem leA_self (a : AV) : leA a a ↔ True := ⟨fun _ => trivial, fun _ => leA_refl a⟩
theorem keepP_lt {n id : Nat} {loc : List (Nat × Blk)} (h : id < n) : keepP n loc id := .inl h
theorem keepP_add (n d : Nat) (loc : List (Nat × Blk)) : keepP n loc (n + d) ↔ (look loc d).isSome = true := by
  unfold keepP
  constructor
  · rintro (h | h)
    · exact absurd h (by omega)
    · simpa using h
  · intro h; right; simpa using h
/-- a state that says less, no names of one's own kept -/
theorem imp_plain {C : Cfg} {fr fr' : List AV} {o : GH} {loc : List (Nat × Blk)} (h1 : leL fr fr') (h2 : ∀ x, x ∈ fr' → x.only (keepP C.n [])) : Imp C fr ⟨o, loc⟩ fr' ⟨o, []⟩ :=
  Weak.imp ⟨h1, rfl, (fun d b h => by simp [look] at h), h2, (fun d b h => by simp [look] at h)⟩

theorem allocZ_eq (C : Cfg) (d : Nat) (u : TypeId) (g : GH) : allocZ C d u g = match zeroI C.P u with | some z => allocA C d g z | none => .bad := rfl
theorem builtinA_append (C : Cfg) (d : Nat) (ts : List TypeId) (g : GH) (s x : AV) : builtinA C d .append ts g [s, x] = appendA C d ts g s x := by exact Eq.trans rfl rfl
theorem builtinA_clear (C : Cfg) (d : Nat) (t : TypeId) (g : GH) (x : AV) : builtinA C d .clear [t] g [x] = clearA C t g x := by exact Eq.trans rfl rfl
theorem builtinA_len (C : Cfg) (d : Nat) (t : TypeId) (g : GH) (x : AV) : builtinA C d .len [t] g [x] = lenA C.P t x := by exact Eq.trans rfl rfl
def imx (a b : Int) : Int := if b > a then b else a
def imn (a b : Int) : Int := if b < a then b else a
theorem builtinA_max (C : Cfg) (d : Nat) (ts : List TypeId) (g : GH) (k k' : IntKind) (a b : Int) : builtinA C d .max ts g [.lit (.int k a), .lit (.int k' b)] = ⟨True, .lit (.int k (imx a b)), [], []⟩ := by exact Eq.trans rfl rfl
theorem builtinA_min (C : Cfg) (d : Nat) (ts : List TypeId) (g : GH) (k k' : IntKind) (a b : Int) : builtinA C d .min ts g [.lit (.int k a), .lit (.int k' b)] = ⟨True, .lit (.int k (imn a b)), [], []⟩ := by exact Eq.trans rfl rfl
attribute [go_sem] LP_ret LP_exit LP_goto GX_normal GX_ret GX_exit WX_goto_code WX_goto_blk WX_nil WX_code WX_blk WX_ret_code WX_ret_blk WX_exit_code WX_exit_blk WC_skip WC_label WC_ret WC_exit WC_seq WC_block WC_cond WB_bool WC_region WL_nil WL_cons WL_cons_g WG_tt WG_tf WG_ft WG_ff WG_undef WK_mk0 WK_mk WF_fn WF_bfn WO_call WO_builtin WO_move WO_assign WO_pick WO_alloc WO_box WO_build WO_buildSlice WO_load WO_store WO_nilCheck WO_binOp WO_unOp WO_convert WO_makeFunc WO_makeFuncB WO_makeSlice WO_slice WO_fieldAddr WO_field WO_indexAddr WO_index WO_extract
  binA_add binA_sub binA_mul binA_quo binA_rem binA_and binA_or binA_xor binA_andNot binA_eql binA_neq binA_lss binA_leq binA_gtr binA_geq binA_shl binA_shr binA_seql binA_sneq binA_slss binA_sadd binA_beql binA_bneq binA_aeql binA_aneq eqA_eql eqA_neq eqP_nil eqP_cons eqB_nil eqB_cons eqP1_int eqP1_str eqP1_bool eqB1_int eqB1_str eqB1_bool unA_not unA_neg unA_xor convO_int convI_some convO_bytes convO_isl pickA_bool extractA_tup
  ofConst_lit_int ofConst_lit_bool ofConst_lit_string ofConst_nil ofConst_ptr ev_tmp ev_const ev_func getD_zero getD_succ set_zero set_succ fset_some fset_none gval_mk gvalL_succ gvalL_zero assignA_zero res1_tmp resP_nil resP_cons resV_one resV_two
  allocZ_eq builtinA_append builtinA_clear clearA builtinA_len builtinA_max builtinA_min indexA_str puts_nil
attribute [irreducible] WX WC WL WO WK WE WF WG WB LP TW GX GI
/-! ### the words of every step -/
attribute [go_sem] true_and and_true and_self IntKind.bits Nat.min_def Option.getD_some Option.getD_none Option.map_some Option.map_none List.map_cons List.map_nil List.length_cons List.length_nil List.replicate List.cons_append List.nil_append List.append_nil if_true if_false Bool.not_true Bool.not_false Bool.false_eq_true Bool.true_eq_false decide_eq_true_eq eq_self decide_true decide_false Bool.and_true ne_eq not_false_eq_true not_true_eq_false beq_self_eq_true Bool.not_eq_true' decide_eq_false_iff_not List.all_cons List.all_nil Option.any_some beq_iff_eq false_implies true_implies imp_self Option.isSome_some implies_true forall_const Value.oneCell' Bool.true_and Bool.false_and Bool.and_false Bool.or_false Bool.false_or Bool.true_or Bool.or_true Bool.and_eq_true Bool.and_self Int.toNat_natCast Int.natCast_nonneg Int.cast_ofNat_Int Nat.zero_le List.take_zero List.take_succ_cons List.drop_zero List.drop_succ_cons List.take_nil List.drop_nil List.flatMap_cons List.flatMap_nil Nat.zero_add Nat.add_zero List.getD_cons_zero List.getD_cons_succ Int.le_refl Nat.le_refl
attribute [go_sem_proc] Int.reduceLE Int.reduceLT Int.reduceEq Int.reduceNe Int.reduceToNat Int.reduceMul Int.reduceAdd Int.reduceSub Int.reduceNeg Int.reducePow Nat.reducePow Nat.reduceAdd Nat.reduceSub Nat.reduceMul Nat.reduceLT Nat.reduceLeDiff Nat.reduceEqDiff reduceCtorEq
attribute [go_sem_proc ↓] reduceIte
end Go.Av

namespace Go.Av
set_option linter.unusedVariables false
set_option linter.unusedSimpArgs false
theorem elsOk_nil (sz : Nat) : elsOk sz [] ↔ True := by simp [elsOk]
theorem elsOk_cons (sz : Nat) (e : AV) (l : List AV) : elsOk sz (e :: l) ↔ (e.cells.length = sz ∧ e.cells.all AV.idf = true) ∧ elsOk sz l := by simp [elsOk]
theorem elsOk_append (sz : Nat) (l m : List AV) : elsOk sz (l ++ m) ↔ elsOk sz l ∧ elsOk sz m := by
  simp only [elsOk, List.mem_append]
  exact ⟨fun h => ⟨fun e he => h e (.inl he), fun e he => h e (.inr he)⟩, fun h e he => he.elim (h.1 e) (h.2 e)⟩
theorem elsOk_encB (s : ByteArray) : elsOk 1 (encB s) ↔ True := by
  refine ⟨fun _ => trivial, fun _ e he => ?_⟩
  obtain ⟨b, -, rfl⟩ := List.mem_map.1 he
  exact ⟨rfl, rfl⟩
theorem szOk_nil (n : Nat) : szOk n [] ↔ True := by simp [szOk]
theorem szOk_cons (n : Nat) (e : AV) (l : List AV) : szOk n (e :: l) ↔ e.cells.length = n ∧ szOk n l := by simp [szOk]
theorem cells_lit (v : Value) : (AV.lit v).cells = [.lit v] := by exact Eq.trans rfl rfl
theorem cells_agg (cs : List AV) : (AV.agg cs).cells = cs := by exact Eq.trans rfl rfl
theorem cells_isl (nl : Option Bool) (l : List AV) (t : Tk) : (AV.isl nl l t).cells = [.isl nl l t] := by exact Eq.trans rfl rfl
theorem cells_osl (i v s o l : Nat) : (AV.osl i v s o l).cells = [.osl i v s o l] := by exact Eq.trans rfl rfl
theorem cells_ptr (i v o : Nat) : (AV.ptr i v o).cells = [.ptr i v o] := by exact Eq.trans rfl rfl
theorem cells_iptr (cs : List AV) : (AV.iptr cs).cells = [.iptr cs] := by exact Eq.trans rfl rfl
theorem cells_bfn (f : FuncId) (cs : List AV) : (AV.bfn f cs).cells = [.bfn f cs] := by exact Eq.trans rfl rfl
theorem cells_fn (f : FuncId) (cs : List AV) : (AV.fn f cs).cells = [.fn f cs] := by exact Eq.trans rfl rfl
theorem eraseE_lit (v : Value) : (AV.lit v).eraseE = .lit v := by exact Eq.trans rfl rfl
theorem eraseE_agg (cs : List AV) : (AV.agg cs).eraseE = .agg (cs.map AV.erase) := by exact Eq.trans rfl rfl
theorem eraseE_isl (nl : Option Bool) (l : List AV) (t : Tk) : (AV.isl nl l t).eraseE = .isl nl l t.erase := by exact Eq.trans rfl rfl
theorem eraseE_iptr (cs : List AV) : (AV.iptr cs).eraseE = .iptr cs := by exact Eq.trans rfl rfl
theorem get_loc (o : GH) (l : List (Nat × Blk)) (n d : Nat) : HP.get ⟨o, l⟩ n (n + d) = look l d := by
  unfold HP.get; rw [if_neg (by omega), Nat.add_sub_cancel_left]
theorem put_loc (o : GH) (l : List (Nat × Blk)) (n d : Nat) (b : Blk) : HP.put ⟨o, l⟩ n (n + d) b = ⟨o, insL l d b⟩ := by
  unfold HP.put; rw [if_neg (by omega), Nat.add_sub_cancel_left]
theorem puts_cons (h : HP) (n id : Nat) (b : Blk) (l : List (Nat × Blk)) : h.puts n ((id, b) :: l) = (h.put n id b).puts n l := by exact Eq.trans rfl rfl
theorem look_nil (k : Nat) : look [] k = none := by exact Eq.trans rfl rfl
theorem look_cons (d : Nat) (b : Blk) (l : List (Nat × Blk)) (k : Nat) : look ((d, b) :: l) k = if d = k then some b else look l k := by exact Eq.trans rfl rfl
theorem insL_nil (k : Nat) (b : Blk) : insL [] k b = [(k, b)] := by exact Eq.trans rfl rfl
theorem insL_cons (d : Nat) (c : Blk) (l : List (Nat × Blk)) (k : Nat) (b : Blk) : insL ((d, c) :: l) k b = if d = k then (k, b) :: l else if k < d then (k, b) :: (d, c) :: l else (d, c) :: insL l k b := by exact Eq.trans rfl rfl
def nextB : Option Blk → Nat
  | none => 0
  | some b => b.ver + 1
theorem nextV_B (g : GH) (id : Nat) : nextV g id = nextB (g id) := by unfold nextV nextB; cases g id <;> rfl
theorem nextB_none : nextB none = 0 := by exact Eq.trans rfl rfl
theorem nextB_tok (v : Nat) : nextB (some (.tok v)) = v + 1 := by exact Eq.trans rfl rfl
theorem nextB_cells (v : Nat) (cs : List AV) : nextB (some (.cells v cs)) = v + 1 := by exact Eq.trans rfl rfl
theorem add_lt_self (n d : Nat) : (n + d < n) = False := by simp
theorem id_mk (P : Program) (n nt : Nat) (md : Nat → Nat) (d : Nat) : Cfg.id ⟨P, n, nt, fun _ => none, md⟩ d = n + d := by exact Eq.trans rfl rfl
theorem may_mk (P : Program) (n nt : Nat) (nm : Nat → Option Nat) (md : Nat → Nat) (d : Nat) (b : Blk) : Cfg.may ⟨P, n, nt, nm, md⟩ (n + d) b = (d < nt) := by
  unfold Cfg.may
  refine propext ⟨fun h => by have := h.1; simp only at this; omega, fun h => ⟨by simp only; omega, fun h2 => by simp only at h2; omega⟩⟩
attribute [go_sem] get_loc put_loc puts_cons look_nil look_cons insL_nil insL_cons nextV_B nextB_none nextB_tok nextB_cells add_lt_self id_mk may_mk cells_lit cells_agg cells_isl cells_osl cells_ptr cells_iptr cells_fn cells_bfn eraseE_lit eraseE_agg eraseE_isl eraseE_iptr elsOk_nil elsOk_cons elsOk_encB szOk_nil szOk_cons lenA sliceA bnd buildSliceA indexAddrA loadA fieldA fieldAddrA buildA fillA AV.erase AV.scalar AV.idf Tk.free Tk.erase AV.els appM numbered zeroEl nlA zOk allocA storeA makeSliceA appendA Blk.ver nilCheckA splice
theorem assignA_lit (C : Cfg) (d : Nat) (g : GH) (v : Value) : assignA C d g (.lit v) = ⟨True, .lit v, [], []⟩ := by
  unfold assignA; split
  · rename_i h; cases h
  · rfl
theorem assignA_agg (C : Cfg) (d : Nat) (g : GH) (cs : List AV) : assignA C d g (.agg cs) = ⟨True, .agg cs, [], []⟩ := by
  unfold assignA; split
  · rename_i h; cases h
  · rfl
theorem assignA_at (C : Cfg) (d : Nat) (g : GH) (nl : Option Bool) (l : List AV) (k v : Nat) : assignA C d g (.isl nl l (.at k v)) = ⟨True, .isl nl l (.at k v), [], []⟩ := by
  unfold assignA; split
  · rename_i h; cases h
  · rfl
theorem assignA_nil (C : Cfg) (d : Nat) (g : GH) (h : C.md d = 1) : assignA C d g (.isl (some true) [] .full) =
    ⟨C.may (C.id d) (.tok (nextV g (C.id d))), .isl (some true) [] (.at (C.id d) (nextV g (C.id d))), [C.id d], [(C.id d, .tok (nextV g (C.id d)))]⟩ := by
  unfold assignA; rw [h]; rfl
theorem res1_cell (P : Program) (fr : List AV) (g : GH) (a : Nat) (t : TypeId) : res1 P fr g (.cell a t) = loadA P t g (fr.getD a (.lit undef)) := by exact Eq.trans rfl rfl
attribute [go_sem] res1_cell assignA_lit assignA_agg assignA_at assignA_nil

/-! ### a state that says less, names of one's own kept -/
def subL : List (Nat × Blk) → List (Nat × Blk) → Prop
  | [], _ => True
  | (k, c) :: l, L => look L k = some c ∧ subL l L
def okL (n : Nat) (L : List (Nat × Blk)) : List (Nat × Blk) → Prop
  | [] => True
  | (_, b) :: l => b.only (keepP n L) ∧ okL n L l
theorem subL_spec {L : List (Nat × Blk)} : ∀ {l : List (Nat × Blk)}, subL l L → ∀ d b, look l d = some b → look L d = some b
  | [], _, d, b, h => by simp [look] at h
  | (k, c) :: l, hs, d, b, h => by
    rw [look_cons] at h
    split at h
    · rename_i e; subst e; cases h; exact hs.1
    · exact subL_spec hs.2 d b h
theorem okL_spec {n : Nat} {L : List (Nat × Blk)} : ∀ {l : List (Nat × Blk)}, okL n L l → ∀ d b, look l d = some b → b.only (keepP n L)
  | [], _, d, b, h => by simp [look] at h
  | (k, c) :: l, hs, d, b, h => by
    rw [look_cons] at h
    split at h
    · cases h; exact hs.1
    · exact okL_spec hs.2 d b h
theorem imp_loc {C : Cfg} {fr fr' : List AV} {o : GH} {loc loc' : List (Nat × Blk)} (h1 : leL fr fr') (h2 : subL loc' loc) (h3 : ∀ x, x ∈ fr' → x.only (keepP C.n loc')) (h4 : okL C.n loc' loc') : Imp C fr ⟨o, loc⟩ fr' ⟨o, loc'⟩ :=
  Weak.imp ⟨h1, rfl, subL_spec h2, h3, okL_spec h4⟩
theorem subL_nil (L : List (Nat × Blk)) : subL [] L = True := rfl
theorem subL_cons (k : Nat) (c : Blk) (l L : List (Nat × Blk)) : subL ((k, c) :: l) L = (look L k = some c ∧ subL l L) := rfl
theorem okL_nil (n : Nat) (L : List (Nat × Blk)) : okL n L [] = True := rfl
theorem okL_cons (n : Nat) (L : List (Nat × Blk)) (k : Nat) (b : Blk) (l : List (Nat × Blk)) : okL n L ((k, b) :: l) = (b.only (keepP n L) ∧ okL n L l) := rfl
theorem bonly_cells (p : Nat → Prop) (v : Nat) (cs : List AV) : (Blk.cells v cs).only p = ∀ x, x ∈ cs → x.only p := rfl
theorem bonly_tok (p : Nat → Prop) (v : Nat) : (Blk.tok v).only p = True := rfl
end Go.Av

