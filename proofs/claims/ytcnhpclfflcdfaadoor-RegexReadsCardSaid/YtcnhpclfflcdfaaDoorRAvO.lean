/- The framework of abstract values: what an operation of a Go function comes to, whatever the order and the memory that Go leaves open. -/
import GoSem.Claim
import Derived.Lib.Space
import Derived.Calls
import Derived.Tactics
import Derived.Below
import Derived.Laws.Sem
import Derived.Laws.World
import Derived.Laws.Cells
import Derived.Laws.Entries
import Derived.Laws.Tables
import Derived.Laws.Slices
import Derived.Laws.Strings
import Derived.Laws.StructEq
import Derived.Laws.BytesArg
import Derived.Lib.ConvBytes
import Derived.Laws.Pointers
/-! The tables that start-up code lays and that these functions read. -/
namespace Go.Av
def baseTab : List (Nat × Array Value) := [(1, (Lib.asciiSpaceTab.map fun z => Value.int .u8 z).toArray)]
end Go.Av

namespace Go.Av
set_option linter.unusedVariables false
set_option linter.unusedSimpArgs false
open Go.RowKit

/-- What is known of the room behind a slice: nothing; there is none; it is one's own, under a name. -/
inductive Tk where
  | no
  | full
  | at (k ver : Nat)

/-- Abstract values. -/
inductive AV where
  | any
  | lit (v : Value)
  | ptr (id ver off : Nat)
  | iptr (cs : List AV)
  | isl (nl : Option Bool) (l : List AV) (tok : Tk)
  | osl (id ver sz off len : Nat)
  | agg (cs : List AV)
  | tup (vs : List AV)
  | fn (f : FuncId) (cap : List AV)
  | bfn (f : FuncId) (bd : List AV)

def AV.cells : AV → List AV
  | .agg cs => cs
  | a => [a]

def AV.scalar : AV → Bool
  | .lit v => v.oneCell'
  | .ptr .. => true
  | .iptr .. => true
  | .isl .. => true
  | .osl .. => true
  | .fn .. => true
  | _ => false

inductive Blk where
  | cells (ver : Nat) (cs : List AV)
  | tok (ver : Nat)

def Blk.ver : Blk → Nat
  | .cells v _ => v
  | .tok v => v

/-- What a name of the abstract heap stands for. -/
inductive Hd where
  | box (r : Nat)
  | row (r : Option Nat) (sz cap : Nat)
  | tk (r : Option Nat) (own : Bool) (sz len cap : Nat)

def Hd.blk : Hd → Option Nat
  | .box r => some r
  | .row r _ _ => r
  | .tk r own _ _ _ => if own then r else none

abbrev Mem := Nat → Nat → Option Value
abbrev Phi := Nat → Nat → Option Hd
abbrev GH := Nat → Option Blk

def Phi.none : Phi := fun _ _ => Option.none

inductive Rep (M : Mem) : Phi → AV → Value → Prop where
  | any {φ} (v : Value) : Rep M φ .any v
  | lit {φ} (v : Value) : Rep M φ (.lit v) v
  | ptr {φ} {id ver off r : Nat} {hd : Hd} (h : φ id ver = some hd) (hr : hd.blk = some r) : Rep M φ (.ptr id ver off) (.pointer (some ⟨r, off, Option.none⟩))
  | iptr {φ} {cs : List AV} {r off : Nat} (cv : Nat → Value) (hm : ∀ (c : Nat) (x : AV), cs[c]? = some x → M r (off + c) = some (cv c))
      (hr : ∀ (c : Nat) (x : AV), cs[c]? = some x → Rep M Phi.none x (cv c)) : Rep M φ (.iptr cs) (.pointer (some ⟨r, off, Option.none⟩))
  | isl {φ} {nl : Option Bool} {l : List AV} {tok : Tk} {a : Option Addr} {len cap : Nat} (sz : Nat) (cv : Nat → Nat → Value)
      (hlen : len = l.length) (hcap : len ≤ cap) (hnl : ∀ b, nl = some b → a.isNone = b) (hnil : a = Option.none → cap = 0)
      (hsz : ∀ e, e ∈ l → e.cells.length = sz)
      (hsp : ∀ r, a = some r → l ≠ [] → r.spot = Option.none)
      (hm : ∀ r, a = some r → ∀ (i : Nat) (e : AV) (c : Nat) (x : AV), l[i]? = some e → e.cells[c]? = some x → M r.block (r.off + i * sz + c) = some (cv i c))
      (hr : ∀ (i : Nat) (e : AV) (c : Nat) (x : AV), l[i]? = some e → e.cells[c]? = some x → Rep M Phi.none x (cv i c))
      (hfull : tok = .full → cap = len)
      (htok : ∀ k ver, tok = .at k ver → ∃ own, φ k ver = some (.tk (a.map (·.block)) own sz len cap) ∧ (own = true → ∀ r, a = some r → r = ⟨r.block, 0, Option.none⟩)) :
      Rep M φ (.isl nl l tok) (.slice a len cap)
  | osl {φ} {id ver sz off len : Nat} {a : Option Addr} {cap C : Nat} {r : Option Nat} (h : φ id ver = some (.row r sz C)) (hC : off + len + (cap - len) = C) (hcap : len ≤ cap)
      (hnone : a = Option.none ↔ r = Option.none) (hz : r = Option.none → C = 0) (ha : ∀ q, r = some q → cap ≠ 0 → a = some ⟨q, off * sz, Option.none⟩) :
      Rep M φ (.osl id ver sz off len) (.slice a len cap)
  | agg {φ} {cs : List AV} {vs : Array Value} (hl : cs.length = vs.size) (hr : ∀ (i : Nat) (x : AV) (v : Value), cs[i]? = some x → vs[i]? = some v → Rep M φ x v) : Rep M φ (.agg cs) (.agg vs)
  | tup {φ} {cs : List AV} {vs : Array Value} (hl : cs.length = vs.size) (hr : ∀ (i : Nat) (x : AV) (v : Value), cs[i]? = some x → vs[i]? = some v → Rep M φ x v) : Rep M φ (.tup cs) (.tuple vs)
  | fn {φ} {f : FuncId} {cs : List AV} {vs : Array Value} (hl : cs.length = vs.size) (hr : ∀ (i : Nat) (x : AV) (v : Value), cs[i]? = some x → vs[i]? = some v → Rep M φ x v) :
      Rep M φ (.fn f cs) (.func (.func f) #[] vs)
  | bfn {φ} {f : FuncId} {cs : List AV} {vs : Array Value} (hl : cs.length = vs.size) (hr : ∀ (i : Nat) (x : AV) (v : Value), cs[i]? = some x → vs[i]? = some v → Rep M φ x v) :
      Rep M φ (.bfn f cs) (.func (.func f) vs #[])

def Mem.le (M M' : Mem) : Prop := ∀ r j v, M r j = some v → M' r j = some v
def Phi.le (φ φ' : Phi) : Prop := ∀ id ver hd, φ id ver = some hd → φ' id ver = some hd

theorem Mem.le.refl (M : Mem) : Mem.le M M := fun _ _ _ h => h
theorem Mem.le.trans {a b c : Mem} (h : Mem.le a b) (k : Mem.le b c) : Mem.le a c := fun r j v x => k r j v (h r j v x)
theorem Phi.le.refl (M : Phi) : Phi.le M M := fun _ _ _ h => h
theorem Phi.le.trans {a b c : Phi} (h : Phi.le a b) (k : Phi.le b c) : Phi.le a c := fun r j v x => k r j v (h r j v x)
theorem Phi.none_le (φ : Phi) : Phi.le Phi.none φ := fun _ _ _ h => by cases h

theorem Rep.mono {M M' : Mem} (hM : Mem.le M M') {φ : Phi} {a : AV} {v : Value} (h : Rep M φ a v) : ∀ {φ' : Phi}, Phi.le φ φ' → Rep M' φ' a v := by
  induction h with
  | any v => intro φ' _; exact .any v
  | lit v => intro φ' _; exact .lit v
  | ptr h hr => intro φ' hφ; exact .ptr (hφ _ _ _ h) hr
  | iptr cv hm hr ih => intro φ' hφ; exact .iptr cv (fun c x hx => hM _ _ _ (hm c x hx)) (fun c x hx => ih c x hx (Phi.le.refl _))
  | isl sz cv hlen hcap hnl hnil hsz hsp hm hr hfull htok ih =>
    intro φ' hφ
    exact .isl sz cv hlen hcap hnl hnil hsz hsp (fun r ha i e c x h1 h2 => hM _ _ _ (hm r ha i e c x h1 h2)) (fun i e c x h1 h2 => ih i e c x h1 h2 (Phi.le.refl _)) hfull
      (fun k ver ht => let ⟨own, h1, h2⟩ := htok k ver ht; ⟨own, hφ _ _ _ h1, h2⟩)
  | osl h hC hcap hnone hz ha => intro φ' hφ; exact .osl (hφ _ _ _ h) hC hcap hnone hz ha
  | agg hl hr ih => intro φ' hφ; exact .agg hl fun i x v h1 h2 => ih i x v h1 h2 hφ
  | tup hl hr ih => intro φ' hφ; exact .tup hl fun i x v h1 h2 => ih i x v h1 h2 hφ
  | fn hl hr ih => intro φ' hφ; exact .fn hl fun i x v h1 h2 => ih i x v h1 h2 hφ
  | bfn hl hr ih => intro φ' hφ; exact .bfn hl fun i x v h1 h2 => ih i x v h1 h2 hφ

/-- Which names a value bears. -/
inductive AV.only (p : Nat → Prop) : AV → Prop where
  | any : AV.only p .any
  | lit (v) : AV.only p (.lit v)
  | ptr {id ver off} (h : p id) : AV.only p (.ptr id ver off)
  | iptr (cs) : AV.only p (.iptr cs)
  | isl {nl l tok} (h : ∀ k ver, tok = .at k ver → p k) : AV.only p (.isl nl l tok)
  | osl {id ver sz off len} (h : p id) : AV.only p (.osl id ver sz off len)
  | agg {cs} (h : ∀ x, x ∈ cs → AV.only p x) : AV.only p (.agg cs)
  | tup {cs} (h : ∀ x, x ∈ cs → AV.only p x) : AV.only p (.tup cs)
  | fn {f cs} (h : ∀ x, x ∈ cs → AV.only p x) : AV.only p (.fn f cs)
  | bfn {f cs} (h : ∀ x, x ∈ cs → AV.only p x) : AV.only p (.bfn f cs)

def AV.lt (n : Nat) (a : AV) : Prop := a.only (· < n)

def Blk.only (p : Nat → Prop) : Blk → Prop
  | .cells _ cs => ∀ x, x ∈ cs → AV.only p x
  | .tok _ => True

theorem list_get_vs {cs : List AV} {vs : Array Value} (hl : cs.length = vs.size) {x : AV} (hx : x ∈ cs) : ∃ (i : Nat) (v : Value), cs[i]? = some x ∧ vs[i]? = some v := by
  obtain ⟨i, hi, rfl⟩ := List.getElem_of_mem hx
  exact ⟨i, vs[i]'(by omega), by simp [hi], by simp⟩

theorem Rep.only {M : Mem} {φ : Phi} {a : AV} {v : Value} (h : Rep M φ a v) : ∀ {p : Nat → Prop}, (∀ id ver hd, φ id ver = some hd → p id) → a.only p := by
  induction h with
  | any v => intro p _; exact .any
  | lit v => intro p _; exact .lit _
  | ptr h hr => intro p hp; exact .ptr (hp _ _ _ h)
  | iptr cv hm hr ih => intro p hp; exact .iptr _
  | isl sz cv hlen hcap hnl hnil hsz hsp hm hr hfull htok ih => intro p hp; exact .isl fun k ver ht => let ⟨own, h1, h2⟩ := htok k ver ht; hp _ _ _ h1
  | osl h hC hcap hnone hz ha => intro p hp; exact .osl (hp _ _ _ h)
  | agg hl hr ih => intro p hp; exact .agg fun x hx => let ⟨i, v, h1, h2⟩ := list_get_vs hl hx; ih i x v h1 h2 hp
  | tup hl hr ih => intro p hp; exact .tup fun x hx => let ⟨i, v, h1, h2⟩ := list_get_vs hl hx; ih i x v h1 h2 hp
  | fn hl hr ih => intro p hp; exact .fn fun x hx => let ⟨i, v, h1, h2⟩ := list_get_vs hl hx; ih i x v h1 h2 hp
  | bfn hl hr ih => intro p hp; exact .bfn fun x hx => let ⟨i, v, h1, h2⟩ := list_get_vs hl hx; ih i x v h1 h2 hp

theorem Rep.move {M : Mem} {φ : Phi} {a : AV} {v : Value} (h : Rep M φ a v) : ∀ {p : Nat → Prop} {φ' : Phi}, a.only p → (∀ id ver hd, p id → φ id ver = some hd → φ' id ver = some hd) → Rep M φ' a v := by
  induction h with
  | any v => intro p φ' _ _; exact .any _
  | lit v => intro p φ' _ _; exact .lit _
  | ptr h hr => intro p φ' ho hp; cases ho with | ptr h' => exact .ptr (hp _ _ _ h' h) hr
  | iptr cv hm hr ih => intro p φ' ho hp; exact .iptr cv hm hr
  | isl sz cv hlen hcap hnl hnil hsz hsp hm hr hfull htok ih =>
    intro p φ' ho hp
    cases ho with | isl h' => exact .isl sz cv hlen hcap hnl hnil hsz hsp hm hr hfull fun k ver ht => let ⟨own, h1, h2⟩ := htok k ver ht; ⟨own, hp _ _ _ (h' k ver ht) h1, h2⟩
  | osl h hC hcap hnone hz ha => intro p φ' ho hp; cases ho with | osl h' => exact .osl (hp _ _ _ h' h) hC hcap hnone hz ha
  | agg hl hr ih => intro p φ' ho hp; cases ho with | agg h' => exact .agg hl fun i x v h1 h2 => ih i x v h1 h2 (h' x (List.mem_of_getElem? h1)) hp
  | tup hl hr ih => intro p φ' ho hp; cases ho with | tup h' => exact .tup hl fun i x v h1 h2 => ih i x v h1 h2 (h' x (List.mem_of_getElem? h1)) hp
  | fn hl hr ih => intro p φ' ho hp; cases ho with | fn h' => exact .fn hl fun i x v h1 h2 => ih i x v h1 h2 (h' x (List.mem_of_getElem? h1)) hp
  | bfn hl hr ih => intro p φ' ho hp; cases ho with | bfn h' => exact .bfn hl fun i x v h1 h2 => ih i x v h1 h2 (h' x (List.mem_of_getElem? h1)) hp

theorem AV.only.mono {p q : Nat → Prop} {a : AV} (h : a.only p) (hpq : ∀ i, p i → q i) : a.only q := by
  induction h with
  | any => exact .any
  | lit v => exact .lit v
  | ptr h => exact .ptr (hpq _ h)
  | iptr cs => exact .iptr cs
  | isl h => exact .isl fun k ver ht => hpq _ (h k ver ht)
  | osl h => exact .osl (hpq _ h)
  | agg h ih => exact .agg ih
  | tup h ih => exact .tup ih
  | fn h ih => exact .fn ih
  | bfn h ih => exact .bfn ih

theorem Rep.scalar {M : Mem} {φ : Phi} {a : AV} {v : Value} (h : Rep M φ a v) (hs : a.scalar = true) : v.oneCell' = true := by
  cases h <;> first | rfl | (simp [AV.scalar] at hs; done) | (simpa [AV.scalar] using hs)

/-- What a block of the abstract heap says of the world. -/
def BlkOk (B : Nat) (M : Mem) (φ : Phi) (w : World) : Blk → Hd → Prop
  | .cells _ cs, .box r => B ≤ r ∧ (∀ j, M r j = none) ∧ ∃ (arr : Array Value) (e : TypeId), w.heap[r]? = some (.cells arr e (0, 0)) ∧ arr.size = cs.length ∧ ∀ (j : Nat) (x : AV) (v : Value), cs[j]? = some x → arr[j]? = some v → Rep M φ x v
  | .cells _ cs, .row (some r) sz cap => B ≤ r ∧ (∀ j, M r j = none) ∧ ∃ (arr : Array Value) (e : TypeId), w.heap[r]? = some (.cells arr e (0, 0)) ∧ arr.size = cap * sz ∧ cs.length ≤ arr.size ∧
      ∀ (j : Nat) (x : AV) (v : Value), cs[j]? = some x → arr[j]? = some v → Rep M φ x v
  | .cells _ cs, .row none _ cap => cs = [] ∧ cap = 0
  | .tok _, .tk _ false _ len cap => len = cap
  | .tok _, .tk (some r) true sz len cap => B ≤ r ∧ len ≤ cap ∧ (len = 0 → cap = 0) ∧ (∀ j, len * sz ≤ j → M r j = none) ∧ ∃ (arr : Array Value) (e : TypeId), w.heap[r]? = some (.cells arr e (0, 0)) ∧ arr.size = cap * sz
  | .tok _, .tk none true _ _ _ => False
  | _, _ => False

/-- what the tables hold that start-up code laid, as far as this seat's functions read them -/
def BaseW (w : World) : Prop := ∀ p, p ∈ baseTab → ∃ t fz, w.heap[p.1]? = some (.cells p.2 t fz)

/-- The world as the abstract heap has it. -/
structure Wr (w0 : World) (M : Mem) (φ : Phi) (g : GH) (w : World) : Prop where
  below : Below w0.heap.size w0 w
  base : BaseW w0
  mem : ∀ r j v, M r j = some v → w.cell? ⟨r, j, Option.none⟩ = some v
  blk : ∀ id b, g id = some b → ∃ hd, φ id b.ver = some hd ∧ BlkOk w0.heap.size M φ w b hd
  inj : ∀ id id' b b' hd hd' r, g id = some b → g id' = some b' → φ id b.ver = some hd → φ id' b'.ver = some hd' → hd.blk = some r → hd'.blk = some r → id = id'
  dom : ∀ id ver hd, φ id ver = some hd → ∃ b, g id = some b ∧ ver ≤ b.ver

/-! ### the type table -/
structure TyI where
  agg : Bool
  size : Nat
  bytes : Nat

def tyI (P : Program) (t : TypeId) : Option TyI :=
  match P.info? t, P.underlying t with
  | some i, some d => some ⟨(match d with | .struct _ | .array _ _ => true | _ => false), i.size, i.bytes⟩
  | _, _ => none

def slT (P : Program) (t : TypeId) : Option TypeId :=
  match P.underlying t with
  | some (.slice e) => some e
  | _ => none

/-- a field: its offset, its type's size, whether it is an aggregate -/
def fldI (P : Program) (t : TypeId) (f : Nat) : Option (Nat × Nat × Bool) :=
  match P.underlying t with
  | some (.struct fs) => match fs[f]? with
    | some fd => match tyI P fd.type with
      | some ti => some (fd.offset, ti.size, ti.agg)
      | none => none
    | none => none
  | _ => none

def ofConst : Value → AV
  | .slice none 0 0 => .isl (some true) [] .full
  | v => .lit v

def zeroI (P : Program) (t : TypeId) : Option (List AV) :=
  match P.info? t with
  | some i => match i.zero with
    | some v => some (v.cells.toList.map ofConst)
    | none => none
  | none => none

/-! ### the abstract heap of one activation -/
structure HP where
  out : GH
  loc : List (Nat × Blk)

def look : List (Nat × Blk) → Nat → Option Blk
  | [], _ => none
  | (d, b) :: l, k => if d = k then some b else look l k

def insL : List (Nat × Blk) → Nat → Blk → List (Nat × Blk)
  | [], k, b => [(k, b)]
  | (d, c) :: l, k, b => if d = k then (k, b) :: l else if k < d then (k, b) :: (d, c) :: l else (d, c) :: insL l k b

def HP.get (h : HP) (n id : Nat) : Option Blk := if id < n then h.out id else look h.loc (id - n)

def HP.put (h : HP) (n id : Nat) (b : Blk) : HP :=
  if id < n then { h with out := fun i => if i = id then some b else h.out i } else { h with loc := insL h.loc (id - n) b }

def HP.puts (h : HP) (n : Nat) : List (Nat × Blk) → HP
  | [] => h
  | (id, b) :: l => (h.put n id b).puts n l

def gput (g : GH) (id : Nat) (b : Blk) : GH := fun i => if i = id then some b else g i

theorem look_insL (l : List (Nat × Blk)) (k : Nat) (b : Blk) (j : Nat) : look (insL l k b) j = if j = k then some b else look l j := by
  induction l with
  | nil => simp only [insL, look]; split <;> split <;> first | rfl | omega
  | cons x l ih =>
    obtain ⟨d, c⟩ := x
    simp only [insL]
    split
    · rename_i hd; subst hd; simp only [look]; split <;> split <;> first | rfl | omega
    · split
      · simp only [look]; by_cases h1 : k = j
        · simp [h1]
        · have h2 : ¬ j = k := fun e => h1 e.symm
          simp [h1, h2]
      · simp only [look, ih]
        by_cases h1 : d = j
        · subst h1
          rename_i h2 _
          simp [h2]
        · simp [h1]

theorem HP.get_put (h : HP) (n id : Nat) (b : Blk) : (h.put n id b).get n = gput (h.get n) id b := by
  funext j
  simp only [HP.put, gput]
  by_cases hid : id < n
  · simp only [hid, if_true, HP.get]
    by_cases hj : j < n
    · simp [hj]
    · have : j ≠ id := by omega
      simp [hj, this]
  · simp only [hid, if_false, HP.get]
    by_cases hj : j < n
    · have : j ≠ id := by omega
      simp [hj, this]
    · simp only [hj, if_false, look_insL]
      by_cases h1 : j = id
      · simp [h1]
      · have : ¬ j - n = id - n := by omega
        simp [h1, this]

/-! ### frames, operands -/
def ev (fr : List AV) : Operand → AV
  | .tmp t => fr.getD t (.lit undef)
  | .const v => ofConst v
  | .global g => .lit (.pointer (some ⟨g, 0, none⟩))
  | .func f => .fn f []

def fset (fr : List AV) (d : Option Nat) (v : AV) : List AV := match d with | some d => fr.set d v | none => fr

structure Cfg where
  P : Program
  n : Nat
  nt : Nat
  nm : Nat → Option Nat := fun _ => none
  md : Nat → Nat := fun _ => 0

def Cfg.id (C : Cfg) (d : Nat) : Nat := match C.nm d with | none => C.n + d | some k => k

structure Out where
  pre : Prop
  v : AV
  rd : List Nat := []
  wr : List (Nat × Blk) := []

def Out.bad : Out := ⟨False, .any, [], []⟩

def Tk.erase : Tk → Tk
  | .at _ _ => .no
  | t => t

def Tk.free : Tk → Bool
  | .at _ _ => false
  | _ => true

def AV.erase : AV → AV
  | .isl nl l t => .isl nl l t.erase
  | a => a

def AV.eraseE : AV → AV
  | .agg cs => .agg (cs.map AV.erase)
  | a => a.erase

/-- a cell without names -/
def AV.idf : AV → Bool
  | .lit v => v.oneCell'
  | .iptr _ => true
  | .isl _ _ tok => tok.free
  | _ => false

def splice (cs : List AV) (off : Nat) (xs : List AV) : List AV := cs.take off ++ xs ++ cs.drop (off + xs.length)

def nextV (g : GH) (id : Nat) : Nat := match g id with | none => 0 | some b => b.ver + 1

/-- a block may be laid at a name -/
def Cfg.may (C : Cfg) (id : Nat) (b : Blk) : Prop := id < C.n + C.nt ∧ (id < C.n → b.only (· < C.n))

end Go.Av

namespace Go.Av
set_option linter.unusedVariables false
set_option linter.unusedSimpArgs false
open Go.RowKit

def kindT (P : Program) (t : TypeId) : Nat :=
  match P.underlying t with
  | some .bool => 1
  | some (.int _) => 2
  | some .string => 3
  | some (.pointer _) => 4
  | some (.slice _) => 5
  | some (.struct _) => 6
  | some (.array _ _) => 7
  | some (.map _ _) => 8
  | some (.func _ _ _) => 9
  | _ => 0

def intT (P : Program) (t : TypeId) : Option IntKind :=
  match P.underlying t with
  | some (.int k) => some k
  | _ => none

def binI (op : BinOp) (k : IntKind) (a b : Int) : Out :=
  match op with
  | .add => ⟨True, .lit (.int k (k.wrap (a + b))), [], []⟩
  | .sub => ⟨True, .lit (.int k (k.wrap (a - b))), [], []⟩
  | .mul => ⟨True, .lit (.int k (k.wrap (a * b))), [], []⟩
  | .quo => ⟨b ≠ 0, .lit (.int k (k.wrap (a.tdiv b))), [], []⟩
  | .rem => ⟨b ≠ 0, .lit (.int k (a.tmod b)), [], []⟩
  | .and => ⟨True, .lit (.int k (k.wrap (BitVec.ofInt k.bits a &&& BitVec.ofInt k.bits b).toNat)), [], []⟩
  | .or => ⟨True, .lit (.int k (k.wrap (BitVec.ofInt k.bits a ||| BitVec.ofInt k.bits b).toNat)), [], []⟩
  | .xor => ⟨True, .lit (.int k (k.wrap (BitVec.ofInt k.bits a ^^^ BitVec.ofInt k.bits b).toNat)), [], []⟩
  | .andNot => ⟨True, .lit (.int k (k.wrap (BitVec.ofInt k.bits a &&& ~~~(BitVec.ofInt k.bits b)).toNat)), [], []⟩
  | .eql => ⟨True, .lit (.bool (decide (a = b))), [], []⟩
  | .neq => ⟨True, .lit (.bool (!decide (a = b))), [], []⟩
  | .lss => ⟨True, .lit (.bool (decide (a < b))), [], []⟩
  | .leq => ⟨True, .lit (.bool (decide (a ≤ b))), [], []⟩
  | .gtr => ⟨True, .lit (.bool (decide (b < a))), [], []⟩
  | .geq => ⟨True, .lit (.bool (decide (b ≤ a))), [], []⟩
  | _ => .bad

def binSh (op : BinOp) (k : IntKind) (a b : Int) : Out :=
  match op with
  | .shl => ⟨0 ≤ b, .lit (.int k (k.wrap (a * 2 ^ (min b.toNat k.bits)))), [], []⟩
  | .shr => ⟨0 ≤ b, .lit (.int k (a / 2 ^ (min b.toNat k.bits))), [], []⟩
  | _ => .bad

def isSh : BinOp → Bool
  | .shl => true
  | .shr => true
  | _ => false

def binS (op : BinOp) (a b : ByteArray) : Out :=
  match op with
  | .add => ⟨((a.size + b.size : Nat) : Int) ≤ 9223372036854775807, .lit (.string (a ++ b)), [], []⟩
  | .eql => ⟨True, .lit (.bool (a.data.toList == b.data.toList)), [], []⟩
  | .neq => ⟨True, .lit (.bool (!(a.data.toList == b.data.toList))), [], []⟩
  | .lss => ⟨True, .lit (.bool (Op.bytesLess a.data.toList b.data.toList)), [], []⟩
  | _ => .bad

def nilB (op : BinOp) (b : Bool) : Out :=
  match op with
  | .eql => ⟨True, .lit (.bool b), [], []⟩
  | .neq => ⟨True, .lit (.bool (!b)), [], []⟩
  | _ => .bad

/-- a struct whose fields are numbers, texts and truth values: where each lies, and of which kind it is -/
def eqT (P : Program) (t : TypeId) : Option (List (Nat × Nat)) :=
  match P.underlying t with
  | some (.struct fs) => if (fs.toList.all fun f => f.name != "_" && (kindT P f.type == 1 || kindT P f.type == 2 || kindT P f.type == 3)) && !P.stoodInHeld t && !P.eqGuardType P.depth t then
      some (fs.toList.map fun f => (f.offset, kindT P f.type)) else none
  | _ => none

def eqP1 (k : Nat) : AV → AV → Prop
  | .lit (.int k1 _), .lit (.int k2 _) => k = 2 ∧ k1 = k2
  | .lit (.string _), .lit (.string _) => k = 3
  | .lit (.bool _), .lit (.bool _) => k = 1
  | _, _ => False

def eqB1 : AV → AV → Bool
  | .lit (.int _ a), .lit (.int _ b) => decide (a = b)
  | .lit (.string a), .lit (.string b) => a.data.toList == b.data.toList
  | .lit (.bool a), .lit (.bool b) => a == b
  | _, _ => false

def eqP (cs ds : List AV) : List (Nat × Nat) → Prop
  | [] => True
  | (o, k) :: l => (o < cs.length ∧ o < ds.length ∧ eqP1 k (cs.getD o .any) (ds.getD o .any)) ∧ eqP cs ds l

def eqB (cs ds : List AV) : List (Nat × Nat) → Bool
  | [] => true
  | (o, _) :: l => eqB1 (cs.getD o .any) (ds.getD o .any) && eqB cs ds l

def eqA (op : BinOp) (cs ds : List AV) : Option (List (Nat × Nat)) → Out
  | some fs => ⟨eqP cs ds fs ∧ (nilB op true).pre, (nilB op (eqB cs ds fs)).v, [], []⟩
  | none => .bad

def binA (P : Program) (op : BinOp) (t : TypeId) : AV → AV → Out
  | .agg cs, .agg ds => eqA op cs ds (eqT P t)
  | .lit (.int k a), .lit (.int k' b) => if isSh op then binSh op k a b else if k = k' then binI op k a b else .bad
  | .lit (.string a), .lit (.string b) => binS op a b
  | .lit (.bool a), .lit (.bool b) => let o := nilB op (a == b); ⟨kindT P t = 1 ∧ o.pre, o.v, [], []⟩
  | .lit (.pointer none), .lit (.pointer none) => let o := nilB op true; ⟨kindT P t = 4 ∧ o.pre, o.v, [], []⟩
  | .ptr _ _ _, .lit (.pointer none) => let o := nilB op false; ⟨kindT P t = 4 ∧ o.pre, o.v, [], []⟩
  | .iptr _, .lit (.pointer none) => let o := nilB op false; ⟨kindT P t = 4 ∧ o.pre, o.v, [], []⟩
  | .isl (some b) _ _, .isl (some true) [] .full => let o := nilB op b; ⟨kindT P t = 5 ∧ o.pre, o.v, [], []⟩
  | _, _ => .bad

def unA (op : UnOp) : AV → Out
  | .lit (.bool b) => match op with
    | .not => ⟨True, .lit (.bool (!b)), [], []⟩
    | _ => .bad
  | .lit (.int k n) => match op with
    | .neg => ⟨True, .lit (.int k (k.wrap (0 - n))), [], []⟩
    | .xor => binI .xor k (if k.signed then -1 else k.max) n
    | _ => .bad
  | _ => .bad

def byteAt (s : ByteArray) (i : Nat) : Int := ((s.data.toList.getD i 0).toNat : Int)

def encB (s : ByteArray) : List AV := s.data.toList.map fun b => .lit (.int .u8 b.toNat)

open Classical in
noncomputable def strOf (l : List AV) : ByteArray := if h : ∃ s, l = encB s then h.choose else ⟨#[]⟩

theorem encB_inj {s t : ByteArray} (h : encB s = encB t) : s = t := by
  unfold encB at h
  have h1 : s.data.toList = t.data.toList := by
    refine (List.map_inj_right ?_).mp h
    intro a b hab
    simp only [AV.lit.injEq, Value.int.injEq, true_and] at hab
    exact UInt8.toNat_inj.mp (by omega)
  cases s; cases t; simp_all

theorem strOf_encB (s : ByteArray) : strOf (encB s) = s := by
  unfold strOf
  have h : ∃ t, encB s = encB t := ⟨s, rfl⟩
  rw [dif_pos h]
  exact (encB_inj h.choose_spec).symm

noncomputable def convA (P : Program) (src dst : TypeId) : AV → Out
  | .lit (.int _ n) => match intT P dst with
    | some k => ⟨True, .lit (.int k (k.wrap n)), [], []⟩
    | none => .bad
  | .lit (.string s) => if kindT P dst = 3 then ⟨True, .lit (.string s), [], []⟩ else
    match slT P dst with
    | some e => ⟨intT P e = some .u8, .isl none (encB s) .no, [], []⟩
    | none => .bad
  | .isl _ l _ => match slT P src with
    | some e => ⟨kindT P dst = 3 ∧ intT P e = some .u8 ∧ l = encB (strOf l), .lit (.string (strOf l)), [], []⟩
    | none => .bad
  | _ => .bad

def loadA (P : Program) (t : TypeId) (g : GH) : AV → Out
  | .ptr id ver off => match tyI P t, g id with
    | some ti, some (.cells v cs) => ⟨v = ver ∧ off + ti.size ≤ cs.length ∧ ti.size ≠ 0 ∧ (ti.agg = false → ti.size = 1), if ti.agg then .agg ((cs.drop off).take ti.size) else cs.getD off .any, [id], []⟩
    | _, _ => .bad
  | .iptr cs => match tyI P t with
    | some ti => ⟨ti.size ≤ cs.length ∧ ti.size ≠ 0 ∧ (ti.agg = false → ti.size = 1), if ti.agg then .agg (cs.take ti.size) else cs.getD 0 .any, [], []⟩
    | none => .bad
  | _ => .bad

def storeA (C : Cfg) (t : TypeId) (g : GH) (x : AV) : AV → Out
  | .ptr id ver off => match tyI C.P t, g id with
    | some ti, some (.cells v cs) =>
      ⟨v = ver ∧ off + ti.size ≤ cs.length ∧ x.cells.length = ti.size ∧ x.cells.all AV.scalar = true ∧ C.may id (.cells v (splice cs off x.cells)), .lit undef, [id], [(id, .cells v (splice cs off x.cells))]⟩
    | _, _ => .bad
  | _ => .bad

def fieldAddrA (P : Program) (s : TypeId) (f : Nat) : AV → Out
  | .ptr id ver off => match fldI P s f with
    | some (o, sz, _) => ⟨sz ≠ 0, .ptr id ver (off + o), [], []⟩
    | none => .bad
  | .iptr cs => match fldI P s f with
    | some (o, sz, _) => ⟨sz ≠ 0, .iptr (cs.drop o), [], []⟩
    | none => .bad
  | _ => .bad

def fieldA (P : Program) (s : TypeId) (f : Nat) : AV → Out
  | .agg cs => match fldI P s f with
    | some (o, sz, ag) => ⟨o + sz ≤ cs.length ∧ sz ≠ 0, if ag then .agg ((cs.drop o).take sz) else cs.getD o .any, [], []⟩
    | none => .bad
  | _ => .bad

def indexAddrA (P : Program) (t : TypeId) : AV → AV → Out
  | .isl _ l _, .lit (.int _ i) => match slT P t with
    | some e => match tyI P e with
      | some ti => ⟨0 ≤ i ∧ i < l.length ∧ (l.getD i.toNat .any).cells.length = ti.size, .iptr (l.getD i.toNat .any).cells, [], []⟩
      | none => .bad
    | none => .bad
  | .osl id ver sz off len, .lit (.int _ i) => match slT P t with
    | some e => match tyI P e with
      | some ti => ⟨0 ≤ i ∧ i < len ∧ sz = ti.size, .ptr id ver (off * sz + i.toNat * sz), [], []⟩
      | none => .bad
    | none => .bad
  | _, _ => .bad

def indexA (P : Program) (t : TypeId) : AV → AV → Out
  | .lit (.string s), .lit (.int _ i) => ⟨kindT P t = 3 ∧ 0 ≤ i ∧ i < s.size, .lit (.int .u8 (byteAt s i.toNat)), [], []⟩
  | _, _ => .bad

/-- the parts of a struct, laid into its zero -/
def fillA (P : Program) (t : TypeId) (cs : List AV) : List (Nat × AV) → Out
  | [] => ⟨True, .agg cs, [], []⟩
  | (i, x) :: l => match fldI P t i with
    | some (o, sz, _) => let r := fillA P t (splice cs o x.cells) l; ⟨(x.cells.length = sz ∧ o + sz ≤ cs.length ∧ x.cells.all AV.scalar = true) ∧ r.pre, r.v, [], []⟩
    | none => .bad

def bldT (P : Program) (t : TypeId) : Bool :=
  match P.underlying t with
  | some (.struct fs) => fs.toList.all fun f => (P.info? f.type).isSome
  | _ => false

def buildA (P : Program) (t : TypeId) (ps : List (Nat × AV)) : Out :=
  match zeroI P t with
  | some z => let r := fillA P t z ps; ⟨bldT P t = true ∧ r.pre, r.v, [], []⟩
  | none => .bad

def numbered : List (Nat × AV) → Nat → Bool
  | [], _ => true
  | (i, _) :: l, k => i == k && numbered l (k + 1)

/-- elements of a slice of one's own -/
def elsOk (sz : Nat) (l : List AV) : Prop := ∀ e, e ∈ l → e.cells.length = sz ∧ e.cells.all AV.idf = true

def buildSliceA (C : Cfg) (d : Nat) (t : TypeId) (len : Nat) (g : GH) (ps : List (Nat × AV)) : Out :=
  match slT C.P t with
  | some e => match tyI C.P e with
    | some ti =>
      let l := ps.map fun p => p.2.eraseE
      let id := C.id d
      let p0 : Prop := ps.length = len ∧ numbered ps 0 = true ∧ len * ti.size ≤ 16777216 ∧ (len * ti.size ≠ 0 → (zeroI C.P e).isSome = true)
      match C.md d with
      | 0 => ⟨p0 ∧ elsOk ti.size l, .isl (some false) l .full, [], []⟩
      | 1 => ⟨p0 ∧ elsOk ti.size l ∧ C.may id (.tok (nextV g id)), .isl (some false) l (.at id (nextV g id)), [id], [(id, .tok (nextV g id))]⟩
      | _ => ⟨p0 ∧ (∀ x, x ∈ ps → x.2.cells.length = ti.size ∧ x.2.cells.all AV.scalar = true) ∧ C.may id (.cells (nextV g id) (ps.flatMap fun p => p.2.cells)),
          .osl id (nextV g id) ti.size 0 len, [id], [(id, .cells (nextV g id) (ps.flatMap fun p => p.2.cells))]⟩
    | none => .bad
  | none => .bad

def allocA (C : Cfg) (d : Nat) (g : GH) (cs : List AV) : Out :=
  let id := C.id d
  ⟨cs.all AV.scalar = true ∧ C.may id (.cells (nextV g id) cs), .ptr id (nextV g id) 0, [id], [(id, .cells (nextV g id) cs)]⟩

def zeroEl (ti : TyI) (z : List AV) : AV := if ti.agg then .agg z else z.headD .any

def makeSliceA (C : Cfg) (d : Nat) (t : TypeId) (g : GH) : AV → AV → Out
  | .lit (.int _ n), .lit (.int _ m) => match slT C.P t with
    | some e => match tyI C.P e, zeroI C.P e with
      | some ti, some z =>
        let id := C.id d
        let p0 : Prop := n = m ∧ 0 ≤ n ∧ n * ti.bytes ≤ 281474976710656 ∧ n ≤ 9223372036854775807 ∧ z.length = ti.size ∧ z.all AV.idf = true ∧ (ti.agg = false → ti.size = 1)
        let cs := if ti.agg then (List.replicate n.toNat z).flatten else List.replicate n.toNat (z.headD .any)
        match C.md d with
        | 0 => ⟨p0, .isl (some false) (List.replicate n.toNat (zeroEl ti z)) .full, [], []⟩
        | _ => ⟨p0 ∧ C.may id (.cells (nextV g id) cs), .osl id (nextV g id) ti.size 0 n.toNat, [id], [(id, .cells (nextV g id) cs)]⟩
      | _, _ => .bad
    | none => .bad
  | _, _ => .bad

def bnd (x : Option AV) (dflt : Int) : Option Int :=
  match x with
  | none => some dflt
  | some (.lit (.int _ i)) => some i
  | _ => none

def szOk (n : Nat) (l : List AV) : Prop := ∀ y, y ∈ l → y.cells.length = n

def sliceA (P : Program) (t : TypeId) (x : AV) (lo hi mx : Option AV) : Out :=
  match x with
  | .lit (.string s) => match mx, bnd lo 0, bnd hi s.size with
    | none, some l, some h => ⟨kindT P t = 3 ∧ 0 ≤ l ∧ l ≤ h ∧ h ≤ s.size, .lit (.string (s.extract l.toNat h.toNat)), [], []⟩
    | _, _, _ => .bad
  | .isl nl xs _ => match slT P t with
    | some e => match tyI P e with
      | some ti => match bnd lo 0, bnd hi xs.length, hi, mx with
        | some l, some h, _, none => ⟨szOk ti.size xs ∧ 0 ≤ l ∧ l ≤ h ∧ h ≤ xs.length, .isl nl ((xs.take h.toNat).drop l.toNat) .no, [], []⟩
        | some l, some h, some _, some (.lit (.int _ m)) => ⟨szOk ti.size xs ∧ 0 ≤ l ∧ l ≤ h ∧ h = m ∧ h ≤ xs.length, .isl nl ((xs.take h.toNat).drop l.toNat) .full, [], []⟩
        | _, _, _, _ => .bad
      | none => .bad
    | none => .bad
  | .osl id ver sz off len => match slT P t with
    | some e => match tyI P e, bnd lo 0, bnd hi len, mx with
      | some ti, some l, some h, none => ⟨sz = ti.size ∧ 0 ≤ l ∧ l ≤ h ∧ h ≤ len, .osl id ver sz (off + l.toNat) (h.toNat - l.toNat), [], []⟩
      | _, _, _, _ => .bad
    | none => .bad
  | _ => .bad

def nlA (nl : Option Bool) : Option Bool := if nl = some false then some false else none

def isFull : Tk → Bool
  | .full => true
  | _ => false

/-- what is appended, as elements -/
def appM (P : Program) (e : TypeId) (ti : TyI) (u : TypeId) : AV → Out
  | .isl _ m _ => ⟨kindT P u = 5, .tup m, [], []⟩
  | .lit (.string s) => ⟨kindT P u = 3 ∧ intT P e = some .u8, .tup (encB s), [], []⟩
  | .lit (.int .i64 k) => match zeroI P e with
    | some z => ⟨kindT P u = 2 ∧ 0 ≤ k ∧ k ≤ 9223372036854775807 ∧ z.length = ti.size ∧ z.all AV.idf = true ∧ (ti.agg = false → ti.size = 1), .tup (List.replicate k.toNat (zeroEl ti z)), [], []⟩
    | none => .bad
  | _ => .bad

def zOk (P : Program) (e : TypeId) (ti : TyI) : Bool := (zeroI P e).any fun z => z.length == ti.size

def AV.els : AV → List AV
  | .tup l => l
  | _ => []

def appendA (C : Cfg) (d : Nat) (ts : List TypeId) (g : GH) (s x : AV) : Out :=
  match ts with
  | [t, u] => match slT C.P t with
    | some e => match tyI C.P e with
      | some ti =>
        let mo := appM C.P e ti u x
        let m := mo.v.els
        match s with
        | .isl nl l (.at k ver) => match g k with
          | some (.tok v) => ⟨mo.pre ∧ v = ver ∧ (l.length + m.length) * (2 * ti.bytes) ≤ 281474976710656 ∧ elsOk ti.size l ∧ elsOk ti.size m ∧ ti.bytes ≠ 0 ∧ zOk C.P e ti = true ∧ C.may k (.tok (ver + 1)),
              .isl (nlA nl) (l ++ m) (.at k (ver + 1)), [k], [(k, .tok (ver + 1))]⟩
          | _ => .bad
        | .isl nl l .full =>
          let p0 : Prop := mo.pre ∧ (l.length + m.length) * (2 * ti.bytes) ≤ 281474976710656 ∧ elsOk ti.size l ∧ elsOk ti.size m ∧ ti.bytes ≠ 0 ∧ zOk C.P e ti = true
          let id := C.id d
          match C.md d with
          | 0 => ⟨p0, .isl (nlA nl) (l ++ m) .no, [], []⟩
          | _ => ⟨p0 ∧ C.may id (.tok (nextV g id)), .isl (nlA nl) (l ++ m) (.at id (nextV g id)), [id], [(id, .tok (nextV g id))]⟩
        | .osl id ver sz off len => match g id with
          | some (.cells v cs) => ⟨mo.pre ∧ v = ver ∧ sz = ti.size ∧ off = 0 ∧ len * sz = cs.length ∧ (len + m.length) * (2 * ti.bytes) ≤ 281474976710656 ∧ elsOk ti.size m ∧ ti.bytes ≠ 0 ∧ zOk C.P e ti = true ∧
                C.may id (.cells (ver + 1) (cs ++ m.flatMap AV.cells)),
              .osl id (ver + 1) sz 0 (len + m.length), [id], [(id, .cells (ver + 1) (cs ++ m.flatMap AV.cells))]⟩
          | _ => .bad
        | _ => .bad
      | none => .bad
    | none => .bad
  | _ => .bad

def lenA (P : Program) (t : TypeId) : AV → Out
  | .isl _ l _ => ⟨kindT P t = 5, .lit (.int .i64 (l.length : Int)), [], []⟩
  | .osl _ _ _ _ len => ⟨kindT P t = 5, .lit (.int .i64 (len : Int)), [], []⟩
  | .lit (.string s) => ⟨kindT P t = 3, .lit (.int .i64 (s.size : Int)), [], []⟩
  | _ => .bad

def mxA (big : Bool) : List AV → Out
  | [.lit (.int k a), .lit (.int _ b)] => ⟨True, .lit (.int k (if big then (if b > a then b else a) else (if b < a then b else a))), [], []⟩
  | _ => .bad

/-- 'clear' of a row of one's own, whose elements are one cell each -/
def clearA (C : Cfg) (t : TypeId) (g : GH) : AV → Out
  | .osl id ver sz off len => match slT C.P t, g id with
    | some e, some (.cells v cs) => match tyI C.P e, zeroI C.P e with
      | some ti, some [z] => ⟨v = ver ∧ sz = 1 ∧ ti.agg = false ∧ z.idf = true ∧ off + len ≤ cs.length ∧ C.may id (.cells v (splice cs off (List.replicate len z))), .tup [], [id], [(id, .cells v (splice cs off (List.replicate len z)))]⟩
      | _, _ => .bad
    | _, _ => .bad
  | _ => .bad

def builtinA (C : Cfg) (d : Nat) (b : Builtin) (ts : List TypeId) (g : GH) (xs : List AV) : Out :=
  match b, xs with
  | .append, [s, x] => appendA C d ts g s x
  | .len, [x] => match ts with
    | [t] => lenA C.P t x
    | _ => .bad
  | .max, xs => mxA true xs
  | .min, xs => mxA false xs
  | .clear, [x] => match ts with
    | [t] => clearA C t g x
    | _ => .bad
  | _, _ => .bad

/-- an assignment; nothing, named as a slice to be grown -/
def assignA (C : Cfg) (d : Nat) (g : GH) (x : AV) : Out :=
  match C.md d, x with
  | 1, .isl (some true) [] .full => ⟨C.may (C.id d) (.tok (nextV g (C.id d))), .isl (some true) [] (.at (C.id d) (nextV g (C.id d))), [C.id d], [(C.id d, .tok (nextV g (C.id d)))]⟩
  | _, x => ⟨True, x, [], []⟩

def pickA (c a b : AV) : Out :=
  match c with
  | .lit (.bool t) => ⟨True, if t then a else b, [], []⟩
  | _ => .bad

def extractA (i : Nat) : AV → Out
  | .tup vs => ⟨i < vs.length, vs.getD i .any, [], []⟩
  | _ => .bad

def nilCheckA : AV → Out
  | .ptr i v o => ⟨True, .ptr i v o, [], []⟩
  | .iptr cs => ⟨True, .iptr cs, [], []⟩
  | .fn f cs => ⟨True, .fn f cs, [], []⟩
  | _ => .bad

noncomputable def stepf (C : Cfg) (o : Oper) (e : Operand → AV) (g : GH) : Out :=
  match o.op with
  | .move x => ⟨True, e x, [], []⟩
  | .assign x => assignA C (o.dst.getD 0) g (e x)
  | .pick c a b => pickA (e c) (e a) (e b)
  | .alloc t => match zeroI C.P t with
    | some z => allocA C (o.dst.getD 0) g z
    | none => .bad
  | .box _ x => allocA C (o.dst.getD 0) g (e x).cells
  | .build t ps => buildA C.P t (ps.toList.map fun p => (p.1, e p.2))
  | .buildSlice t len ps => buildSliceA C (o.dst.getD 0) t len g (ps.toList.map fun p => (p.1, e p.2))
  | .load t a => loadA C.P t g (e a)
  | .store t a x => storeA C t g (e x) (e a)
  | .nilCheck x => nilCheckA (e x)
  | .binOp op t x y _ => binA C.P op t (e x) (e y)
  | .unOp op _ x => unA op (e x)
  | .convert s d x => let r := convA C.P s d (e x); ⟨(C.P.underlying s).isSome = true ∧ r.pre, r.v, r.rd, r.wr⟩
  | .makeFunc (.func f) first cap => if first.size = 0 then ⟨True, .fn f (cap.toList.map e), [], []⟩ else ⟨cap.size = 0, .bfn f (first.toList.map e), [], []⟩
  | .makeSlice t l c => makeSliceA C (o.dst.getD 0) t g (e l) (e c)
  | .slice t x lo hi mx => sliceA C.P t (e x) (lo.map e) (hi.map e) (mx.map e)
  | .fieldAddr s x f => fieldAddrA C.P s f (e x)
  | .field s x f => fieldA C.P s f (e x)
  | .indexAddr t x i => indexAddrA C.P t (e x) (e i)
  | .index t x i => indexA C.P t (e x) (e i)
  | .extract t i => extractA i (e t)
  | .call c => match c.callee with
    | .builtin b => builtinA C (o.dst.getD 0) b c.argTypes.toList g (c.args.toList.map e)
    | _ => .bad
  | _ => .bad

end Go.Av

namespace Go.Av
set_option linter.unusedVariables false
set_option linter.unusedSimpArgs false
open Go.RowKit

section
variable {w0 w w' : World} {M M' : Mem} {φ φ' : Phi} {g : GH}

theorem Wr.lt_of_mem (h : Wr w0 M φ g w) {r j : Nat} {v : Value} (hm : M r j = some v) : r < w.heap.size := World.block_lt_of_cell? w (a := ⟨r, j, none⟩) (h.mem r j v hm)

theorem Wr.baseNow (h : Wr w0 M φ g w) : BaseW w := by
  intro p hp
  obtain ⟨t, fz, h1⟩ := h.base p hp
  refine ⟨t, fz, ?_⟩
  rw [h.below.block p.1 (Array.getElem?_eq_some_iff.1 h1).1]; exact h1

theorem Wr.none_new (h : Wr w0 M φ g w) (j : Nat) : M w.heap.size j = none := by
  cases hm : M w.heap.size j with
  | none => rfl
  | some v => have := h.lt_of_mem hm; omega

theorem heap_lt {w : World} {r : Nat} {o : Obj} (h : w.heap[r]? = some o) : r < w.heap.size := (Array.getElem?_eq_some_iff.1 h).1

theorem BlkOk.keep {B : Nat} {b : Blk} {hd : Hd} (h : BlkOk B M φ w b hd) (hM : Mem.le M M') (hφ : Phi.le φ φ')
    (hr : ∀ r, hd.blk = some r → w'.heap[r]? = w.heap[r]? ∧ ∀ j, M' r j = M r j) : BlkOk B M' φ' w' b hd := by
  cases b with
  | cells ver cs =>
    cases hd with
    | box r =>
      obtain ⟨hB, hn, arr, e, ha, hs, hx⟩ := h
      obtain ⟨h1, h2⟩ := hr r rfl
      exact ⟨hB, fun j => by rw [h2]; exact hn j, arr, e, by rw [h1]; exact ha, hs, fun j x v hj hv => (hx j x v hj hv).mono hM hφ⟩
    | row r sz cap =>
      cases r with
      | none => exact h
      | some r =>
        obtain ⟨hB, hn, arr, e, ha, hs, hl, hx⟩ := h
        obtain ⟨h1, h2⟩ := hr r rfl
        exact ⟨hB, fun j => by rw [h2]; exact hn j, arr, e, by rw [h1]; exact ha, hs, hl, fun j x v hj hv => (hx j x v hj hv).mono hM hφ⟩
    | tk r own sz len cap => cases r <;> cases own <;> exact h.elim
  | tok ver =>
    cases hd with
    | box r => exact h.elim
    | row r sz cap => cases r <;> exact h.elim
    | tk r own sz len cap =>
      cases own with
      | false => cases r <;> exact h
      | true =>
      cases r with
      | none => exact h.elim
      | some r =>
        obtain ⟨hB, hl, hz, hn, arr, e, ha, hs⟩ := h
        obtain ⟨h1, h2⟩ := hr r rfl
        exact ⟨hB, hl, hz, fun j hj => by rw [h2]; exact hn j hj, arr, e, by rw [h1]; exact ha, hs⟩

/-- A claimed block lies in the heap. -/
theorem BlkOk.lt {B : Nat} {b : Blk} {hd : Hd} (h : BlkOk B M φ w b hd) {r : Nat} (hr : hd.blk = some r) : r < w.heap.size ∧ B ≤ r := by
  cases b with
  | cells ver cs =>
    cases hd with
    | box q =>
      obtain rfl : q = r := by simpa [Hd.blk] using hr
      obtain ⟨hB, hn, arr, e, ha, _⟩ := h; exact ⟨heap_lt ha, hB⟩
    | row q sz cap =>
      obtain rfl : q = some r := by simpa [Hd.blk] using hr
      obtain ⟨hB, hn, arr, e, ha, _⟩ := h; exact ⟨heap_lt ha, hB⟩
    | tk q own sz len cap => cases q <;> cases own <;> exact h.elim
  | tok ver =>
    cases hd with
    | box q => exact h.elim
    | row q sz cap => cases q <;> exact h.elim
    | tk q own sz len cap =>
      cases own with
      | false => simp [Hd.blk] at hr
      | true =>
        obtain rfl : q = some r := by simpa [Hd.blk] using hr
        obtain ⟨hB, hl, hz, hn, arr, e, ha, hs⟩ := h; exact ⟨heap_lt ha, hB⟩

def Phi.add (φ : Phi) (id ver : Nat) (hd : Hd) : Phi := fun i v => if i = id ∧ v = ver then some hd else φ i v

theorem Wr.fresh_ver (h : Wr w0 M φ g w) {id ver : Nat} (hv : ∀ b, g id = some b → b.ver < ver) : φ id ver = Option.none := by
  cases hp : φ id ver with
  | none => rfl
  | some hd => obtain ⟨b, hb, hle⟩ := h.dom id ver hd hp; have := hv b hb; omega

theorem Phi.le_add {id ver : Nat} {hd : Hd} (h : φ id ver = Option.none) : Phi.le φ (φ.add id ver hd) := by
  intro i v x hx
  unfold Phi.add
  split
  · rename_i hc; obtain ⟨rfl, rfl⟩ := hc; rw [h] at hx; cases hx
  · exact hx

theorem Wr.renew (h : Wr w0 M φ g w) (id : Nat) (b' : Blk) (hd' : Hd) (hb : Below w0.heap.size w0 w') (hm : ∀ r j v, M' r j = some v → w'.cell? ⟨r, j, none⟩ = some v) (hM : Mem.le M M')
    (hver : ∀ b, g id = some b → b.ver < b'.ver)
    (hkeep : ∀ i b hd r, i ≠ id → g i = some b → φ i b.ver = some hd → hd.blk = some r → w'.heap[r]? = w.heap[r]? ∧ (∀ j, M' r j = M r j) ∧ hd'.blk ≠ some r)
    (hok : BlkOk w0.heap.size M' (φ.add id b'.ver hd') w' b' hd') : Wr w0 M' (φ.add id b'.ver hd') (gput g id b') w' := by
  have hnone := h.fresh_ver hver
  have hadd : ∀ i v, i ≠ id → φ.add id b'.ver hd' i v = φ i v := fun i v hi => by unfold Phi.add; rw [if_neg (fun hc => hi hc.1)]
  have hself : φ.add id b'.ver hd' id b'.ver = some hd' := by unfold Phi.add; simp
  refine ⟨hb, h.base, hm, ?_, ?_, ?_⟩
  · intro i b hi
    by_cases e : i = id
    · subst e
      simp only [gput, if_true, Option.some.injEq] at hi
      subst hi
      exact ⟨hd', hself, hok⟩
    · simp only [gput, e, if_false] at hi
      obtain ⟨hd, hp, hk⟩ := h.blk i b hi
      exact ⟨hd, by rw [hadd _ _ e]; exact hp, hk.keep hM (Phi.le_add hnone) fun r hr => ⟨(hkeep i b hd r e hi hp hr).1, (hkeep i b hd r e hi hp hr).2.1⟩⟩
  · intro i i' b b₂ hd hd₂ r h1 h2 h3 h4 h5 h6
    by_cases e : i = id
    · by_cases e' : i' = id
      · omega
      · exfalso
        subst e
        simp only [gput, if_true, Option.some.injEq] at h1
        subst h1
        rw [hself] at h3
        simp only [gput, e', if_false] at h2
        rw [hadd _ _ e'] at h4
        cases h3
        exact (hkeep i' b₂ hd₂ r e' h2 h4 h6).2.2 h5
    · by_cases e' : i' = id
      · exfalso
        subst e'
        simp only [gput, if_true, Option.some.injEq] at h2
        subst h2
        rw [hself] at h4
        simp only [gput, e, if_false] at h1
        rw [hadd _ _ e] at h3
        cases h4
        exact (hkeep i b hd r e h1 h3 h5).2.2 h6
      · simp only [gput, e, if_false] at h1
        simp only [gput, e', if_false] at h2
        rw [hadd _ _ e] at h3
        rw [hadd _ _ e'] at h4
        exact h.inj i i' b b₂ hd hd₂ r h1 h2 h3 h4 h5 h6
  · intro i v hd hp
    by_cases e : i = id
    · subst e
      refine ⟨b', by simp [gput], ?_⟩
      unfold Phi.add at hp
      split at hp
      · rename_i hc; omega
      · obtain ⟨b, hb1, hb2⟩ := h.dom i v hd hp; have := hver b hb1; omega
    · rw [hadd _ _ e] at hp
      simpa [gput, e] using h.dom i v hd hp

/-- A block written anew, under its own name and number. -/
theorem Wr.rewrite (h : Wr w0 M φ g w) (id : Nat) (b b' : Blk) (hd : Hd) (hg : g id = some b) (hφ : φ id b.ver = some hd) (hv : b'.ver = b.ver) (hb : Below w0.heap.size w0 w')
    (hm : ∀ r j v, M r j = some v → w'.cell? ⟨r, j, none⟩ = some v)
    (hkeep : ∀ i b hd' r, i ≠ id → g i = some b → φ i b.ver = some hd' → hd'.blk = some r → w'.heap[r]? = w.heap[r]?)
    (hok : BlkOk w0.heap.size M φ w' b' hd) : Wr w0 M φ (gput g id b') w' := by
  refine ⟨hb, h.base, hm, ?_, ?_, ?_⟩
  · intro i b₁ hi
    by_cases e : i = id
    · subst e
      simp only [gput, if_true, Option.some.injEq] at hi
      subst hi
      exact ⟨hd, by rw [hv]; exact hφ, hok⟩
    · simp only [gput, e, if_false] at hi
      obtain ⟨hd₁, hp, hk⟩ := h.blk i b₁ hi
      exact ⟨hd₁, hp, hk.keep (Mem.le.refl _) (Phi.le.refl _) fun r hr => ⟨hkeep i b₁ hd₁ r e hi hp hr, fun _ => rfl⟩⟩
  · intro i i' b₁ b₂ hd₁ hd₂ r h1 h2 h3 h4 h5 h6
    have key : ∀ i b₁, gput g id b' i = some b₁ → ∃ b₀, g i = some b₀ ∧ b₀.ver = b₁.ver := by
      intro i b₁ hi
      by_cases e : i = id
      · subst e
        simp only [gput, if_true, Option.some.injEq] at hi
        subst hi
        exact ⟨b, hg, hv.symm⟩
      · simp only [gput, e, if_false] at hi
        exact ⟨b₁, hi, rfl⟩
    obtain ⟨c₁, k1, k2⟩ := key i b₁ h1
    obtain ⟨c₂, k3, k4⟩ := key i' b₂ h2
    exact h.inj i i' c₁ c₂ hd₁ hd₂ r k1 k3 (by rw [k2]; exact h3) (by rw [k4]; exact h4) h5 h6
  · intro i v hd₁ hp
    obtain ⟨b₁, k1, k2⟩ := h.dom i v hd₁ hp
    by_cases e : i = id
    · subst e
      rw [hg] at k1
      cases k1
      exact ⟨b', by simp [gput], by omega⟩
    · exact ⟨b₁, by simp [gput, e, k1], k2⟩

/-- Memory that has grown, the heap of names as it was. -/
theorem Wr.grow (h : Wr w0 M φ g w) (hb : Below w0.heap.size w0 w') (hm : ∀ r j v, M' r j = some v → w'.cell? ⟨r, j, none⟩ = some v) (hM : Mem.le M M')
    (hkeep : ∀ r, r < w.heap.size → w'.heap[r]? = w.heap[r]? ∧ ∀ j, M' r j = M r j) : Wr w0 M' φ g w' :=
  ⟨hb, h.base, hm, fun id b hg => let ⟨hd, hp, hk⟩ := h.blk id b hg; ⟨hd, hp, hk.keep hM (Phi.le.refl _) fun r hr => hkeep r (hk.lt hr).1⟩, h.inj, h.dom⟩

theorem Wr.drew (h : Wr w0 M φ g w) : Wr w0 M φ g w.drew :=
  h.grow h.below.drew (fun r j v hm => h.mem r j v hm) (Mem.le.refl _) fun _ _ => ⟨rfl, fun _ => rfl⟩

def memAdd (M : Mem) (r : Nat) (f : Nat → Option Value) : Mem := fun q j => if q = r then (match f j with | some v => some v | none => M q j) else M q j

theorem memAdd_le {r : Nat} {f : Nat → Option Value} (h : ∀ j v, f j = some v → M r j = none) : Mem.le M (memAdd M r f) := by
  intro q j v hm
  unfold memAdd
  split
  · rename_i e; subst e
    cases hf : f j with
    | none => exact hm
    | some u => rw [h j u hf] at hm; cases hm
  · exact hm

theorem memAdd_other {r q : Nat} {f : Nat → Option Value} (h : q ≠ r) (j : Nat) : memAdd M r f q j = M q j := by unfold memAdd; rw [if_neg h]

theorem memAdd_same {r : Nat} {f : Nat → Option Value} {j : Nat} {v : Value} (h : f j = some v) : memAdd M r f r j = some v := by unfold memAdd; simp [h]

theorem heap_alloc_lt (w : World) (o : Obj) {r : Nat} (h : r < w.heap.size) : (w.alloc o).heap[r]? = w.heap[r]? := Below.heap_alloc w o r h
theorem heap_alloc_new (w : World) (o : Obj) : (w.alloc o).heap[w.heap.size]? = some o := by
  show (w.heap.push o)[w.heap.size]? = some o
  rw [Array.getElem?_push]; simp

theorem Wr.mem_alloc (h : Wr w0 M φ g w) (arr : Array Value) (e : TypeId) (f : Nat → Option Value) (hf : ∀ j v, f j = some v → arr[j]? = some v) :
    ∀ r j v, memAdd M w.heap.size f r j = some v → (w.alloc (.cells arr e (0, 0))).cell? ⟨r, j, none⟩ = some v := by
  intro r j v hm
  by_cases e1 : r = w.heap.size
  · subst e1
    rw [World.cell?_alloc_new]
    unfold memAdd at hm
    simp only [if_true] at hm
    cases hf2 : f j with
    | none => rw [hf2] at hm; simp only [h.none_new] at hm; cases hm
    | some u => rw [hf2] at hm; cases hm; exact hf j v hf2
  · rw [memAdd_other e1] at hm
    have := h.lt_of_mem hm
    rw [World.cell?_alloc_lt (w := w) (a := ⟨r, j, none⟩) (h := this)]
    exact h.mem r j v hm

/-- A new block whose cells nobody writes any more. -/
theorem Wr.alloc_imm (h : Wr w0 M φ g w) (arr : Array Value) (e : TypeId) : Wr w0 (memAdd M w.heap.size (arr[·]?)) φ g (w.alloc (.cells arr e (0, 0))) :=
  h.grow (h.below.alloc h.below.size _) (h.mem_alloc arr e _ fun _ _ hv => hv) (memAdd_le fun j _ _ => h.none_new j)
    fun r hr => ⟨heap_alloc_lt w _ hr, fun j => memAdd_other (by omega) j⟩

/-- A new block under a name. -/
theorem Wr.alloc_named (h : Wr w0 M φ g w) (id : Nat) (b : Blk) (hd : Hd) (arr : Array Value) (e : TypeId) (f : Nat → Option Value) (hf : ∀ j v, f j = some v → arr[j]? = some v)
    (hver : ∀ c, g id = some c → c.ver < b.ver) (hr : hd.blk = some w.heap.size)
    (hok : BlkOk w0.heap.size (memAdd M w.heap.size f) (φ.add id b.ver hd) (w.alloc (.cells arr e (0, 0))) b hd) :
    Wr w0 (memAdd M w.heap.size f) (φ.add id b.ver hd) (gput g id b) (w.alloc (.cells arr e (0, 0))) := by
  refine h.renew id b hd (h.below.alloc h.below.size _) (h.mem_alloc arr e f hf) (memAdd_le fun j _ _ => h.none_new j) hver ?_ hok
  intro i b₁ hd₁ r hi hg hp hr₁
  obtain ⟨hd₂, hp₂, hk⟩ := h.blk i b₁ hg
  rw [hp] at hp₂; cases hp₂
  have hlt := (hk.lt hr₁).1
  refine ⟨heap_alloc_lt w _ hlt, fun j => memAdd_other (by omega) j, ?_⟩
  rw [hr]; intro hc; cases hc; omega

theorem nextV_lt (g : GH) (id : Nat) : ∀ c, g id = some c → c.ver < nextV g id := by
  intro c hc; simp [nextV, hc]

end
end Go.Av

namespace Go.Av
set_option linter.unusedVariables false
set_option linter.unusedSimpArgs false
open Go.RowKit

def gputs (g : GH) : List (Nat × Blk) → GH
  | [] => g
  | (id, b) :: l => gputs (gput g id b) l

/-- What an operation's run comes to. -/
def Gives (P : Program) (s : Sem Value) (w0 : World) (M : Mem) (φ : Phi) (g : GH) (w : World) (v : AV) (wr : List (Nat × Blk)) : Prop :=
  ∃ x w' M' φ', s.run P w = .ok x w' ∧ Mem.le M M' ∧ Phi.le φ φ' ∧ (∀ id ver hd, φ' id ver = some hd → φ id ver = some hd ∨ ∃ b, (id, b) ∈ wr) ∧ Rep M' φ' v x ∧ Wr w0 M' φ' (gputs g wr) w'

section
variable {P : Program} {w0 w : World} {M : Mem} {φ : Phi} {g : GH}

theorem Gives.pure {s : Sem Value} {v : AV} {x : Value} (hw : Wr w0 M φ g w) (hs : s.run P w = .ok x w) (hr : Rep M φ v x) : Gives P s w0 M φ g w v [] :=
  ⟨x, w, M, φ, hs, Mem.le.refl _, Phi.le.refl _, fun _ _ _ h => .inl h, hr, hw⟩

theorem lit_inv {v : Value} {x : Value} (h : Rep M φ (.lit v) x) : x = v := by cases h; rfl

theorem kindT_inv (P : Program) (t : TypeId) :
    (kindT P t = 1 → P.underlying t = some .bool) ∧ (kindT P t = 3 → P.underlying t = some .string) ∧ (kindT P t = 4 → ∃ e, P.underlying t = some (.pointer e)) ∧
    (kindT P t = 5 → ∃ e, P.underlying t = some (.slice e)) ∧ (kindT P t = 6 → ∃ e, P.underlying t = some (.struct e)) ∧ (kindT P t = 2 → ∃ e, P.underlying t = some (.int e)) := by
  unfold kindT
  cases P.underlying t with
  | none => simp
  | some d => cases d <;> simp

theorem slT_inv {t e : TypeId} (h : slT P t = some e) : P.underlying t = some (.slice e) := by
  unfold slT at h
  split at h
  · rename_i e' he; cases h; exact he
  · cases h

theorem intT_inv {t : TypeId} {k : IntKind} (h : intT P t = some k) : P.underlying t = some (.int k) := by
  unfold intT at h
  split at h
  · rename_i e' he; cases h; exact he
  · cases h

theorem tyI_inv {t : TypeId} {ti : TyI} (h : tyI P t = some ti) : ∃ i d, P.info? t = some i ∧ P.underlying t = some d ∧ ti.size = i.size ∧ ti.bytes = i.bytes ∧
    ti.agg = (match d with | .struct _ | .array _ _ => true | _ => false) := by
  unfold tyI at h
  split at h
  · rename_i i d hi hd
    cases h
    exact ⟨i, d, hi, hd, rfl, rfl, rfl⟩
  · cases h

theorem run_sizeOf_ty {t : TypeId} {ti : TyI} (h : tyI P t = some ti) (w : World) : (sizeOf t).run P w = .ok ti.size w := by
  obtain ⟨i, d, hi, hd, h1, h2, h3⟩ := tyI_inv h
  simp [sizeOf, typeInfo, hi, h1]

theorem run_typeInfo_ty {t : TypeId} {ti : TyI} (h : tyI P t = some ti) (w : World) : ∃ i, (typeInfo t).run P w = .ok i w ∧ i.bytes = ti.bytes ∧ i.size = ti.size := by
  obtain ⟨i, d, hi, hd, h1, h2, h3⟩ := tyI_inv h
  exact ⟨i, by simp [typeInfo, hi], h2.symm, h1.symm⟩

theorem run_isAgg_ty {t : TypeId} {ti : TyI} (h : tyI P t = some ti) (w : World) : (isAgg t).run P w = .ok ti.agg w := by
  obtain ⟨i, d, hi, hd, h1, h2, h3⟩ := tyI_inv h
  rw [h3]
  cases d <;> simp [isAgg, underlying, hd]

theorem fldI_inv {t : TypeId} {f o sz : Nat} {ag : Bool} (h : fldI P t f = some (o, sz, ag)) : ∃ (fs : Array Field) (fd : Field) (ti : TyI), P.underlying t = some (.struct fs) ∧ fs[f]? = some fd ∧ tyI P fd.type = some ti ∧ fd.offset = o ∧ ti.size = sz ∧ ti.agg = ag := by
  unfold fldI at h
  split at h
  · rename_i fs hfs
    split at h
    · rename_i fd hfd
      split at h
      · rename_i ti hti
        cases h
        exact ⟨fs, fd, ti, hfs, hfd, hti, rfl, rfl, rfl⟩
      · cases h
    · cases h
  · cases h

theorem addr_add (r off n : Nat) : (⟨r, off, none⟩ : Addr).add n = ⟨r, off + n, none⟩ := by
  unfold Addr.add; split <;> simp_all

/-- a part of a cells' row, read as a variable -/
theorem run_loadVar_cells {t : TypeId} {ti : TyI} (h : tyI P t = some ti) (w : World) (r off : Nat) (cs : List AV) (φ' : Phi) (cv : Nat → Value) (hs : ti.agg = false → ti.size = 1) (hl : ti.size ≤ cs.length)
    (hc : ∀ j, j < ti.size → w.cell? ⟨r, off + j, none⟩ = some (cv j)) (hr : ∀ (j : Nat) (x : AV), cs[j]? = some x → j < ti.size → Rep M φ' x (cv j)) :
    ∃ x, (loadVar t ⟨r, off, none⟩).run P w = .ok x w ∧ Rep M φ' (if ti.agg then .agg (cs.take ti.size) else cs.getD 0 .any) x := by
  cases ha : ti.agg with
  | true =>
    refine ⟨.agg ((List.range ti.size).map cv).toArray, ?_, ?_⟩
    · have := run_loadCells (P := P) (w := w) ⟨r, off, none⟩ ti.size cv (fun j hj => by rw [addr_add]; exact hc j hj)
      simp only [loadVar, Sem.run_bind, run_isAgg_ty h, ha, Result.andThen_ok, if_true, run_sizeOf_ty h, this, Sem.run_pure]
    · simp only [if_true]
      refine .agg (by simp [hl]) ?_
      intro i x v h1 h2
      have hi : i < ti.size := by
        have := (List.getElem?_eq_some_iff.1 h1).1; simp at this; omega
      simp only [List.getElem?_toArray, List.getElem?_map, List.getElem?_range hi, Option.map_some, Option.some.injEq] at h2
      subst h2
      rw [List.getElem?_take_of_lt hi] at h1
      exact hr i x h1 hi
  | false =>
    have h1 := hs ha
    refine ⟨cv 0, ?_, ?_⟩
    · have := hc 0 (by omega)
      simp only [Nat.add_zero] at this
      simp [loadVar, run_isAgg_ty h, ha, this]
    · have hlt : 0 < cs.length := by omega
      simp only [Bool.false_eq_true, if_false]
      exact hr 0 _ (by simp [List.getD_eq_getElem?_getD, hlt]) (by omega)

theorem loadA_run (hw : Wr w0 M φ g w) {t : TypeId} {x : AV} {xv : Value} (ha : Rep M φ x xv) (hp : (loadA P t g x).pre) :
    ∃ y, (Instr.loadAt t xv).run P w = .ok y w ∧ Rep M φ (loadA P t g x).v y := by
  cases x <;> simp only [loadA] at hp ⊢ <;> first | exact hp.elim | skip
  · rename_i id ver off
    cases hti : tyI P t with
    | none => rw [hti] at hp; exact hp.elim
    | some ti =>
      cases hg : g id with
      | none => rw [hti, hg] at hp; exact hp.elim
      | some b =>
        cases b with
        | tok v => rw [hti, hg] at hp; exact hp.elim
        | cells v cs =>
          rw [hti, hg] at hp
          obtain ⟨rfl, hle, hne, hs⟩ := hp
          cases ha with
          | @ptr _ _ _ _ r hd h1 h2 =>
            obtain ⟨hd', hp', hok⟩ := hw.blk id _ hg
            have : hd' = hd := by rw [show (Blk.cells v cs).ver = v from rfl, h1] at hp'; cases hp'; rfl
            subst this
            have hcells : ∃ (arr : Array Value) (e : TypeId), w.heap[r]? = some (.cells arr e (0, 0)) ∧ cs.length ≤ arr.size ∧ ∀ (j : Nat) (x : AV) (v : Value), cs[j]? = some x → arr[j]? = some v → Rep M φ x v := by
              cases hd' with
              | box q =>
                obtain rfl : q = r := by simpa [Hd.blk] using h2
                obtain ⟨_, _, arr, e, h5, h6, h7⟩ := hok
                exact ⟨arr, e, h5, by omega, h7⟩
              | row q sz cap =>
                obtain rfl : q = some r := by simpa [Hd.blk] using h2
                obtain ⟨_, _, arr, e, h5, h6, h7, h8⟩ := hok
                exact ⟨arr, e, h5, h7, h8⟩
              | tk q own sz len cap => cases q <;> cases own <;> exact hok.elim
            obtain ⟨arr, e, h5, h6, h7⟩ := hcells
            have hcell : ∀ j, j < ti.size → w.cell? ⟨r, off + j, none⟩ = some (arr.getD (off + j) undef) := by
              intro j hj
              have : off + j < arr.size := by omega
              simp [World.cell?, h5, Array.getD, this]
            obtain ⟨y, hy1, hy2⟩ := run_loadVar_cells (M := M) hti w r off (cs.drop off) φ (fun j => arr.getD (off + j) undef) hs (by simp; omega) hcell (by
              intro j x hx hj
              have : off + j < arr.size := by omega
              refine h7 (off + j) x _ (by simpa using hx) (by simp [Array.getD, this]))
            refine ⟨y, ?_, ?_⟩
            · simp only [Instr.loadAt, Instr.sureAddr, Sem.run_bind, Sem.run_pure, Result.andThen_ok, hy1]
            · simpa [List.getD_eq_getElem?_getD] using hy2
  · rename_i cs
    cases hti : tyI P t with
    | none => rw [hti] at hp; exact hp.elim
    | some ti =>
      rw [hti] at hp
      obtain ⟨hle, hne, hs⟩ := hp
      cases ha with
      | @iptr _ _ r off cv hm hr =>
        have hcell : ∀ j, j < ti.size → w.cell? ⟨r, off + j, none⟩ = some (cv j) := by
          intro j hj
          have : j < cs.length := by omega
          exact hw.mem r (off + j) (cv j) (hm j cs[j] (by simp [this]))
        obtain ⟨y, hy1, hy2⟩ := run_loadVar_cells (M := M) hti w r off cs φ cv hs (by omega) hcell (fun j x hx _ => (hr j x hx).mono (Mem.le.refl _) (Phi.none_le _))
        refine ⟨y, ?_, ?_⟩
        · simp only [Instr.loadAt, Instr.sureAddr, Sem.run_bind, Sem.run_pure, Result.andThen_ok, hy1]
        · exact hy2

theorem loadA_wr (P : Program) (t : TypeId) (g : GH) (x : AV) : (loadA P t g x).wr = [] := by
  unfold loadA; repeat' (first | split | rfl)

theorem loadA_gives (hw : Wr w0 M φ g w) {t : TypeId} {x : AV} {xv : Value} (ha : Rep M φ x xv) (hp : (loadA P t g x).pre) :
    Gives P (Instr.loadAt t xv) w0 M φ g w (loadA P t g x).v (loadA P t g x).wr := by
  obtain ⟨y, h1, h2⟩ := loadA_run hw ha hp
  rw [loadA_wr]
  exact Gives.pure hw h1 h2

end
end Go.Av

namespace Go.Av
set_option linter.unusedVariables false
set_option linter.unusedSimpArgs false
open Go.RowKit

section
variable {P : Program} {w0 w : World} {M : Mem} {φ : Phi} {g : GH}

theorem fieldAddrA_gives (hw : Wr w0 M φ g w) {s : TypeId} {f : Nat} {x : AV} {xv : Value} (ha : Rep M φ x xv) (hp : (fieldAddrA P s f x).pre) :
    Gives P (Instr.fieldAt s xv f) w0 M φ g w (fieldAddrA P s f x).v (fieldAddrA P s f x).wr := by
  have key : ∀ {o sz : Nat} {ag : Bool} (r off : Nat), fldI P s f = some (o, sz, ag) → sz ≠ 0 → (Instr.fieldAt s (.pointer (some ⟨r, off, none⟩)) f).run P w = .ok (.pointer (some ⟨r, off + o, none⟩)) w := by
    intro o sz ag r off hf hne
    obtain ⟨fs, fd, ti, h1, h2, h3, h4, h5, h6⟩ := fldI_inv hf
    simp [Instr.fieldAt, run_underlying h1, h2, Instr.sureAddr, fieldPlace, run_sizeOf_ty h3, h5, hne, addr_add, h4]
  cases x <;> simp only [fieldAddrA] at hp ⊢ <;> first | exact hp.elim | skip
  · cases hf : fldI P s f with
    | none => rw [hf] at hp; exact hp.elim
    | some q =>
      obtain ⟨o, sz, ag⟩ := q
      rw [hf] at hp
      cases ha with
      | ptr h1 h2 => exact Gives.pure hw (key _ _ hf hp) (.ptr h1 h2)
  · cases hf : fldI P s f with
    | none => rw [hf] at hp; exact hp.elim
    | some q =>
      obtain ⟨o, sz, ag⟩ := q
      rw [hf] at hp
      cases ha with
      | @iptr _ _ r off cv hm hr =>
        refine Gives.pure hw (key _ _ hf hp) (.iptr (fun c => cv (o + c)) ?_ ?_)
        · intro c x hx
          have := hm (o + c) x (by simpa using hx)
          rw [← Nat.add_assoc] at this; exact this
        · intro c x hx
          exact hr (o + c) x (by simpa using hx)

theorem fieldA_gives (hw : Wr w0 M φ g w) {s : TypeId} {f : Nat} {x : AV} {xv : Value} (ha : Rep M φ x xv) (hp : (fieldA P s f x).pre) :
    Gives P (Instr.field s xv f) w0 M φ g w (fieldA P s f x).v (fieldA P s f x).wr := by
  cases x <;> simp only [fieldA] at hp ⊢ <;> first | exact hp.elim | skip
  rename_i cs
  cases hf : fldI P s f with
  | none => rw [hf] at hp; exact hp.elim
  | some q =>
    obtain ⟨o, sz, ag⟩ := q
    rw [hf] at hp
    obtain ⟨hle, hne⟩ := hp
    obtain ⟨fs, fd, ti, h1, h2, h3, h4, h5, h6⟩ := fldI_inv hf
    cases ha with
    | @agg _ _ vs hl hr =>
      cases hag : ag with
      | true =>
        refine Gives.pure hw (x := .agg (vs.extract o (o + sz))) ?_ ?_
        · simp [Instr.field, run_underlying h1, h2, asAgg, part, run_isAgg_ty h3, h6, hag, run_sizeOf_ty h3, h5, h4]
        · simp only [if_true]
          refine .agg (by simp; omega) ?_
          intro i x v k1 k2
          have hi : i < sz := by have := (List.getElem?_eq_some_iff.1 k1).1; simp at this; omega
          rw [List.getElem?_take_of_lt hi, List.getElem?_drop] at k1
          rw [Array.getElem?_extract] at k2
          split at k2
          · exact hr (o + i) x v k1 k2
          · cases k2
      | false =>
        have hlt : o < vs.size := by omega
        refine Gives.pure hw (x := vs[o]) ?_ ?_
        · simp [Instr.field, run_underlying h1, h2, asAgg, part, run_isAgg_ty h3, h6, hag, h4, hlt]
        · simp only [Bool.false_eq_true, if_false]
          exact hr o _ _ (by simp [List.getD_eq_getElem?_getD, show o < cs.length by omega]) (by simp [hlt])

theorem cells_getD {l : List AV} {i : Nat} (h : i < l.length) : l[i]? = some (l.getD i .any) := by simp [List.getD_eq_getElem?_getD, h]

theorem indexAddrA_gives (hw : Wr w0 M φ g w) {t : TypeId} {x y : AV} {xv yv : Value} (ha : Rep M φ x xv) (hb : Rep M φ y yv) (hp : (indexAddrA P t x y).pre) :
    Gives P (Instr.indexAt t xv yv) w0 M φ g w (indexAddrA P t x y).v (indexAddrA P t x y).wr := by
  unfold indexAddrA at hp ⊢
  split at hp
  · rename_i nl l tok k i
    cases hb
    cases hs : slT P t with
    | none => rw [hs] at hp; exact hp.elim
    | some e =>
      cases hti : tyI P e with
      | none => rw [hs] at hp; simp only [hti] at hp; exact hp.elim
      | some ti =>
        rw [hs] at hp
        simp only [hti] at hp ⊢
        obtain ⟨h0, h1, h2⟩ := hp
        have hu := slT_inv hs
        have hi : i.toNat < l.length := by omega
        cases ha with
        | @isl _ _ _ _ a len cap sz cv hlen hcap hnl hnil hsz hsp hm hr hfull htok =>
          cases a with
          | none => have := hnil rfl; omega
          | some a =>
            have hget := cells_getD hi
            have hszi : ti.size = sz := by rw [← h2]; exact hsz _ (List.mem_of_getElem? hget)
            have hsp' := hsp a rfl (by intro e; subst e; simp at hi)
            obtain ⟨r, off, sp⟩ := a
            simp only at hsp'
            subst hsp'
            refine Gives.pure hw (x := .pointer (some ⟨r, off + i.toNat * sz, none⟩)) ?_ (.iptr (fun c => cv i.toNat c) ?_ ?_)
            · have : 0 ≤ i ∧ i < (len : Int) := by omega
              simp [Instr.indexAt, asIntOf, run_underlying hu, this, run_sizeOf_ty hti, addr_add, hszi]
            · intro c x hx
              exact hm _ rfl i.toNat _ c x hget hx
            · intro c x hx
              exact hr i.toNat _ c x hget hx
  · rename_i id ver sz off len k i
    cases hb
    cases hs : slT P t with
    | none => rw [hs] at hp; exact hp.elim
    | some e =>
      cases hti : tyI P e with
      | none => rw [hs] at hp; simp only [hti] at hp; exact hp.elim
      | some ti =>
        rw [hs] at hp
        simp only [hti] at hp ⊢
        obtain ⟨h0, h1, h2⟩ := hp
        have hu := slT_inv hs
        cases ha with
        | @osl _ _ _ _ _ _ a cap C r h hC hcap hnone hz ha =>
          cases r with
          | none =>
            have := hz rfl
            omega
          | some q =>
            have ha' := ha q rfl (by omega)
            subst ha'
            refine Gives.pure hw (x := .pointer (some ⟨q, off * sz + i.toNat * sz, none⟩)) ?_ (.ptr h rfl)
            have : 0 ≤ i ∧ i < (len : Int) := by omega
            simp [Instr.indexAt, asIntOf, run_underlying hu, this, run_sizeOf_ty hti, addr_add, h2]
  · exact hp.elim

theorem indexA_gives (hw : Wr w0 M φ g w) {t : TypeId} {x y : AV} {xv yv : Value} (ha : Rep M φ x xv) (hb : Rep M φ y yv) (hp : (indexA P t x y).pre) :
    Gives P (Instr.index t xv yv) w0 M φ g w (indexA P t x y).v (indexA P t x y).wr := by
  unfold indexA at hp ⊢
  split at hp
  · rename_i s k i
    cases ha; cases hb
    obtain ⟨h1, h2, h3⟩ := hp
    have hu := (kindT_inv P t).2.1 h1
    refine Gives.pure hw (x := .int .u8 (byteAt s i.toNat)) ?_ (.lit _)
    have hlt : i.toNat < s.size := by omega
    have hd : s.data.toList.getD i.toNat 0 = s[i.toNat] := by
      rw [List.getD_eq_getElem?_getD, List.getElem?_eq_getElem (by simpa using hlt)]; rfl
    simp only [Instr.index, asIntOf, Sem.run_bind, Sem.run_pure, Result.andThen_ok, run_underlying hu, h2, if_true, ByteArray.getElem?_lt' s _ hlt, byteAt, hd]
  · exact hp.elim

theorem pickA_gives (hw : Wr w0 M φ g w) {c x y : AV} {cv xv yv : Value} (hc : Rep M φ c cv) (ha : Rep M φ x xv) (hb : Rep M φ y yv) (hp : (pickA c x y).pre) :
    Gives P (do pure (if ← asBool cv then xv else yv)) w0 M φ g w (pickA c x y).v (pickA c x y).wr := by
  unfold pickA at hp ⊢
  split at hp
  · rename_i t
    cases hc
    refine Gives.pure hw (x := if t then xv else yv) (by simp [asBool]) ?_
    cases t <;> simp [ha, hb]
  · exact hp.elim

theorem extractA_gives (hw : Wr w0 M φ g w) {i : Nat} {x : AV} {xv : Value} (ha : Rep M φ x xv) (hp : (extractA i x).pre) :
    Gives P (Instr.extract xv i) w0 M φ g w (extractA i x).v (extractA i x).wr := by
  unfold extractA at hp ⊢
  split at hp
  · rename_i vs
    cases ha with
    | @tup _ _ us hl hr =>
      have hlt : i < us.size := by have : i < vs.length := hp; omega
      exact Gives.pure hw (x := us[i]) (by simp [Instr.extract, hlt]) (hr i _ _ (cells_getD hp) (by simp [hlt]))
  · exact hp.elim

theorem unA_gives (hw : Wr w0 M φ g w) {op : UnOp} {x : AV} {xv : Value} (ha : Rep M φ x xv) (hp : (unA op x).pre) :
    Gives P (Op.unary op xv) w0 M φ g w (unA op x).v (unA op x).wr := by
  unfold unA at hp ⊢
  split at hp
  · cases ha
    split at hp
    · exact Gives.pure hw rfl (.lit _)
    · exact hp.elim
  · cases ha
    split at hp
    · exact Gives.pure hw rfl (.lit _)
    · exact Gives.pure hw rfl (.lit _)
    · exact hp.elim
  · exact hp.elim

theorem binI_gives (hw : Wr w0 M φ g w) {op : BinOp} {k : IntKind} {a b : Int} (t : TypeId) (hsh : isSh op = false) (hp : (binI op k a b).pre) :
    Gives P (binOp op t (.int k a) (.int k b)) w0 M φ g w (binI op k a b).v (binI op k a b).wr := by
  cases op <;> simp only [isSh, Bool.true_eq_false] at hsh <;> simp only [binI] at hp ⊢ <;> first
    | exact hp.elim
    | (refine Gives.pure hw ?_ (.lit _); simp [binOp, Op.intArith, Op.intBits, Op.intCmp, Op.intDiv, hp]; done)
    | (refine Gives.pure hw ?_ (.lit _); simp [binOp, Op.intArith, Op.intBits, Op.intCmp, Op.intDiv, hp]; by_cases h : a = b <;> simp [h])

theorem binSh_gives (hw : Wr w0 M φ g w) {op : BinOp} {k k' : IntKind} {a b : Int} (t : TypeId) (hp : (binSh op k a b).pre) :
    Gives P (binOp op t (.int k a) (.int k' b)) w0 M φ g w (binSh op k a b).v (binSh op k a b).wr := by
  cases op <;> simp only [binSh] at hp ⊢ <;> first
    | exact hp.elim
    | skip
  all_goals
    have hp' : ¬ b < 0 := by omega
    refine Gives.pure hw ?_ (.lit _)
    simp only [binOp, Op.shift, hp', if_false]
    first | rfl | skip
  all_goals
    rw [Int.fdiv_eq_ediv_of_nonneg]
    · rfl
    · exact Int.le_of_lt (Int.pow_pos (by omega))

theorem binS_gives (hw : Wr w0 M φ g w) {op : BinOp} {a b : ByteArray} (t : TypeId) (hp : (binS op a b).pre) :
    Gives P (binOp op t (.string a) (.string b)) w0 M φ g w (binS op a b).v (binS op a b).wr := by
  cases op <;> simp only [binS] at hp ⊢ <;> first
    | exact hp.elim
    | skip
  all_goals
    refine Gives.pure hw ?_ (.lit _)
    simp only [binOp, Op.stringOp, ByteArray.toList_eq]
    first | rfl | skip
  rw [if_neg (by simp [IntKind.max, IntKind.bits, IntKind.signed]; omega)]
  rfl

end
end Go.Av

namespace Go.Av
set_option linter.unusedVariables false
set_option linter.unusedSimpArgs false
open Go.RowKit

section
variable {P : Program} {w0 w : World} {M : Mem} {φ : Phi} {g : GH}

theorem Gives.congr {s s' : Sem Value} {v : AV} {wr : List (Nat × Blk)} (h : Gives P s w0 M φ g w v wr) (e : s'.run P w = s.run P w) : Gives P s' w0 M φ g w v wr := by
  obtain ⟨x, w', M', φ', h1, h2⟩ := h
  exact ⟨x, w', M', φ', by rw [e]; exact h1, h2⟩

theorem lenA_gives (hw : Wr w0 M φ g w) {t ty : TypeId} {x : AV} {xv : Value} (ha : Rep M φ x xv) (hp : (lenA P t x).pre) :
    Gives P (Builtin.len_ #[t] ty #[xv]) w0 M φ g w (lenA P t x).v (lenA P t x).wr := by
  unfold lenA at hp ⊢
  split at hp
  · rename_i nl l tok
    obtain ⟨e, hu⟩ := (kindT_inv P t).2.2.2.1 hp
    cases ha with
    | @isl _ _ _ _ a len cap sz cv hlen hcap hnl hnil hsz hsp hm hr hfull htok =>
      refine Gives.pure hw (x := .int .i64 (l.length : Int)) ?_ (.lit _)
      simp [Builtin.len_, run_underlying hu, goInt, hlen]
  · rename_i id ver sz off len
    obtain ⟨e, hu⟩ := (kindT_inv P t).2.2.2.1 hp
    cases ha with
    | osl h hC hcap hnone hz ha =>
      refine Gives.pure hw (x := .int .i64 (len : Int)) ?_ (.lit _)
      simp [Builtin.len_, run_underlying hu, goInt]
  · rename_i s
    have hu := (kindT_inv P t).2.1 hp
    cases ha
    refine Gives.pure hw (x := .int .i64 (s.size : Int)) ?_ (.lit _)
    simp [Builtin.len_, run_underlying hu, goInt]
  · exact hp.elim

theorem eqGuard_run (op : BinOp) (t : TypeId) (x y : Operand) {a b : Value} (h : (match a, b with | .nilIface, .nilIface => false | .agg _, .agg _ => false | _, _ => true) = true) (w : World) :
    (eqGuard op t x y a b).run P w = .ok () w := by
  unfold eqGuard
  cases a <;> cases b <;> first | (simp at h; done) | (simp; done)

theorem nilB_gives (hw : Wr w0 M φ g w) {op : BinOp} {b : Bool} {s : Sem Value} (h : op = .eql → s.run P w = .ok (.bool b) w) (h' : op = .neq → s.run P w = .ok (.bool (!b)) w) (hp : (nilB op b).pre) :
    Gives P s w0 M φ g w (nilB op b).v [] := by
  cases op <;> simp only [nilB] at hp ⊢ <;> first | exact hp.elim | skip
  · exact Gives.pure hw (h rfl) (.lit _)
  · exact Gives.pure hw (h' rfl) (.lit _)

theorem run_equalIn_ptr_nil (d : Nat) {t e : TypeId} (hu : P.underlying t = some (.pointer e)) (p : Option Addr) (w : World) : (Op.equalIn (d + 1) t (.pointer p) (.pointer none)).run P w = .ok p.isNone w := by
  cases p <;> simp [Op.equalIn, run_underlying hu]

theorem run_equal_ptr_nil {t e : TypeId} (hu : P.underlying t = some (.pointer e)) (p : Option Addr) (w : World) : (Op.equal t (.pointer p) (.pointer none)).run P w = .ok p.isNone w :=
  run_equalIn_ptr_nil 9999 hu p w

theorem run_equalIn_sl_nil (d : Nat) {t e : TypeId} (hu : P.underlying t = some (.slice e)) (p : Option Addr) (l c l' c' : Nat) (w : World) :
    (Op.equalIn (d + 1) t (.slice p l c) (.slice none l' c')).run P w = .ok p.isNone w := by
  cases p <;> simp [Op.equalIn, run_underlying hu]

theorem run_equal_sl_nil {t e : TypeId} (hu : P.underlying t = some (.slice e)) (p : Option Addr) (l c l' c' : Nat) (w : World) :
    (Op.equal t (.slice p l c) (.slice none l' c')).run P w = .ok p.isNone w := run_equalIn_sl_nil 9999 hu p l c l' c' w

theorem nilB_ptr (hw : Wr w0 M φ g w) {op : BinOp} {t e : TypeId} (hu : P.underlying t = some (.pointer e)) (p : Option Addr) (hp : (nilB op p.isNone).pre) :
    Gives P (binOp op t (.pointer p) (.pointer none)) w0 M φ g w (nilB op p.isNone).v [] := by
  refine nilB_gives hw (fun e => ?_) (fun e => ?_) hp <;> subst e
  · show (do pure (Value.bool (← Op.equal t (.pointer p) (.pointer none))) : Sem Value).run P w = _
    simp [run_equal_ptr_nil hu p w]
  · show (do pure (Value.bool (!(← Op.equal t (.pointer p) (.pointer none)))) : Sem Value).run P w = _
    simp [run_equal_ptr_nil hu p w]

theorem nilB_sl (hw : Wr w0 M φ g w) {op : BinOp} {t e : TypeId} (hu : P.underlying t = some (.slice e)) (p : Option Addr) (l c l' c' : Nat) (hp : (nilB op p.isNone).pre) :
    Gives P (binOp op t (.slice p l c) (.slice none l' c')) w0 M φ g w (nilB op p.isNone).v [] := by
  refine nilB_gives hw (fun e => ?_) (fun e => ?_) hp <;> subst e
  · show (do pure (Value.bool (← Op.equal t (.slice p l c) (.slice none l' c'))) : Sem Value).run P w = _
    simp [run_equal_sl_nil hu p l c l' c' w]
  · show (do pure (Value.bool (!(← Op.equal t (.slice p l c) (.slice none l' c')))) : Sem Value).run P w = _
    simp [run_equal_sl_nil hu p l c l' c' w]

theorem nilB_wr (op : BinOp) (b : Bool) : (nilB op b).wr = [] := by cases op <;> rfl
theorem binI_wr (op : BinOp) (k : IntKind) (a b : Int) : (binI op k a b).wr = [] := by cases op <;> rfl

theorem eqT_inv {t : TypeId} {fs : List (Nat × Nat)} (h : eqT P t = some fs) : P.underlying t = some (.struct (P.fieldsOf t)) ∧ P.stoodInHeld t = false ∧ P.eqGuardType P.depth t = false ∧
    (∀ f, f ∈ (P.fieldsOf t).toList → f.name ≠ "_" ∧ (kindT P f.type = 1 ∨ kindT P f.type = 2 ∨ kindT P f.type = 3)) ∧ fs = (P.fieldsOf t).toList.map fun f => (f.offset, kindT P f.type) := by
  unfold eqT at h
  split at h
  · rename_i fa hfa
    have hf : P.fieldsOf t = fa := by unfold Program.fieldsOf; rw [hfa]
    split at h
    · rename_i hc
      cases h
      simp only [Bool.and_eq_true, List.all_eq_true, Bool.not_eq_true', bne_iff_ne, ne_eq, Bool.or_eq_true, beq_iff_eq] at hc
      rw [hf]
      refine ⟨hfa, hc.1.2, hc.2, fun f hm => ⟨(hc.1.1 f hm).1, ?_⟩, rfl⟩
      rcases (hc.1.1 f hm).2 with (h | h) | h
      · exact .inl h
      · exact .inr (.inl h)
      · exact .inr (.inr h)
    · cases h
  · cases h

theorem run_part_flat {t : TypeId} {xs : Array Value} {o : Nat} {v : Value} (hk : kindT P t = 1 ∨ kindT P t = 2 ∨ kindT P t = 3) (hv : xs[o]? = some v) (w : World) : (part t xs o).run P w = .ok v w := by
  have ha : (isAgg t).run P w = .ok false w := by
    rcases hk with h | h | h
    · simp [isAgg, underlying, (kindT_inv P t).1 h]
    · obtain ⟨k, hk⟩ := (kindT_inv P t).2.2.2.2.2 h
      simp [isAgg, underlying, hk]
    · simp [isAgg, underlying, (kindT_inv P t).2.1 h]
  simp [part, ha, hv]

theorem run_eqFields_flat {xs ys : Array Value} {cs ds : List AV} (hc : cs.length = xs.size) (hd : ds.length = ys.size) (hx : ∀ (i : Nat) (x : AV) (v : Value), cs[i]? = some x → xs[i]? = some v → Rep M φ x v)
    (hy : ∀ (i : Nat) (x : AV) (v : Value), ds[i]? = some x → ys[i]? = some v → Rep M φ x v) (d : Nat) (w : World) : ∀ (fs : List Field),
    (∀ f, f ∈ fs → f.name ≠ "_" ∧ (kindT P f.type = 1 ∨ kindT P f.type = 2 ∨ kindT P f.type = 3)) → eqP cs ds (fs.map fun f => (f.offset, kindT P f.type)) → (Op.eqFields (d + 1) xs ys fs).run P w = .ok (eqB cs ds (fs.map fun f => (f.offset, kindT P f.type))) w
  | [], _, _ => rfl
  | f :: fs, hf, hp => by
    obtain ⟨hn, hk⟩ := hf f (by simp)
    obtain ⟨⟨h1, h2, h3⟩, h4⟩ := hp
    have ih := run_eqFields_flat hc hd hx hy d w fs (fun g hg => hf g (by simp [hg])) h4
    have e1 : xs[f.offset]? = some (xs[f.offset]'(by omega)) := by simp [show f.offset < xs.size by omega]
    have e2 : ys[f.offset]? = some (ys[f.offset]'(by omega)) := by simp [show f.offset < ys.size by omega]
    have r1 := hx f.offset _ _ (cells_getD h1) e1
    have r2 := hy f.offset _ _ (cells_getD h2) e2
    have p1 := run_part_flat (P := P) hk e1 w
    have p2 := run_part_flat (P := P) hk e2 w
    generalize xs[f.offset]'(by omega) = xv at *
    generalize ys[f.offset]'(by omega) = yv at *
    have key : (Op.equalIn (d + 1) f.type xv yv).run P w = .ok (eqB1 (cs.getD f.offset .any) (ds.getD f.offset .any)) w := by
      generalize cs.getD f.offset .any = a at *
      generalize ds.getD f.offset .any = b at *
      unfold eqP1 at h3
      split at h3
      · obtain ⟨k1, rfl⟩ := h3
        obtain ⟨k, hku⟩ := (kindT_inv P f.type).2.2.2.2.2 k1
        rw [lit_inv r1, lit_inv r2, run_equalIn_int w d f.type _ k _ _ hku]; rfl
      · rw [lit_inv r1, lit_inv r2, run_equalIn_string w d f.type _ _ ((kindT_inv P f.type).2.1 h3)]
        simp only [eqB1, ByteArray.toList_eq]
      · rw [lit_inv r1, lit_inv r2, run_equalIn_bool' w d f.type _ _ ((kindT_inv P f.type).1 h3)]; rfl
      · exact h3.elim
    simp only [Op.eqFields, List.map_cons, eqB]
    rw [if_pos hn]
    simp only [Sem.run_bind, p1, p2, key, Result.andThen_ok]
    cases eqB1 (cs.getD f.offset .any) (ds.getD f.offset .any)
    · simp
    · simpa using ih

theorem binA_gives (hw : Wr w0 M φ g w) {op : BinOp} {t : TypeId} {x y : AV} {xv yv : Value} (ha : Rep M φ x xv) (hb : Rep M φ y yv) (ox oy : Operand) (hp : (binA P op t x y).pre) :
    Gives P (do eqGuard op t ox oy xv yv; binOp op t xv yv) w0 M φ g w (binA P op t x y).v (binA P op t x y).wr := by
  unfold binA at hp ⊢
  split at hp
  · rename_i cs ds
    cases he : eqT P t with
    | none => rw [he] at hp; exact hp.elim
    | some fs =>
      rw [he] at hp
      obtain ⟨hp1, hp2⟩ := hp
      obtain ⟨hu, hs, hg, hf, rfl⟩ := eqT_inv he
      cases ha with
      | @agg _ _ xs hl hr =>
        cases hb with
        | @agg _ _ ys hl' hr' =>
          have hrun := run_eqFields_flat (P := P) hl hl' hr hr' 9998 w _ hf hp1
          have heq := run_equalIn_agg (P := P) w 9999 t xs ys hu hs
          rw [hrun] at heq
          refine Gives.congr (s := binOp op t (.agg xs) (.agg ys)) ?_ (by simp [run_eqGuard_agg w op t ox oy xs ys hg])
          refine nilB_gives hw (b := eqB cs ds _) (fun e => by subst e; rw [run_eql_struct, heq]; rfl) (fun e => by subst e; rw [run_neq_struct, heq]; rfl) ?_
          cases op <;> first | exact hp2 | trivial
  · rename_i k a k' b
    cases ha; cases hb
    refine Gives.congr (s := binOp op t (.int k a) (.int k' b)) ?_ (by simp [eqGuard_run op t ox oy (a := .int k a) (b := .int k' b) rfl w])
    cases hsh : isSh op with
    | true =>
      simp only [hsh, if_true] at hp ⊢
      exact binSh_gives hw t hp
    | false =>
      simp only [hsh, Bool.false_eq_true, if_false] at hp ⊢
      by_cases hk : k = k'
      · subst hk
        simp only [if_true] at hp ⊢
        exact binI_gives hw t hsh hp
      · simp only [hk, if_false] at hp
        exact hp.elim
  · rename_i a b
    cases ha; cases hb
    exact Gives.congr (s := binOp op t (.string a) (.string b)) (binS_gives hw t hp) (by simp [eqGuard_run op t ox oy (a := .string a) (b := .string b) rfl w])
  · rename_i a b
    cases ha; cases hb
    obtain ⟨h1, h2⟩ := hp
    have hu := (kindT_inv P t).1 h1
    refine Gives.congr (s := binOp op t (.bool a) (.bool b)) ?_ (by simp [eqGuard_run op t ox oy (a := .bool a) (b := .bool b) rfl w])
    exact nilB_gives hw (fun e => by subst e; exact run_eql_bool w t a b hu) (fun e => by subst e; exact run_neq_bool w t a b hu) h2
  · cases ha; cases hb
    obtain ⟨h1, h2⟩ := hp
    obtain ⟨e, hu⟩ := (kindT_inv P t).2.2.1 h1
    refine Gives.congr (s := binOp op t (.pointer none) (.pointer none)) ?_ (by simp [eqGuard_run op t ox oy (a := .pointer none) (b := .pointer none) rfl w])
    exact nilB_ptr hw hu none h2
  · rename_i id ver off
    cases hb
    obtain ⟨h1, h2⟩ := hp
    obtain ⟨e, hu⟩ := (kindT_inv P t).2.2.1 h1
    cases ha with
    | @ptr _ _ _ _ r hd h3 h4 =>
      refine Gives.congr (s := binOp op t (.pointer (some ⟨r, off, none⟩)) (.pointer none)) ?_ (by simp [eqGuard_run op t ox oy (a := .pointer (some ⟨r, off, none⟩)) (b := .pointer none) rfl w])
      exact nilB_ptr hw hu (some ⟨r, off, none⟩) h2
  · cases hb
    obtain ⟨h1, h2⟩ := hp
    obtain ⟨e, hu⟩ := (kindT_inv P t).2.2.1 h1
    cases ha with
    | @iptr _ cs r off cv h3 h4 =>
      refine Gives.congr (s := binOp op t (.pointer (some ⟨r, off, none⟩)) (.pointer none)) ?_ (by simp [eqGuard_run op t ox oy (a := .pointer (some ⟨r, off, none⟩)) (b := .pointer none) rfl w])
      exact nilB_ptr hw hu (some ⟨r, off, none⟩) h2
  · rename_i b l tok
    obtain ⟨h1, h2⟩ := hp
    obtain ⟨e, hu⟩ := (kindT_inv P t).2.2.2.1 h1
    cases hb with
    | @isl _ _ _ _ a2 len2 cap2 sz2 cv2 hlen2 hcap2 hnl2 hnil2 hsz2 hsp2 hm2 hr2 hfull2 htok2 =>
      have h3 := hnl2 true rfl
      cases a2 with
      | some a => simp at h3
      | none =>
        cases ha with
        | @isl _ _ _ _ a len cap sz cv hlen hcap hnl hnil hsz hsp hm hr hfull htok =>
          have h4 := hnl b rfl
          refine Gives.congr (s := binOp op t (.slice a len cap) (.slice none len2 cap2)) ?_ (by simp [eqGuard_run op t ox oy (a := .slice a len cap) (b := .slice none len2 cap2) rfl w])
          subst h4
          exact nilB_sl hw hu a len cap len2 cap2 h2
  · exact hp.elim

theorem mxA_gives (hw : Wr w0 M φ g w) {big : Bool} {xs : List AV} {vs : Array Value} (hl : xs.length = vs.size) (hr : ∀ (i : Nat) (x : AV) (v : Value), xs[i]? = some x → vs[i]? = some v → Rep M φ x v)
    (ts : Array TypeId) (ty : TypeId) (hp : (mxA big xs).pre) : Gives P (if big then Builtin.max_ ts ty vs else Builtin.min_ ts ty vs) w0 M φ g w (mxA big xs).v (mxA big xs).wr := by
  unfold mxA at hp ⊢
  split at hp
  · rename_i k a k' b
    obtain ⟨vs⟩ := vs
    match vs, hl with
    | [v1, v2], _ =>
      have h1 := hr 0 _ v1 rfl rfl
      have h2 := hr 1 _ v2 rfl rfl
      cases h1; cases h2
      cases big
      · exact Gives.pure hw (run_min_int2 w ts ty k k' a b) (.lit _)
      · exact Gives.pure hw (run_max_int2 w ts ty k k' a b) (.lit _)
  · exact hp.elim

theorem cells_one {x : AV} (h : ∀ cs, x ≠ .agg cs) : x.cells = [x] := by cases x <;> first | rfl | exact absurd rfl (h _)

theorem convA_gives (hw : Wr w0 M φ g w) {src dst : TypeId} {x : AV} {xv : Value} (hsrc : (P.underlying src).isSome = true) (ha : Rep M φ x xv) (hp : (convA P src dst x).pre) :
    Gives P (convert src dst xv) w0 M φ g w (convA P src dst x).v (convA P src dst x).wr := by
  obtain ⟨d, hsrc⟩ := Option.isSome_iff_exists.1 hsrc
  unfold convA at hp ⊢
  split at hp
  · rename_i k n
    cases ha
    cases hi : intT P dst with
    | none => simp only [hi] at hp; exact hp.elim
    | some k' =>
      simp only [hi] at hp ⊢
      exact Gives.pure hw (by simp [convert, run_underlying hsrc, run_underlying (intT_inv hi), Conv.intToInt]) (.lit _)
  · rename_i s
    cases ha
    by_cases hk : kindT P dst = 3
    · simp only [hk, if_true] at hp ⊢
      exact Gives.pure hw (by simp [convert, run_underlying hsrc, run_underlying ((kindT_inv P dst).2.1 hk)]) (.lit _)
    · simp only [hk, if_false] at hp ⊢
      cases he : slT P dst with
      | none => simp only [he] at hp; exact hp.elim
      | some e =>
        simp only [he] at hp ⊢
        have hu := slT_inv he
        have hue := intT_inv hp
        have hrun := Lib.run_convert_string_bytes (P := P) w src dst e s hsrc hu hue
        have hcap : s.size ≤ grownCap w s.size 0 e := by
          unfold grownCap; simp [Question.cut]
        have hW : Wr w0 (memAdd M w.heap.size (fun j => if j < s.size then some (.int .u8 (s.data.toList.getD j 0).toNat) else none)) φ g (Lib.bytesWorld w e s) := by
          refine hw.grow ?_ ?_ (memAdd_le fun j _ _ => hw.none_new j) ?_
          · have hsz := hw.below.size
            refine hw.below.trans ⟨by rfl, by rfl, by rfl, by rw [Lib.bytesWorld_size]; omega, fun k hk => Lib.bytesWorld_at_old w e s k (by omega)⟩
          · intro r j v hm
            by_cases e1 : r = w.heap.size
            · subst e1
              unfold memAdd at hm
              simp only [if_true] at hm
              by_cases hj : j < s.size
              · simp only [hj, if_true] at hm
                rw [Lib.bytesWorld_cell w e s j hj]; exact hm
              · simp only [hj, if_false, hw.none_new] at hm; cases hm
            · rw [memAdd_other e1] at hm
              rw [Lib.bytesWorld_old w e s _ (hw.lt_of_mem hm)]
              exact hw.mem r j v hm
          · intro r hr
            exact ⟨Lib.bytesWorld_at_old w e s r hr, fun j => memAdd_other (by omega) j⟩
        refine ⟨_, _, _, φ, hrun, memAdd_le fun j _ _ => hw.none_new j, Phi.le.refl _, fun _ _ _ h => .inl h, ?_, hW⟩
        have hlen : (encB s).length = s.size := by simp [encB]
        have hget : ∀ (i : Nat) (y : AV), (encB s)[i]? = some y → i < s.size ∧ y = .lit (.int .u8 (s.data.toList.getD i 0).toNat) := by
          intro i y hy
          have hi : i < s.size := by rw [← hlen]; exact (List.getElem?_eq_some_iff.1 hy).1
          refine ⟨hi, ?_⟩
          simp only [encB, List.getElem?_map] at hy
          have hl : i < s.data.toList.length := by simpa using hi
          rw [List.getElem?_eq_getElem hl] at hy
          simp only [Option.map_some, Option.some.injEq] at hy
          rw [← hy, List.getD_eq_getElem?_getD, List.getElem?_eq_getElem hl]
          rfl
        refine .isl 1 (fun i _ => .int .u8 (s.data.toList.getD i 0).toNat) hlen.symm hcap (by simp) (by simp) ?_ (by intro r hr _; cases hr; rfl) ?_ ?_ (by simp) (by simp)
        · intro y hy
          obtain ⟨i, hi, rfl⟩ := List.getElem_of_mem hy
          obtain ⟨_, h2⟩ := hget i _ (List.getElem?_eq_getElem hi)
          rw [h2]; rfl
        · intro r hr i y c z h1 h2
          cases hr
          obtain ⟨h3, rfl⟩ := hget i y h1
          have hc : c = 0 := by
            cases c with
            | zero => rfl
            | succ c => simp [AV.cells] at h2
          subst hc
          refine memAdd_same ?_
          simp [h3]
        · intro i y c z h1 h2
          obtain ⟨h3, rfl⟩ := hget i y h1
          have hc : c = 0 := by
            cases c with
            | zero => rfl
            | succ c => simp [AV.cells] at h2
          subst hc
          simp only [AV.cells, List.getElem?_cons_zero, Option.some.injEq] at h2
          subst h2
          exact .lit _
  · rename_i nl l tok
    cases he : slT P src with
    | none => simp only [he] at hp; exact hp.elim
    | some e =>
      simp only [he] at hp ⊢
      obtain ⟨h1, h2, h3⟩ := hp
      have hu := slT_inv he
      have hue := intT_inv h2
      have hud := (kindT_inv P dst).2.1 h1
      generalize hs : strOf l = s at h3 ⊢
      subst h3
      have hlen : (encB s).length = s.size := by simp [encB]
      cases ha with
      | @isl _ _ _ _ a len cap sz cv hlen' hcap hnl hnil hsz hsp hm hr hfull htok =>
        cases a with
        | none =>
          have hc := hnil rfl
          have hs0 : s.size = 0 := by omega
          refine Gives.pure hw (x := .string s) ?_ (.lit _)
          rw [run_convert_bytes_nil w src e hu hue len cap dst hud]
          congr 2
          obtain ⟨d⟩ := s
          have : d = #[] := by simpa [ByteArray.size] using hs0
          subst this; rfl
        | some a =>
          obtain ⟨r, off, sp⟩ := a
          by_cases hne : encB s = []
          · have hs0 : s.size = 0 := by rw [← hlen, hne]; rfl
            have hl0 : len = 0 := by omega
            subst hl0
            refine Gives.pure hw (x := .string s) ?_ (.lit _)
            have : (loadCells ⟨r, off, sp⟩ 0).run P w = .ok (([] : List Int).map (Value.int .u8)).toArray w := rfl
            rw [run_convert_bytes_string w src dst e _ 0 cap hu hue hud, run_bytesToString w _ 0 cap [] this]
            congr 2
            obtain ⟨d⟩ := s
            have : d = #[] := by simpa [ByteArray.size] using hs0
            subst this; rfl
          · have hsp' := hsp _ rfl hne
            simp only at hsp'
            subst hsp'
            have hsz1 : sz = 1 := by
              obtain ⟨y, hy⟩ := List.exists_mem_of_ne_nil _ hne
              have h5 := hsz y hy
              simp only [encB, List.mem_map] at hy
              obtain ⟨b, _, rfl⟩ := hy
              simpa [AV.cells] using h5.symm
            subst hsz1
            have := run_convert_bytes_arg (P := P) w src e hu hue r off len cap (s.data.toList.map fun b => (b.toNat : Int)) (by simp [hlen', hlen]) (by
              intro i hi
              have hl : i < s.data.toList.length := by rw [hlen'] at hi; simpa [encB] using hi
              have hgi : (encB s)[i]? = some (.lit (.int .u8 (s.data.toList[i].toNat : Int))) := by simp only [encB, List.getElem?_map, List.getElem?_eq_getElem hl, Option.map_some]
              have hmm := hm _ rfl i _ 0 _ hgi rfl
              have hrr := hr i _ 0 _ hgi rfl
              have hcv := lit_inv hrr
              have := hw.mem _ _ _ hmm
              simp only [Nat.mul_one, Nat.add_zero] at this
              rw [this, hcv]
              rw [List.getD_eq_getElem?_getD, List.getElem?_map, List.getElem?_eq_getElem hl]; rfl) dst hud
            refine Gives.pure hw (x := .string s) ?_ (.lit _)
            rw [this]
            congr 2
            obtain ⟨⟨d⟩⟩ := s
            simp [strOfNums, Function.comp_def]
  · exact hp.elim

end
end Go.Av

namespace Go.Av
set_option linter.unusedVariables false
set_option linter.unusedSimpArgs false
open Go.RowKit

section
variable {P : Program} {w0 w : World} {M : Mem} {φ : Phi} {g : GH}

inductive RepO (M : Mem) (φ : Phi) : Option AV → Option Value → Prop where
  | none : RepO M φ none none
  | some {x v} (h : Rep M φ x v) : RepO M φ (some x) (some v)

theorem bnd_inv {x : Option AV} {v : Option Value} {d i : Int} (h : RepO M φ x v) (hb : bnd x d = some i) : (v = none ∧ i = d) ∨ ∃ k, v = some (.int k i) := by
  cases h with
  | none => simp only [bnd, Option.some.injEq] at hb; exact .inl ⟨rfl, hb.symm⟩
  | some h =>
    right
    unfold bnd at hb
    split at hb
    · rename_i e; cases e
    · rename_i k j e
      cases hb
      cases e
      exact ⟨k, by rw [lit_inv h]⟩
    · cases hb

/-- A slice of a slice: the value that comes of it. -/
theorem run_slice_sl {t e : TypeId} {ti : TyI} (hu : P.underlying t = some (.slice e)) (hti : tyI P e = some ti) (a : Option Addr) (len cap : Nat) (lo hi : Option Value) (l h : Int)
    (hlo : (lo = none ∧ l = 0) ∨ ∃ k, lo = some (.int k l)) (hhi : (hi = none ∧ h = len) ∨ ∃ k, hi = some (.int k h)) (h0 : 0 ≤ l) (h1 : l ≤ h) (h2 : h ≤ cap) (w : World) :
    (Instr.sliceAt t (.slice a len cap) lo hi none).run P w = .ok (.slice (if cap = l.toNat then a else a.map (·.add (l.toNat * ti.size))) (h.toNat - l.toNat) (cap - l.toNat)) w := by
  have hsz := run_sizeOf_ty hti w
  have eh : (h.toNat : Int) = h := Int.toNat_of_nonneg (by omega)
  have hh : 0 ≤ h := by omega
  rcases hlo with ⟨rfl, rfl⟩ | ⟨k, rfl⟩ <;> rcases hhi with ⟨rfl, rfl⟩ | ⟨k', rfl⟩ <;>
    simp [Instr.sliceAt, run_underlying hu, Instr.slice, Instr.sliceBounds, run_sliceBound, *]

theorem run_slice_sl3 {t e : TypeId} {ti : TyI} (hu : P.underlying t = some (.slice e)) (hti : tyI P e = some ti) (a : Option Addr) (len cap : Nat) (lo : Option Value) (hi mx : Value) (l h m : Int)
    (hlo : (lo = none ∧ l = 0) ∨ ∃ k, lo = some (.int k l)) (hhi : ∃ k, hi = .int k h) (hmx : ∃ k, mx = .int k m) (h0 : 0 ≤ l) (h1 : l ≤ h) (h2 : h ≤ m) (h3 : m ≤ cap) (w : World) :
    (Instr.sliceAt t (.slice a len cap) lo (some hi) (some mx)).run P w = .ok (.slice (if m.toNat = l.toNat then a else a.map (·.add (l.toNat * ti.size))) (h.toNat - l.toNat) (m.toNat - l.toNat)) w := by
  have hsz := run_sizeOf_ty hti w
  have eh : (h.toNat : Int) = h := Int.toNat_of_nonneg (by omega)
  have em : (m.toNat : Int) = m := Int.toNat_of_nonneg (by omega)
  have hh : 0 ≤ h := by omega
  have hm : 0 ≤ m := by omega
  obtain ⟨k', rfl⟩ := hhi
  obtain ⟨k'', rfl⟩ := hmx
  rcases hlo with ⟨rfl, rfl⟩ | ⟨k, rfl⟩ <;>
    simp [Instr.sliceAt, run_underlying hu, Instr.slice, Instr.sliceBounds, run_sliceBound, *]

/-- A part of a slice that nobody writes. -/
theorem rep_sub {nl : Option Bool} {l : List AV} {tok : Tk} {a : Option Addr} {len cap : Nat} (h : Rep M φ (.isl nl l tok) (.slice a len cap)) (i j c sz : Nat) (hsz : ∀ e, e ∈ l → e.cells.length = sz) (hij : i ≤ j) (hj : j ≤ l.length)
    (hc : j - i ≤ c) (hc2 : a = none → c = 0) (full : Bool) (hf : full = true → c = j - i) (stay : Prop) [Decidable stay] (hstay : stay → j = i) :
    Rep M φ (.isl nl ((l.take j).drop i) (if full then .full else .no)) (.slice (if stay then a else a.map (·.add (i * sz))) (j - i) c) := by
  cases h with
  | isl sz' cv hlen hcap hnl hnil hsz' hsp hm hr hfull htok =>
    have hget : ∀ (k : Nat) (e : AV), ((l.take j).drop i)[k]? = some e → l[i + k]? = some e ∧ i + k < j := by
      intro k e he
      rw [List.getElem?_drop] at he
      have hlt : i + k < j := by have := (List.getElem?_eq_some_iff.1 he).1; simp at this; omega
      rw [List.getElem?_take_of_lt hlt] at he
      exact ⟨he, hlt⟩
    refine .isl sz (fun k c => cv (i + k) c) (by simp; omega) hc (fun b hb => ?_) (fun ha => ?_) ?_ ?_ ?_ ?_ ?_ ?_
    · rw [← hnl b hb]; split <;> simp
    · split at ha
      · exact hc2 ha
      · exact hc2 (by simpa using ha)
    · intro e he
      exact hsz e (List.mem_of_mem_take (List.mem_of_mem_drop he))
    · intro r hr' hne
      have hne' : l ≠ [] := by intro e; subst e; simp at hne
      split at hr'
      · exact hsp r hr' hne'
      · cases a with
        | none => simp at hr'
        | some q =>
          simp only [Option.map_some, Option.some.injEq] at hr'
          subst hr'
          unfold Addr.add
          split
          · exact hsp q rfl hne'
          · rfl
    · intro r hr' k e c x he hx
      obtain ⟨h1, h2⟩ := hget k e he
      split at hr'
      · rename_i hs
        have := hstay hs
        omega
      · cases a with
        | none => simp at hr'
        | some q =>
          simp only [Option.map_some, Option.some.injEq] at hr'
          subst hr'
          have h3 := hm q rfl (i + k) e c x h1 hx
          have hszz : sz' = sz := by rw [← hsz' e (List.mem_of_getElem? h1), hsz e (List.mem_of_getElem? h1)]
          subst hszz
          have h4 : (q.add (i * sz')).block = q.block ∧ (q.add (i * sz')).off = q.off + i * sz' := by unfold Addr.add; split <;> simp_all
          rw [h4.1, h4.2, ← h3]
          congr 1
          rw [Nat.add_mul]; omega
    · intro k e c x he hx
      exact hr (i + k) e c x (hget k e he).1 hx
    · intro hf'
      cases full <;> simp at hf'
      exact hf rfl
    · intro k ver ht
      cases full <;> simp at ht

theorem run_slice_str {t : TypeId} (hu : P.underlying t = some .string) (s : ByteArray) (lo hi : Option Value) (l h : Int)
    (hlo : (lo = none ∧ l = 0) ∨ ∃ k, lo = some (.int k l)) (hhi : (hi = none ∧ h = s.size) ∨ ∃ k, hi = some (.int k h)) (h0 : 0 ≤ l) (h1 : l ≤ h) (h2 : h ≤ s.size) (w : World) :
    (Instr.sliceAt t (.string s) lo hi none).run P w = .ok (.string (s.extract l.toNat h.toNat)) w := by
  have eh : (h.toNat : Int) = h := Int.toNat_of_nonneg (by omega)
  have hh : 0 ≤ h := by omega
  rcases hlo with ⟨rfl, rfl⟩ | ⟨k, rfl⟩ <;> rcases hhi with ⟨rfl, rfl⟩ | ⟨k', rfl⟩ <;>
    simp [Instr.sliceAt, run_underlying hu, Instr.slice, Instr.sliceBounds, run_sliceBound, *]

theorem sliceA_gives (hw : Wr w0 M φ g w) {t : TypeId} {x : AV} {xv : Value} {lo hi mx : Option AV} {lov hiv mxv : Option Value} (ha : Rep M φ x xv) (hlo : RepO M φ lo lov) (hhi : RepO M φ hi hiv) (hmx : RepO M φ mx mxv)
    (hp : (sliceA P t x lo hi mx).pre) : Gives P (Instr.sliceAt t xv lov hiv mxv) w0 M φ g w (sliceA P t x lo hi mx).v (sliceA P t x lo hi mx).wr := by
  unfold sliceA at hp ⊢
  split at hp
  · rename_i s
    split at hp
    · rename_i l h e1 e2
      cases hmx
      obtain ⟨h1, h2, h3, h4⟩ := hp
      rw [lit_inv ha]
      exact Gives.pure hw (run_slice_str ((kindT_inv P t).2.1 h1) s lov hiv l h (bnd_inv hlo e1) (bnd_inv hhi e2) h2 h3 h4 w) (.lit _)
    · exact hp.elim
  · rename_i nl xs tok
    split at hp
    · rename_i e hs
      have hu := slT_inv hs
      obtain ⟨a, len, cap, rfl⟩ : ∃ a len cap, xv = .slice a len cap := by cases ha; exact ⟨_, _, _, rfl⟩
      have hlen : len = xs.length ∧ len ≤ cap ∧ (a = none → cap = 0) := by cases ha; exact ⟨‹_›, ‹_›, ‹_›⟩
      obtain ⟨hl1, hl2, hl3⟩ := hlen
      split at hp
      · rename_i ti hti
        split at hp
        · rename_i l h e1 e2
          cases hmx
          obtain ⟨hsz', h1, h2, h3⟩ := hp
          have hhi' := bnd_inv hhi e2
          refine Gives.pure hw (run_slice_sl hu hti a len cap lov hiv l h (bnd_inv hlo e1) (by rw [hl1]; exact hhi') h1 h2 (by omega) w) ?_
          exact rep_sub ha l.toNat h.toNat (cap - l.toNat) ti.size hsz' (by omega) (by omega) (by omega) (fun e => by have := hl3 e; omega) false (by simp) _ (fun e => by omega)
        · rename_i l h _ k m e1 e2
          cases hmx with
          | some hmx' =>
          cases hhi with
          | @some _ hv hhi' =>
          obtain ⟨hsz', h1, h2, rfl, h3⟩ := hp
          have hhi'' := bnd_inv (.some hhi') e2
          have hh : ∃ k, hv = Value.int k h := by rcases hhi'' with ⟨h5, _⟩ | ⟨k, h5⟩; cases h5; cases h5; exact ⟨k, rfl⟩
          refine Gives.pure hw (run_slice_sl3 hu hti a len cap lov _ _ l h h (bnd_inv hlo e1) hh ⟨_, lit_inv hmx'⟩ h1 h2 (Int.le_refl _) (by omega) w) ?_
          exact rep_sub ha l.toNat h.toNat (h.toNat - l.toNat) ti.size hsz' (by omega) (by omega) (by omega) (fun e => by have := hl3 e; omega) true (by simp) _ (fun e => e)
        · exact hp.elim
      · exact hp.elim
    · exact hp.elim
  · rename_i id ver sz off len
    split at hp
    · rename_i e hs
      have hu := slT_inv hs
      split at hp
      · rename_i ti l h hti e1 e2
        cases hmx
        obtain ⟨rfl, h1, h2, h3⟩ := hp
        have hhi' := bnd_inv hhi e2
        cases ha with
        | @osl _ _ _ _ _ _ a cap C r hφ hC hcap hnone hz ha =>
          refine Gives.pure hw (run_slice_sl hu hti a len cap lov hiv l h (bnd_inv hlo e1) hhi' h1 h2 (by omega) w) ?_
          refine .osl hφ (by omega) (by omega) ?_ hz ?_
          · split
            · exact hnone
            · cases a <;> simp [hnone] <;> simp [← hnone]
          · intro q hq hc
            have hne : ¬ cap = l.toNat := by omega
            rw [if_neg hne, ha q hq (by omega)]
            simp only [Option.map_some, addr_add, Nat.add_mul]
      · exact hp.elim
    · exact hp.elim
  · exact hp.elim

end
end Go.Av

namespace Go.Av
set_option linter.unusedVariables false
set_option linter.unusedSimpArgs false
open Go.RowKit

section
variable {P : Program} {w0 w : World} {M : Mem} {φ : Phi} {g : GH}

def RepL (M : Mem) (φ : Phi) (cs : List AV) (vs : List Value) : Prop := cs.length = vs.length ∧ ∀ (i : Nat) (x : AV) (v : Value), cs[i]? = some x → vs[i]? = some v → Rep M φ x v

theorem RepL.nil : RepL M φ [] [] := ⟨rfl, by simp⟩
theorem RepL.cons {x : AV} {v : Value} {cs : List AV} {vs : List Value} (h : Rep M φ x v) (hl : RepL M φ cs vs) : RepL M φ (x :: cs) (v :: vs) := by
  refine ⟨by simp [hl.1], ?_⟩
  intro i y u h1 h2
  cases i with
  | zero => simp at h1 h2; subst h1; subst h2; exact h
  | succ i => simp at h1 h2; exact hl.2 i y u h1 h2
theorem RepL.append {cs ds : List AV} {vs us : List Value} (h : RepL M φ cs vs) (k : RepL M φ ds us) : RepL M φ (cs ++ ds) (vs ++ us) := by
  refine ⟨by simp [h.1, k.1], ?_⟩
  intro i y u h1 h2
  by_cases hi : i < cs.length
  · rw [List.getElem?_append_left hi] at h1
    rw [List.getElem?_append_left (by rw [← h.1]; exact hi)] at h2
    exact h.2 i y u h1 h2
  · rw [List.getElem?_append_right (by omega)] at h1
    rw [List.getElem?_append_right (by rw [← h.1]; omega), ← h.1] at h2
    exact k.2 _ y u h1 h2
theorem RepL.take {cs : List AV} {vs : List Value} (h : RepL M φ cs vs) (n : Nat) : RepL M φ (cs.take n) (vs.take n) := by
  refine ⟨by simp [h.1], ?_⟩
  intro i y u h1 h2
  have hi : i < n := by have := (List.getElem?_eq_some_iff.1 h1).1; simp at this; omega
  rw [List.getElem?_take_of_lt hi] at h1 h2
  exact h.2 i y u h1 h2
theorem RepL.drop {cs : List AV} {vs : List Value} (h : RepL M φ cs vs) (n : Nat) : RepL M φ (cs.drop n) (vs.drop n) := by
  refine ⟨by simp [h.1], ?_⟩
  intro i y u h1 h2
  rw [List.getElem?_drop] at h1 h2
  exact h.2 _ y u h1 h2
theorem RepL.mono {M' : Mem} {φ' : Phi} {cs : List AV} {vs : List Value} (h : RepL M φ cs vs) (hM : Mem.le M M') (hφ : Phi.le φ φ') : RepL M' φ' cs vs :=
  ⟨h.1, fun i x v h1 h2 => (h.2 i x v h1 h2).mono hM hφ⟩
theorem RepL.splice {cs xs : List AV} {vs us : List Value} (h : RepL M φ cs vs) (k : RepL M φ xs us) (off : Nat) : RepL M φ (splice cs off xs) (vs.take off ++ us ++ vs.drop (off + us.length)) := by
  unfold Go.Av.splice
  rw [k.1]
  exact ((h.take off).append k).append (h.drop _)

theorem rep_cells {x : AV} {v : Value} (h : Rep M φ x v) (hx : ∀ vs, x ≠ .any ∧ x ≠ .tup vs) : RepL M φ x.cells v.cells.toList ∨ ∃ u, x = .lit u := by
  cases h with
  | any => exact absurd rfl (hx []).1
  | lit v => exact .inr ⟨v, rfl⟩
  | agg hl hr => exact .inl ⟨by simpa [AV.cells, Value.cells] using hl, fun i x v h1 h2 => hr i x v h1 (by simpa [Value.cells] using h2)⟩
  | tup hl hr => exact absurd rfl (hx _).2
  | ptr h1 h2 => exact .inl (RepL.cons (.ptr h1 h2) RepL.nil)
  | iptr cv h1 h2 => exact .inl (RepL.cons (.iptr cv h1 h2) RepL.nil)
  | isl sz cv h1 h2 h3 h4 h5 h6 h7 h8 h9 h10 => exact .inl (RepL.cons (.isl sz cv h1 h2 h3 h4 h5 h6 h7 h8 h9 h10) RepL.nil)
  | osl h1 h2 h3 h4 h5 h6 => exact .inl (RepL.cons (.osl h1 h2 h3 h4 h5 h6) RepL.nil)
  | fn h1 h2 => exact .inl (RepL.cons (.fn h1 h2) RepL.nil)
  | bfn h1 h2 => exact .inl (RepL.cons (.bfn h1 h2) RepL.nil)

/-- The cells of a value all of whose cells are such. -/
theorem rep_cells_s {x : AV} {v : Value} (h : Rep M φ x v) (hx : x.cells.all AV.scalar = true) : RepL M φ x.cells v.cells.toList ∧ ∀ u, u ∈ v.cells.toList → u.oneCell' = true := by
  have key : RepL M φ x.cells v.cells.toList := by
    cases x with
    | any => simp [AV.cells, AV.scalar] at hx
    | tup vs => simp [AV.cells, AV.scalar] at hx
    | lit u =>
      rw [lit_inv h]
      have : u.cells = #[u] := by cases u <;> first | rfl | (simp [AV.cells, AV.scalar, Value.oneCell'] at hx)
      rw [this]
      exact RepL.cons (.lit u) RepL.nil
    | _ => rcases rep_cells h (by simp) with k | ⟨u, k⟩ <;> first | exact k | cases k
  refine ⟨key, ?_⟩
  intro u hu
  obtain ⟨i, hi, rfl⟩ := List.getElem_of_mem hu
  have hi' : i < x.cells.length := by rw [key.1]; exact hi
  exact (key.2 i x.cells[i] _ (by simp [hi']) (by simp [hi])).scalar (by simpa using List.all_eq_true.1 hx _ (List.getElem_mem hi'))

theorem rep_ofConst (v : Value) : Rep M φ (ofConst v) v := by
  unfold ofConst
  split
  · exact .isl 0 (fun _ _ => undef) rfl (Nat.le_refl _) (by simp) (by simp) (by simp) (by simp) (by simp) (by simp) (by simp) (by simp)
  · exact .lit _

theorem repL_ofConst (vs : List Value) : RepL M φ (vs.map ofConst) vs := by
  refine ⟨by simp, ?_⟩
  intro i x v h1 h2
  simp only [List.getElem?_map, h2, Option.map_some, Option.some.injEq] at h1
  subst h1
  exact rep_ofConst v

theorem fold_set (off : Nat) : ∀ (v : List Value) (k : Nat) (cs : Array Value), off + k + v.length ≤ cs.size →
    ((v.zipIdx k).foldl (fun (cs : Array Value) (p : Value × Nat) => cs.setIfInBounds (off + p.2) p.1) cs).toList = cs.toList.take (off + k) ++ v ++ cs.toList.drop (off + k + v.length)
  | [], k, cs, h => by simp
  | x :: v, k, cs, h => by
    simp only [List.length_cons] at h
    simp only [List.zipIdx_cons, List.foldl_cons]
    rw [fold_set off v (k + 1) _ (by simp; omega)]
    apply List.ext_getElem?
    intro i
    simp only [Array.toList_setIfInBounds, List.append_assoc, List.getElem?_append, List.length_take, List.length_set, Array.length_toList, List.getElem?_drop, List.length_cons]
    have e1 : min (off + (k + 1)) cs.size = off + k + 1 := by omega
    have e2 : min (off + k) cs.size = off + k := by omega
    simp only [e1, e2]
    by_cases h1 : i < off + k
    · have : i < off + k + 1 := by omega
      rw [if_pos this, if_pos h1, List.getElem?_take_of_lt (by omega), List.getElem?_take_of_lt (by omega), List.getElem?_set_ne (by omega)]
    · by_cases h2 : i = off + k
      · subst h2
        rw [if_pos (by omega), if_neg (by omega), if_pos (by omega), List.getElem?_take_of_lt (by omega), Nat.sub_self, List.getElem?_cons_zero, List.getElem?_set_self (by simp; omega)]
      · have a1 : ¬ i < off + k + 1 := by omega
        have a2 : i - (off + k) = (i - (off + k + 1)) + 1 := by omega
        simp only [a1, h1, if_false, a2, List.getElem?_cons_succ, Nat.add_lt_add_iff_right]
        split
        · rfl
        · rw [List.getElem?_set_ne (by omega)]
          congr 1
          omega

/-- Parts laid into a row, in the model's way. -/
inductive Parts (M : Mem) (φ : Phi) : List (Nat × AV) → List (Nat × Value) → Prop where
  | nil : Parts M φ [] []
  | cons {i x v l k} (h : Rep M φ x v) (hl : Parts M φ l k) : Parts M φ ((i, x) :: l) ((i, v) :: k)

theorem rep_cells_any {x : AV} {v : Value} (h : Rep M φ x v) (hx : x.cells.all AV.scalar = true) : v.cells.size = x.cells.length := by
  have := (rep_cells_s h hx).1.1; simpa using this.symm

theorem fillA_run (places : Nat → Option (Nat × Nat)) (t : TypeId) (hpl : ∀ i o sz ag, fldI P t i = some (o, sz, ag) → places i = some (o, sz)) :
    ∀ (ps : List (Nat × AV)) (pv : List (Nat × Value)) (cs : List AV) (vs : Array Value), Parts M φ ps pv → RepL M φ cs vs.toList → (fillA P t cs ps).pre →
      ∃ us, Instr.fill places vs pv = some us ∧ Rep M φ (fillA P t cs ps).v (.agg us) ∧ (fillA P t cs ps).wr = []
  | [], pv, cs, vs, hp, hl, h => by
    cases hp
    exact ⟨vs, rfl, .agg (by simpa using hl.1) fun i x v h1 h2 => hl.2 i x v h1 (by simpa using h2), rfl⟩
  | (i, x) :: ps, pv, cs, vs, hp, hl, h => by
    cases hp with
    | @cons _ _ v _ pv hx hps =>
      simp only [fillA] at h ⊢
      cases hf : fldI P t i with
      | none => rw [hf] at h; exact h.elim
      | some q =>
        obtain ⟨o, sz, ag⟩ := q
        rw [hf] at h
        obtain ⟨⟨h1, h2, hsx⟩, h3⟩ := h
        obtain ⟨k1, k2⟩ := rep_cells_s hx hsx
        have hsize : v.cells.size = sz := by have := k1.1; simp at this; omega
        have hlen : cs.length = vs.size := by simpa using hl.1
        have hfold := fold_set o v.cells.toList 0 vs (by simp; omega)
        simp only [Nat.add_zero] at hfold
        obtain ⟨us, u1, u2, u3⟩ := fillA_run places t hpl ps pv (splice cs o x.cells) ((v.cells.toList.zipIdx 0).foldl (fun (cs : Array Value) (p : Value × Nat) => cs.setIfInBounds (o + p.2) p.1) vs) hps (by
          rw [hfold]; exact hl.splice k1 o) h3
        refine ⟨us, ?_, u2, rfl⟩
        unfold Instr.fill
        rw [hpl i o sz ag hf]
        simp only [hsize, ne_eq, not_true_eq_false, decide_false, Bool.false_or, decide_eq_true_eq]
        rw [if_neg (by omega), ← u1]
        congr 1
        rw [← Array.foldl_toList, Array.toList_zipIdx]

theorem mapM_places (P : Program) : ∀ (fs : List Field), (fs.all fun f => (P.info? f.type).isSome) = true → ∃ places, fs.mapM (fun f => (P.info? f.type).map fun i => (f.offset, i.size)) = some places ∧
    ∀ (i : Nat) (fd : Field) (ti : TypeInfo), fs[i]? = some fd → P.info? fd.type = some ti → places[i]? = some (fd.offset, ti.size)
  | [], _ => ⟨[], rfl, by simp⟩
  | f :: fs, h => by
    simp only [List.all_cons, Bool.and_eq_true] at h
    obtain ⟨ti, hti⟩ := Option.isSome_iff_exists.1 h.1
    obtain ⟨pl, h1, h2⟩ := mapM_places P fs h.2
    refine ⟨(f.offset, ti.size) :: pl, by simp [List.mapM_cons, hti, h1], ?_⟩
    intro i fd ti' k1 k2
    cases i with
    | zero => simp at k1; subst k1; rw [hti] at k2; cases k2; rfl
    | succ i => simp at k1 ⊢; exact h2 i fd ti' k1 k2

theorem zeroI_inv {t : TypeId} {z : List AV} (h : zeroI P t = some z) : ∃ i v, P.info? t = some i ∧ i.zero = some v ∧ z = v.cells.toList.map ofConst := by
  unfold zeroI at h
  split at h
  · rename_i i hi
    split at h
    · rename_i v hv; cases h; exact ⟨i, v, hi, hv, rfl⟩
    · cases h
  · cases h

theorem buildA_gives (hw : Wr w0 M φ g w) {t : TypeId} {ps : List (Nat × AV)} {pv : Array (Nat × Value)} (ha : Parts M φ ps pv.toList) (hp : (buildA P t ps).pre) :
    Gives P (Instr.build t pv) w0 M φ g w (buildA P t ps).v (buildA P t ps).wr := by
  unfold buildA at hp ⊢
  cases hz : zeroI P t with
  | none => rw [hz] at hp; exact hp.elim
  | some z =>
    rw [hz] at hp
    obtain ⟨h1, h2⟩ := hp
    obtain ⟨it, zv, hi, hzv, rfl⟩ := zeroI_inv hz
    unfold bldT at h1
    split at h1
    · rename_i fs hfs
      obtain ⟨places, hpl, hpl2⟩ := mapM_places P fs.toList h1
      obtain ⟨us, u1, u2, u3⟩ := fillA_run (P := P) (M := M) (φ := φ) (fun i => places.toArray[i]?) t (by
        intro i o sz ag hf
        obtain ⟨fs', fd, ti, k1, k2, k3, k4, k5, k6⟩ := fldI_inv hf
        rw [hfs] at k1; cases k1
        obtain ⟨inf, d, j1, j2, j3, j4, j5⟩ := tyI_inv k3
        have := hpl2 i fd inf (by simpa using k2) j1
        simp only [List.getElem?_toArray, this]
        rw [← k4, ← k5, j3]) ps pv.toList _ zv.cells ha (repL_ofConst _) h2
      refine Gives.pure hw (x := .agg us) (run_build w t pv us ?_) u2
      unfold Program.built
      simp only [hi, hfs, hzv, hpl]
      exact u1
    · cases h1

end
end Go.Av

namespace Go.Av
set_option linter.unusedVariables false
set_option linter.unusedSimpArgs false
open Go.RowKit

section
variable {P : Program} {w0 w : World} {M : Mem} {φ : Phi} {g : GH}

theorem memAdd_nothing (M : Mem) (r : Nat) : memAdd M r (fun _ => none) = M := by
  funext q j; unfold memAdd; split <;> rfl



theorem add_mem {id ver : Nat} {hd : Hd} {b : Blk} : ∀ i v h, φ.add id ver hd i v = some h → φ i v = some h ∨ ∃ c, (i, c) ∈ [(id, b)] := by
  intro i v h hh
  unfold Phi.add at hh
  split at hh
  · rename_i hc; exact .inr ⟨b, by simp [hc.1]⟩
  · exact .inl hh

/-- cells of one's own, laid in a new block: a box -/
theorem alloc_box (hw : Wr w0 M φ g w) (id : Nat) (cs : List AV) (arr : Array Value) (e : TypeId) (hr : RepL M φ cs arr.toList) :
    Wr w0 M (φ.add id (nextV g id) (.box w.heap.size)) (gput g id (.cells (nextV g id) cs)) (w.alloc (.cells arr e (0, 0))) := by
  have hn : φ id (nextV g id) = Option.none := hw.fresh_ver (nextV_lt g id)
  have := hw.alloc_named id (.cells (nextV g id) cs) (.box w.heap.size) arr e (fun _ => none) (by simp) (nextV_lt g id) rfl (by
    rw [memAdd_nothing]
    refine ⟨hw.below.size, fun j => hw.none_new j, arr, e, heap_alloc_new _ _, by simpa using hr.1.symm, ?_⟩
    intro j x v h1 h2
    exact (hr.2 j x v h1 (by simpa using h2)).mono (Mem.le.refl _) (Phi.le_add hn))
  rw [memAdd_nothing] at this
  exact this

theorem allocA_gives (hw : Wr w0 M φ g w) {C : Cfg} {d : Nat} {cs : List AV} {arr : Array Value} {e : TypeId} (hr : RepL M φ cs arr.toList) :
    Gives P (do pure (.pointer (some (← newRow e arr)))) w0 M φ g w (allocA C d g cs).v (allocA C d g cs).wr := by
  have hn : φ (C.id d) (nextV g (C.id d)) = Option.none := hw.fresh_ver (nextV_lt g _)
  refine ⟨.pointer (some ⟨w.heap.size, 0, none⟩), w.alloc (.cells arr e (0, 0)), M, _, by simp [newRow], Mem.le.refl _, Phi.le_add hn, add_mem, ?_, alloc_box hw (C.id d) cs arr e hr⟩
  exact .ptr (hd := .box w.heap.size) (by simp [Phi.add]) rfl

def arrSplice (arr : Array Value) (k : Nat) (vs : List Value) : Array Value := (arr.toList.take k ++ vs ++ arr.toList.drop (k + vs.length)).toArray

theorem setRow_self (w : World) (g : Nat) (cs : Array Value) (t : TypeId) (fr : Nat × Nat) (hg : w.heap[g]? = some (.cells cs t fr)) : w.setRow g cs = w := by
  have hlt : g < w.heap.size := (Array.getElem?_eq_some_iff.1 hg).1
  have hv : w.heap[g] = .cells cs t fr := (Array.getElem?_eq_some_iff.1 hg).2
  unfold World.setRow
  cases w with
  | mk heap tape drawn os output =>
    congr 1
    apply Array.ext
    · simp
    · intro k h1 h2
      simp only [Array.getElem_modify]
      split
      · rename_i hk; subst hk; simp at hv; simp [hv]
      · rfl

theorem run_storeCells_splice (P : Program) (r : Nat) (t : TypeId) (o : Nat) : ∀ (vs : List Value) (i : Nat) (cur : Array Value) (w : World), w.heap[r]? = some (.cells cur t (0, 0)) → o + i + vs.length ≤ cur.size → (∀ v ∈ vs, v.oneCell' = true) →
    (storeCells ⟨r, o, none⟩ vs i).run P w = .ok () (w.setRow r (arrSplice cur (o + i) vs))
  | [], i, cur, w, hg, hl, _ => by
    have : arrSplice cur (o + i) [] = cur := by simp [arrSplice]
    rw [this, setRow_self w r cur t (0, 0) hg]
    rfl
  | v :: rest, i, cur, w, hg, hl, h1 => by
    simp only [List.length_cons] at hl
    have hi : o + i < cur.size := by omega
    have hcell : w.cell? ⟨r, o + i, none⟩ = some cur[o + i] := by simp [World.cell?, hg, hi]
    have hfro : w.frozen? ⟨r, o + i, none⟩ = false := by simp [World.frozen?, hg]
    have hst : (store ((⟨r, o, none⟩ : Addr).add i) v).run P w = .ok () (w.setRow r (cur.setIfInBounds (o + i) v)) := by
      rw [addr_add, run_store P w _ v _ (h1 v (by simp)), hcell]
      simp [hfro, setCell_eq_setRow w r (o + i) cur t (0, 0) v hg]
    have ih := run_storeCells_splice P r t o rest (i + 1) (cur.setIfInBounds (o + i) v) (w.setRow r (cur.setIfInBounds (o + i) v)) (setRow_heap w r cur _ t _ hg) (by simp; omega) (fun x hx => h1 x (by simp [hx]))
    simp only [storeCells, Sem.run_bind, hst, Result.andThen_ok, ih, setRow_setRow]
    congr 2
    unfold arrSplice
    congr 1
    apply List.ext_getElem?
    intro k
    have e1 : min (o + (i + 1)) cur.size = o + i + 1 := by omega
    have e2 : min (o + i) cur.size = o + i := by omega
    simp only [Array.toList_setIfInBounds, List.append_assoc, List.getElem?_append, List.length_take, List.length_set, Array.length_toList, List.getElem?_drop, List.length_cons, e1, e2]
    by_cases a0 : k < o + i
    · have a1 : k < o + i + 1 := by omega
      rw [if_pos a1, if_pos a0, List.getElem?_take_of_lt (by omega), List.getElem?_take_of_lt (by omega), List.getElem?_set_ne (by omega)]
    · by_cases a2 : k = o + i
      · subst a2
        rw [if_pos (by omega), if_neg (by omega), if_pos (by omega), List.getElem?_take_of_lt (by omega), Nat.sub_self, List.getElem?_cons_zero, List.getElem?_set_self (by simp; omega)]
      · have a1 : ¬ k < o + i + 1 := by omega
        have a3 : k - (o + i) = (k - (o + i + 1)) + 1 := by omega
        simp only [a1, a0, if_false, a3, List.getElem?_cons_succ, Nat.add_lt_add_iff_right]
        split
        · rfl
        · rw [List.getElem?_set_ne (by omega)]
          congr 1
          omega

theorem arrSplice_get (arr : Array Value) (k : Nat) (vs : List Value) (j : Nat) (hk : k + vs.length ≤ arr.size) :
    (arrSplice arr k vs)[j]? = if k ≤ j ∧ j < k + vs.length then vs[j - k]? else arr[j]? := by
  have e2 : min k arr.size = k := by omega
  simp only [arrSplice, List.getElem?_toArray, List.append_assoc, List.getElem?_append, List.length_take, Array.length_toList, List.getElem?_drop, e2]
  by_cases h1 : j < k
  · rw [if_pos h1, if_neg (by omega), List.getElem?_take_of_lt h1]; simp
  · by_cases h2 : j - k < vs.length
    · rw [if_neg h1, if_pos h2, if_pos (by omega)]
    · rw [if_neg h1, if_neg h2, if_neg (by omega)]
      have : k + vs.length + (j - k - vs.length) = j := by omega
      simp [this]

theorem arrSplice_size (arr : Array Value) (k : Nat) (vs : List Value) (hk : k + vs.length ≤ arr.size) : (arrSplice arr k vs).size = arr.size := by
  simp [arrSplice]; omega

theorem below_setRow {w0 w : World} {B r : Nat} {cs : Array Value} (h : Below B w0 w) (hr : B ≤ r) : Below B w0 (w.setRow r cs) :=
  h.trans ⟨rfl, rfl, rfl, by simp, fun k hk => setRow_other w r k cs (by omega)⟩

theorem cell_setRow_ne (w : World) (r q j : Nat) (cs : Array Value) (h : q ≠ r) : (w.setRow r cs).cell? ⟨q, j, none⟩ = w.cell? ⟨q, j, none⟩ := cell_setRow_other w r cs ⟨q, j, none⟩ h

theorem repL_splice_arr {cs xs : List AV} {arr : Array Value} {us : List Value} (off : Nat) (hle : cs.length ≤ arr.size) (hoff : off + xs.length ≤ cs.length) (hr : ∀ (j : Nat) (x : AV) (v : Value), cs[j]? = some x → arr[j]? = some v → Rep M φ x v)
    (hx : RepL M φ xs us) : ∀ (j : Nat) (x : AV) (v : Value), (splice cs off xs)[j]? = some x → (arrSplice arr off us)[j]? = some v → Rep M φ x v := by
  intro j x v h1 h2
  rw [arrSplice_get arr off us j (by rw [← hx.1]; omega)] at h2
  have e2 : min off cs.length = off := by omega
  simp only [splice, List.append_assoc, List.getElem?_append, List.length_take, List.getElem?_drop, e2] at h1
  by_cases a1 : j < off
  · rw [if_pos a1, List.getElem?_take_of_lt a1] at h1
    rw [if_neg (by omega)] at h2
    exact hr j x v h1 h2
  · by_cases a2 : j - off < xs.length
    · rw [if_neg a1, if_pos a2] at h1
      rw [if_pos (by rw [← hx.1]; omega)] at h2
      exact hx.2 _ x v h1 h2
    · rw [if_neg a1, if_neg a2] at h1
      rw [if_neg (by rw [← hx.1]; omega)] at h2
      have : off + xs.length + (j - off - xs.length) = j := by omega
      rw [this] at h1
      exact hr j x v h1 h2

theorem splice_length {cs xs : List AV} {off : Nat} (h : off + xs.length ≤ cs.length) : (splice cs off xs).length = cs.length := by
  simp [splice]; omega

def GivesU (P : Program) (s : Sem Unit) (w0 : World) (M : Mem) (φ : Phi) (g : GH) (w : World) (wr : List (Nat × Blk)) : Prop :=
  ∃ w' M' φ', s.run P w = .ok () w' ∧ Mem.le M M' ∧ Phi.le φ φ' ∧ (∀ id ver hd, φ' id ver = some hd → φ id ver = some hd ∨ ∃ b, (id, b) ∈ wr) ∧ Wr w0 M' φ' (gputs g wr) w'

theorem storeA_gives (hw : Wr w0 M φ g w) {C : Cfg} {t : TypeId} {x a : AV} {xv av : Value} (hP : C.P = P) (hx : Rep M φ x xv) (ha : Rep M φ a av) (hp : (storeA C t g x a).pre) :
    GivesU P (Instr.storeAt t av xv) w0 M φ g w (storeA C t g x a).wr := by
  subst hP
  cases a <;> simp only [storeA] at hp ⊢ <;> first | exact hp.elim | skip
  rename_i id ver off
  cases hti : tyI C.P t with
  | none => rw [hti] at hp; exact hp.elim
  | some ti =>
    cases hg : g id with
    | none => rw [hti, hg] at hp; exact hp.elim
    | some b =>
      cases b with
      | tok v => rw [hti, hg] at hp; exact hp.elim
      | cells v cs =>
        rw [hti, hg] at hp
        obtain ⟨rfl, hle, hsz, hsc, hmay⟩ := hp
        obtain ⟨k1, k2⟩ := rep_cells_s hx hsc
        cases ha with
        | @ptr _ _ _ _ r hd h1 h2 =>
          obtain ⟨hd', hp', hok⟩ := hw.blk id _ hg
          have : hd' = hd := by rw [show (Blk.cells v cs).ver = v from rfl, h1] at hp'; cases hp'; rfl
          subst this
          have hcells : ∃ (arr : Array Value) (e : TypeId), w.heap[r]? = some (.cells arr e (0, 0)) ∧ cs.length ≤ arr.size ∧ w0.heap.size ≤ r ∧ (∀ j, M r j = none) ∧ ∀ (j : Nat) (x : AV) (v : Value), cs[j]? = some x → arr[j]? = some v → Rep M φ x v := by
            cases hd' with
            | box q =>
              obtain rfl : q = r := by simpa [Hd.blk] using h2
              obtain ⟨h3, h4, arr, e, h5, h6, h7⟩ := hok
              exact ⟨arr, e, h5, by omega, h3, h4, h7⟩
            | row q sz cap =>
              obtain rfl : q = some r := by simpa [Hd.blk] using h2
              obtain ⟨h3, h4, arr, e, h5, h6, h7, h8⟩ := hok
              exact ⟨arr, e, h5, h7, h3, h4, h8⟩
            | tk q own sz len cap => cases q <;> cases own <;> exact hok.elim
          obtain ⟨arr, e, h5, h6, hB, hn, h7⟩ := hcells
          have hus : xv.cells.toList.length = ti.size := by rw [← k1.1]; exact hsz
          have hrun := run_storeCells_splice C.P r e off xv.cells.toList 0 arr w h5 (by omega) k2
          simp only [Nat.add_zero] at hrun
          have hle' : off + xv.cells.toList.length ≤ arr.size := by omega
          refine ⟨w.setRow r (arrSplice arr off xv.cells.toList), M, φ, ?_, Mem.le.refl _, Phi.le.refl _, fun _ _ _ h => .inl h, ?_⟩
          · have : xv.cells.size = ti.size := by simpa using hus
            simp only [Instr.storeAt, Instr.sureAddr, Sem.run_bind, Sem.run_pure, Result.andThen_ok, storeVar, run_sizeOf_ty hti, this, ne_eq, not_true_eq_false, if_false, hrun]
          · refine hw.rewrite id (.cells v cs) (.cells v (splice cs off x.cells)) hd' hg h1 rfl (below_setRow hw.below hB) ?_ ?_ ?_
            · intro q j u hm
              have : q ≠ r := by intro e; subst e; rw [hn] at hm; cases hm
              rw [cell_setRow_ne w r q j _ this]
              exact hw.mem q j u hm
            · intro i b hd'' q hi hb hpq hq
              refine setRow_other w r q _ ?_
              intro e; subst e
              exact hi (hw.inj i id b _ hd'' hd' q hb hg hpq h1 hq h2)
            · have hnew := setRow_heap w r arr (arrSplice arr off xv.cells.toList) e (0, 0) h5
              have hrep := repL_splice_arr (M := M) (φ := φ) off h6 (by rw [hsz]; omega) h7 k1
              cases hd' with
              | box q =>
                obtain rfl : q = r := by simpa [Hd.blk] using h2
                obtain ⟨_, _, arr', e', h5', h6', _⟩ := hok
                rw [h5] at h5'; cases h5'
                exact ⟨hB, hn, _, e, hnew, by rw [arrSplice_size _ _ _ hle', splice_length (by rw [hsz]; omega)]; exact h6', hrep⟩
              | row q sz cap =>
                obtain rfl : q = some r := by simpa [Hd.blk] using h2
                obtain ⟨_, _, arr', e', h5', h6', h7', _⟩ := hok
                rw [h5] at h5'; cases h5'
                exact ⟨hB, hn, _, e, hnew, by rw [arrSplice_size _ _ _ hle']; exact h6', by rw [arrSplice_size _ _ _ hle', splice_length (by rw [hsz]; omega)]; exact h6, hrep⟩
              | tk q own sz len cap => cases q <;> cases own <;> exact hok.elim

theorem splice_nil (cs : List AV) (off : Nat) : splice cs off [] = cs := by simp [splice]

theorem gputs_self {g : GH} {id : Nat} {b : Blk} (h : g id = some b) : gputs g [(id, b)] = g := by
  show gput g id b = g
  funext j; unfold gput; split
  · rename_i e; subst e; exact h.symm
  · rfl

theorem clearA_gives (hw : Wr w0 M φ g w) {C : Cfg} {t ty : TypeId} {x : AV} {xv : Value} (hP : C.P = P) (hx : Rep M φ x xv) (hp : (clearA C t g x).pre) :
    Gives P (Builtin.clear_ #[t] ty #[xv]) w0 M φ g w (clearA C t g x).v (clearA C t g x).wr := by
  subst hP
  cases x <;> simp only [clearA] at hp ⊢ <;> first | exact hp.elim | skip
  rename_i id ver sz off len
  cases hsl : slT C.P t with
  | none => rw [hsl] at hp; exact hp.elim
  | some e =>
    cases hg : g id with
    | none => rw [hsl, hg] at hp; exact hp.elim
    | some b =>
      cases b with
      | tok v => rw [hsl, hg] at hp; exact hp.elim
      | cells v cs =>
        simp only [hsl, hg] at hp ⊢
        cases hti : tyI C.P e with
        | none => rw [hti] at hp; exact hp.elim
        | some ti =>
          cases hz : zeroI C.P e with
          | none => rw [hti, hz] at hp; exact hp.elim
          | some zl =>
            match zl, hz, hp with
            | [], hz, hp => rw [hti, hz] at hp; exact hp.elim
            | _ :: _ :: _, hz, hp => rw [hti, hz] at hp; exact hp.elim
            | [z], hz, hp =>
              rw [hti, hz] at hp
              obtain ⟨rfl, rfl, hag, hidf, hle, hmay⟩ := hp
              have hu := slT_inv hsl
              obtain ⟨inf, zv, hi, hiz, hzz⟩ := zeroI_inv hz
              obtain ⟨zc, hzc⟩ : ∃ zc, zv.cells = #[zc] := by
                match h : zv.cells with
                | ⟨[]⟩ => rw [h] at hzz; simp at hzz
                | ⟨[c]⟩ => exact ⟨c, rfl⟩
                | ⟨_ :: _ :: _⟩ => rw [h] at hzz; simp at hzz
              have hzr : Rep M φ z zc := by
                rw [hzc] at hzz; simp at hzz; rw [hzz]; exact rep_ofConst zc
              have hsc : z.scalar = true := by
                revert hidf; cases z <;> simp [AV.idf, AV.scalar]
              have h1 : zc.oneCell' = true := hzr.scalar hsc
              have hzv : ∀ w, (zeroValue e).run C.P w = .ok zv w := fun w => by simp [zeroValue, typeInfo, hi, hiz]
              cases hx with
              | @osl _ _ _ _ _ _ a cap Cp r hφ hC hcap hnone hz0 ha =>
                by_cases hl0 : len = 0
                · subst hl0
                  refine ⟨.tuple #[], w, M, φ, ?_, Mem.le.refl _, Phi.le.refl _, fun _ _ _ h => .inl h, .tup rfl (by simp), ?_⟩
                  · cases a <;> simp [Builtin.clear_, run_underlying hu]
                  · simp only [List.replicate_zero, splice_nil]
                    rw [gputs_self hg]; exact hw
                · obtain ⟨q, rfl⟩ : ∃ q, r = some q := by
                    cases r with
                    | none => have := hz0 rfl; omega
                    | some q => exact ⟨q, rfl⟩
                  have hcap0 : cap ≠ 0 := by omega
                  rw [ha q rfl hcap0] at *
                  obtain ⟨hd', hp', hok⟩ := hw.blk id _ hg
                  have : hd' = .row (some q) 1 Cp := by rw [show (Blk.cells v cs).ver = v from rfl, hφ] at hp'; cases hp'; rfl
                  subst this
                  obtain ⟨hB, hn, arr, et, h5, h6', h6, h7⟩ := hok
                  have hus : (List.replicate len zc).length = len := by simp
                  have hle' : off * 1 + (List.replicate len zc).length ≤ arr.size := by simp; omega
                  have hrun := run_storeCells_splice C.P q et (off * 1) (List.replicate len zc) 0 arr w h5 (by simpa using hle') (by intro v hv; rw [List.eq_of_mem_replicate hv]; exact h1)
                  simp only [Nat.add_zero, Nat.mul_one] at hrun hle'
                  have hzcs : (Builtin.zeroCells zv.cells len).toList = List.replicate len zc := by
                    rw [hzc]
                    simp [Builtin.zeroCells]
                    apply List.ext_getElem
                    · simp
                    · intro i h1 h2
                      simp [Nat.mod_one]
                  have hxs : RepL M φ (List.replicate len z) (List.replicate len zc) := ⟨by simp, fun i x v h1 h2 => by
                    rw [List.eq_of_mem_replicate (List.mem_of_getElem? h1), List.eq_of_mem_replicate (List.mem_of_getElem? h2)]; exact hzr⟩
                  refine ⟨.tuple #[], w.setRow q (arrSplice arr off (List.replicate len zc)), M, φ, ?_, Mem.le.refl _, Phi.le.refl _, fun _ _ _ h => .inl h, .tup rfl (by simp), ?_⟩
                  · obtain ⟨m, rfl⟩ : ∃ m, len = m + 1 := ⟨len - 1, by omega⟩
                    simp [Builtin.clear_, run_underlying hu, hzv, hzcs, hrun]
                  · refine hw.rewrite id (.cells v cs) (.cells v (splice cs off (List.replicate len z))) (.row (some q) 1 Cp) hg hφ rfl (below_setRow hw.below hB) ?_ ?_ ?_
                    · intro q' j u hm
                      have : q' ≠ q := by intro e; subst e; rw [hn] at hm; cases hm
                      rw [cell_setRow_ne w q q' j _ this]
                      exact hw.mem q' j u hm
                    · intro i b hd'' q' hi hb hpq hq
                      refine setRow_other w q q' _ ?_
                      intro e; subst e
                      exact hi (hw.inj i id b _ hd'' _ q' hb hg hpq hφ hq rfl)
                    · have hnew := setRow_heap w q arr (arrSplice arr off (List.replicate len zc)) et (0, 0) h5
                      have hrep := repL_splice_arr (M := M) (φ := φ) off h6 (by simpa using hle) h7 hxs
                      exact ⟨hB, hn, _, et, hnew, by rw [arrSplice_size _ _ _ hle']; exact h6', by rw [arrSplice_size _ _ _ hle', splice_length (by simpa using hle)]; exact h6, hrep⟩

end
end Go.Av

namespace Go.Av
set_option linter.unusedVariables false
set_option linter.unusedSimpArgs false
open Go.RowKit

section
variable {P : Program} {w0 w : World} {M : Mem} {φ : Phi} {g : GH}

theorem flat_len {l : List AV} {sz : Nat} (h : szOk sz l) : (l.flatMap AV.cells).length = l.length * sz := by
  induction l with
  | nil => simp
  | cons e l ih =>
    rw [List.flatMap_cons, List.length_append, h e (by simp), ih (fun y hy => h y (by simp [hy])), List.length_cons, Nat.add_mul]
    omega

theorem flat_get {l : List AV} {sz : Nat} (h : szOk sz l) {i c : Nat} {e : AV} (he : l[i]? = some e) (hc : c < sz) : (l.flatMap AV.cells)[i * sz + c]? = e.cells[c]? := by
  induction l generalizing i with
  | nil => simp at he
  | cons y l ih =>
    have hy := h y (by simp)
    rw [List.flatMap_cons]
    cases i with
    | zero =>
      simp only [List.getElem?_cons_zero, Option.some.injEq] at he
      subst he
      rw [List.getElem?_append_left (by omega)]
      simp
    | succ i =>
      simp only [List.getElem?_cons_succ] at he
      rw [List.getElem?_append_right (by rw [hy, Nat.add_mul]; omega), hy]
      have : (i + 1) * sz + c - sz = i * sz + c := by rw [Nat.add_mul]; omega
      rw [this]
      exact ih (fun z hz => h z (by simp [hz])) he

theorem rep_idf {x : AV} {v : Value} (h : Rep M φ x v) (hi : x.idf = true) : Rep M Phi.none x v := by
  cases h <;> simp [AV.idf] at hi
  · exact .lit _
  · rename_i cv h1 h2; exact .iptr cv h1 h2
  · rename_i nl l tok a len cap sz cv h1 h2 h3 h4 h5 h6 h7 h8 h9 h10
    refine .isl sz cv h1 h2 h3 h4 h5 h6 h7 h8 h9 ?_
    intro k ver ht; subst ht; simp [Tk.free] at hi

theorem repL_idf {cs : List AV} {vs : List Value} (h : RepL M φ cs vs) (hi : cs.all AV.idf = true) : RepL M Phi.none cs vs :=
  ⟨h.1, fun i x v h1 h2 => rep_idf (h.2 i x v h1 h2) (List.all_eq_true.1 hi x (List.mem_of_getElem? h1))⟩

theorem elsOk_sz {sz : Nat} {l : List AV} (h : elsOk sz l) : szOk sz l := fun e he => (h e he).1
theorem elsOk_idf {sz : Nat} {l : List AV} (h : elsOk sz l) : (l.flatMap AV.cells).all AV.idf = true := by
  rw [List.all_eq_true]
  intro x hx
  obtain ⟨e, he, hx⟩ := List.mem_flatMap.1 hx
  exact List.all_eq_true.1 (h e he).2 x hx

theorem rep_isl_block {l : List AV} {sz : Nat} (hsz : szOk sz l) {vs : List Value} (hr : RepL M Phi.none (l.flatMap AV.cells) vs) (r off : Nat) (hm : ∀ k v, vs[k]? = some v → M r (off + k) = some v) {cap : Nat} (hcap : l.length ≤ cap)
    {nl : Option Bool} (hnl : ∀ b, nl = some b → b = false) {tok : Tk} (hfull : tok = .full → cap = l.length) (htok : ∀ k ver, tok = .at k ver → ∃ own, φ k ver = some (.tk (some r) own sz l.length cap) ∧ (own = true → off = 0)) :
    Rep M φ (.isl nl l tok) (.slice (some ⟨r, off, none⟩) l.length cap) := by
  have hlen := flat_len hsz
  have key : ∀ (i : Nat) (e : AV) (c : Nat) (x : AV), l[i]? = some e → e.cells[c]? = some x → ∃ v, vs[i * sz + c]? = some v ∧ (l.flatMap AV.cells)[i * sz + c]? = some x := by
    intro i e c x he hx
    have hc : c < sz := by rw [← hsz e (List.mem_of_getElem? he)]; exact (List.getElem?_eq_some_iff.1 hx).1
    have h1 := flat_get hsz he hc
    rw [hx] at h1
    have h2 : i * sz + c < vs.length := by rw [← hr.1]; exact (List.getElem?_eq_some_iff.1 h1).1
    exact ⟨vs[i * sz + c], by simp [h2], h1⟩
  refine .isl sz (fun i c => (vs[i * sz + c]?).getD undef) rfl hcap (fun b hb => by rw [hnl b hb]; rfl) (by simp) hsz (by intro q hq _; cases hq; rfl) ?_ ?_ hfull ?_
  · intro q hq i e c x he hx
    cases hq
    obtain ⟨v, h1, h2⟩ := key i e c x he hx
    have := hm _ v h1
    rw [← Nat.add_assoc] at this
    rw [this, h1]; rfl
  · intro i e c x he hx
    obtain ⟨v, h1, h2⟩ := key i e c x he hx
    rw [h1]
    exact hr.2 _ x v h2 h1
  · intro k ver ht
    obtain ⟨own, h1, h2⟩ := htok k ver ht
    refine ⟨own, by simpa using h1, ?_⟩
    intro ho q hq; cases hq; have := h2 ho; subst this; rfl

/-- The cells of a slice, as they lie in memory. -/
theorem isl_cells (hw : Wr w0 M φ g w) {nl : Option Bool} {l : List AV} {tok : Tk} {a : Option Addr} {len cap sz : Nat} (h : Rep M φ (.isl nl l tok) (.slice a len cap)) (hsz : szOk sz l) :
    ∃ vs : List Value, RepL M Phi.none (l.flatMap AV.cells) vs ∧ len = l.length ∧ len ≤ cap ∧ (a = none → cap = 0) ∧ (∀ r, a = some r → ∀ k v, vs[k]? = some v → r.spot = none ∧ M r.block (r.off + k) = some v) := by
  cases h with
  | isl sz' cv hlen hcap hnl hnil hsz' hsp hm hr hfull htok =>
    have hl := flat_len hsz
    refine ⟨(List.range (l.length * sz)).map fun k => cv (k / sz) (k % sz), ⟨by simp [hl], ?_⟩, hlen, hcap, hnil, ?_⟩
    · intro k x v h1 h2
      have hk : k < l.length * sz := by rw [← hl]; exact (List.getElem?_eq_some_iff.1 h1).1
      have hsz0 : 0 < sz := by rcases Nat.eq_zero_or_pos sz with e | e; · simp [e] at hk
                               · exact e
      have hi : k / sz < l.length := (Nat.div_lt_iff_lt_mul hsz0).2 hk
      have hc : k % sz < sz := Nat.mod_lt _ hsz0
      rw [List.getElem?_map, List.getElem?_range hk] at h2
      simp only [Option.map_some, Option.some.injEq] at h2
      subst h2
      have hge := cells_getD hi
      have h3 := flat_get hsz hge hc
      rw [show k / sz * sz + k % sz = k by rw [Nat.mul_comm]; exact Nat.div_add_mod k sz, h1] at h3
      exact hr _ _ _ x hge h3.symm
    · intro r ha k v h1
      have hk : k < l.length * sz := by have := (List.getElem?_eq_some_iff.1 h1).1; simpa using this
      have hsz0 : 0 < sz := by rcases Nat.eq_zero_or_pos sz with e | e; · simp [e] at hk
                               · exact e
      have hi : k / sz < l.length := (Nat.div_lt_iff_lt_mul hsz0).2 hk
      have hc : k % sz < sz := Nat.mod_lt _ hsz0
      rw [List.getElem?_map, List.getElem?_range hk] at h1
      simp only [Option.map_some, Option.some.injEq] at h1
      subst h1
      have hge := cells_getD hi
      have hee := hsz _ (List.mem_of_getElem? hge)
      have hcc : (l.getD (k / sz) .any).cells[k % sz]? = some ((l.getD (k / sz) .any).cells[k % sz]'(by rw [hee]; exact hc)) := by simp
      have h3 := hm r ha _ _ _ _ hge hcc
      have hszz : sz' = sz := by rw [← hsz' _ (List.mem_of_getElem? hge), hee]
      subst hszz
      have hne : l ≠ [] := by intro e; subst e; simp at hi
      have hsp' := hsp r ha hne
      obtain ⟨b, o, sp⟩ := r
      simp only at hsp'
      subst hsp'
      refine ⟨rfl, ?_⟩
      rw [Nat.add_assoc, show k / sz' * sz' + k % sz' = k by rw [Nat.mul_comm]; exact Nat.div_add_mod k sz'] at h3
      exact h3

theorem arrSplice_arrSplice (cs : Array Value) (a : Nat) (u v : List Value) (h : a + (u.length + v.length) ≤ cs.size) : arrSplice (arrSplice cs a u) (a + u.length) v = arrSplice cs a (u ++ v) := by
  apply Array.ext_getElem?
  intro j
  rw [arrSplice_get _ _ _ _ (by rw [arrSplice_size _ _ _ (by omega)]; omega), arrSplice_get _ _ _ _ (by omega), arrSplice_get _ _ _ _ (by simp; omega), List.getElem?_append]
  simp only [List.length_append]
  by_cases h1 : a + u.length ≤ j ∧ j < a + u.length + v.length
  · rw [if_pos h1, if_pos (by omega), if_neg (by omega)]
    congr 1; omega
  · rw [if_neg h1]
    by_cases h2 : a ≤ j ∧ j < a + u.length
    · rw [if_pos h2, if_pos (by omega), if_pos (by omega)]
    · rw [if_neg h2, if_neg (by omega)]

/-- numbered parts, laid into a row -/
theorem fill_numbered (sz : Nat) : ∀ (ps : List (Nat × Value)) (k : Nat) (cs : Array Value) (us : List Value), (∀ i p, ps[i]? = some p → p.1 = k + i ∧ p.2.cells.size = sz) → us = ps.flatMap (fun p => p.2.cells.toList) → k * sz + us.length ≤ cs.size →
    Instr.fill (fun i => some (i * sz, sz)) cs ps = some (arrSplice cs (k * sz) us)
  | [], k, cs, us, h, hu, hl => by
    subst hu
    simp [Instr.fill, arrSplice]
  | (i, v) :: ps, k, cs, us, h, hu, hl => by
    obtain ⟨h1, h2⟩ := h 0 (i, v) rfl
    simp only [Nat.add_zero] at h1
    subst h1
    have h2 : v.cells.size = sz := h2
    simp only [List.flatMap_cons] at hu
    subst hu
    simp only [List.length_append, Array.length_toList] at hl
    unfold Instr.fill
    simp only [h2, ne_eq, not_true_eq_false, decide_false, Bool.false_or, decide_eq_true_eq]
    rw [if_neg (by omega)]
    have hfold := fold_set (i * sz) v.cells.toList 0 cs (by simp; omega)
    simp only [Nat.add_zero] at hfold
    have harr : (Array.foldl (fun (cs : Array Value) (x : Value × Nat) => cs.setIfInBounds (i * sz + x.2) x.1) cs v.cells.zipIdx) = arrSplice cs (i * sz) v.cells.toList := by
      rw [← Array.foldl_toList, Array.toList_zipIdx]
      apply Array.toList_inj.1
      rw [hfold]; simp [arrSplice]
    rw [harr, fill_numbered sz ps (i + 1) _ (ps.flatMap fun p => p.2.cells.toList) ?_ rfl ?_]
    · rw [show (i + 1) * sz = i * sz + v.cells.toList.length by rw [Nat.add_mul]; simp; omega, arrSplice_arrSplice _ _ _ _ (by simp only [Array.length_toList]; omega)]
    · intro j p hp
      obtain ⟨h3, h4⟩ := h (j + 1) p (by simpa using hp)
      exact ⟨by omega, h4⟩
    · rw [arrSplice_size _ _ _ (by simp; omega)]
      rw [Nat.add_mul]; omega

theorem parts_vals : ∀ {ps : List (Nat × AV)} {pv : List (Nat × Value)}, Parts M φ ps pv → ps.length = pv.length ∧ ∀ (i : Nat) (p : Nat × AV) (q : Nat × Value), ps[i]? = some p → pv[i]? = some q → p.1 = q.1 ∧ Rep M φ p.2 q.2
  | [], [], _ => ⟨rfl, by simp⟩
  | (_ :: _), (_ :: _), .cons h hl => by
    obtain ⟨h1, h2⟩ := parts_vals hl
    refine ⟨by simp [h1], ?_⟩
    intro i p q k1 k2
    cases i with
    | zero => simp at k1 k2; subst k1; subst k2; exact ⟨rfl, h⟩
    | succ i => simp at k1 k2; exact h2 i p q k1 k2

theorem numbered_get : ∀ (ps : List (Nat × AV)) (k : Nat), numbered ps k = true → ∀ (i : Nat) (p : Nat × AV), ps[i]? = some p → p.1 = k + i
  | [], k, h, i, p, hp => by simp at hp
  | (j, x) :: ps, k, h, i, p, hp => by
    simp only [numbered, Bool.and_eq_true, beq_iff_eq] at h
    cases i with
    | zero => simp at hp; subst hp; exact h.1
    | succ i => have := numbered_get ps (k + 1) h.2 i p (by simpa using hp); omega

/-- the parts' cells, one behind the other -/
theorem parts_cells : ∀ {ps : List (Nat × AV)} {pv : List (Nat × Value)}, Parts M φ ps pv → (∀ p, p ∈ ps → p.2.cells.all AV.scalar = true) →
    RepL M φ (ps.flatMap fun p => p.2.cells) (pv.flatMap fun p => p.2.cells.toList) ∧ ∀ u, u ∈ (pv.flatMap fun p => p.2.cells.toList) → u.oneCell' = true
  | [], [], _, _ => ⟨RepL.nil, by simp⟩
  | ((i, x) :: ps), ((_, v) :: pv), .cons h hl, hs => by
    obtain ⟨h1, h2⟩ := parts_cells hl (fun p hp => hs p (by simp [hp]))
    obtain ⟨k1, k2⟩ := rep_cells_s h (hs (i, x) (by simp))
    refine ⟨by simp only [List.flatMap_cons]; exact k1.append h1, ?_⟩
    intro u hu
    simp only [List.flatMap_cons, List.mem_append] at hu
    rcases hu with hu | hu
    · exact k2 u hu
    · exact h2 u hu

theorem rep_erase {x : AV} {v : Value} (h : Rep M φ x v) : Rep M φ x.erase v := by
  cases h <;> simp only [AV.erase]
  · exact .any _
  · exact .lit _
  · rename_i h1 h2; first | exact .ptr h1 h2 | exact .ptr h2 h1
  · rename_i cv h1 h2; exact .iptr cv h1 h2
  · rename_i nl l tok a len cap sz cv h1 h2 h3 h4 h5 h6 h7 h8 h9 h10
    refine .isl sz cv h1 h2 h3 h4 h5 h6 h7 h8 ?_ ?_
    · intro e; apply h9; cases tok <;> simp [Tk.erase] at e ⊢
    · intro k ver e; cases tok <;> simp [Tk.erase] at e
  · exact .osl ‹_› ‹_› ‹_› ‹_› ‹_› ‹_›
  · rename_i h1 h2; exact .agg h1 h2
  · rename_i h1 h2; exact .tup h1 h2
  · rename_i h1 h2; exact .fn h1 h2
  · rename_i h1 h2; exact .bfn h1 h2

theorem eraseE_cells (x : AV) : x.eraseE.cells = x.cells.map AV.erase := by
  cases x <;> simp [AV.eraseE, AV.cells, AV.erase]

theorem repL_erase {cs : List AV} {vs : List Value} (h : RepL M φ cs vs) : RepL M φ (cs.map AV.erase) vs := by
  refine ⟨by simp [h.1], ?_⟩
  intro i x v h1 h2
  simp only [List.getElem?_map, Option.map_eq_some_iff] at h1
  obtain ⟨y, h3, rfl⟩ := h1
  exact rep_erase (h.2 i y v h3 h2)

theorem idf_scalar {x : AV} (h : x.idf = true) : x.scalar = true := by cases x <;> simp_all [AV.idf, AV.scalar]
theorem erase_scalar (x : AV) : x.erase.scalar = x.scalar := by cases x <;> rfl

end
end Go.Av

namespace Go.Av
set_option linter.unusedVariables false
set_option linter.unusedSimpArgs false
open Go.RowKit

section
variable {P : Program} {w0 w : World} {M : Mem} {φ : Phi} {g : GH}

theorem run_buildSlice {t e : TypeId} {ti : TyI} (hu : P.underlying t = some (.slice e)) (hti : tyI P e = some ti) (len : Nat) (hz : len * ti.size ≠ 0 → (zeroI P e).isSome = true) (hle : len * ti.size ≤ 16777216) (pv : Array (Nat × Value))
    (hlen : pv.size = len) (hnum : ∀ (i : Nat) (p : Nat × Value), pv.toList[i]? = some p → p.1 = i ∧ p.2.cells.size = ti.size) (w : World) :
    (Instr.buildSlice t len pv).run P w = .ok (.slice (some ⟨w.heap.size, 0, none⟩) len len) (w.alloc (.cells (pv.toList.flatMap fun p => p.2.cells.toList).toArray e (0, 0))) := by
  have hsz := run_sizeOf_ty hti w
  have hflat : ∀ (l : List (Nat × Value)), (∀ p, p ∈ l → p.2.cells.size = ti.size) → (l.flatMap fun p => p.2.cells.toList).length = l.length * ti.size := by
    intro l
    induction l with
    | nil => simp
    | cons p l ih =>
      intro h
      rw [List.flatMap_cons, List.length_append, ih (fun q hq => h q (by simp [hq])), Array.length_toList, h p (by simp), List.length_cons, Nat.add_mul]
      omega
  have hfl := hflat pv.toList (fun p hp => by obtain ⟨i, hi, rfl⟩ := List.getElem_of_mem hp; exact (hnum i _ (by simp [hi])).2)
  have hfl' : (pv.toList.flatMap fun p => p.2.cells.toList).length = len * ti.size := by rw [hfl]; simp [hlen]
  have hfill : ∀ z : Array Value, z.size = len * ti.size → Instr.fill (fun i => some (i * ti.size, ti.size)) z pv.toList = some (pv.toList.flatMap fun p => p.2.cells.toList).toArray := by
    intro z hz
    rw [fill_numbered ti.size pv.toList 0 z _ (fun i p hp => by have := hnum i p hp; exact ⟨by omega, this.2⟩) rfl (by rw [hfl']; omega)]
    congr 1
    apply Array.ext_getElem?
    intro j
    rw [arrSplice_get _ _ _ _ (by rw [hfl']; omega)]
    simp only [Nat.zero_mul, Nat.zero_le, true_and, Nat.zero_add, hfl', Nat.sub_zero, List.getElem?_toArray]
    split
    · rfl
    · rename_i hj
      rw [Array.getElem?_eq_none (by omega), List.getElem?_eq_none (by rw [hfl']; omega)]
  unfold Instr.buildSlice
  simp only [Sem.run_bind, run_underlying hu, Result.andThen_ok, hsz]
  rw [if_neg (by omega)]
  by_cases h0 : len * ti.size = 0
  · simp only [h0, if_true, pure_bind]
    rw [hfill _ (by simp [h0])]
    simp [newRow]
  · obtain ⟨z, hz⟩ := Option.isSome_iff_exists.1 (hz h0)
    obtain ⟨it, zv, h1, h2, _⟩ := zeroI_inv hz
    have hzv : (zeroValue e).run P w = .ok zv w := by simp [zeroValue, typeInfo, h1, h2]
    simp only [h0, if_false, Sem.run_bind, hzv, Result.andThen_ok, Sem.run_pure]
    rw [hfill _ (by simp)]
    simp [newRow]

theorem memAdd_none {M : Mem} {r : Nat} {f : Nat → Option Value} {j : Nat} (h : f j = none) : memAdd M r f r j = M r j := by
  unfold memAdd; simp [h]

theorem parts_erase : ∀ {ps : List (Nat × AV)}, (ps.map fun p => p.2.eraseE).flatMap AV.cells = (ps.flatMap fun p => p.2.cells).map AV.erase
  | [] => rfl
  | p :: ps => by simp only [List.map_cons, List.flatMap_cons, List.map_append, eraseE_cells, parts_erase]

theorem mem_of_list (M : Mem) (w : World) (vs : List Value) (k : Nat) (v : Value) (h : vs[k]? = some v) : memAdd M w.heap.size (vs.toArray[·]?) w.heap.size (0 + k) = some v := by
  refine memAdd_same ?_
  simpa using h

theorem buildSliceA_gives (hw : Wr w0 M φ g w) {C : Cfg} (hP : C.P = P) {d len : Nat} {t : TypeId} {ps : List (Nat × AV)} {pv : Array (Nat × Value)} (ha : Parts M φ ps pv.toList)
    (hp : (buildSliceA C d t len g ps).pre) : Gives P (Instr.buildSlice t len pv) w0 M φ g w (buildSliceA C d t len g ps).v (buildSliceA C d t len g ps).wr := by
  subst hP
  unfold buildSliceA at hp ⊢
  cases he : slT C.P t with
  | none => rw [he] at hp; exact hp.elim
  | some e =>
    simp only [he] at hp ⊢
    cases hti : tyI C.P e with
    | none => simp only [hti] at hp; exact hp.elim
    | some ti =>
      simp only [hti] at hp ⊢
      have hu := slT_inv he
      obtain ⟨hpl, hpg⟩ := parts_vals ha
      -- the three ways share the run
      have run : ∀ (p0 : ps.length = len ∧ numbered ps 0 = true ∧ len * ti.size ≤ 16777216 ∧ (len * ti.size ≠ 0 → (zeroI C.P e).isSome = true)) (hcs : ∀ p, p ∈ ps → p.2.cells.length = ti.size ∧ p.2.cells.all AV.scalar = true),
          (Instr.buildSlice t len pv).run C.P w = .ok (.slice (some ⟨w.heap.size, 0, none⟩) len len) (w.alloc (.cells (pv.toList.flatMap fun p => p.2.cells.toList).toArray e (0, 0))) ∧
          RepL M φ (ps.flatMap fun p => p.2.cells) (pv.toList.flatMap fun p => p.2.cells.toList) := by
        intro p0 hcs
        obtain ⟨h1, h2, h3, h4⟩ := p0
        obtain ⟨c1, c2⟩ := parts_cells ha (fun p hp => (hcs p hp).2)
        refine ⟨run_buildSlice hu hti len h4 h3 pv (by simp at hpl; omega) ?_ w, c1⟩
        intro i q hq
        have hi : i < ps.length := by rw [hpl]; exact (List.getElem?_eq_some_iff.1 hq).1
        obtain ⟨k1, k2⟩ := hpg i ps[i] q (by simp [hi]) hq
        have hn := numbered_get ps 0 h2 i ps[i] (by simp [hi])
        have hc := hcs ps[i] (List.getElem_mem hi)
        refine ⟨by omega, ?_⟩
        rw [rep_cells_any k2 hc.2, hc.1]
      have els : elsOk ti.size (ps.map fun p => p.2.eraseE) → ∀ p, p ∈ ps → p.2.cells.length = ti.size ∧ p.2.cells.all AV.scalar = true := by
        intro h p hp
        obtain ⟨h1, h2⟩ := h p.2.eraseE (List.mem_map.2 ⟨p, hp, rfl⟩)
        rw [eraseE_cells] at h1 h2
        refine ⟨by simpa using h1, ?_⟩
        rw [List.all_eq_true] at h2 ⊢
        intro x hx
        have := idf_scalar (h2 _ (List.mem_map.2 ⟨x, hx, rfl⟩))
        rwa [erase_scalar] at this
      split at hp
      · obtain ⟨p0, hels⟩ := hp
        obtain ⟨hrun, hrep⟩ := run p0 (els hels)
        have hrepE : RepL M Phi.none ((ps.map fun p => p.2.eraseE).flatMap AV.cells) (pv.toList.flatMap fun p => p.2.cells.toList) := by
          have := elsOk_idf hels
          rw [parts_erase] at this ⊢
          exact repL_idf (repL_erase hrep) this
        refine ⟨_, _, _, φ, hrun, memAdd_le fun j _ _ => hw.none_new j, Phi.le.refl _, fun _ _ _ h => .inl h, ?_, hw.alloc_imm _ e⟩
        have := rep_isl_block (M := memAdd M w.heap.size ((pv.toList.flatMap fun p => p.2.cells.toList).toArray[·]?)) (φ := φ) (elsOk_sz hels) (hrepE.mono (memAdd_le fun j _ _ => hw.none_new j) (Phi.le.refl _)) w.heap.size 0
          (fun k v hv => mem_of_list M w _ k v hv) (cap := len) (by simp [p0.1]) (nl := some false) (by simp) (tok := .full) (by simp [p0.1]) (by simp)
        simpa [p0.1] using this
      · obtain ⟨p0, hels, hmay⟩ := hp
        obtain ⟨hrun, hrep⟩ := run p0 (els hels)
        have hrepE : RepL M Phi.none ((ps.map fun p => p.2.eraseE).flatMap AV.cells) (pv.toList.flatMap fun p => p.2.cells.toList) := by
          have := elsOk_idf hels
          rw [parts_erase] at this ⊢
          exact repL_idf (repL_erase hrep) this
        have hn : φ (C.id d) (nextV g (C.id d)) = Option.none := hw.fresh_ver (nextV_lt g _)
        have hfl : (pv.toList.flatMap fun p => p.2.cells.toList).length = len * ti.size := by
          rw [← hrepE.1, flat_len (elsOk_sz hels)]; simp [p0.1]
        refine ⟨_, _, memAdd M w.heap.size ((pv.toList.flatMap fun p => p.2.cells.toList).toArray[·]?), φ.add (C.id d) (nextV g (C.id d)) (.tk (some w.heap.size) true ti.size len len), hrun, memAdd_le fun j _ _ => hw.none_new j, Phi.le_add hn, add_mem, ?_, ?_⟩
        · have := rep_isl_block (M := memAdd M w.heap.size ((pv.toList.flatMap fun p => p.2.cells.toList).toArray[·]?)) (φ := φ.add (C.id d) (nextV g (C.id d)) (.tk (some w.heap.size) true ti.size len len)) (elsOk_sz hels) (hrepE.mono (memAdd_le fun j _ _ => hw.none_new j) (Phi.le.refl _)) w.heap.size 0
            (fun k v hv => mem_of_list M w _ k v hv) (cap := len) (by simp [p0.1]) (nl := some false) (by simp) (tok := .at (C.id d) (nextV g (C.id d))) (by simp) (by
              intro k ver hk; cases hk; exact ⟨true, by simp [Phi.add, p0.1], fun _ => rfl⟩)
          simpa [p0.1] using this
        · exact hw.alloc_named (C.id d) (.tok (nextV g (C.id d))) (.tk (some w.heap.size) true ti.size len len) _ e _ (fun _ _ hv => hv) (nextV_lt g _) rfl
            ⟨hw.below.size, Nat.le_refl _, fun h => h, fun j hj => by
              rw [memAdd_none (Array.getElem?_eq_none (by simp only [List.size_toArray]; omega))]
              exact hw.none_new j, _, e, heap_alloc_new _ _, by simp only [List.size_toArray]; exact hfl⟩
      · obtain ⟨p0, hcs, hmay⟩ := hp
        obtain ⟨hrun, hrep⟩ := run p0 hcs
        have hn : φ (C.id d) (nextV g (C.id d)) = Option.none := hw.fresh_ver (nextV_lt g _)
        have hfl : (pv.toList.flatMap fun p => p.2.cells.toList).length = len * ti.size := by
          have hs : szOk ti.size (ps.map Prod.snd) := by intro y hy; obtain ⟨p, hp, rfl⟩ := List.mem_map.1 hy; exact (hcs p hp).1
          have := flat_len hs
          rw [← hrep.1]
          simpa [List.flatMap_map, p0.1] using this
        have hW := hw.alloc_named (C.id d) (.cells (nextV g (C.id d)) (ps.flatMap fun p => p.2.cells)) (.row (some w.heap.size) ti.size len) (pv.toList.flatMap fun p => p.2.cells.toList).toArray e (fun _ => none) (by simp) (nextV_lt g _) rfl
            ⟨hw.below.size, fun j => by rw [memAdd_nothing]; exact hw.none_new j, _, e, heap_alloc_new _ _, by simp only [List.size_toArray]; exact hfl, by simp only [List.size_toArray]; exact Nat.le_of_eq hrep.1, fun j x v h1 h2 => by
              rw [memAdd_nothing]
              exact (hrep.2 j x v h1 (by simpa using h2)).mono (Mem.le.refl _) (Phi.le_add hn)⟩
        rw [memAdd_nothing] at hW
        refine ⟨_, _, M, _, hrun, Mem.le.refl _, Phi.le_add hn, add_mem, ?_, hW⟩
        exact .osl (r := some w.heap.size) (C := len) (by simp [Phi.add, Blk.ver]) (by omega) (Nat.le_refl _) (by simp) (by simp) (by intro q hq _; cases hq; simp)

end
end Go.Av

namespace Go.Av
set_option linter.unusedVariables false
set_option linter.unusedSimpArgs false
open Go.RowKit

section
variable {P : Program} {w0 w : World} {M : Mem} {φ : Phi} {g : GH}

def notInt : TypeDesc → Bool
  | .slice _ => true
  | .string => true
  | _ => false

theorem wrap_i64_in {x : Int} (h0 : -9223372036854775808 ≤ x) (h1 : x ≤ 9223372036854775807) : IntKind.i64.wrap x = x := by
  simp [IntKind.wrap, IntKind.bits, IntKind.signed]; omega

theorem run_app_room {t u e : TypeId} {d : TypeDesc} {ti : TyI} (ty : TypeId) (hu : P.underlying t = some (.slice e)) (hd : P.underlying u = some d) (hdn : notInt d = true) (hti : tyI P e = some ti) (base : Option Addr) (sLen sCap : Nat) (x : Value) (n : Nat) (news : Array Value)
    (hx : Builtin.lenOf x = pure n) (hn : (Builtin.firstCells ti.size n x).run P w = .ok news w) (hroom : sLen + n ≤ sCap) :
    (Builtin.append_ #[t, u] ty #[.slice base sLen sCap, x]).run P w = match base with
      | none => .ok (.slice none (sLen + n) sCap) w
      | some a => ((storeCells (a.add (sLen * ti.size)) news.toList).run P w).andThen fun _ w' => .ok (.slice (some a) (sLen + n) sCap) w' := by
  have hsz := run_sizeOf_ty hti w
  cases d <;> simp only [notInt, Bool.false_eq_true] at hdn <;> cases base <;> simp [Builtin.append_, run_underlying hu, run_underlying hd, hsz, hx, hn, hroom]

theorem run_app_grow {t u e : TypeId} {d : TypeDesc} {ti : TyI} (ty : TypeId) (hu : P.underlying t = some (.slice e)) (hd : P.underlying u = some d) (hdn : notInt d = true) (hti : tyI P e = some ti) (base : Option Addr) (sLen sCap : Nat) (x : Value) (n : Nat) (olds news : Array Value)
    (hx : Builtin.lenOf x = pure n) (ho : (Builtin.firstCells ti.size sLen (.slice base sLen sCap)).run P w.drew = .ok olds w.drew) (hn : (Builtin.firstCells ti.size n x).run P w.drew = .ok news w.drew) (hroom : ¬ sLen + n ≤ sCap)
    (hb : (sLen + n) * (2 * ti.bytes) ≤ 281474976710656) (hb0 : ti.bytes ≠ 0) (z : Value) (hz : ∃ i, P.info? e = some i ∧ i.zero = some z) :
    (Builtin.append_ #[t, u] ty #[.slice base sLen sCap, x]).run P w =
      .ok (.slice (some ⟨w.heap.size, 0, none⟩) (sLen + n) (grownCap w (sLen + n) sCap e)) (w.drew.alloc (.cells (olds ++ news ++ Builtin.zeroCells z.cells (grownCap w (sLen + n) sCap e - (sLen + n))) e)) := by
  obtain ⟨i, hi, hiz⟩ := hz
  obtain ⟨i', d', hi', hd', hs, hby, _⟩ := tyI_inv hti
  rw [hi] at hi'; cases hi'
  have h1 : Builtin.nextslicecap (sLen + n) sCap * i.bytes ≤ 281474976710656 := by
    have := Nat.mul_le_mul_right i.bytes (nextslicecap_le (need := sLen + n) (old := sCap) (by omega))
    rw [hby] at hb
    rw [Nat.mul_comm 2 (sLen + n), Nat.mul_assoc] at this
    omega
  have h2 : ¬ 281474976710656 < Builtin.nextslicecap (sLen + n) sCap * i.bytes := by omega
  have hbytes : ¬ i.bytes = 0 := by omega
  have h3 : sLen + n ≤ (sLen + n) * (2 * ti.bytes) := Nat.le_mul_of_pos_right _ (by omega)
  have h63 : ¬ (9223372036854775807 < ((sLen : Int) + (n : Int))) := by omega
  have hgc : grownCap w (sLen + n) sCap e = (Question.appendCap (sLen + n) sCap e).cut (w.tape w.drawn (.appendCap (sLen + n) sCap e)) := rfl
  rw [hs] at ho hn
  cases d <;> simp only [notInt, Bool.false_eq_true] at hdn <;>
    simp [Builtin.append_, run_underlying hu, run_underlying hd, sizeOf, typeInfo, zeroValue, hi, hiz, hx, hroom, h63, h2, hbytes, Question.forced, ho, hn, newRow, hgc]

theorem run_app_room0 {t u e : TypeId} {k' : IntKind} {ti : TyI} (ty : TypeId) (hu : P.underlying t = some (.slice e)) (hd : P.underlying u = some (.int k')) (hti : tyI P e = some ti) (base : Option Addr) (sLen sCap : Nat) (k : Int) (z : Value) (hz : ∃ i, P.info? e = some i ∧ i.zero = some z)
    (h0 : 0 ≤ k) (h1 : k ≤ 9223372036854775807) (h2 : k * ti.bytes ≤ 281474976710656) (hroom : sLen + k.toNat ≤ sCap) :
    (Builtin.append_ #[t, u] ty #[.slice base sLen sCap, .int .i64 k]).run P w = match base with
      | none => .ok (.slice none (sLen + k.toNat) sCap) w
      | some a => ((storeCells (a.add (sLen * ti.size)) (if k.toNat * ti.size = 0 then #[] else Builtin.zeroCells z.cells k.toNat).toList).run P w).andThen fun _ w' => .ok (.slice (some a) (sLen + k.toNat) sCap) w' := by
  obtain ⟨i, hi, hiz⟩ := hz
  obtain ⟨i', d', hi', hd', hs, hby, _⟩ := tyI_inv hti
  rw [hi] at hi'; cases hi'
  have hw : IntKind.i64.wrap k = k := wrap_i64_in (by omega) h1
  have hw0 : ¬ k < 0 := by omega
  have hw1 : ¬ 281474976710656 < k * (i.bytes : Int) := by rw [← hby]; omega
  have hzv : (zeroValue e).run P w = .ok z w := by simp [zeroValue, typeInfo, hi, hiz]
  have hsz := run_sizeOf_ty hti w
  have hty : (typeInfo e).run P w = .ok i w := by simp [typeInfo, hi]
  by_cases hn : k.toNat * ti.size = 0
  · cases base <;> simp [Builtin.append_, run_underlying hu, run_underlying hd, hsz, hty, asInt, asIntOf, hw, hw0, hw1, hroom, hn]
  · cases base <;> simp [Builtin.append_, run_underlying hu, run_underlying hd, hsz, hty, hzv, asInt, asIntOf, hw, hw0, hw1, hroom, hn]

theorem run_app_grow0 {t u e : TypeId} {k' : IntKind} {ti : TyI} (ty : TypeId) (hu : P.underlying t = some (.slice e)) (hd : P.underlying u = some (.int k')) (hti : tyI P e = some ti) (base : Option Addr) (sLen sCap : Nat) (k : Int) (z : Value) (hz : ∃ i, P.info? e = some i ∧ i.zero = some z)
    (h0 : 0 ≤ k) (h1 : k ≤ 9223372036854775807) (h2 : k * ti.bytes ≤ 281474976710656) (olds : Array Value) (ho : (Builtin.firstCells ti.size sLen (.slice base sLen sCap)).run P w.drew = .ok olds w.drew) (hroom : ¬ sLen + k.toNat ≤ sCap)
    (hb : (sLen + k.toNat) * (2 * ti.bytes) ≤ 281474976710656) (hb0 : ti.bytes ≠ 0) :
    (Builtin.append_ #[t, u] ty #[.slice base sLen sCap, .int .i64 k]).run P w =
      .ok (.slice (some ⟨w.heap.size, 0, none⟩) (sLen + k.toNat) (grownCap w (sLen + k.toNat) sCap e))
        (w.drew.alloc (.cells (olds ++ (if k.toNat * ti.size = 0 then #[] else Builtin.zeroCells z.cells k.toNat) ++ Builtin.zeroCells z.cells (grownCap w (sLen + k.toNat) sCap e - (sLen + k.toNat))) e)) := by
  obtain ⟨i, hi, hiz⟩ := hz
  obtain ⟨i', d', hi', hd', hs, hby, _⟩ := tyI_inv hti
  rw [hi] at hi'; cases hi'
  have hw : IntKind.i64.wrap k = k := wrap_i64_in (by omega) h1
  have hw0 : ¬ k < 0 := by omega
  have hw1 : ¬ 281474976710656 < k * (i.bytes : Int) := by rw [← hby]; omega
  have h3 : Builtin.nextslicecap (sLen + k.toNat) sCap * i.bytes ≤ 281474976710656 := by
    have := Nat.mul_le_mul_right i.bytes (nextslicecap_le (need := sLen + k.toNat) (old := sCap) (by omega))
    rw [hby] at hb
    rw [Nat.mul_comm 2 (sLen + k.toNat), Nat.mul_assoc] at this
    omega
  have h4 : ¬ 281474976710656 < Builtin.nextslicecap (sLen + k.toNat) sCap * i.bytes := by omega
  have hbytes : ¬ i.bytes = 0 := by omega
  have h5 : sLen + k.toNat ≤ (sLen + k.toNat) * (2 * ti.bytes) := Nat.le_mul_of_pos_right _ (by omega)
  have h63 : ¬ (9223372036854775807 < ((sLen : Int) + (k.toNat : Int))) := by omega
  have h63' : ¬ (9223372036854775807 < ((sLen : Int) + max k 0)) := by omega
  have hgc : grownCap w (sLen + k.toNat) sCap e = (Question.appendCap (sLen + k.toNat) sCap e).cut (w.tape w.drawn (.appendCap (sLen + k.toNat) sCap e)) := rfl
  have hzv : ∀ w, (zeroValue e).run P w = .ok z w := fun w => by simp [zeroValue, typeInfo, hi, hiz]
  have hsz := fun w => run_sizeOf_ty hti w
  have hty : ∀ w, (typeInfo e).run P w = .ok i w := fun w => by simp [typeInfo, hi]
  by_cases hn : k.toNat * ti.size = 0
  · simp [Builtin.append_, run_underlying hu, run_underlying hd, hsz, hty, hzv, asInt, asIntOf, hw, hw0, hw1, hroom, h63, h63', h4, hbytes, Question.forced, ho, hn, newRow, hgc]
  · simp [Builtin.append_, run_underlying hu, run_underlying hd, hsz, hty, hzv, asInt, asIntOf, hw, hw0, hw1, hroom, h63, h63', h4, hbytes, Question.forced, ho, hn, newRow, hgc]

end
end Go.Av

namespace Go.Av
set_option linter.unusedVariables false
set_option linter.unusedSimpArgs false
open Go.RowKit

section
variable {P : Program} {w0 w : World} {M : Mem} {φ : Phi} {g : GH}

/-- What is appended, and how the run goes. -/
structure AppX (P : Program) (t u e : TypeId) (ty : TypeId) (ti : TyI) (M : Mem) (w : World) (x : Value) (m : List AV) : Prop where
  ex : ∃ (z : Value) (news : Array Value), z.cells.size = ti.size ∧ RepL M Phi.none (m.flatMap AV.cells) news.toList ∧
    (∀ base sLen sCap, sLen + m.length ≤ sCap → (Builtin.append_ #[t, u] ty #[.slice base sLen sCap, x]).run P w = match base with
      | none => .ok (.slice none (sLen + m.length) sCap) w
      | some a => ((storeCells (a.add (sLen * ti.size)) news.toList).run P w).andThen fun _ w' => .ok (.slice (some a) (sLen + m.length) sCap) w') ∧
    (∀ base sLen sCap olds, (Builtin.firstCells ti.size sLen (.slice base sLen sCap)).run P w.drew = .ok olds w.drew → ¬ sLen + m.length ≤ sCap → (sLen + m.length) * (2 * ti.bytes) ≤ 281474976710656 →
      (Builtin.append_ #[t, u] ty #[.slice base sLen sCap, x]).run P w = .ok (.slice (some ⟨w.heap.size, 0, none⟩) (sLen + m.length) (grownCap w (sLen + m.length) sCap e))
        (w.drew.alloc (.cells (olds ++ news ++ Builtin.zeroCells z.cells (grownCap w (sLen + m.length) sCap e - (sLen + m.length))) e)))

theorem firstCells_isl (hw : Wr w0 M φ g w) {nl : Option Bool} {l : List AV} {tok : Tk} {a : Option Addr} {len cap sz : Nat} (h : Rep M φ (.isl nl l tok) (.slice a len cap)) (hsz : szOk sz l) :
    ∃ vs : List Value, RepL M Phi.none (l.flatMap AV.cells) vs ∧ len = l.length ∧ len ≤ cap ∧ (a = none → cap = 0) ∧ (∀ r, a = some r → ∀ k v, vs[k]? = some v → r.spot = none ∧ M r.block (r.off + k) = some v) ∧
      (Builtin.firstCells sz len (.slice a len cap)).run P w = .ok vs.toArray w ∧ (Builtin.firstCells sz len (.slice a len cap)).run P w.drew = .ok vs.toArray w.drew := by
  obtain ⟨vs, h1, h2, h3, h4, h5⟩ := isl_cells hw h hsz
  have hl := flat_len hsz
  have hvl : vs.length = len * sz := by rw [← h1.1, hl, h2]
  refine ⟨vs, h1, h2, h3, h4, h5, ?_, ?_⟩
  · cases a with
    | none =>
      have hl0 : len = 0 := by have := h4 rfl; omega
      have : vs = [] := List.length_eq_zero_iff.1 (by rw [hvl, hl0]; simp)
      subst this; exact run_firstCells_none w sz len len cap
    | some r =>
      refine run_firstCells_some w sz len r len cap vs hvl ?_
      intro j v hj
      obtain ⟨k1, k2⟩ := h5 r rfl j v hj
      obtain ⟨b, o, sp⟩ := r
      simp only at k1; subst k1
      rw [addr_add]; exact hw.mem _ _ _ k2
  · cases a with
    | none =>
      have hl0 : len = 0 := by have := h4 rfl; omega
      have : vs = [] := List.length_eq_zero_iff.1 (by rw [hvl, hl0]; simp)
      subst this; exact run_firstCells_none w.drew sz len len cap
    | some r =>
      refine run_firstCells_some w.drew sz len r len cap vs hvl ?_
      intro j v hj
      obtain ⟨k1, k2⟩ := h5 r rfl j v hj
      obtain ⟨b, o, sp⟩ := r
      simp only at k1; subst k1
      rw [addr_add, World.cell?_drew]; exact hw.mem _ _ _ k2

theorem zOk_inv {e : TypeId} {ti : TyI} (h : zOk P e ti = true) : ∃ z i, P.info? e = some i ∧ i.zero = some z ∧ z.cells.size = ti.size := by
  unfold zOk at h
  cases hz : zeroI P e with
  | none => rw [hz] at h; cases h
  | some l =>
    rw [hz] at h
    obtain ⟨i, v, h1, h2, rfl⟩ := zeroI_inv hz
    simp at h
    exact ⟨v, i, h1, h2, h⟩

theorem kindT5 {u : TypeId} (h : kindT P u = 5) : ∃ d, P.underlying u = some d ∧ notInt d = true := by
  obtain ⟨e, he⟩ := (kindT_inv P u).2.2.2.1 h; exact ⟨_, he, rfl⟩

theorem encB_rep (s : ByteArray) : RepL M Phi.none ((encB s).flatMap AV.cells) (s.data.toList.map fun b => Value.int .u8 b.toNat) := by
  have : (encB s).flatMap AV.cells = encB s := by
    unfold encB
    induction s.data.toList with
    | nil => rfl
    | cons b l ih => simp only [List.map_cons, List.flatMap_cons, ih]; rfl
  rw [this]
  refine ⟨by simp [encB], ?_⟩
  intro i x v h1 h2
  unfold encB at h1
  simp only [List.getElem?_map, Option.map_eq_some_iff] at h1 h2
  obtain ⟨b, k1, rfl⟩ := h1
  obtain ⟨c, k2, rfl⟩ := h2
  rw [k1] at k2; cases k2
  exact .lit _

theorem zero_cells {z : Value} {sz : Nat} {ag : Bool} (hz : z.cells.size = sz) (hidf : (z.cells.toList.map ofConst).all AV.idf = true) (hag : ag = false → sz = 1) :
    (if ag then AV.agg (z.cells.toList.map ofConst) else (z.cells.toList.map ofConst).headD .any).cells = z.cells.toList.map ofConst := by
  cases ag with
  | true => rfl
  | false =>
    have h1 := hag rfl
    match hl : z.cells.toList with
    | [] => have : z.cells.toList.length = sz := by simpa using hz
            rw [hl] at this; simp at this; omega
    | [v] =>
      rw [hl] at hidf
      simp only [Bool.false_eq_true, if_false, List.map_cons, List.map_nil, List.headD_cons, List.all_cons, List.all_nil, Bool.and_true] at hidf ⊢
      unfold ofConst at hidf ⊢
      split <;> simp_all [AV.cells, AV.idf]
    | v :: v2 :: l => have : z.cells.toList.length = sz := by simpa using hz
                      rw [hl] at this; simp at this; omega

theorem zero_flat {c : List AV} {x : AV} (hc : x.cells = c) (n : Nat) : (List.replicate n x).flatMap AV.cells = (List.replicate n c).flatten := by
  induction n with
  | zero => rfl
  | succ n ih => simp only [List.replicate_succ, List.flatMap_cons, List.flatten_cons, ih, hc]

theorem rep_zero_els {z : Value} {sz n : Nat} {ag : Bool} (hz : z.cells.size = sz) (hidf : (z.cells.toList.map ofConst).all AV.idf = true) (hag : ag = false → sz = 1) :
    RepL M Phi.none ((List.replicate n (if ag then AV.agg (z.cells.toList.map ofConst) else (z.cells.toList.map ofConst).headD .any)).flatMap AV.cells) (if n * sz = 0 then #[] else Builtin.zeroCells z.cells n).toList := by
  have hc := zero_cells hz hidf hag
  rw [zero_flat hc]
  have hvals : (if n * sz = 0 then #[] else Builtin.zeroCells z.cells n).toList = (List.replicate n z.cells.toList).flatten := by
    have hlen : ∀ n, (List.replicate n z.cells.toList).flatten.length = n * sz := by
      intro n; simp [hz]
    by_cases h0 : n * sz = 0
    · rw [if_pos h0]
      have := hlen n
      rw [h0] at this
      exact (List.length_eq_zero_iff.1 this).symm
    · rw [if_neg h0]
      apply List.ext_getElem?
      intro j
      have hsz0 : 0 < sz := Nat.pos_of_ne_zero (by intro e; simp [e] at h0)
      have key : ∀ (n j : Nat), j < n * sz → (List.replicate n z.cells.toList).flatten[j]? = z.cells.toList[j % sz]? := by
        intro n
        induction n with
        | zero => intro j hj; simp at hj
        | succ n ih =>
          intro j hj
          rw [List.replicate_succ, List.flatten_cons]
          by_cases h1 : j < sz
          · rw [List.getElem?_append_left (by simpa [hz] using h1), Nat.mod_eq_of_lt h1]
          · rw [List.getElem?_append_right (by simpa [hz] using h1)]
            have e1 : z.cells.toList.length = sz := by simpa using hz
            rw [e1, ih (j - sz) (by rw [Nat.add_mul] at hj; omega), ← Nat.mod_eq_sub_mod (by omega)]
      by_cases hj : j < n * sz
      · rw [key n j hj]
        have : j % sz < z.cells.size := by rw [hz]; exact Nat.mod_lt _ hsz0
        simp [Builtin.zeroCells, hz, hj]
        rw [getElem!_pos z.cells (j % sz) this, Array.getElem?_eq_getElem this]
      · rw [List.getElem?_eq_none (by simp [Builtin.zeroCells, hz]; omega), List.getElem?_eq_none (by rw [hlen]; omega)]
  rw [hvals]
  have hr : RepL M Phi.none (z.cells.toList.map ofConst) z.cells.toList := repL_ofConst _
  clear hvals hc
  induction n with
  | zero => exact RepL.nil
  | succ n ih => simp only [List.replicate_succ, List.flatten_cons]; exact hr.append ih

theorem appM_x (hw : Wr w0 M φ g w) {t u e ty : TypeId} {ti : TyI} {x : AV} {xv : Value} (hu : P.underlying t = some (.slice e)) (hti : tyI P e = some ti) (hx : Rep M φ x xv) (hp : (appM P e ti u x).pre) (hz : zOk P e ti = true) (hb0 : ti.bytes ≠ 0)
    (hsz : szOk ti.size (appM P e ti u x).v.els) (hb : ((appM P e ti u x).v.els.length) * (2 * ti.bytes) ≤ 281474976710656) : AppX P t u e ty ti M w xv (appM P e ti u x).v.els := by
  obtain ⟨z, i, hz1, hz2, hz3⟩ := zOk_inv hz
  unfold appM at hp hsz hb ⊢
  split at hp
  · rename_i nl m tok
    obtain ⟨d, hd, hdn⟩ := kindT5 hp
    simp only [AV.els] at hsz hb ⊢
    obtain ⟨a, len, cap, rfl⟩ : ∃ a len cap, xv = .slice a len cap := by cases hx; exact ⟨_, _, _, rfl⟩
    obtain ⟨vs, h1, h2, h3, h4, h5, h6, h7⟩ := firstCells_isl (P := P) hw hx hsz
    subst h2
    exact ⟨z, vs.toArray, hz3, h1, fun base sLen sCap hroom => run_app_room ty hu hd hdn hti base sLen sCap _ m.length vs.toArray rfl h6 hroom,
      fun base sLen sCap olds ho hroom hb' => run_app_grow ty hu hd hdn hti base sLen sCap _ m.length olds vs.toArray rfl ho h7 hroom hb' hb0 z ⟨i, hz1, hz2⟩⟩
  · rename_i s
    obtain ⟨hk, hi8⟩ := hp
    simp only [AV.els] at hsz hb ⊢
    have hxv := lit_inv hx
    subst hxv
    have hd := (kindT_inv P u).2.1 hk
    have hlen : (encB s).length = s.size := by simp [encB]
    have hfc : ∀ w, (Builtin.firstCells ti.size s.size (.string s)).run P w = .ok (s.data.map fun b => Value.int .u8 b.toNat) w := by
      intro w
      have : s.extract 0 s.size = s := by simp
      simp [Builtin.firstCells, this]
    rw [hlen] at hb
    refine ⟨z, (s.data.map fun b => Value.int .u8 b.toNat), hz3, by simpa using encB_rep s, ?_, ?_⟩
    · rw [hlen]; exact fun base sLen sCap hroom => run_app_room ty hu hd rfl hti base sLen sCap _ s.size _ rfl (hfc w) hroom
    · rw [hlen]; exact fun base sLen sCap olds ho hroom hb' => run_app_grow ty hu hd rfl hti base sLen sCap _ s.size olds _ rfl ho (hfc w.drew) hroom hb' hb0 z ⟨i, hz1, hz2⟩
  · rename_i k
    cases hzi : zeroI P e with
    | none => rw [hzi] at hp; exact hp.elim
    | some zl =>
      rw [hzi] at hp hsz hb
      obtain ⟨hk, h0, h1, h2, h3, hag⟩ := hp
      obtain ⟨i', v', j1, j2, rfl⟩ := zeroI_inv hzi
      rw [hz1] at j1; cases j1
      rw [hz2] at j2; have hzv : z = v' := Option.some.inj j2; subst hzv
      replace hb : (List.replicate k.toNat (if ti.agg then AV.agg (z.cells.toList.map ofConst) else (z.cells.toList.map ofConst).headD .any)).length * (2 * ti.bytes) ≤ 281474976710656 := hb
      rw [List.length_replicate] at hb
      show AppX P t u e ty ti M w xv (List.replicate k.toNat (if ti.agg then AV.agg (z.cells.toList.map ofConst) else (z.cells.toList.map ofConst).headD .any))
      have hxv := lit_inv hx
      subst hxv
      obtain ⟨k', hd⟩ := (kindT_inv P u).2.2.2.2.2 hk
      have hkb : k * ti.bytes ≤ 281474976710656 := by
        have h5 : k.toNat * ti.bytes ≤ k.toNat * (2 * ti.bytes) := Nat.mul_le_mul_left _ (by omega)
        have h6 : k.toNat * ti.bytes ≤ 281474976710656 := by omega
        have h7 : ((k.toNat * ti.bytes : Nat) : Int) ≤ ((281474976710656 : Nat) : Int) := Int.ofNat_le.2 h6
        rw [Int.natCast_mul, Int.toNat_of_nonneg h0] at h7
        exact h7
      refine ⟨z, _, hz3, rep_zero_els hz3 h3 hag, ?_, ?_⟩
      · intro base sLen sCap hroom
        rw [List.length_replicate] at hroom ⊢
        exact run_app_room0 ty hu hd hti base sLen sCap k z ⟨i, hz1, hz2⟩ h0 h1 hkb hroom
      · intro base sLen sCap olds ho hroom hb'
        rw [List.length_replicate] at hroom hb' ⊢
        exact run_app_grow0 ty hu hd hti base sLen sCap k z ⟨i, hz1, hz2⟩ h0 h1 hkb olds ho hroom hb' hb0
  · exact hp.elim

end
end Go.Av

namespace Go.Av
set_option linter.unusedVariables false
set_option linter.unusedSimpArgs false
open Go.RowKit

section
variable {P : Program} {w0 w : World} {M : Mem} {φ : Phi} {g : GH}

theorem nlA_some {nl : Option Bool} {b : Bool} (h : nlA nl = some b) : nl = some false ∧ b = false := by
  unfold nlA at h; split at h
  · exact ⟨‹_›, by simpa using h.symm⟩
  · cases h

theorem repL_flat_append {l m : List AV} {vs us : List Value} (h : RepL M φ (l.flatMap AV.cells) vs) (k : RepL M φ (m.flatMap AV.cells) us) : RepL M φ ((l ++ m).flatMap AV.cells) (vs ++ us) := by
  rw [List.flatMap_append]; exact h.append k

theorem szOk_append {n : Nat} {l m : List AV} (h : szOk n l) (k : szOk n m) : szOk n (l ++ m) := by
  intro y hy
  rcases List.mem_append.1 hy with hy | hy
  · exact h y hy
  · exact k y hy

theorem repL_one {cs : List AV} {vs : List Value} (h : RepL M φ cs vs) (hc : cs.all AV.scalar = true) : ∀ v ∈ vs, v.oneCell' = true := by
  intro u hu
  obtain ⟨i, hi, rfl⟩ := List.getElem_of_mem hu
  have hi' : i < cs.length := by rw [h.1]; exact hi
  exact (h.2 i cs[i] _ (by simp [hi']) (by simp [hi])).scalar (List.all_eq_true.1 hc _ (List.getElem_mem hi'))

theorem elsOk_scalar {sz : Nat} {l : List AV} (h : elsOk sz l) : (l.flatMap AV.cells).all AV.scalar = true := by
  have := elsOk_idf h
  rw [List.all_eq_true] at this ⊢
  intro x hx; exact idf_scalar (this x hx)

theorem size_zeroCells' (z : Array Value) (n : Nat) : (Builtin.zeroCells z n).size = n * z.size := by simp [Builtin.zeroCells]

theorem grownCap_ge' (w : World) (need old : Nat) (e : TypeId) : need ≤ grownCap w need old e := by
  unfold grownCap; simp [Question.cut]

/-- the new block of an append, nobody's to write -/
theorem grow_imm (hw : Wr w0 M φ g w) (vs us : List Value) (spare : Array Value) (e : TypeId) :
    Wr w0 (memAdd M w.heap.size ((vs ++ us)[·]?)) φ g (w.drew.alloc (.cells (vs.toArray ++ us.toArray ++ spare) e (0, 0))) := by
  have hd := hw.drew
  refine hd.grow (hd.below.alloc hd.below.size _) (hd.mem_alloc _ e _ ?_) (memAdd_le fun j _ _ => hw.none_new j) fun r hr => ⟨heap_alloc_lt w.drew _ hr, fun j => memAdd_other (by have : r < w.heap.size := hr; omega) j⟩
  intro j v hv
  have hj : j < (vs ++ us).length := (List.getElem?_eq_some_iff.1 hv).1
  rw [Array.getElem?_append_left (by simpa using hj)]
  simpa using hv

theorem appendA_gives (hw : Wr w0 M φ g w) {C : Cfg} (hP : C.P = P) {d : Nat} {ts : Array TypeId} {ty : TypeId} {s x : AV} {sv xv : Value} (hs : Rep M φ s sv) (hx : Rep M φ x xv) (hp : (appendA C d ts.toList g s x).pre) :
    Gives P (Builtin.append_ ts ty #[sv, xv]) w0 M φ g w (appendA C d ts.toList g s x).v (appendA C d ts.toList g s x).wr := by
  subst hP
  obtain ⟨ts⟩ := ts
  unfold appendA at hp ⊢
  simp only at hp ⊢
  split at hp
  case h_2 => exact hp.elim
  rename_i t u
  split at hp
  case h_2 => exact hp.elim
  rename_i e he
  split at hp
  case h_2 => exact hp.elim
  rename_i ti hti
  have hu := slT_inv he
  generalize hmo : appM C.P e ti u x = mo at hp ⊢
  split at hp
  · -- a slice with room under a name
    rename_i nl l k ver
    split at hp
    case h_2 => exact hp.elim
    rename_i v hgk
    obtain ⟨p1, rfl, p2, p3, p4, p5, p6, p7⟩ := hp
    have hX : AppX C.P t u e ty ti M w xv mo.v.els := by
      subst hmo
      exact appM_x hw hu hti hx p1 p6 p5 (elsOk_sz p4) (Nat.le_trans (Nat.mul_le_mul_right _ (by omega)) p2)
    obtain ⟨z, news, hz, hnews, hroomR, hgrowR⟩ := hX.ex
    obtain ⟨a, len, cap, rfl⟩ : ∃ a len cap, sv = .slice a len cap := by cases hs; exact ⟨_, _, _, rfl⟩
    obtain ⟨vs, h1, h2, h3, h4, h5, h6, h7⟩ := firstCells_isl (P := C.P) hw hs (elsOk_sz p3)
    subst h2
    have htok : ∃ own sz', φ k v = some (.tk (a.map (·.block)) own sz' l.length cap) ∧ (own = true → ∀ r, a = some r → r = ⟨r.block, 0, none⟩) ∧ (l ≠ [] → sz' = ti.size) ∧ (∀ b, nl = some b → a.isNone = b) := by
      cases hs with
      | isl sz' cv hlen hcap hnl hnil hsz hsp hm hr hfull htok =>
        obtain ⟨own, h8, h9⟩ := htok k v rfl
        refine ⟨own, sz', h8, h9, ?_, hnl⟩
        intro hne
        obtain ⟨y, hy⟩ := List.exists_mem_of_ne_nil _ hne
        rw [← hsz y hy, (p3 y hy).1]
    obtain ⟨own, sz', hφ, hown, hsz', hnl⟩ := htok
    obtain ⟨hd, hφ', hok⟩ := hw.blk k _ hgk
    have : hd = .tk (a.map (·.block)) own sz' l.length cap := by
      have : φ k v = some hd := hφ'
      rw [hφ] at this; exact (Option.some.inj this).symm
    subst this
    have hver : ∀ b, g k = some b → b.ver < v + 1 := by intro b hb; rw [hgk] at hb; cases hb; simp [Blk.ver]
    have hn : φ k (v + 1) = Option.none := hw.fresh_ver hver
    have hvl : vs.length = l.length * ti.size := by rw [← h1.1, flat_len (elsOk_sz p3)]
    have hnl' : news.toList.length = mo.v.els.length * ti.size := by rw [← hnews.1, flat_len (elsOk_sz p4)]
    by_cases hroom : l.length + mo.v.els.length ≤ cap
    · have hrun := hroomR a l.length cap hroom
      cases own with
      | false =>
        -- no room of one's own: nothing is appended
        have hcl : l.length = cap := by cases a <;> exact hok
        have hm0 : mo.v.els = [] := List.length_eq_zero_iff.1 (by omega)
        have hnews0 : news.toList = [] := List.length_eq_zero_iff.1 (by rw [hnl', hm0]; simp)
        have hrun' : (Builtin.append_ #[t, u] ty #[.slice a l.length cap, xv]).run C.P w = .ok (.slice a l.length cap) w := by
          rw [hrun, hm0, hnews0]
          cases a with
          | none => rfl
          | some r => simp [storeCells]
        refine ⟨_, w, M, φ.add k (v + 1) (.tk (a.map (·.block)) false sz' l.length cap), hrun', Mem.le.refl _, Phi.le_add hn, add_mem, ?_, ?_⟩
        · rw [hm0, List.append_nil]
          cases hs with
          | isl sz'' cv hlen hcap hnl'' hnil hsz hsp hm hr hfull htok =>
            refine .isl sz'' cv hlen hcap (fun b hb => hnl b (by rw [(nlA_some hb).1, (nlA_some hb).2])) hnil hsz hsp hm hr (by simp) ?_
            intro k' ver' hk'
            cases hk'
            obtain ⟨own', h8, h9⟩ := htok k v rfl
            rw [hφ] at h8
            simp only [Option.some.injEq, Hd.tk.injEq] at h8
            exact ⟨false, by simp [Phi.add, h8.2.2.1], by simp⟩
        · refine hw.renew k (.tok (v + 1)) (.tk (a.map (·.block)) false sz' l.length cap) hw.below hw.mem (Mem.le.refl _) hver ?_ ?_
          · intro i b hd r hi hb hpq hr
            exact ⟨rfl, fun _ => rfl, by simp [Hd.blk]⟩
          · cases a <;> exact hcl
      | true =>
        cases a with
        | none => exact hok.elim
        | some r =>
          obtain ⟨b, o, sp⟩ := r
          have hro := hown rfl _ rfl
          simp only [Addr.mk.injEq, true_and] at hro
          obtain ⟨rfl, rfl⟩ := hro
          obtain ⟨hB, hlc, hz0, hn1, arr, e', ha, has⟩ := hok
          have hsz0 : l = [] → cap = 0 := fun e => hz0 (by subst e; rfl)
          have harr : arr.size = cap * ti.size := by
            by_cases hl : l = []
            · rw [has, hsz0 hl]; simp
            · rw [has, hsz' hl]
          have hn2 : ∀ j, l.length * ti.size ≤ j → M b j = none := by
            intro j hj
            by_cases hl : l = []
            · exact hn1 j (by subst hl; simp)
            · exact hn1 j (by rw [hsz' hl]; exact hj)
          have hle : l.length * ti.size + news.toList.length ≤ arr.size := by
            rw [hnl', harr, ← Nat.add_mul]; exact Nat.mul_le_mul_right _ hroom
          have hst := run_storeCells_splice C.P b e' (l.length * ti.size) news.toList 0 arr w ha (by omega) (repL_one hnews (elsOk_scalar p4))
          simp only [Nat.add_zero] at hst
          have hrun' : (Builtin.append_ #[t, u] ty #[.slice (some ⟨b, 0, none⟩) l.length cap, xv]).run C.P w = .ok (.slice (some ⟨b, 0, none⟩) (l.length + mo.v.els.length) cap) (w.setRow b (arrSplice arr (l.length * ti.size) news.toList)) := by
            rw [hrun]
            simp only [addr_add, Nat.zero_add, hst, Result.andThen_ok]
          have hMle : Mem.le M (memAdd M b fun j => if l.length * ti.size ≤ j ∧ j < l.length * ti.size + news.toList.length then news.toList[j - l.length * ti.size]? else none) := by
            refine memAdd_le ?_
            intro j u hj
            split at hj
            · rename_i hc; exact hn2 j hc.1
            · cases hj
          refine ⟨_, _, memAdd M b (fun j => if l.length * ti.size ≤ j ∧ j < l.length * ti.size + news.toList.length then news.toList[j - l.length * ti.size]? else none), φ.add k (v + 1) (.tk (some b) true ti.size (l.length + mo.v.els.length) cap), hrun', hMle, Phi.le_add hn, add_mem, ?_, ?_⟩
          · have := rep_isl_block (M := memAdd M b (fun j => if l.length * ti.size ≤ j ∧ j < l.length * ti.size + news.toList.length then news.toList[j - l.length * ti.size]? else none)) (φ := φ.add k (v + 1) (.tk (some b) true ti.size (l.length + mo.v.els.length) cap)) (szOk_append (elsOk_sz p3) (elsOk_sz p4)) (repL_flat_append (h1.mono hMle (Phi.le.refl _)) (hnews.mono hMle (Phi.le.refl _))) b 0 (by
                intro j v' hv'
                rw [Nat.zero_add]
                by_cases hj : j < vs.length
                · rw [List.getElem?_append_left hj] at hv'
                  have := (h5 _ rfl j v' hv').2
                  simp only [Nat.zero_add] at this
                  exact hMle _ _ _ this
                · rw [List.getElem?_append_right (by omega)] at hv'
                  have hjl := (List.getElem?_eq_some_iff.1 hv').1
                  refine memAdd_same ?_
                  rw [if_pos (by omega), ← hvl]
                  exact hv') (cap := cap) (by simp; omega) (nl := nlA nl) (fun b' hb' => (nlA_some hb').2) (tok := .at k (v + 1)) (by simp) (by
                intro k' ver' hk'; cases hk'
                exact ⟨true, by simp [Phi.add], fun _ => rfl⟩)
            simpa using this
          · refine hw.renew k (.tok (v + 1)) (.tk (some b) true ti.size (l.length + mo.v.els.length) cap) (below_setRow hw.below hB) ?_ hMle hver ?_ ?_
            · intro q j v' hm
              by_cases hq : q = b
              · subst hq
                rw [cell_setRow_same w q j arr _ e' (0, 0) ha, arrSplice_get _ _ _ _ hle]
                unfold memAdd at hm
                simp only [if_true] at hm
                split
                · rename_i hc
                  simp only [hc, and_self, if_true] at hm
                  rw [List.getElem?_eq_getElem (by omega)] at hm ⊢
                  exact hm
                · rename_i hc
                  simp only [hc, if_false] at hm
                  have := hw.mem _ _ _ hm
                  simpa [World.cell?, ha] using this
              · rw [memAdd_other hq] at hm
                rw [cell_setRow_ne w b q j _ hq]
                exact hw.mem q j v' hm
            · intro i b' hd' r' hi hb' hpq hr'
              have hne : r' ≠ b := by
                intro e; subst e
                exact hi (hw.inj i k b' _ hd' _ r' hb' hgk hpq hφ' hr' (by simp [Hd.blk]))
              exact ⟨setRow_other w b r' _ hne, fun j => memAdd_other hne j, by simp [Hd.blk]; exact fun e => hne e.symm⟩
            · refine ⟨hB, hroom, ?_, ?_, _, e', setRow_heap w b arr _ e' (0, 0) ha, by rw [arrSplice_size _ _ _ hle]; exact harr⟩
              · intro h0; exact hz0 (by omega)
              · intro j hj
                have : ¬ (l.length * ti.size ≤ j ∧ j < l.length * ti.size + news.toList.length) := by
                  rw [hnl', ← Nat.add_mul]; omega
                rw [memAdd_none (by simp only [this, if_false])]
                exact hn2 j (by rw [Nat.add_mul] at hj; omega)
    · -- a new block
      have hrun := hgrowR a l.length cap vs.toArray h7 hroom p2
      have hgc := grownCap_ge' w (l.length + mo.v.els.length) cap e
      have hMle : Mem.le M (memAdd M w.heap.size ((vs ++ news.toList)[·]?)) := memAdd_le fun j _ _ => hw.none_new j
      refine ⟨_, _, memAdd M w.heap.size ((vs ++ news.toList)[·]?), φ.add k (v + 1) (.tk (some w.heap.size) true ti.size (l.length + mo.v.els.length) (grownCap w (l.length + mo.v.els.length) cap e)), hrun, hMle, Phi.le_add hn, add_mem, ?_, ?_⟩
      · have := rep_isl_block (M := memAdd M w.heap.size ((vs ++ news.toList)[·]?)) (φ := φ.add k (v + 1) (.tk (some w.heap.size) true ti.size (l.length + mo.v.els.length) (grownCap w (l.length + mo.v.els.length) cap e))) (szOk_append (elsOk_sz p3) (elsOk_sz p4)) (repL_flat_append (h1.mono hMle (Phi.le.refl _)) (hnews.mono hMle (Phi.le.refl _))) w.heap.size 0 (by
            intro j v' hv'
            rw [Nat.zero_add]
            exact memAdd_same hv') (cap := grownCap w (l.length + mo.v.els.length) cap e) (by simpa using hgc) (nl := nlA nl) (fun b' hb' => (nlA_some hb').2) (tok := .at k (v + 1)) (by simp) (by
            intro k' ver' hk'; cases hk'
            exact ⟨true, by simp [Phi.add], fun _ => rfl⟩)
        simpa using this
      · have hd := hw.drew
        have hsize : (vs.toArray ++ news ++ Builtin.zeroCells z.cells (grownCap w (l.length + mo.v.els.length) cap e - (l.length + mo.v.els.length))).size = grownCap w (l.length + mo.v.els.length) cap e * ti.size := by
          have hnn : news.size = mo.v.els.length * ti.size := by simpa using hnl'
          simp only [Array.size_append, List.size_toArray, hvl, hnn, size_zeroCells', hz]
          rw [← Nat.add_mul, ← Nat.add_mul]
          congr 1; omega
        refine hd.alloc_named k (.tok (v + 1)) (.tk (some w.heap.size) true ti.size (l.length + mo.v.els.length) (grownCap w (l.length + mo.v.els.length) cap e)) _ e _ ?_ hver rfl ?_
        · intro j v' hv'
          have hj : j < (vs ++ news.toList).length := (List.getElem?_eq_some_iff.1 hv').1
          rw [Array.getElem?_append_left (by simpa using hj)]
          have : (vs.toArray ++ news)[j]? = (vs ++ news.toList)[j]? := by
            rw [← Array.getElem?_toList]; simp
          rw [this]; exact hv'
        · refine ⟨hd.below.size, hgc, fun h0 => by omega, ?_, _, e, heap_alloc_new _ _, hsize⟩
          intro j hj
          show memAdd M w.drew.heap.size _ w.heap.size j = none
          rw [show w.drew.heap.size = w.heap.size from rfl, memAdd_none (List.getElem?_eq_none (by rw [List.length_append, hvl, hnl', ← Nat.add_mul]; exact hj))]
          exact hw.none_new j
  · -- a slice without room
    rename_i nl l
    have hall : ∃ p0 : (mo.pre ∧ (l.length + mo.v.els.length) * (2 * ti.bytes) ≤ 281474976710656 ∧ elsOk ti.size l ∧ elsOk ti.size mo.v.els ∧ ti.bytes ≠ 0 ∧ zOk C.P e ti = true), True := by
      split at hp
      · exact ⟨hp, trivial⟩
      · exact ⟨hp.1, trivial⟩
    obtain ⟨⟨p1, p2, p3, p4, p5, p6⟩, -⟩ := hall
    have hX : AppX C.P t u e ty ti M w xv mo.v.els := by
      subst hmo
      exact appM_x hw hu hti hx p1 p6 p5 (elsOk_sz p4) (Nat.le_trans (Nat.mul_le_mul_right _ (by omega)) p2)
    obtain ⟨z, news, hz, hnews, hroomR, hgrowR⟩ := hX.ex
    obtain ⟨a, len, cap, rfl⟩ : ∃ a len cap, sv = .slice a len cap := by cases hs; exact ⟨_, _, _, rfl⟩
    obtain ⟨vs, h1, h2, h3, h4, h5, h6, h7⟩ := firstCells_isl (P := C.P) hw hs (elsOk_sz p3)
    subst h2
    have hcl : cap = l.length := by cases hs with | isl sz' cv hlen hcap hnl hnil hsz hsp hm hr hfull htok => exact hfull rfl
    subst hcl
    have hvl : vs.length = l.length * ti.size := by rw [← h1.1, flat_len (elsOk_sz p3)]
    have hnl' : news.toList.length = mo.v.els.length * ti.size := by rw [← hnews.1, flat_len (elsOk_sz p4)]
    -- the value alone
    have val : ∀ (φ' : Phi) (tok : Tk), Phi.le φ φ' → tok ≠ .full →
        (mo.v.els = [] → ∀ k ver, tok = .at k ver → ∃ sz', (l ≠ [] → sz' = ti.size) ∧ φ' k ver = some (.tk (a.map (·.block)) false sz' l.length l.length)) →
        (mo.v.els ≠ [] → ∀ k ver, tok = .at k ver → φ' k ver = some (.tk (some w.heap.size) true ti.size (l.length + mo.v.els.length) (grownCap w (l.length + mo.v.els.length) l.length e))) →
        ∃ x' w' M', (Builtin.append_ #[t, u] ty #[.slice a l.length l.length, xv]).run C.P w = .ok x' w' ∧ Mem.le M M' ∧ Rep M' φ' (.isl (nlA nl) (l ++ mo.v.els) tok) x' ∧
          (mo.v.els = [] → w' = w ∧ M' = M) ∧ (mo.v.els ≠ [] → M' = memAdd M w.heap.size ((vs ++ news.toList)[·]?) ∧
            w' = w.drew.alloc (.cells (vs.toArray ++ news ++ Builtin.zeroCells z.cells (grownCap w (l.length + mo.v.els.length) l.length e - (l.length + mo.v.els.length))) e)) := by
      intro φ' tok hφle htf htn htg
      by_cases hm0 : mo.v.els = []
      · have hnews0 : news.toList = [] := List.length_eq_zero_iff.1 (by rw [hnl', hm0]; simp)
        have hrun' : (Builtin.append_ #[t, u] ty #[.slice a l.length l.length, xv]).run C.P w = .ok (.slice a l.length l.length) w := by
          rw [hroomR a l.length l.length (by rw [hm0]; simp), hm0, hnews0]
          cases a with
          | none => rfl
          | some r => simp [storeCells]
        refine ⟨_, w, M, hrun', Mem.le.refl _, ?_, fun _ => ⟨rfl, rfl⟩, fun h => absurd hm0 h⟩
        rw [hm0, List.append_nil]
        cases hs with
        | isl sz'' cv hlen hcap hnl'' hnil hsz hsp hm hr hfull htok =>
          by_cases hl : l = []
          · subst hl
            cases tok with
            | full => exact absurd rfl htf
            | no => exact .isl sz'' cv hlen hcap (fun b hb => hnl'' b (by rw [(nlA_some hb).1, (nlA_some hb).2])) hnil hsz hsp hm hr (by simp) (by simp)
            | «at» k ver =>
              obtain ⟨sz', hsz', hφ'⟩ := htn hm0 k ver rfl
              exact .isl sz' cv hlen hcap (fun b hb => hnl'' b (by rw [(nlA_some hb).1, (nlA_some hb).2])) hnil (by simp) hsp (by simp) (by simp) (by simp) (by
                intro k' ver' hk; cases hk; exact ⟨false, hφ', by simp⟩)
          · have hsz1 : sz'' = ti.size := by
              obtain ⟨y, hy⟩ := List.exists_mem_of_ne_nil _ hl
              rw [← hsz y hy, (p3 y hy).1]
            subst hsz1
            refine .isl ti.size cv hlen hcap (fun b hb => hnl'' b (by rw [(nlA_some hb).1, (nlA_some hb).2])) hnil hsz hsp hm hr (fun e => absurd e htf) ?_
            intro k ver hk
            obtain ⟨sz', hsz', hφ'⟩ := htn hm0 k ver hk
            rw [hsz' hl] at hφ'
            exact ⟨false, hφ', by simp⟩
      · have hroom : ¬ l.length + mo.v.els.length ≤ l.length := by
          have : mo.v.els.length ≠ 0 := fun h => hm0 (List.length_eq_zero_iff.1 h)
          omega
        have hrun := hgrowR a l.length l.length vs.toArray h7 hroom p2
        have hgc := grownCap_ge' w (l.length + mo.v.els.length) l.length e
        have hMle : Mem.le M (memAdd M w.heap.size ((vs ++ news.toList)[·]?)) := memAdd_le fun j _ _ => hw.none_new j
        refine ⟨_, _, _, hrun, hMle, ?_, fun h => absurd h hm0, fun _ => ⟨rfl, rfl⟩⟩
        have := rep_isl_block (M := memAdd M w.heap.size ((vs ++ news.toList)[·]?)) (φ := φ') (szOk_append (elsOk_sz p3) (elsOk_sz p4)) (repL_flat_append (h1.mono hMle (Phi.le.refl _)) (hnews.mono hMle (Phi.le.refl _))) w.heap.size 0 (by
            intro j v' hv'
            rw [Nat.zero_add]
            exact memAdd_same hv') (cap := grownCap w (l.length + mo.v.els.length) l.length e) (by simpa using hgc) (nl := nlA nl) (fun b' hb' => (nlA_some hb').2) (tok := tok) (fun h => absurd h htf) (by
            intro k' ver' hk'
            exact ⟨true, by simpa using htg hm0 k' ver' hk', fun _ => rfl⟩)
        simpa using this
    have hsize : (vs.toArray ++ news ++ Builtin.zeroCells z.cells (grownCap w (l.length + mo.v.els.length) l.length e - (l.length + mo.v.els.length))).size = grownCap w (l.length + mo.v.els.length) l.length e * ti.size := by
      have hgc := grownCap_ge' w (l.length + mo.v.els.length) l.length e
      have hnn : news.size = mo.v.els.length * ti.size := by simpa using hnl'
      simp only [Array.size_append, List.size_toArray, hvl, hnn, size_zeroCells', hz]
      rw [← Nat.add_mul, ← Nat.add_mul]
      congr 1; omega
    have harr : ∀ (j : Nat) (v' : Value), (vs ++ news.toList)[j]? = some v' → (vs.toArray ++ news ++ Builtin.zeroCells z.cells (grownCap w (l.length + mo.v.els.length) l.length e - (l.length + mo.v.els.length)))[j]? = some v' := by
      intro j v' hv'
      have hj : j < (vs ++ news.toList).length := (List.getElem?_eq_some_iff.1 hv').1
      rw [Array.getElem?_append_left (by simpa using hj)]
      have : (vs.toArray ++ news)[j]? = (vs ++ news.toList)[j]? := by
        rw [← Array.getElem?_toList]; simp
      rw [this]; exact hv'
    split at hp
    · obtain ⟨x', w', M', hr1, hr2, hr3, hr4, hr5⟩ := val φ .no (Phi.le.refl _) (by simp) (by simp) (by simp)
      refine ⟨x', w', M', φ, hr1, hr2, Phi.le.refl _, fun _ _ _ h => .inl h, hr3, ?_⟩
      by_cases hm0 : mo.v.els = []
      · obtain ⟨rfl, rfl⟩ := hr4 hm0; exact hw
      · obtain ⟨rfl, rfl⟩ := hr5 hm0
        have hd := hw.drew
        exact hd.grow (hd.below.alloc hd.below.size _) (hd.mem_alloc _ e _ harr) (memAdd_le fun j _ _ => hw.none_new j) fun r hr => ⟨heap_alloc_lt w.drew _ hr, fun j => memAdd_other (by have : r < w.heap.size := hr; omega) j⟩
    · have hn : φ (C.id d) (nextV g (C.id d)) = Option.none := hw.fresh_ver (nextV_lt g _)
      by_cases hm0 : mo.v.els = []
      · have hsz' : ∃ sz', True ∧ (l ≠ [] → sz' = ti.size) := ⟨ti.size, trivial, fun _ => rfl⟩
        obtain ⟨x', w', M', hr1, hr2, hr3, hr4, hr5⟩ := val (φ.add (C.id d) (nextV g (C.id d)) (.tk (a.map (·.block)) false ti.size l.length l.length)) (.at (C.id d) (nextV g (C.id d))) (Phi.le_add hn) (by simp)
          (fun _ k ver hk => by cases hk; exact ⟨ti.size, fun _ => rfl, by simp [Phi.add]⟩) (fun h => absurd hm0 h)
        obtain ⟨rfl, rfl⟩ := hr4 hm0
        refine ⟨x', w', M', _, hr1, hr2, Phi.le_add hn, add_mem, hr3, ?_⟩
        refine hw.renew (C.id d) (.tok (nextV g (C.id d))) _ hw.below hw.mem (Mem.le.refl _) (nextV_lt g _) ?_ ?_
        · intro i b hd r hi hb hpq hr
          exact ⟨rfl, fun _ => rfl, by simp [Hd.blk]⟩
        · cases a <;> rfl
      · obtain ⟨x', w', M', hr1, hr2, hr3, hr4, hr5⟩ := val (φ.add (C.id d) (nextV g (C.id d)) (.tk (some w.heap.size) true ti.size (l.length + mo.v.els.length) (grownCap w (l.length + mo.v.els.length) l.length e))) (.at (C.id d) (nextV g (C.id d))) (Phi.le_add hn) (by simp)
          (fun h => absurd h hm0) (fun _ k ver hk => by cases hk; simp [Phi.add])
        obtain ⟨rfl, rfl⟩ := hr5 hm0
        refine ⟨x', _, _, _, hr1, hr2, Phi.le_add hn, add_mem, hr3, ?_⟩
        have hd := hw.drew
        refine hd.alloc_named (C.id d) (.tok (nextV g (C.id d))) _ _ e _ harr (nextV_lt g _) rfl ?_
        have hgc := grownCap_ge' w (l.length + mo.v.els.length) l.length e
        refine ⟨hd.below.size, hgc, fun h0 => ?_, ?_, _, e, heap_alloc_new _ _, hsize⟩
        · have : mo.v.els.length ≠ 0 := fun h => hm0 (List.length_eq_zero_iff.1 h)
          omega
        · intro j hj
          show memAdd M w.drew.heap.size _ w.heap.size j = none
          rw [show w.drew.heap.size = w.heap.size from rfl, memAdd_none (List.getElem?_eq_none (by rw [List.length_append, hvl, hnl', ← Nat.add_mul]; exact hj))]
          exact hw.none_new j
  · -- a slice of one's own to write
    rename_i id ver sz off len
    split at hp
    case h_2 => exact hp.elim
    rename_i v cs hgk
    obtain ⟨p1, rfl, rfl, rfl, pc, p2, p4, p5, p6, p7⟩ := hp
    have hX : AppX C.P t u e ty ti M w xv mo.v.els := by
      subst hmo
      exact appM_x hw hu hti hx p1 p6 p5 (elsOk_sz p4) (Nat.le_trans (Nat.mul_le_mul_right _ (by omega)) p2)
    obtain ⟨z, news, hz, hnews, hroomR, hgrowR⟩ := hX.ex
    have hver : ∀ b, g id = some b → b.ver < v + 1 := by intro b hb; rw [hgk] at hb; cases hb; simp [Blk.ver]
    have hn : φ id (v + 1) = Option.none := hw.fresh_ver hver
    have hnl' : news.toList.length = mo.v.els.length * ti.size := by rw [← hnews.1, flat_len (elsOk_sz p4)]
    obtain ⟨hd, hφ', hok⟩ := hw.blk id _ hgk
    have hφ' : φ id v = some hd := hφ'
    cases hs with
    | @osl _ _ _ _ _ _ a cap Cc r hφ hC hcap hnone hz0 ha =>
      rw [hφ] at hφ'
      obtain rfl := Option.some.inj hφ'
      have hCc : Cc = cap := by omega
      subst hCc
      cases r with
      | none =>
        obtain ⟨rfl, hcz⟩ := hok
        subst hcz
        have hl0 : len = 0 := by omega
        subst hl0
        have ha0 : a = none := hnone.2 rfl
        subst ha0
        by_cases hm0 : mo.v.els = []
        · have hnews0 : news.toList = [] := List.length_eq_zero_iff.1 (by rw [hnl', hm0]; simp)
          have hrun' : (Builtin.append_ #[t, u] ty #[.slice none 0 0, xv]).run C.P w = .ok (.slice none 0 0) w := by
            rw [hroomR none 0 0 (by rw [hm0]; simp), hm0]; simp
          refine ⟨_, w, M, φ.add id (v + 1) (.row none ti.size 0), hrun', Mem.le.refl _, Phi.le_add hn, add_mem, ?_, ?_⟩
          · rw [hm0]
            exact .osl (r := none) (C := 0) (by simp [Phi.add]) (by simp) (by simp) (by simp) (by simp) (by simp)
          · refine hw.renew id (.cells (v + 1) ([] ++ mo.v.els.flatMap AV.cells)) _ hw.below hw.mem (Mem.le.refl _) hver ?_ ?_
            · intro i b hd r hi hb hpq hr
              exact ⟨rfl, fun _ => rfl, by simp [Hd.blk]⟩
            · rw [hm0]; exact ⟨rfl, rfl⟩
        · have hroom : ¬ 0 + mo.v.els.length ≤ 0 := by
            have : mo.v.els.length ≠ 0 := fun h => hm0 (List.length_eq_zero_iff.1 h)
            omega
          have hrun := hgrowR none 0 0 #[] (run_firstCells_none _ _ _ _ _) hroom p2
          have hgc := grownCap_ge' w (0 + mo.v.els.length) 0 e
          refine ⟨_, _, M, φ.add id (v + 1) (.row (some w.heap.size) ti.size (grownCap w (0 + mo.v.els.length) 0 e)), hrun, Mem.le.refl _, Phi.le_add hn, add_mem, ?_, ?_⟩
          · exact .osl (r := some w.heap.size) (C := grownCap w (0 + mo.v.els.length) 0 e) (by simp [Phi.add]) (by omega) hgc (by simp) (by simp) (by intro q hq _; cases hq; simp)
          · have hd := hw.drew
            have hnn : news.size = mo.v.els.length * ti.size := by simpa using hnl'
            have := hd.alloc_named id (.cells (v + 1) ([] ++ mo.v.els.flatMap AV.cells)) (.row (some w.heap.size) ti.size (grownCap w (0 + mo.v.els.length) 0 e)) (#[] ++ news ++ Builtin.zeroCells z.cells (grownCap w (0 + mo.v.els.length) 0 e - (0 + mo.v.els.length))) e (fun _ => none) (by simp) hver rfl (by
              rw [memAdd_nothing]
              refine ⟨hd.below.size, fun j => hw.none_new j, _, e, heap_alloc_new _ _, ?_, ?_, ?_⟩
              · simp only [Array.size_append, List.size_toArray, List.length_nil, hnn, size_zeroCells', hz]
                rw [Nat.zero_add, ← Nat.add_mul]; congr 1; omega
              · simp only [List.nil_append, Array.size_append, List.size_toArray, List.length_nil]
                rw [hnews.1]; simp
              · intro j x' v' hj1 hj2
                simp only [List.nil_append] at hj1
                have hjl : j < news.size := by rw [hnn, ← flat_len (elsOk_sz p4)]; exact (List.getElem?_eq_some_iff.1 hj1).1
                rw [Array.getElem?_append_left (by simpa using hjl)] at hj2
                exact (hnews.2 j x' v' hj1 (by simpa using hj2)).mono (Mem.le.refl _) (Phi.none_le _))
            rw [memAdd_nothing] at this
            exact this
      | some q =>
        obtain ⟨hB, hMn, arr, e', harr, hasz, hcl, hrep⟩ := hok
        have hcsl : cs.length = len * ti.size := pc.symm
        by_cases hroom : len + mo.v.els.length ≤ Cc
        · have hrun := hroomR a len Cc hroom
          have hle : len * ti.size + news.toList.length ≤ arr.size := by
            rw [hnl', hasz, ← Nat.add_mul]; exact Nat.mul_le_mul_right _ hroom
          have hst := run_storeCells_splice C.P q e' (len * ti.size) news.toList 0 arr w harr (by omega) (repL_one hnews (elsOk_scalar p4))
          simp only [Nat.add_zero] at hst
          have hrun' : ∃ sv', (Builtin.append_ #[t, u] ty #[.slice a len Cc, xv]).run C.P w = .ok sv' (w.setRow q (arrSplice arr (len * ti.size) news.toList)) ∧
              Rep M (φ.add id (v + 1) (.row (some q) ti.size Cc)) (.osl id (v + 1) ti.size 0 (len + mo.v.els.length)) sv' := by
            by_cases hc0 : Cc = 0
            · have hl0 : len = 0 := by omega
              have hm0 : mo.v.els = [] := List.length_eq_zero_iff.1 (by omega)
              have hnews0 : news.toList = [] := List.length_eq_zero_iff.1 (by rw [hnl', hm0]; simp)
              have hsp : arrSplice arr (len * ti.size) news.toList = arr := by rw [hnews0]; simp [arrSplice]
              refine ⟨.slice a (len + mo.v.els.length) Cc, ?_, .osl (r := some q) (C := Cc) (by simp [Phi.add]) (by omega) (by omega) hnone (by simp) (by intro q' hq' hne; exact absurd hc0 hne)⟩
              rw [hrun, hsp, setRow_self w q arr e' (0, 0) harr, hnews0]
              cases a with
              | none => rfl
              | some r => simp [storeCells]
            · have ha' := ha q rfl hc0
              subst ha'
              refine ⟨.slice (some ⟨q, 0 * ti.size, none⟩) (len + mo.v.els.length) Cc, ?_, .osl (r := some q) (C := Cc) (by simp [Phi.add]) (by omega) (by omega) (by simp) (by simp) (by intro q' hq' hne; cases hq'; rfl)⟩
              rw [hrun]
              simp only [addr_add, Nat.zero_mul, Nat.zero_add, hst, Result.andThen_ok]
          obtain ⟨sv', hrun', hsv'⟩ := hrun'
          refine ⟨sv', _, M, φ.add id (v + 1) (.row (some q) ti.size Cc), hrun', Mem.le.refl _, Phi.le_add hn, add_mem, hsv', ?_⟩
          refine hw.renew id (.cells (v + 1) (cs ++ mo.v.els.flatMap AV.cells)) (.row (some q) ti.size Cc) (below_setRow hw.below hB) ?_ (Mem.le.refl _) hver ?_ ?_
          · intro r j v' hm
            have : r ≠ q := by intro e; subst e; rw [hMn] at hm; cases hm
            rw [cell_setRow_ne w q r j _ this]
            exact hw.mem r j v' hm
          · intro i b' hd' r' hi hb' hpq hr'
            have hne : r' ≠ q := by
              intro e; subst e
              exact hi (hw.inj i id b' _ hd' _ r' hb' hgk hpq hφ hr' rfl)
            exact ⟨setRow_other w q r' _ hne, fun _ => rfl, by simp [Hd.blk]; exact fun e => hne e.symm⟩
          · refine ⟨hB, hMn, _, e', setRow_heap w q arr _ e' (0, 0) harr, by rw [arrSplice_size _ _ _ hle]; exact hasz, ?_, ?_⟩
            · rw [arrSplice_size _ _ _ hle, List.length_append, hnews.1, hcsl]; exact hle
            · intro j x' v' hj1 hj2
              rw [arrSplice_get _ _ _ _ hle] at hj2
              by_cases hj : j < cs.length
              · rw [List.getElem?_append_left hj] at hj1
                rw [if_neg (by omega)] at hj2
                exact (hrep j x' v' hj1 hj2).mono (Mem.le.refl _) (Phi.le_add hn)
              · rw [List.getElem?_append_right (by omega)] at hj1
                have hjl := (List.getElem?_eq_some_iff.1 hj1).1
                rw [hnews.1] at hjl
                rw [if_pos (by omega), ← hcsl] at hj2
                exact (hnews.2 _ x' v' hj1 hj2).mono (Mem.le.refl _) (Phi.none_le _)
        · have hfc : (Builtin.firstCells ti.size len (.slice a len Cc)).run C.P w.drew = .ok (arr.toList.take (len * ti.size)).toArray w.drew := by
            have hcl' : len * ti.size ≤ arr.size := by omega
            have hl : (arr.toList.take (len * ti.size)).length = len * ti.size := by simp; omega
            by_cases hc0 : Cc = 0
            · have hl0 : len = 0 := by omega
              subst hl0
              cases a with
              | none => simp [Builtin.firstCells]
              | some r => simp [Builtin.firstCells, loadCells, loadCellsFrom]
            · have ha' := ha q rfl hc0
              subst ha'
              refine run_firstCells_some w.drew ti.size len _ len Cc _ hl ?_
              intro j v' hj
              have hjl : j < len * ti.size := by rw [← hl]; exact (List.getElem?_eq_some_iff.1 hj).1
              rw [List.getElem?_take_of_lt hjl] at hj
              rw [addr_add, World.cell?_drew]
              simp only [Nat.zero_mul, Nat.zero_add, World.cell?, harr]
              simpa using hj
          have hrun := hgrowR a len Cc _ hfc hroom p2
          have hgc := grownCap_ge' w (len + mo.v.els.length) Cc e
          have hd := hw.drew
          have hnn : news.size = mo.v.els.length * ti.size := by simpa using hnl'
          have htk : (arr.toList.take (len * ti.size)).length = len * ti.size := by simp; omega
          refine ⟨_, _, M, φ.add id (v + 1) (.row (some w.heap.size) ti.size (grownCap w (len + mo.v.els.length) Cc e)), hrun, Mem.le.refl _, Phi.le_add hn, add_mem, ?_, ?_⟩
          · exact .osl (r := some w.heap.size) (C := grownCap w (len + mo.v.els.length) Cc e) (by simp [Phi.add]) (by omega) hgc (by simp) (by simp) (by intro q' hq' _; cases hq'; simp)
          · have := hd.alloc_named id (.cells (v + 1) (cs ++ mo.v.els.flatMap AV.cells)) (.row (some w.heap.size) ti.size (grownCap w (len + mo.v.els.length) Cc e))
              ((arr.toList.take (len * ti.size)).toArray ++ news ++ Builtin.zeroCells z.cells (grownCap w (len + mo.v.els.length) Cc e - (len + mo.v.els.length))) e (fun _ => none) (by simp) hver rfl (by
              rw [memAdd_nothing]
              refine ⟨hd.below.size, fun j => hw.none_new j, _, e, heap_alloc_new _ _, ?_, ?_, ?_⟩
              · simp only [Array.size_append, List.size_toArray, htk, hnn, size_zeroCells', hz]
                rw [← Nat.add_mul, ← Nat.add_mul]; congr 1; omega
              · simp only [Array.size_append, List.size_toArray, htk]
                rw [List.length_append, hnews.1, hcsl]; simp
              · intro j x' v' hj1 hj2
                have e1 : ((arr.toList.take (len * ti.size)).toArray ++ news).size = cs.length + news.toList.length := by simp only [Array.size_append, List.size_toArray, htk, hcsl]; simp
                have hjlt : j < cs.length + news.toList.length := by
                  have := (List.getElem?_eq_some_iff.1 hj1).1
                  rw [List.length_append, hnews.1] at this; exact this
                rw [Array.getElem?_append_left (by rw [e1]; exact hjlt)] at hj2
                by_cases hj : j < cs.length
                · rw [List.getElem?_append_left hj] at hj1
                  rw [Array.getElem?_append_left (by simp only [List.size_toArray, htk]; omega), List.getElem?_toArray, List.getElem?_take_of_lt (by omega)] at hj2
                  exact (hrep j x' v' hj1 (by simpa using hj2)).mono (Mem.le.refl _) (Phi.le_add hn)
                · rw [List.getElem?_append_right (by omega)] at hj1
                  rw [Array.getElem?_append_right (by simp only [List.size_toArray, htk]; omega)] at hj2
                  simp only [List.size_toArray, htk] at hj2
                  rw [← hcsl] at hj2
                  exact (hnews.2 _ x' v' hj1 (by simpa using hj2)).mono (Mem.le.refl _) (Phi.none_le _))
            rw [memAdd_nothing] at this
            exact this
  · exact hp.elim

theorem makeSliceA_gives (hw : Wr w0 M φ g w) {C : Cfg} (hP : C.P = P) {d : Nat} {t : TypeId} {x y : AV} {xv yv : Value} (hx : Rep M φ x xv) (hy : Rep M φ y yv) (hp : (makeSliceA C d t g x y).pre) :
    Gives P (Instr.makeSlice t xv yv) w0 M φ g w (makeSliceA C d t g x y).v (makeSliceA C d t g x y).wr := by
  subst hP
  unfold makeSliceA at hp ⊢
  split at hp
  case h_2 => exact hp.elim
  rename_i k n k' m
  cases hx; cases hy
  split at hp
  case h_2 => exact hp.elim
  rename_i e he
  split at hp
  case h_2 => exact hp.elim
  rename_i ti z hti hz
  have hu := slT_inv he
  obtain ⟨i, zv, hi, hzv, rfl⟩ := zeroI_inv hz
  have hp0 : n = m ∧ 0 ≤ n ∧ n * ti.bytes ≤ 281474976710656 ∧ n ≤ 9223372036854775807 ∧ (zv.cells.toList.map ofConst).length = ti.size ∧ (zv.cells.toList.map ofConst).all AV.idf = true ∧ (ti.agg = false → ti.size = 1) := by
    simp only at hp; split at hp
    · exact hp
    · exact hp.1
  obtain ⟨rfl, h0, h1, h2, h3, h4, h5⟩ := hp0
  have hzs : zv.cells.size = ti.size := by simpa using h3
  obtain ⟨i', d', hi', hd', hs, hby, _⟩ := tyI_inv hti
  rw [hi] at hi'; cases hi'
  have hw1 : IntKind.i64.wrap n = n := wrap_i64_in (by omega) h2
  have hel : zeroEl ti (zv.cells.toList.map ofConst) = (if ti.agg then AV.agg (zv.cells.toList.map ofConst) else (zv.cells.toList.map ofConst).headD .any) := rfl
  have hrep := rep_zero_els (M := M) (n := n.toNat) hzs h4 h5
  have hrun : (Instr.makeSlice t (.int k n) (.int k' n)).run C.P w = .ok (.slice (some ⟨w.heap.size, 0, none⟩) n.toNat n.toNat) (w.alloc (.cells (if n.toNat * ti.size = 0 then #[] else Builtin.zeroCells zv.cells n.toNat) e (0, 0))) := by
    have hb : ¬ (281474976710656 < (i.bytes : Int) * n) := by rw [← hby, Int.mul_comm]; omega
    have hn0 : ¬ n < 0 := by omega
    have hsz := run_sizeOf_ty hti w
    by_cases hz0 : n.toNat * ti.size = 0
    · simp [Instr.makeSlice, run_underlying hu, typeInfo, hi, asInt, asIntOf, hw1, hb, hn0, hsz, hz0, newRow]
      rw [show (Array.map (fun _ => default) (Array.range 0) : Array Value) = #[] from Array.eq_empty_of_size_eq_zero (by simp)]
    · have hzr : (zeroValue e).run C.P w = .ok zv w := by simp [zeroValue, typeInfo, hi, hzv]
      simp [Instr.makeSlice, run_underlying hu, typeInfo, hi, asInt, asIntOf, hw1, hb, hn0, hsz, hz0, hzr, newRow, Builtin.zeroCells, hzs]
  have hsz : szOk ti.size (List.replicate n.toNat (zeroEl ti (zv.cells.toList.map ofConst))) := by
    intro y hy
    rw [List.eq_of_mem_replicate hy, hel, zero_cells hzs h4 h5]; exact h3
  have hszArr : (if n.toNat * ti.size = 0 then #[] else Builtin.zeroCells zv.cells n.toNat).size = n.toNat * ti.size := by
    have := hrep.1
    rw [← hel, flat_len hsz] at this
    simpa using this.symm
  simp only at hp ⊢
  split at hp
  · refine ⟨_, _, _, φ, hrun, memAdd_le fun j _ _ => hw.none_new j, Phi.le.refl _, fun _ _ _ h => .inl h, ?_, hw.alloc_imm _ e⟩
    have := rep_isl_block (M := memAdd M w.heap.size ((if n.toNat * ti.size = 0 then #[] else Builtin.zeroCells zv.cells n.toNat)[·]?)) (φ := φ) hsz (hrep.mono (memAdd_le fun j _ _ => hw.none_new j) (Phi.le.refl _)) w.heap.size 0
      (fun k v hv => by rw [Nat.zero_add]; exact memAdd_same (by simpa using hv)) (cap := n.toNat) (by simp) (nl := some false) (by simp) (tok := .full) (by simp) (by simp)
    simpa using this
  · have hn : φ (C.id d) (nextV g (C.id d)) = Option.none := hw.fresh_ver (nextV_lt g _)
    have hcs : (if ti.agg then (List.replicate n.toNat (zv.cells.toList.map ofConst)).flatten else List.replicate n.toNat ((zv.cells.toList.map ofConst).headD .any)) = (List.replicate n.toNat (zeroEl ti (zv.cells.toList.map ofConst))).flatMap AV.cells := by
      cases hag : ti.agg with
      | true => rw [zero_flat (x := zeroEl ti (zv.cells.toList.map ofConst)) (c := zv.cells.toList.map ofConst) (by rw [hel, hag]; rfl)]; rfl
      | false =>
        have hc := zero_cells hzs h4 h5
        rw [hag] at hc
        simp only [Bool.false_eq_true, if_false] at hc ⊢
        have hel' : zeroEl ti (zv.cells.toList.map ofConst) = (zv.cells.toList.map ofConst).headD .any := by rw [hel, hag]; rfl
        rw [hel']
        have hc1 : ((zv.cells.toList.map ofConst).headD .any).cells = [(zv.cells.toList.map ofConst).headD .any] := by
          rw [hc]
          have hlen := h5 hag
          match hl : zv.cells.toList.map ofConst with
          | [] => rw [hl] at h3; simp at h3; omega
          | [v] => rfl
          | v :: v2 :: l => rw [hl] at h3; simp at h3; omega
        generalize (zv.cells.toList.map ofConst).headD .any = x at hc1
        induction n.toNat with
        | zero => rfl
        | succ n ih => simp only [List.replicate_succ, List.flatMap_cons, ← ih, hc1]; rfl
    rw [hcs]
    refine ⟨_, _, M, φ.add (C.id d) (nextV g (C.id d)) (.row (some w.heap.size) ti.size n.toNat), hrun, Mem.le.refl _, Phi.le_add hn, add_mem, ?_, ?_⟩
    · exact .osl (r := some w.heap.size) (C := n.toNat) (by simp [Phi.add]) (by omega) (Nat.le_refl _) (by simp) (by simp) (by intro q hq _; cases hq; simp)
    · have := hw.alloc_named (C.id d) (.cells (nextV g (C.id d)) ((List.replicate n.toNat (zeroEl ti (zv.cells.toList.map ofConst))).flatMap AV.cells)) (.row (some w.heap.size) ti.size n.toNat) _ e (fun _ => none) (by simp) (nextV_lt g _) rfl
        ⟨hw.below.size, fun j => by rw [memAdd_nothing]; exact hw.none_new j, _, e, heap_alloc_new _ _, hszArr, by rw [flat_len hsz, hszArr]; simp, fun j x v hj1 hj2 => by
          rw [memAdd_nothing]
          exact (hrep.2 j x v hj1 (by simpa using hj2)).mono (Mem.le.refl _) (Phi.none_le _)⟩
      rw [memAdd_nothing] at this
      exact this

end
end Go.Av

namespace Go.Av
set_option linter.unusedVariables false
set_option linter.unusedSimpArgs false
open Go.RowKit

def FrOk (M : Mem) (φ : Phi) (fr : List AV) (a : Act) : Prop := RepL M φ fr a.tmps.toList

def GivesN (P : Program) (s : Sem Next) (w0 : World) (M : Mem) (φ : Phi) (g : GH) (w : World) (v : AV) (wr : List (Nat × Blk)) : Prop :=
  ∃ nx x w' M' φ', s.run P w = .ok nx w' ∧ (nx = .value x ∨ nx = .skip ∧ x = undef) ∧ Mem.le M M' ∧ Phi.le φ φ' ∧ (∀ id ver hd, φ' id ver = some hd → φ id ver = some hd ∨ ∃ b, (id, b) ∈ wr) ∧ Rep M' φ' v x ∧ Wr w0 M' φ' (gputs g wr) w'

section
variable {P : Program} {w0 w : World} {M : Mem} {φ : Phi} {g : GH}

theorem Gives.next {s : Sem Value} {v : AV} {wr : List (Nat × Blk)} (h : Gives P s w0 M φ g w v wr) : GivesN P (do Pure.pure (Next.value (← s))) w0 M φ g w v wr := by
  obtain ⟨x, w', M', φ', h1, h2⟩ := h
  exact ⟨.value x, x, w', M', φ', by simp [h1], .inl rfl, h2⟩

theorem GivesU.next {s : Sem Unit} {wr : List (Nat × Blk)} (h : GivesU P s w0 M φ g w wr) : GivesN P (do s; pure Next.skip) w0 M φ g w (.lit undef) wr := by
  obtain ⟨w', M', φ', h1, h2, h3, h4, h5⟩ := h
  exact ⟨.skip, undef, w', M', φ', by simp [h1], .inr ⟨rfl, rfl⟩, h2, h3, h4, .lit _, h5⟩

theorem rep_ev {fr : List AV} {a : Act} (h : FrOk M φ fr a) (x : Operand) : Rep M φ (ev fr x) (a.eval x) := by
  cases x with
  | tmp t =>
    obtain ⟨t, rfl⟩ : ∃ t' : Nat, t' = t := ⟨t, rfl⟩
    simp only [ev, Act.eval]
    by_cases ht : t < fr.length
    · have hl : fr.length = a.tmps.size := by simpa using h.1
      have ht' : t < a.tmps.size := by omega
      exact h.2 t _ _ (by simp [List.getD_eq_getElem?_getD, ht]) (by simp [Array.getD, ht'])
    · have hl : fr.length = a.tmps.size := by simpa using h.1
      have ht' : ¬ t < a.tmps.size := by omega
      have e1 : fr.getD t (.lit undef) = .lit undef := by simp [List.getD_eq_getElem?_getD, List.getElem?_eq_none (by omega : fr.length ≤ t)]
      have e2 : a.tmps.getD t undef = undef := by simp [Array.getD, ht']
      rw [e1, e2]; exact .lit _
  | const v => exact rep_ofConst v
  | global g => exact .lit _
  | func f => exact .fn (by simp) (by simp)

theorem repO_map {fr : List AV} {a : Act} (h : FrOk M φ fr a) (x : Option Operand) : RepO M φ (x.map (ev fr)) (x.map a.eval) := by
  cases x with
  | none => exact .none
  | some x => exact .some (rep_ev h x)

theorem parts_ev {fr : List AV} {a : Act} (h : FrOk M φ fr a) : ∀ (ps : List (Nat × Operand)), Parts M φ (ps.map fun p => (p.1, ev fr p.2)) (ps.map fun p => (p.1, a.eval p.2))
  | [] => .nil
  | p :: ps => .cons (rep_ev h p.2) (parts_ev h ps)

theorem repL_map {fr : List AV} {a : Act} (h : FrOk M φ fr a) (xs : List Operand) : RepL M φ (xs.map (ev fr)) (xs.map a.eval) := by
  induction xs with
  | nil => exact RepL.nil
  | cons x xs ih => exact RepL.cons (rep_ev h x) ih

theorem assignA_gives (hw : Wr w0 M φ g w) {C : Cfg} {d : Nat} {x : AV} {xv : Value} (hx : Rep M φ x xv) (hp : (assignA C d g x).pre) :
    Gives P (pure xv) w0 M φ g w (assignA C d g x).v (assignA C d g x).wr := by
  unfold assignA at hp ⊢
  split at hp
  · have hn : φ (C.id d) (nextV g (C.id d)) = Option.none := hw.fresh_ver (nextV_lt g _)
    cases hx with
    | @isl _ _ _ _ a len cap sz cv hlen hcap hnl hnil hsz hsp hm hr hfull htok =>
      have hcl := hfull rfl
      simp only [List.length_nil] at hlen
      subst hlen; subst hcl
      refine ⟨.slice a 0 0, w, M, φ.add (C.id d) (nextV g (C.id d)) (.tk (a.map (·.block)) false sz 0 0), rfl, Mem.le.refl _, Phi.le_add hn, add_mem, ?_, ?_⟩
      · exact .isl sz cv rfl (Nat.le_refl _) hnl (by simp) (by simp) (by simp) (by simp) (by simp) (by simp) (by
          intro k ver hk; cases hk; exact ⟨false, by simp [Phi.add], by simp⟩)
      · refine hw.renew (C.id d) (.tok (nextV g (C.id d))) _ hw.below hw.mem (Mem.le.refl _) (nextV_lt g _) ?_ ?_
        · intro i b hd r hi hb hpq hr
          exact ⟨rfl, fun _ => rfl, by simp [Hd.blk]⟩
        · cases a <;> rfl
  · exact Gives.pure hw rfl hx

theorem nilCheckA_gives (hw : Wr w0 M φ g w) {x : AV} {xv : Value} (hx : Rep M φ x xv) (hp : (nilCheckA x).pre) :
    (∃ a, xv = .pointer (some a)) ∨ (∃ f vs, xv = .func (.func f) #[] vs) := by
  unfold nilCheckA at hp
  split at hp
  · cases hx; exact .inl ⟨_, rfl⟩
  · cases hx; exact .inl ⟨_, rfl⟩
  · cases hx; exact .inr ⟨_, _, rfl⟩
  · exact hp.elim

theorem nilCheckA_v (x : AV) (hp : (nilCheckA x).pre) : (nilCheckA x).v = x ∧ (nilCheckA x).wr = [] := by
  unfold nilCheckA at hp ⊢
  split at hp
  · exact ⟨rfl, rfl⟩
  · exact ⟨rfl, rfl⟩
  · exact ⟨rfl, rfl⟩
  · exact hp.elim

theorem arr2 {α : Type} {xs : Array α} {a b : α} (h : xs.toList = [a, b]) : xs = #[a, b] := by
  obtain ⟨l⟩ := xs; simp at h; subst h; rfl

theorem builtinA_gives (hw : Wr w0 M φ g w) {C : Cfg} (hP : C.P = P) {d : Nat} {b : Builtin} {ts : Array TypeId} {ty : TypeId} {cs : Array Bool} {xs : List AV} {vs : Array Value} (hr : RepL M φ xs vs.toList) (hp : (builtinA C d b ts.toList g xs).pre) :
    GivesN P (builtin b ts ty cs vs) w0 M φ g w (builtinA C d b ts.toList g xs).v (builtinA C d b ts.toList g xs).wr := by
  unfold builtinA at hp ⊢
  split at hp
  · rename_i s x
    have h2 : ∃ sv xv, vs = #[sv, xv] := by
      obtain ⟨l⟩ := vs
      match l, hr.1 with
      | [sv, xv], _ => exact ⟨sv, xv, rfl⟩
    obtain ⟨sv, xv, rfl⟩ := h2
    exact (appendA_gives hw hP (hr.2 0 s sv rfl rfl) (hr.2 1 x xv rfl rfl) hp).next
  · rename_i x
    have h2 : ∃ xv, vs = #[xv] := by
      obtain ⟨l⟩ := vs
      match l, hr.1 with
      | [xv], _ => exact ⟨xv, rfl⟩
    obtain ⟨xv, rfl⟩ := h2
    split at hp
    · rename_i t ht
      have : ts = #[t] := by obtain ⟨l⟩ := ts; simp at ht; subst ht; rfl
      subst this
      subst hP
      exact (lenA_gives hw (hr.2 0 x xv rfl rfl) hp).next
    · exact hp.elim
  · have := mxA_gives (P := P) hw (big := true) (by simpa using hr.1) (fun i x v h1 h2 => hr.2 i x v h1 (by simpa using h2)) ts ty hp
    exact this.next
  · have := mxA_gives (P := P) hw (big := false) (by simpa using hr.1) (fun i x v h1 h2 => hr.2 i x v h1 (by simpa using h2)) ts ty hp
    exact this.next
  · rename_i x
    have h2 : ∃ xv, vs = #[xv] := by
      obtain ⟨l⟩ := vs
      match l, hr.1 with
      | [xv], _ => exact ⟨xv, rfl⟩
    obtain ⟨xv, rfl⟩ := h2
    split at hp
    · rename_i t ht
      have : ts = #[t] := by obtain ⟨l⟩ := ts; simp at ht; subst ht; rfl
      subst this
      exact (clearA_gives (ty := ty) hw hP (hr.2 0 x xv rfl rfl) hp).next
    · exact hp.elim
  · exact hp.elim

theorem stepf_gives (hw : Wr w0 M φ g w) {C : Cfg} (hP : C.P = P) {fr : List AV} {a : Act} (ha : FrOk M φ fr a) (o : Oper) (hp : (stepf C o (ev fr) g).pre) :
    GivesN P (execOp a.eval o) w0 M φ g w (stepf C o (ev fr) g).v (stepf C o (ev fr) g).wr := by
  subst hP
  obtain ⟨dst, op, ty, pos, after, guard⟩ := o
  cases op <;> simp only [stepf] at hp ⊢ <;> first | exact hp.elim | skip
  case move x => exact (Gives.pure (P := C.P) (s := pure (a.eval x)) hw rfl (rep_ev ha x)).next
  case assign x => exact (assignA_gives (P := C.P) hw (rep_ev ha x) hp).next
  case pick c x y =>
    have := pickA_gives (P := C.P) hw (rep_ev ha c) (rep_ev ha x) (rep_ev ha y) hp
    obtain ⟨v, w', M', φ', h1, h2⟩ := this
    refine ⟨.value v, v, w', M', φ', ?_, .inl rfl, h2⟩
    simp only [execOp, Sem.run_bind, Sem.run_pure] at h1 ⊢
    cases hb : (asBool (a.eval c)).run C.P w with
    | ok b w1 => rw [hb] at h1; simp only [Result.andThen_ok] at h1 ⊢; cases h1; rfl
    | halt h w1 => rw [hb] at h1; simp at h1
  case alloc t =>
    cases hz : zeroI C.P t with
    | none => rw [hz] at hp; exact hp.elim
    | some z =>
      rw [hz] at hp
      obtain ⟨i, v, h1, h2, rfl⟩ := zeroI_inv hz
      have := allocA_gives (P := C.P) hw (C := C) (d := dst.getD 0) (e := t) (repL_ofConst v.cells.toList)
      refine (this.congr (s' := Instr.alloc t true (.tuple #[])) ?_).next
      simp [Instr.alloc, zeroValue, typeInfo, h1, h2, newVar]
  case box t x =>
    have hsc : (ev fr x).cells.all AV.scalar = true := hp.1
    have hc := (rep_cells_s (rep_ev ha x) hsc).1
    have := allocA_gives (P := C.P) hw (C := C) (d := dst.getD 0) (e := t) hc
    exact (this.congr (s' := Instr.box t (a.eval x)) (by simp [Instr.box, newVar])).next
  case build t ps =>
    have := buildA_gives (P := C.P) hw (pv := ps.map fun (p : Nat × Operand) => (p.1, a.eval p.2)) (by simpa using parts_ev ha ps.toList) hp
    exact this.next
  case buildSlice t len ps =>
    have := buildSliceA_gives (P := C.P) hw rfl (pv := ps.map fun (p : Nat × Operand) => (p.1, a.eval p.2)) (by simpa using parts_ev ha ps.toList) hp
    exact this.next
  case load t x => exact (loadA_gives hw (rep_ev ha x) hp).next
  case store t x y => 
    have := storeA_gives (P := C.P) hw rfl (rep_ev ha y) (rep_ev ha x) hp
    have hv : (storeA C t g (ev fr y) (ev fr x)).v = .lit undef := by
      revert hp; unfold storeA
      split
      · split
        · exact fun _ => rfl
        · exact fun h => h.elim
      · exact fun h => h.elim
    rw [hv]
    exact this.next
  case nilCheck x =>
    obtain ⟨h1, h2⟩ := nilCheckA_v _ hp
    rw [h1, h2]
    rcases nilCheckA_gives hw (rep_ev ha x) hp with ⟨q, hq⟩ | ⟨f, vs, hq⟩
    · exact ⟨.value (a.eval x), a.eval x, w, M, φ, by simp only [execOp, hq]; rfl, .inl rfl, Mem.le.refl _, Phi.le.refl _, fun _ _ _ h => .inl h, rep_ev ha x, hw⟩
    · exact ⟨.value (a.eval x), a.eval x, w, M, φ, by simp only [execOp, hq]; rfl, .inl rfl, Mem.le.refl _, Phi.le.refl _, fun _ _ _ h => .inl h, rep_ev ha x, hw⟩
  case binOp op t x y yt => exact (binA_gives (P := C.P) hw (rep_ev ha x) (rep_ev ha y) x y hp).next
  case unOp op t x => exact (unA_gives (P := C.P) hw (rep_ev ha x) hp).next
  case convert s d x => exact (convA_gives (P := C.P) hw hp.1 (rep_ev ha x) hp.2).next
  case makeFunc f first cap =>
    cases f <;> simp only at hp ⊢ <;> first | exact hp.elim | skip
    rename_i f
    by_cases h0 : first.size = 0
    · rw [if_pos h0] at hp ⊢
      have hf : first = #[] := Array.eq_empty_of_size_eq_zero h0
      subst hf
      refine (Gives.pure (P := C.P) (s := Instr.makeFunc (.func f) (#[].map a.eval) (cap.map a.eval)) hw (x := .func (.func f) #[] (cap.map a.eval)) (by simp [Instr.makeFunc]) ?_).next
      have := repL_map ha cap.toList
      exact .fn (by simp) fun i x v h1 h2 => this.2 i x v h1 (by simpa using h2)
    · rw [if_neg h0] at hp ⊢
      have hf : cap = #[] := Array.eq_empty_of_size_eq_zero hp
      subst hf
      refine (Gives.pure (P := C.P) (s := Instr.makeFunc (.func f) (first.map a.eval) (#[].map a.eval)) hw (x := .func (.func f) (first.map a.eval) #[]) (by simp [Instr.makeFunc]) ?_).next
      have := repL_map ha first.toList
      exact .bfn (by simp) fun i x v h1 h2 => this.2 i x v h1 (by simpa using h2)
  case makeSlice t l c => exact (makeSliceA_gives (P := C.P) hw rfl (rep_ev ha l) (rep_ev ha c) hp).next
  case slice t x lo hi mx => exact (sliceA_gives (P := C.P) hw (rep_ev ha x) (repO_map ha lo) (repO_map ha hi) (repO_map ha mx) hp).next
  case fieldAddr s x f => exact (fieldAddrA_gives (P := C.P) hw (rep_ev ha x) hp).next
  case field s x f => exact (fieldA_gives (P := C.P) hw (rep_ev ha x) hp).next
  case indexAddr t x i => exact (indexAddrA_gives (P := C.P) hw (rep_ev ha x) (rep_ev ha i) hp).next
  case index t x i => exact (indexA_gives (P := C.P) hw (rep_ev ha x) (rep_ev ha i) hp).next
  case extract t i => exact (extractA_gives (P := C.P) hw (rep_ev ha t) hp).next
  case call c =>
    obtain ⟨callee, args, ats⟩ := c
    cases callee <;> simp only at hp ⊢ <;> first | exact hp.elim | skip
    rename_i b
    have := builtinA_gives (P := C.P) hw rfl (cs := args.map fun | .const _ => true | _ => false) (ty := ty) (vs := args.map a.eval) (by simpa using repL_map ha args.toList) hp
    obtain ⟨nx, x, w', M', φ', h1, h2⟩ := this
    refine ⟨nx, x, w', M', φ', ?_, h2⟩
    simp only [execOp, resolve, pure_bind, invoke]
    exact h1

end
end Go.Av

