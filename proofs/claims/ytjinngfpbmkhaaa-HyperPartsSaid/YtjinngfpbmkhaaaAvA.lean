/- The framework of abstract values: what an operation of a Go function comes to, whatever the order and the memory that Go leaves open. -/
import Derived.Calls
import Derived.Tactics
import Derived.Below
import Derived.Laws.Sem
import Derived.Laws.World
import Derived.Laws.Cells
import Derived.Laws.Entries
import Derived.Laws.Tables
import Derived.Laws.Slices
import Derived.Laws.Strings
import Derived.Laws.StructEq
namespace Go.Av
set_option linter.unusedVariables false
set_option linter.unusedSimpArgs false
open Go.RowKit

/-- What is known of the room behind a slice: nothing; there is none; it is one's own, under a name. -/
inductive Tk where
  | no
  | full
  | at (k ver : Nat)

/-- Abstract values. -/
inductive AV where
  | any
  | lit (v : Value)
  | ptr (id ver off : Nat)
  | iptr (cs : List AV)
  | isl (nl : Option Bool) (l : List AV) (tok : Tk)
  | osl (id ver sz off len : Nat)
  | agg (cs : List AV)
  | tup (vs : List AV)
  | fn (f : FuncId) (cap : List AV)

def AV.cells : AV → List AV
  | .agg cs => cs
  | a => [a]

def AV.scalar : AV → Bool
  | .lit v => v.oneCell'
  | .ptr .. => true
  | .iptr .. => true
  | .isl .. => true
  | .osl .. => true
  | .fn .. => true
  | _ => false

inductive Blk where
  | cells (ver : Nat) (cs : List AV)
  | tok (ver : Nat)

def Blk.ver : Blk → Nat
  | .cells v _ => v
  | .tok v => v

/-- What a name of the abstract heap stands for. -/
inductive Hd where
  | box (r : Nat)
  | row (r : Option Nat) (sz cap : Nat)
  | tk (r : Option Nat) (own : Bool) (sz len cap : Nat)

def Hd.blk : Hd → Option Nat
  | .box r => some r
  | .row r _ _ => r
  | .tk r own _ _ _ => if own then r else none

abbrev Mem := Nat → Nat → Option Value
abbrev Phi := Nat → Nat → Option Hd
abbrev GH := Nat → Option Blk

def Phi.none : Phi := fun _ _ => Option.none

inductive Rep (M : Mem) : Phi → AV → Value → Prop where
  | any {φ} (v : Value) : Rep M φ .any v
  | lit {φ} (v : Value) : Rep M φ (.lit v) v
  | ptr {φ} {id ver off r : Nat} {hd : Hd} (h : φ id ver = some hd) (hr : hd.blk = some r) : Rep M φ (.ptr id ver off) (.pointer (some ⟨r, off, Option.none⟩))
  | iptr {φ} {cs : List AV} {r off : Nat} (cv : Nat → Value) (hm : ∀ (c : Nat) (x : AV), cs[c]? = some x → M r (off + c) = some (cv c))
      (hr : ∀ (c : Nat) (x : AV), cs[c]? = some x → Rep M Phi.none x (cv c)) : Rep M φ (.iptr cs) (.pointer (some ⟨r, off, Option.none⟩))
  | isl {φ} {nl : Option Bool} {l : List AV} {tok : Tk} {a : Option Addr} {len cap : Nat} (sz : Nat) (cv : Nat → Nat → Value)
      (hlen : len = l.length) (hcap : len ≤ cap) (hnl : ∀ b, nl = some b → a.isNone = b) (hnil : a = Option.none → cap = 0)
      (hsz : ∀ e, e ∈ l → e.cells.length = sz)
      (hsp : ∀ r, a = some r → l ≠ [] → r.spot = Option.none)
      (hm : ∀ r, a = some r → ∀ (i : Nat) (e : AV) (c : Nat) (x : AV), l[i]? = some e → e.cells[c]? = some x → M r.block (r.off + i * sz + c) = some (cv i c))
      (hr : ∀ (i : Nat) (e : AV) (c : Nat) (x : AV), l[i]? = some e → e.cells[c]? = some x → Rep M Phi.none x (cv i c))
      (hfull : tok = .full → cap = len)
      (htok : ∀ k ver, tok = .at k ver → ∃ own, φ k ver = some (.tk (a.map (·.block)) own sz len cap) ∧ (own = true → ∀ r, a = some r → r = ⟨r.block, 0, Option.none⟩)) :
      Rep M φ (.isl nl l tok) (.slice a len cap)
  | osl {φ} {id ver sz off len : Nat} {a : Option Addr} {cap C : Nat} {r : Option Nat} (h : φ id ver = some (.row r sz C)) (hC : off + len + (cap - len) = C) (hcap : len ≤ cap)
      (hnone : a = Option.none ↔ r = Option.none) (hz : r = Option.none → C = 0) (ha : ∀ q, r = some q → cap ≠ 0 → a = some ⟨q, off * sz, Option.none⟩) :
      Rep M φ (.osl id ver sz off len) (.slice a len cap)
  | agg {φ} {cs : List AV} {vs : Array Value} (hl : cs.length = vs.size) (hr : ∀ (i : Nat) (x : AV) (v : Value), cs[i]? = some x → vs[i]? = some v → Rep M φ x v) : Rep M φ (.agg cs) (.agg vs)
  | tup {φ} {cs : List AV} {vs : Array Value} (hl : cs.length = vs.size) (hr : ∀ (i : Nat) (x : AV) (v : Value), cs[i]? = some x → vs[i]? = some v → Rep M φ x v) : Rep M φ (.tup cs) (.tuple vs)
  | fn {φ} {f : FuncId} {cs : List AV} {vs : Array Value} (hl : cs.length = vs.size) (hr : ∀ (i : Nat) (x : AV) (v : Value), cs[i]? = some x → vs[i]? = some v → Rep M φ x v) :
      Rep M φ (.fn f cs) (.func (.func f) #[] vs)

def Mem.le (M M' : Mem) : Prop := ∀ r j v, M r j = some v → M' r j = some v
def Phi.le (φ φ' : Phi) : Prop := ∀ id ver hd, φ id ver = some hd → φ' id ver = some hd

theorem Mem.le.refl (M : Mem) : Mem.le M M := fun _ _ _ h => h
theorem Mem.le.trans {a b c : Mem} (h : Mem.le a b) (k : Mem.le b c) : Mem.le a c := fun r j v x => k r j v (h r j v x)
theorem Phi.le.refl (M : Phi) : Phi.le M M := fun _ _ _ h => h
theorem Phi.le.trans {a b c : Phi} (h : Phi.le a b) (k : Phi.le b c) : Phi.le a c := fun r j v x => k r j v (h r j v x)
theorem Phi.none_le (φ : Phi) : Phi.le Phi.none φ := fun _ _ _ h => by cases h

theorem Rep.mono {M M' : Mem} (hM : Mem.le M M') {φ : Phi} {a : AV} {v : Value} (h : Rep M φ a v) : ∀ {φ' : Phi}, Phi.le φ φ' → Rep M' φ' a v := by
  induction h with
  | any v => intro φ' _; exact .any v
  | lit v => intro φ' _; exact .lit v
  | ptr h hr => intro φ' hφ; exact .ptr (hφ _ _ _ h) hr
  | iptr cv hm hr ih => intro φ' hφ; exact .iptr cv (fun c x hx => hM _ _ _ (hm c x hx)) (fun c x hx => ih c x hx (Phi.le.refl _))
  | isl sz cv hlen hcap hnl hnil hsz hsp hm hr hfull htok ih =>
    intro φ' hφ
    exact .isl sz cv hlen hcap hnl hnil hsz hsp (fun r ha i e c x h1 h2 => hM _ _ _ (hm r ha i e c x h1 h2)) (fun i e c x h1 h2 => ih i e c x h1 h2 (Phi.le.refl _)) hfull
      (fun k ver ht => let ⟨own, h1, h2⟩ := htok k ver ht; ⟨own, hφ _ _ _ h1, h2⟩)
  | osl h hC hcap hnone hz ha => intro φ' hφ; exact .osl (hφ _ _ _ h) hC hcap hnone hz ha
  | agg hl hr ih => intro φ' hφ; exact .agg hl fun i x v h1 h2 => ih i x v h1 h2 hφ
  | tup hl hr ih => intro φ' hφ; exact .tup hl fun i x v h1 h2 => ih i x v h1 h2 hφ
  | fn hl hr ih => intro φ' hφ; exact .fn hl fun i x v h1 h2 => ih i x v h1 h2 hφ

/-- Which names a value bears. -/
inductive AV.only (p : Nat → Prop) : AV → Prop where
  | any : AV.only p .any
  | lit (v) : AV.only p (.lit v)
  | ptr {id ver off} (h : p id) : AV.only p (.ptr id ver off)
  | iptr (cs) : AV.only p (.iptr cs)
  | isl {nl l tok} (h : ∀ k ver, tok = .at k ver → p k) : AV.only p (.isl nl l tok)
  | osl {id ver sz off len} (h : p id) : AV.only p (.osl id ver sz off len)
  | agg {cs} (h : ∀ x, x ∈ cs → AV.only p x) : AV.only p (.agg cs)
  | tup {cs} (h : ∀ x, x ∈ cs → AV.only p x) : AV.only p (.tup cs)
  | fn {f cs} (h : ∀ x, x ∈ cs → AV.only p x) : AV.only p (.fn f cs)

def AV.lt (n : Nat) (a : AV) : Prop := a.only (· < n)

def Blk.only (p : Nat → Prop) : Blk → Prop
  | .cells _ cs => ∀ x, x ∈ cs → AV.only p x
  | .tok _ => True

theorem list_get_vs {cs : List AV} {vs : Array Value} (hl : cs.length = vs.size) {x : AV} (hx : x ∈ cs) : ∃ (i : Nat) (v : Value), cs[i]? = some x ∧ vs[i]? = some v := by
  obtain ⟨i, hi, rfl⟩ := List.getElem_of_mem hx
  exact ⟨i, vs[i]'(by omega), by simp [hi], by simp⟩

theorem Rep.only {M : Mem} {φ : Phi} {a : AV} {v : Value} (h : Rep M φ a v) : ∀ {p : Nat → Prop}, (∀ id ver hd, φ id ver = some hd → p id) → a.only p := by
  induction h with
  | any v => intro p _; exact .any
  | lit v => intro p _; exact .lit _
  | ptr h hr => intro p hp; exact .ptr (hp _ _ _ h)
  | iptr cv hm hr ih => intro p hp; exact .iptr _
  | isl sz cv hlen hcap hnl hnil hsz hsp hm hr hfull htok ih => intro p hp; exact .isl fun k ver ht => let ⟨own, h1, h2⟩ := htok k ver ht; hp _ _ _ h1
  | osl h hC hcap hnone hz ha => intro p hp; exact .osl (hp _ _ _ h)
  | agg hl hr ih => intro p hp; exact .agg fun x hx => let ⟨i, v, h1, h2⟩ := list_get_vs hl hx; ih i x v h1 h2 hp
  | tup hl hr ih => intro p hp; exact .tup fun x hx => let ⟨i, v, h1, h2⟩ := list_get_vs hl hx; ih i x v h1 h2 hp
  | fn hl hr ih => intro p hp; exact .fn fun x hx => let ⟨i, v, h1, h2⟩ := list_get_vs hl hx; ih i x v h1 h2 hp

theorem Rep.move {M : Mem} {φ : Phi} {a : AV} {v : Value} (h : Rep M φ a v) : ∀ {p : Nat → Prop} {φ' : Phi}, a.only p → (∀ id ver hd, p id → φ id ver = some hd → φ' id ver = some hd) → Rep M φ' a v := by
  induction h with
  | any v => intro p φ' _ _; exact .any _
  | lit v => intro p φ' _ _; exact .lit _
  | ptr h hr => intro p φ' ho hp; cases ho with | ptr h' => exact .ptr (hp _ _ _ h' h) hr
  | iptr cv hm hr ih => intro p φ' ho hp; exact .iptr cv hm hr
  | isl sz cv hlen hcap hnl hnil hsz hsp hm hr hfull htok ih =>
    intro p φ' ho hp
    cases ho with | isl h' => exact .isl sz cv hlen hcap hnl hnil hsz hsp hm hr hfull fun k ver ht => let ⟨own, h1, h2⟩ := htok k ver ht; ⟨own, hp _ _ _ (h' k ver ht) h1, h2⟩
  | osl h hC hcap hnone hz ha => intro p φ' ho hp; cases ho with | osl h' => exact .osl (hp _ _ _ h' h) hC hcap hnone hz ha
  | agg hl hr ih => intro p φ' ho hp; cases ho with | agg h' => exact .agg hl fun i x v h1 h2 => ih i x v h1 h2 (h' x (List.mem_of_getElem? h1)) hp
  | tup hl hr ih => intro p φ' ho hp; cases ho with | tup h' => exact .tup hl fun i x v h1 h2 => ih i x v h1 h2 (h' x (List.mem_of_getElem? h1)) hp
  | fn hl hr ih => intro p φ' ho hp; cases ho with | fn h' => exact .fn hl fun i x v h1 h2 => ih i x v h1 h2 (h' x (List.mem_of_getElem? h1)) hp

theorem AV.only.mono {p q : Nat → Prop} {a : AV} (h : a.only p) (hpq : ∀ i, p i → q i) : a.only q := by
  induction h with
  | any => exact .any
  | lit v => exact .lit v
  | ptr h => exact .ptr (hpq _ h)
  | iptr cs => exact .iptr cs
  | isl h => exact .isl fun k ver ht => hpq _ (h k ver ht)
  | osl h => exact .osl (hpq _ h)
  | agg h ih => exact .agg ih
  | tup h ih => exact .tup ih
  | fn h ih => exact .fn ih

theorem Rep.scalar {M : Mem} {φ : Phi} {a : AV} {v : Value} (h : Rep M φ a v) (hs : a.scalar = true) : v.oneCell' = true := by
  cases h <;> first | rfl | (simp [AV.scalar] at hs; done) | (simpa [AV.scalar] using hs)

/-- What a block of the abstract heap says of the world. -/
def BlkOk (B : Nat) (M : Mem) (φ : Phi) (w : World) : Blk → Hd → Prop
  | .cells _ cs, .box r => B ≤ r ∧ (∀ j, M r j = none) ∧ ∃ (arr : Array Value) (e : TypeId), w.heap[r]? = some (.cells arr e (0, 0)) ∧ arr.size = cs.length ∧ ∀ (j : Nat) (x : AV) (v : Value), cs[j]? = some x → arr[j]? = some v → Rep M φ x v
  | .cells _ cs, .row (some r) sz cap => B ≤ r ∧ (∀ j, M r j = none) ∧ ∃ (arr : Array Value) (e : TypeId), w.heap[r]? = some (.cells arr e (0, 0)) ∧ arr.size = cap * sz ∧ cs.length ≤ arr.size ∧
      ∀ (j : Nat) (x : AV) (v : Value), cs[j]? = some x → arr[j]? = some v → Rep M φ x v
  | .cells _ cs, .row none _ cap => cs = [] ∧ cap = 0
  | .tok _, .tk _ false _ len cap => len = cap
  | .tok _, .tk (some r) true sz len cap => B ≤ r ∧ len ≤ cap ∧ (len = 0 → cap = 0) ∧ (∀ j, len * sz ≤ j → M r j = none) ∧ ∃ (arr : Array Value) (e : TypeId), w.heap[r]? = some (.cells arr e (0, 0)) ∧ arr.size = cap * sz
  | .tok _, .tk none true _ _ _ => False
  | _, _ => False

/-- The world as the abstract heap has it. -/
structure Wr (w0 : World) (M : Mem) (φ : Phi) (g : GH) (w : World) : Prop where
  below : Below w0.heap.size w0 w
  mem : ∀ r j v, M r j = some v → w.cell? ⟨r, j, Option.none⟩ = some v
  blk : ∀ id b, g id = some b → ∃ hd, φ id b.ver = some hd ∧ BlkOk w0.heap.size M φ w b hd
  inj : ∀ id id' b b' hd hd' r, g id = some b → g id' = some b' → φ id b.ver = some hd → φ id' b'.ver = some hd' → hd.blk = some r → hd'.blk = some r → id = id'
  dom : ∀ id ver hd, φ id ver = some hd → ∃ b, g id = some b ∧ ver ≤ b.ver

/-! ### the type table -/
structure TyI where
  agg : Bool
  size : Nat
  bytes : Nat

def tyI (P : Program) (t : TypeId) : Option TyI :=
  match P.info? t, P.underlying t with
  | some i, some d => some ⟨(match d with | .struct _ | .array _ _ => true | _ => false), i.size, i.bytes⟩
  | _, _ => none

def slT (P : Program) (t : TypeId) : Option TypeId :=
  match P.underlying t with
  | some (.slice e) => some e
  | _ => none

/-- a field: its offset, its type's size, whether it is an aggregate -/
def fldI (P : Program) (t : TypeId) (f : Nat) : Option (Nat × Nat × Bool) :=
  match P.underlying t with
  | some (.struct fs) => match fs[f]? with
    | some fd => match tyI P fd.type with
      | some ti => some (fd.offset, ti.size, ti.agg)
      | none => none
    | none => none
  | _ => none

def ofConst : Value → AV
  | .slice none 0 0 => .isl (some true) [] .full
  | v => .lit v

def zeroI (P : Program) (t : TypeId) : Option (List AV) :=
  match P.info? t with
  | some i => match i.zero with
    | some v => some (v.cells.toList.map ofConst)
    | none => none
  | none => none

/-! ### the abstract heap of one activation -/
structure HP where
  out : GH
  loc : List (Nat × Blk)

def look : List (Nat × Blk) → Nat → Option Blk
  | [], _ => none
  | (d, b) :: l, k => if d = k then some b else look l k

def insL : List (Nat × Blk) → Nat → Blk → List (Nat × Blk)
  | [], k, b => [(k, b)]
  | (d, c) :: l, k, b => if d = k then (k, b) :: l else if k < d then (k, b) :: (d, c) :: l else (d, c) :: insL l k b

def HP.get (h : HP) (n id : Nat) : Option Blk := if id < n then h.out id else look h.loc (id - n)

def HP.put (h : HP) (n id : Nat) (b : Blk) : HP :=
  if id < n then { h with out := fun i => if i = id then some b else h.out i } else { h with loc := insL h.loc (id - n) b }

def HP.puts (h : HP) (n : Nat) : List (Nat × Blk) → HP
  | [] => h
  | (id, b) :: l => (h.put n id b).puts n l

def gput (g : GH) (id : Nat) (b : Blk) : GH := fun i => if i = id then some b else g i

theorem look_insL (l : List (Nat × Blk)) (k : Nat) (b : Blk) (j : Nat) : look (insL l k b) j = if j = k then some b else look l j := by
  induction l with
  | nil => simp only [insL, look]; split <;> split <;> first | rfl | omega
  | cons x l ih =>
    obtain ⟨d, c⟩ := x
    simp only [insL]
    split
    · rename_i hd; subst hd; simp only [look]; split <;> split <;> first | rfl | omega
    · split
      · simp only [look]; by_cases h1 : k = j
        · simp [h1]
        · have h2 : ¬ j = k := fun e => h1 e.symm
          simp [h1, h2]
      · simp only [look, ih]
        by_cases h1 : d = j
        · subst h1
          rename_i h2 _
          simp [h2]
        · simp [h1]

theorem HP.get_put (h : HP) (n id : Nat) (b : Blk) : (h.put n id b).get n = gput (h.get n) id b := by
  funext j
  simp only [HP.put, gput]
  by_cases hid : id < n
  · simp only [hid, if_true, HP.get]
    by_cases hj : j < n
    · simp [hj]
    · have : j ≠ id := by omega
      simp [hj, this]
  · simp only [hid, if_false, HP.get]
    by_cases hj : j < n
    · have : j ≠ id := by omega
      simp [hj, this]
    · simp only [hj, if_false, look_insL]
      by_cases h1 : j = id
      · simp [h1]
      · have : ¬ j - n = id - n := by omega
        simp [h1, this]

/-! ### frames, operands -/
def ev (fr : List AV) : Operand → AV
  | .tmp t => fr.getD t (.lit undef)
  | .const v => ofConst v
  | .global g => .lit (.pointer (some ⟨g, 0, none⟩))
  | .func f => .fn f []

def fset (fr : List AV) (d : Option Nat) (v : AV) : List AV := match d with | some d => fr.set d v | none => fr

structure Cfg where
  P : Program
  n : Nat
  nt : Nat
  nm : Nat → Option Nat := fun _ => none
  md : Nat → Nat := fun _ => 0

def Cfg.id (C : Cfg) (d : Nat) : Nat := match C.nm d with | none => C.n + d | some k => k

structure Out where
  pre : Prop
  v : AV
  rd : List Nat := []
  wr : List (Nat × Blk) := []

def Out.bad : Out := ⟨False, .any, [], []⟩

def Tk.erase : Tk → Tk
  | .at _ _ => .no
  | t => t

def Tk.free : Tk → Bool
  | .at _ _ => false
  | _ => true

def AV.erase : AV → AV
  | .isl nl l t => .isl nl l t.erase
  | a => a

def AV.eraseE : AV → AV
  | .agg cs => .agg (cs.map AV.erase)
  | a => a.erase

/-- a cell without names -/
def AV.idf : AV → Bool
  | .lit v => v.oneCell'
  | .iptr _ => true
  | .isl _ _ tok => tok.free
  | _ => false

def splice (cs : List AV) (off : Nat) (xs : List AV) : List AV := cs.take off ++ xs ++ cs.drop (off + xs.length)

def nextV (g : GH) (id : Nat) : Nat := match g id with | none => 0 | some b => b.ver + 1

/-- a block may be laid at a name -/
def Cfg.may (C : Cfg) (id : Nat) (b : Blk) : Prop := id < C.n + C.nt ∧ (id < C.n → b.only (· < C.n))

end Go.Av
