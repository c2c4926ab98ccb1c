import Derived.Test.YtjinngfpbmkhaaaAvA
namespace Go.Av
set_option linter.unusedVariables false
set_option linter.unusedSimpArgs false
open Go.RowKit

def kindT (P : Program) (t : TypeId) : Nat :=
  match P.underlying t with
  | some .bool => 1
  | some (.int _) => 2
  | some .string => 3
  | some (.pointer _) => 4
  | some (.slice _) => 5
  | some (.struct _) => 6
  | some (.array _ _) => 7
  | some (.map _ _) => 8
  | some (.func _ _ _) => 9
  | _ => 0

def intT (P : Program) (t : TypeId) : Option IntKind :=
  match P.underlying t with
  | some (.int k) => some k
  | _ => none

def binI (op : BinOp) (k : IntKind) (a b : Int) : Out :=
  match op with
  | .add => ⟨True, .lit (.int k (k.wrap (a + b))), [], []⟩
  | .sub => ⟨True, .lit (.int k (k.wrap (a - b))), [], []⟩
  | .mul => ⟨True, .lit (.int k (k.wrap (a * b))), [], []⟩
  | .quo => ⟨b ≠ 0, .lit (.int k (k.wrap (a.tdiv b))), [], []⟩
  | .rem => ⟨b ≠ 0, .lit (.int k (a.tmod b)), [], []⟩
  | .and => ⟨True, .lit (.int k (k.wrap (BitVec.ofInt k.bits a &&& BitVec.ofInt k.bits b).toNat)), [], []⟩
  | .or => ⟨True, .lit (.int k (k.wrap (BitVec.ofInt k.bits a ||| BitVec.ofInt k.bits b).toNat)), [], []⟩
  | .xor => ⟨True, .lit (.int k (k.wrap (BitVec.ofInt k.bits a ^^^ BitVec.ofInt k.bits b).toNat)), [], []⟩
  | .andNot => ⟨True, .lit (.int k (k.wrap (BitVec.ofInt k.bits a &&& ~~~(BitVec.ofInt k.bits b)).toNat)), [], []⟩
  | .eql => ⟨True, .lit (.bool (decide (a = b))), [], []⟩
  | .neq => ⟨True, .lit (.bool (!decide (a = b))), [], []⟩
  | .lss => ⟨True, .lit (.bool (decide (a < b))), [], []⟩
  | .leq => ⟨True, .lit (.bool (decide (a ≤ b))), [], []⟩
  | .gtr => ⟨True, .lit (.bool (decide (b < a))), [], []⟩
  | .geq => ⟨True, .lit (.bool (decide (b ≤ a))), [], []⟩
  | _ => .bad

def binSh (op : BinOp) (k : IntKind) (a b : Int) : Out :=
  match op with
  | .shl => ⟨0 ≤ b, .lit (.int k (k.wrap (a * 2 ^ (min b.toNat k.bits)))), [], []⟩
  | .shr => ⟨0 ≤ b, .lit (.int k (a / 2 ^ (min b.toNat k.bits))), [], []⟩
  | _ => .bad

def isSh : BinOp → Bool
  | .shl => true
  | .shr => true
  | _ => false

def binS (op : BinOp) (a b : ByteArray) : Out :=
  match op with
  | .add => ⟨((a.size + b.size : Nat) : Int) ≤ 9223372036854775807, .lit (.string (a ++ b)), [], []⟩
  | .eql => ⟨True, .lit (.bool (a.data.toList == b.data.toList)), [], []⟩
  | .neq => ⟨True, .lit (.bool (!(a.data.toList == b.data.toList))), [], []⟩
  | .lss => ⟨True, .lit (.bool (Op.bytesLess a.data.toList b.data.toList)), [], []⟩
  | _ => .bad

def nilB (op : BinOp) (b : Bool) : Out :=
  match op with
  | .eql => ⟨True, .lit (.bool b), [], []⟩
  | .neq => ⟨True, .lit (.bool (!b)), [], []⟩
  | _ => .bad

/-- a struct whose fields are numbers, texts and truth values: where each lies, and of which kind it is -/
def eqT (P : Program) (t : TypeId) : Option (List (Nat × Nat)) :=
  match P.underlying t with
  | some (.struct fs) => if (fs.toList.all fun f => f.name != "_" && (kindT P f.type == 1 || kindT P f.type == 2 || kindT P f.type == 3)) && !P.stoodInHeld t && !P.eqGuardType P.depth t then
      some (fs.toList.map fun f => (f.offset, kindT P f.type)) else none
  | _ => none

def eqP1 (k : Nat) : AV → AV → Prop
  | .lit (.int k1 _), .lit (.int k2 _) => k = 2 ∧ k1 = k2
  | .lit (.string _), .lit (.string _) => k = 3
  | .lit (.bool _), .lit (.bool _) => k = 1
  | _, _ => False

def eqB1 : AV → AV → Bool
  | .lit (.int _ a), .lit (.int _ b) => decide (a = b)
  | .lit (.string a), .lit (.string b) => a.data.toList == b.data.toList
  | .lit (.bool a), .lit (.bool b) => a == b
  | _, _ => false

def eqP (cs ds : List AV) : List (Nat × Nat) → Prop
  | [] => True
  | (o, k) :: l => (o < cs.length ∧ o < ds.length ∧ eqP1 k (cs.getD o .any) (ds.getD o .any)) ∧ eqP cs ds l

def eqB (cs ds : List AV) : List (Nat × Nat) → Bool
  | [] => true
  | (o, _) :: l => eqB1 (cs.getD o .any) (ds.getD o .any) && eqB cs ds l

def eqA (op : BinOp) (cs ds : List AV) : Option (List (Nat × Nat)) → Out
  | some fs => ⟨eqP cs ds fs ∧ (nilB op true).pre, (nilB op (eqB cs ds fs)).v, [], []⟩
  | none => .bad

def binA (P : Program) (op : BinOp) (t : TypeId) : AV → AV → Out
  | .agg cs, .agg ds => eqA op cs ds (eqT P t)
  | .lit (.int k a), .lit (.int k' b) => if isSh op then binSh op k a b else if k = k' then binI op k a b else .bad
  | .lit (.string a), .lit (.string b) => binS op a b
  | .lit (.bool a), .lit (.bool b) => let o := nilB op (a == b); ⟨kindT P t = 1 ∧ o.pre, o.v, [], []⟩
  | .lit (.pointer none), .lit (.pointer none) => let o := nilB op true; ⟨kindT P t = 4 ∧ o.pre, o.v, [], []⟩
  | .ptr _ _ _, .lit (.pointer none) => let o := nilB op false; ⟨kindT P t = 4 ∧ o.pre, o.v, [], []⟩
  | .iptr _, .lit (.pointer none) => let o := nilB op false; ⟨kindT P t = 4 ∧ o.pre, o.v, [], []⟩
  | .isl (some b) _ _, .isl (some true) [] .full => let o := nilB op b; ⟨kindT P t = 5 ∧ o.pre, o.v, [], []⟩
  | _, _ => .bad

def unA (op : UnOp) : AV → Out
  | .lit (.bool b) => match op with
    | .not => ⟨True, .lit (.bool (!b)), [], []⟩
    | _ => .bad
  | .lit (.int k n) => match op with
    | .neg => ⟨True, .lit (.int k (k.wrap (0 - n))), [], []⟩
    | .xor => binI .xor k (if k.signed then -1 else k.max) n
    | _ => .bad
  | _ => .bad

def byteAt (s : ByteArray) (i : Nat) : Int := ((s.data.toList.getD i 0).toNat : Int)

def encB (s : ByteArray) : List AV := s.data.toList.map fun b => .lit (.int .u8 b.toNat)

open Classical in
noncomputable def strOf (l : List AV) : ByteArray := if h : ∃ s, l = encB s then h.choose else ⟨#[]⟩

theorem encB_inj {s t : ByteArray} (h : encB s = encB t) : s = t := by
  unfold encB at h
  have h1 : s.data.toList = t.data.toList := by
    refine (List.map_inj_right ?_).mp h
    intro a b hab
    simp only [AV.lit.injEq, Value.int.injEq, true_and] at hab
    exact UInt8.toNat_inj.mp (by omega)
  cases s; cases t; simp_all

theorem strOf_encB (s : ByteArray) : strOf (encB s) = s := by
  unfold strOf
  have h : ∃ t, encB s = encB t := ⟨s, rfl⟩
  rw [dif_pos h]
  exact (encB_inj h.choose_spec).symm

noncomputable def convA (P : Program) (src dst : TypeId) : AV → Out
  | .lit (.int _ n) => match intT P dst with
    | some k => ⟨True, .lit (.int k (k.wrap n)), [], []⟩
    | none => .bad
  | .lit (.string s) => if kindT P dst = 3 then ⟨True, .lit (.string s), [], []⟩ else
    match slT P dst with
    | some e => ⟨intT P e = some .u8, .isl none (encB s) .no, [], []⟩
    | none => .bad
  | .isl _ l _ => match slT P src with
    | some e => ⟨kindT P dst = 3 ∧ intT P e = some .u8 ∧ l = encB (strOf l), .lit (.string (strOf l)), [], []⟩
    | none => .bad
  | _ => .bad

def loadA (P : Program) (t : TypeId) (g : GH) : AV → Out
  | .ptr id ver off => match tyI P t, g id with
    | some ti, some (.cells v cs) => ⟨v = ver ∧ off + ti.size ≤ cs.length ∧ ti.size ≠ 0 ∧ (ti.agg = false → ti.size = 1), if ti.agg then .agg ((cs.drop off).take ti.size) else cs.getD off .any, [id], []⟩
    | _, _ => .bad
  | .iptr cs => match tyI P t with
    | some ti => ⟨ti.size ≤ cs.length ∧ ti.size ≠ 0 ∧ (ti.agg = false → ti.size = 1), if ti.agg then .agg (cs.take ti.size) else cs.getD 0 .any, [], []⟩
    | none => .bad
  | _ => .bad

def storeA (C : Cfg) (t : TypeId) (g : GH) (x : AV) : AV → Out
  | .ptr id ver off => match tyI C.P t, g id with
    | some ti, some (.cells v cs) =>
      ⟨v = ver ∧ off + ti.size ≤ cs.length ∧ x.cells.length = ti.size ∧ x.cells.all AV.scalar = true ∧ C.may id (.cells v (splice cs off x.cells)), .lit undef, [id], [(id, .cells v (splice cs off x.cells))]⟩
    | _, _ => .bad
  | _ => .bad

def fieldAddrA (P : Program) (s : TypeId) (f : Nat) : AV → Out
  | .ptr id ver off => match fldI P s f with
    | some (o, sz, _) => ⟨sz ≠ 0, .ptr id ver (off + o), [], []⟩
    | none => .bad
  | .iptr cs => match fldI P s f with
    | some (o, sz, _) => ⟨sz ≠ 0, .iptr (cs.drop o), [], []⟩
    | none => .bad
  | _ => .bad

def fieldA (P : Program) (s : TypeId) (f : Nat) : AV → Out
  | .agg cs => match fldI P s f with
    | some (o, sz, ag) => ⟨o + sz ≤ cs.length ∧ sz ≠ 0, if ag then .agg ((cs.drop o).take sz) else cs.getD o .any, [], []⟩
    | none => .bad
  | _ => .bad

def indexAddrA (P : Program) (t : TypeId) : AV → AV → Out
  | .isl _ l _, .lit (.int _ i) => match slT P t with
    | some e => match tyI P e with
      | some ti => ⟨0 ≤ i ∧ i < l.length ∧ (l.getD i.toNat .any).cells.length = ti.size, .iptr (l.getD i.toNat .any).cells, [], []⟩
      | none => .bad
    | none => .bad
  | .osl id ver sz off len, .lit (.int _ i) => match slT P t with
    | some e => match tyI P e with
      | some ti => ⟨0 ≤ i ∧ i < len ∧ sz = ti.size, .ptr id ver (off * sz + i.toNat * sz), [], []⟩
      | none => .bad
    | none => .bad
  | _, _ => .bad

def indexA (P : Program) (t : TypeId) : AV → AV → Out
  | .lit (.string s), .lit (.int _ i) => ⟨kindT P t = 3 ∧ 0 ≤ i ∧ i < s.size, .lit (.int .u8 (byteAt s i.toNat)), [], []⟩
  | _, _ => .bad

/-- the parts of a struct, laid into its zero -/
def fillA (P : Program) (t : TypeId) (cs : List AV) : List (Nat × AV) → Out
  | [] => ⟨True, .agg cs, [], []⟩
  | (i, x) :: l => match fldI P t i with
    | some (o, sz, _) => let r := fillA P t (splice cs o x.cells) l; ⟨(x.cells.length = sz ∧ o + sz ≤ cs.length ∧ x.cells.all AV.scalar = true) ∧ r.pre, r.v, [], []⟩
    | none => .bad

def bldT (P : Program) (t : TypeId) : Bool :=
  match P.underlying t with
  | some (.struct fs) => fs.toList.all fun f => (P.info? f.type).isSome
  | _ => false

def buildA (P : Program) (t : TypeId) (ps : List (Nat × AV)) : Out :=
  match zeroI P t with
  | some z => let r := fillA P t z ps; ⟨bldT P t = true ∧ r.pre, r.v, [], []⟩
  | none => .bad

def numbered : List (Nat × AV) → Nat → Bool
  | [], _ => true
  | (i, _) :: l, k => i == k && numbered l (k + 1)

/-- elements of a slice of one's own -/
def elsOk (sz : Nat) (l : List AV) : Prop := ∀ e, e ∈ l → e.cells.length = sz ∧ e.cells.all AV.idf = true

def buildSliceA (C : Cfg) (d : Nat) (t : TypeId) (len : Nat) (g : GH) (ps : List (Nat × AV)) : Out :=
  match slT C.P t with
  | some e => match tyI C.P e with
    | some ti =>
      let l := ps.map fun p => p.2.eraseE
      let id := C.id d
      let p0 : Prop := ps.length = len ∧ numbered ps 0 = true ∧ len * ti.size ≤ 16777216 ∧ (len * ti.size ≠ 0 → (zeroI C.P e).isSome = true)
      match C.md d with
      | 0 => ⟨p0 ∧ elsOk ti.size l, .isl (some false) l .full, [], []⟩
      | 1 => ⟨p0 ∧ elsOk ti.size l ∧ C.may id (.tok (nextV g id)), .isl (some false) l (.at id (nextV g id)), [id], [(id, .tok (nextV g id))]⟩
      | _ => ⟨p0 ∧ (∀ x, x ∈ ps → x.2.cells.length = ti.size ∧ x.2.cells.all AV.scalar = true) ∧ C.may id (.cells (nextV g id) (ps.flatMap fun p => p.2.cells)),
          .osl id (nextV g id) ti.size 0 len, [id], [(id, .cells (nextV g id) (ps.flatMap fun p => p.2.cells))]⟩
    | none => .bad
  | none => .bad

def allocA (C : Cfg) (d : Nat) (g : GH) (cs : List AV) : Out :=
  let id := C.id d
  ⟨cs.all AV.scalar = true ∧ C.may id (.cells (nextV g id) cs), .ptr id (nextV g id) 0, [id], [(id, .cells (nextV g id) cs)]⟩

def zeroEl (ti : TyI) (z : List AV) : AV := if ti.agg then .agg z else z.headD .any

def makeSliceA (C : Cfg) (d : Nat) (t : TypeId) (g : GH) : AV → AV → Out
  | .lit (.int _ n), .lit (.int _ m) => match slT C.P t with
    | some e => match tyI C.P e, zeroI C.P e with
      | some ti, some z =>
        let id := C.id d
        let p0 : Prop := n = m ∧ 0 ≤ n ∧ n * ti.bytes ≤ 281474976710656 ∧ n ≤ 9223372036854775807 ∧ z.length = ti.size ∧ z.all AV.idf = true ∧ (ti.agg = false → ti.size = 1)
        let cs := if ti.agg then (List.replicate n.toNat z).flatten else List.replicate n.toNat (z.headD .any)
        match C.md d with
        | 0 => ⟨p0, .isl (some false) (List.replicate n.toNat (zeroEl ti z)) .full, [], []⟩
        | _ => ⟨p0 ∧ C.may id (.cells (nextV g id) cs), .osl id (nextV g id) ti.size 0 n.toNat, [id], [(id, .cells (nextV g id) cs)]⟩
      | _, _ => .bad
    | none => .bad
  | _, _ => .bad

def bnd (x : Option AV) (dflt : Int) : Option Int :=
  match x with
  | none => some dflt
  | some (.lit (.int _ i)) => some i
  | _ => none

def szOk (n : Nat) (l : List AV) : Prop := ∀ y, y ∈ l → y.cells.length = n

def sliceA (P : Program) (t : TypeId) (x : AV) (lo hi mx : Option AV) : Out :=
  match x with
  | .lit (.string s) => match mx, bnd lo 0, bnd hi s.size with
    | none, some l, some h => ⟨kindT P t = 3 ∧ 0 ≤ l ∧ l ≤ h ∧ h ≤ s.size, .lit (.string (s.extract l.toNat h.toNat)), [], []⟩
    | _, _, _ => .bad
  | .isl nl xs _ => match slT P t with
    | some e => match tyI P e with
      | some ti => match bnd lo 0, bnd hi xs.length, hi, mx with
        | some l, some h, _, none => ⟨szOk ti.size xs ∧ 0 ≤ l ∧ l ≤ h ∧ h ≤ xs.length, .isl nl ((xs.take h.toNat).drop l.toNat) .no, [], []⟩
        | some l, some h, some _, some (.lit (.int _ m)) => ⟨szOk ti.size xs ∧ 0 ≤ l ∧ l ≤ h ∧ h = m ∧ h ≤ xs.length, .isl nl ((xs.take h.toNat).drop l.toNat) .full, [], []⟩
        | _, _, _, _ => .bad
      | none => .bad
    | none => .bad
  | .osl id ver sz off len => match slT P t with
    | some e => match tyI P e, bnd lo 0, bnd hi len, mx with
      | some ti, some l, some h, none => ⟨sz = ti.size ∧ 0 ≤ l ∧ l ≤ h ∧ h ≤ len, .osl id ver sz (off + l.toNat) (h.toNat - l.toNat), [], []⟩
      | _, _, _, _ => .bad
    | none => .bad
  | _ => .bad

def nlA (nl : Option Bool) : Option Bool := if nl = some false then some false else none

def isFull : Tk → Bool
  | .full => true
  | _ => false

/-- what is appended, as elements -/
def appM (P : Program) (e : TypeId) (ti : TyI) (u : TypeId) : AV → Out
  | .isl _ m _ => ⟨kindT P u = 5, .tup m, [], []⟩
  | .lit (.string s) => ⟨kindT P u = 3 ∧ intT P e = some .u8, .tup (encB s), [], []⟩
  | .lit (.int .i64 k) => match zeroI P e with
    | some z => ⟨kindT P u = 2 ∧ 0 ≤ k ∧ k ≤ 9223372036854775807 ∧ z.length = ti.size ∧ z.all AV.idf = true ∧ (ti.agg = false → ti.size = 1), .tup (List.replicate k.toNat (zeroEl ti z)), [], []⟩
    | none => .bad
  | _ => .bad

def zOk (P : Program) (e : TypeId) (ti : TyI) : Bool := (zeroI P e).any fun z => z.length == ti.size

def AV.els : AV → List AV
  | .tup l => l
  | _ => []

def appendA (C : Cfg) (d : Nat) (ts : List TypeId) (g : GH) (s x : AV) : Out :=
  match ts with
  | [t, u] => match slT C.P t with
    | some e => match tyI C.P e with
      | some ti =>
        let mo := appM C.P e ti u x
        let m := mo.v.els
        match s with
        | .isl nl l (.at k ver) => match g k with
          | some (.tok v) => ⟨mo.pre ∧ v = ver ∧ (l.length + m.length) * (2 * ti.bytes) ≤ 281474976710656 ∧ elsOk ti.size l ∧ elsOk ti.size m ∧ ti.bytes ≠ 0 ∧ zOk C.P e ti = true ∧ C.may k (.tok (ver + 1)),
              .isl (nlA nl) (l ++ m) (.at k (ver + 1)), [k], [(k, .tok (ver + 1))]⟩
          | _ => .bad
        | .isl nl l .full =>
          let p0 : Prop := mo.pre ∧ (l.length + m.length) * (2 * ti.bytes) ≤ 281474976710656 ∧ elsOk ti.size l ∧ elsOk ti.size m ∧ ti.bytes ≠ 0 ∧ zOk C.P e ti = true
          let id := C.id d
          match C.md d with
          | 0 => ⟨p0, .isl (nlA nl) (l ++ m) .no, [], []⟩
          | _ => ⟨p0 ∧ C.may id (.tok (nextV g id)), .isl (nlA nl) (l ++ m) (.at id (nextV g id)), [id], [(id, .tok (nextV g id))]⟩
        | .osl id ver sz off len => match g id with
          | some (.cells v cs) => ⟨mo.pre ∧ v = ver ∧ sz = ti.size ∧ off = 0 ∧ len * sz = cs.length ∧ (len + m.length) * (2 * ti.bytes) ≤ 281474976710656 ∧ elsOk ti.size m ∧ ti.bytes ≠ 0 ∧ zOk C.P e ti = true ∧
                C.may id (.cells (ver + 1) (cs ++ m.flatMap AV.cells)),
              .osl id (ver + 1) sz 0 (len + m.length), [id], [(id, .cells (ver + 1) (cs ++ m.flatMap AV.cells))]⟩
          | _ => .bad
        | _ => .bad
      | none => .bad
    | none => .bad
  | _ => .bad

def lenA (P : Program) (t : TypeId) : AV → Out
  | .isl _ l _ => ⟨kindT P t = 5, .lit (.int .i64 (l.length : Int)), [], []⟩
  | .osl _ _ _ _ len => ⟨kindT P t = 5, .lit (.int .i64 (len : Int)), [], []⟩
  | .lit (.string s) => ⟨kindT P t = 3, .lit (.int .i64 (s.size : Int)), [], []⟩
  | _ => .bad

def mxA (big : Bool) : List AV → Out
  | [.lit (.int k a), .lit (.int _ b)] => ⟨True, .lit (.int k (if big then (if b > a then b else a) else (if b < a then b else a))), [], []⟩
  | _ => .bad

/-- 'clear' of a row of one's own, whose elements are one cell each -/
def clearA (C : Cfg) (t : TypeId) (g : GH) : AV → Out
  | .osl id ver sz off len => match slT C.P t, g id with
    | some e, some (.cells v cs) => match tyI C.P e, zeroI C.P e with
      | some ti, some [z] => ⟨v = ver ∧ sz = 1 ∧ ti.agg = false ∧ z.idf = true ∧ off + len ≤ cs.length ∧ C.may id (.cells v (splice cs off (List.replicate len z))), .tup [], [id], [(id, .cells v (splice cs off (List.replicate len z)))]⟩
      | _, _ => .bad
    | _, _ => .bad
  | _ => .bad

def builtinA (C : Cfg) (d : Nat) (b : Builtin) (ts : List TypeId) (g : GH) (xs : List AV) : Out :=
  match b, xs with
  | .append, [s, x] => appendA C d ts g s x
  | .len, [x] => match ts with
    | [t] => lenA C.P t x
    | _ => .bad
  | .max, xs => mxA true xs
  | .min, xs => mxA false xs
  | .clear, [x] => match ts with
    | [t] => clearA C t g x
    | _ => .bad
  | _, _ => .bad

/-- an assignment; nothing, named as a slice to be grown -/
def assignA (C : Cfg) (d : Nat) (g : GH) (x : AV) : Out :=
  match C.md d, x with
  | 1, .isl (some true) [] .full => ⟨C.may (C.id d) (.tok (nextV g (C.id d))), .isl (some true) [] (.at (C.id d) (nextV g (C.id d))), [C.id d], [(C.id d, .tok (nextV g (C.id d)))]⟩
  | _, x => ⟨True, x, [], []⟩

def pickA (c a b : AV) : Out :=
  match c with
  | .lit (.bool t) => ⟨True, if t then a else b, [], []⟩
  | _ => .bad

def extractA (i : Nat) : AV → Out
  | .tup vs => ⟨i < vs.length, vs.getD i .any, [], []⟩
  | _ => .bad

def nilCheckA : AV → Out
  | .ptr i v o => ⟨True, .ptr i v o, [], []⟩
  | .iptr cs => ⟨True, .iptr cs, [], []⟩
  | .fn f cs => ⟨True, .fn f cs, [], []⟩
  | _ => .bad

noncomputable def stepf (C : Cfg) (o : Oper) (e : Operand → AV) (g : GH) : Out :=
  match o.op with
  | .move x => ⟨True, e x, [], []⟩
  | .assign x => assignA C (o.dst.getD 0) g (e x)
  | .pick c a b => pickA (e c) (e a) (e b)
  | .alloc t => match zeroI C.P t with
    | some z => allocA C (o.dst.getD 0) g z
    | none => .bad
  | .box _ x => allocA C (o.dst.getD 0) g (e x).cells
  | .build t ps => buildA C.P t (ps.toList.map fun p => (p.1, e p.2))
  | .buildSlice t len ps => buildSliceA C (o.dst.getD 0) t len g (ps.toList.map fun p => (p.1, e p.2))
  | .load t a => loadA C.P t g (e a)
  | .store t a x => storeA C t g (e x) (e a)
  | .nilCheck x => nilCheckA (e x)
  | .binOp op t x y _ => binA C.P op t (e x) (e y)
  | .unOp op _ x => unA op (e x)
  | .convert s d x => let r := convA C.P s d (e x); ⟨(C.P.underlying s).isSome = true ∧ r.pre, r.v, r.rd, r.wr⟩
  | .makeFunc (.func f) first cap => ⟨first.size = 0, .fn f (cap.toList.map e), [], []⟩
  | .makeSlice t l c => makeSliceA C (o.dst.getD 0) t g (e l) (e c)
  | .slice t x lo hi mx => sliceA C.P t (e x) (lo.map e) (hi.map e) (mx.map e)
  | .fieldAddr s x f => fieldAddrA C.P s f (e x)
  | .field s x f => fieldA C.P s f (e x)
  | .indexAddr t x i => indexAddrA C.P t (e x) (e i)
  | .index t x i => indexA C.P t (e x) (e i)
  | .extract t i => extractA i (e t)
  | .call c => match c.callee with
    | .builtin b => builtinA C (o.dst.getD 0) b c.argTypes.toList g (c.args.toList.map e)
    | _ => .bad
  | _ => .bad

end Go.Av
