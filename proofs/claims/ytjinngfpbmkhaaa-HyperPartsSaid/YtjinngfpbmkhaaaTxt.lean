import Derived.Test.YtjinngfpbmkhaaaAvV
import Derived.Test.YtjinngfpbmkhaaaNum
/-! Plain words about texts: no program in sight. -/
namespace Go.Av
set_option linter.unusedVariables false
set_option linter.unusedSimpArgs false
abbrev U8 (n : Int) : AV := .lit (.int .u8 n)
abbrev I64 (n : Int) : AV := .lit (.int .i64 n)
abbrev U64 (n : Int) : AV := .lit (.int .u64 n)
abbrev BB (b : Bool) : AV := .lit (.bool b)
abbrev SS (s : ByteArray) : AV := .lit (.string s)
theorem leA_str {a b : ByteArray} (h : a = b) : leA (.lit (.string a)) (.lit (.string b)) := h ▸ leA_refl _
theorem boolEqH {b c : Bool} (h : b = c) : b = c := h
def letB (b : Int) : Bool := decide (97 ≤ b ∧ b ≤ 122) || decide (65 ≤ b ∧ b ≤ 90)
def digB (b : Int) : Bool := decide (48 ≤ b ∧ b ≤ 57)
def plB (b : Int) : Bool := decide (32 ≤ b ∧ b ≤ 126)
/-- a byte as the model keeps it -/
def byt (s : ByteArray) (i : Nat) : UInt8 := s.data.toList.getD i 0
theorem byteAt_byt (s : ByteArray) (i : Nat) : byteAt s i = ((byt s i).toNat : Int) := rfl
theorem byteAt_lo (s : ByteArray) (i : Nat) : 0 ≤ byteAt s i := by rw [byteAt_byt]; omega
theorem byteAt_hi (s : ByteArray) (i : Nat) : byteAt s i ≤ 255 := by
  rw [byteAt_byt]; have := (byt s i).toNat_lt; omega
/-- does a text begin with another one -/
def preB (s t : ByteArray) : Bool := decide (t.size ≤ s.size) && ((s.extract 0 t.size).data.toList == t.data.toList)
@[go_sem] theorem str_nil (s : ByteArray) : (s.data.toList == []) = decide (s.size = 0) := by
  obtain ⟨⟨l⟩⟩ := s
  show (l == []) = decide (l.length = 0)
  cases l <;> simp
theorem str_dash (s : ByteArray) : (s.data.toList == [45]) = decide (s.size = 1 ∧ byteAt s 0 = 45) := by
  obtain ⟨⟨l⟩⟩ := s
  show (l == [45]) = decide (l.length = 1 ∧ ((l.getD 0 0).toNat : Int) = 45)
  match l with
  | [] => rfl
  | [x] =>
    have : (x = 45) ↔ ((x.toNat : Int) = 45) := by
      rw [← UInt8.toNat_inj]
      show x.toNat = 45 ↔ _
      omega
    by_cases h : x = 45
    · subst h; rfl
    · have h2 : ¬ ((x.toNat : Int) = 45) := fun e => h (this.2 e)
      simp [h, h2]
  | x :: y :: l => simp
theorem encB_len (s : ByteArray) : (encB s).length = s.size := by simp [encB]
def cutS (s : ByteArray) (n : Nat) : ByteArray := if s.size > n then s.extract 0 n else s
theorem cutS_size (s : ByteArray) (n : Nat) : (cutS s n).size ≤ n := by
  unfold cutS; split
  · rw [ByteArray.size_extract]; omega
  · omega
theorem strOf_one (x : UInt8) : strOf [.lit (.int .u8 (x.toNat : Int))] = ⟨#[x]⟩ := by
  have : ([.lit (.int .u8 (x.toNat : Int))] : List AV) = encB ⟨#[x]⟩ := rfl
  rw [this, strOf_encB]
theorem encB_push (o : ByteArray) (x : UInt8) : encB o ++ [.lit (.int .u8 (x.toNat : Int))] = encB (o ++ ⟨#[x]⟩) := by
  obtain ⟨⟨l⟩⟩ := o
  have : (⟨⟨l⟩⟩ ++ ⟨#[x]⟩ : ByteArray) = ⟨⟨l ++ [x]⟩⟩ := by
    apply ByteArray.ext
    rw [ByteArray.data_append]; simp
  rw [this]
  simp [encB]
@[go_sem] theorem encB_push_at (o s : ByteArray) (i : Nat) : encB o ++ [.lit (.int .u8 (byteAt s i))] = encB (o ++ ⟨#[byt s i]⟩) := encB_push o (byt s i)
noncomputable def convE (P : Program) (dst : TypeId) (o : ByteArray) : Option TypeId → Out
  | some e => ⟨kindT P dst = 3 ∧ intT P e = some .u8, .lit (.string o), [], []⟩
  | none => .bad
@[go_sem] theorem convE_some (P : Program) (dst : TypeId) (o : ByteArray) (e : TypeId) : convE P dst o (some e) = ⟨kindT P dst = 3 ∧ intT P e = some .u8, .lit (.string o), [], []⟩ := by exact Eq.trans rfl rfl
@[go_sem] theorem convA_encB (P : Program) (src dst : TypeId) (nl : Option Bool) (o : ByteArray) (tok : Tk) : convA P src dst (.isl nl (encB o) tok) = convE P dst o (slT P src) := by
  unfold convA convE
  cases slT P src <;> simp [strOf_encB]
@[go_sem] theorem convA_one (P : Program) (src dst : TypeId) (nl : Option Bool) (s : ByteArray) (i : Nat) (tok : Tk) : convA P src dst (.isl nl [.lit (.int .u8 (byteAt s i))] tok) = convE P dst ⟨#[byt s i]⟩ (slT P src) := convA_encB P src dst nl ⟨#[byt s i]⟩ tok
attribute [go_sem] encB_len
theorem size_push (o : ByteArray) (x : UInt8) : (o ++ ⟨#[x]⟩ : ByteArray).size = o.size + 1 := by
  rw [ByteArray.size_append]; rfl
end Go.Av
