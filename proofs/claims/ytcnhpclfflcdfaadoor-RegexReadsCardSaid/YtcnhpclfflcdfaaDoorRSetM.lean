/- Plain words. -/
import Derived.Test.YtcnhpclfflcdfaaDoorRAvV
import Derived.Test.YtcnhpclfflcdfaaDoorRNumC
/-! Plain words about texts: no program in sight. -/
namespace Go.Av
set_option linter.unusedVariables false
set_option linter.unusedSimpArgs false
abbrev U8 (n : Int) : AV := .lit (.int .u8 n)
abbrev I64 (n : Int) : AV := .lit (.int .i64 n)
abbrev U64 (n : Int) : AV := .lit (.int .u64 n)
abbrev BB (b : Bool) : AV := .lit (.bool b)
abbrev SS (s : ByteArray) : AV := .lit (.string s)
theorem leA_str {a b : ByteArray} (h : a = b) : leA (.lit (.string a)) (.lit (.string b)) := h ▸ leA_refl _
theorem boolEqH {b c : Bool} (h : b = c) : b = c := h
def letB (b : Int) : Bool := decide (97 ≤ b ∧ b ≤ 122) || decide (65 ≤ b ∧ b ≤ 90)
def digB (b : Int) : Bool := decide (48 ≤ b ∧ b ≤ 57)
def plB (b : Int) : Bool := decide (32 ≤ b ∧ b ≤ 126)
/-- a byte as the model keeps it -/
def byt (s : ByteArray) (i : Nat) : UInt8 := s.data.toList.getD i 0
theorem byteAt_byt (s : ByteArray) (i : Nat) : byteAt s i = ((byt s i).toNat : Int) := rfl
theorem byteAt_lo (s : ByteArray) (i : Nat) : 0 ≤ byteAt s i := by rw [byteAt_byt]; omega
theorem byteAt_hi (s : ByteArray) (i : Nat) : byteAt s i ≤ 255 := by
  rw [byteAt_byt]; have := (byt s i).toNat_lt; omega
/-- does a text begin with another one -/
def preB (s t : ByteArray) : Bool := decide (t.size ≤ s.size) && ((s.extract 0 t.size).data.toList == t.data.toList)
@[go_sem] theorem str_nil (s : ByteArray) : (s.data.toList == []) = decide (s.size = 0) := by
  obtain ⟨⟨l⟩⟩ := s
  show (l == []) = decide (l.length = 0)
  cases l <;> simp
theorem str_dash (s : ByteArray) : (s.data.toList == [45]) = decide (s.size = 1 ∧ byteAt s 0 = 45) := by
  obtain ⟨⟨l⟩⟩ := s
  show (l == [45]) = decide (l.length = 1 ∧ ((l.getD 0 0).toNat : Int) = 45)
  match l with
  | [] => rfl
  | [x] =>
    have : (x = 45) ↔ ((x.toNat : Int) = 45) := by
      rw [← UInt8.toNat_inj]
      show x.toNat = 45 ↔ _
      omega
    by_cases h : x = 45
    · subst h; rfl
    · have h2 : ¬ ((x.toNat : Int) = 45) := fun e => h (this.2 e)
      simp [h, h2]
  | x :: y :: l => simp
theorem encB_len (s : ByteArray) : (encB s).length = s.size := by simp [encB]
def cutS (s : ByteArray) (n : Nat) : ByteArray := if s.size > n then s.extract 0 n else s
theorem cutS_size (s : ByteArray) (n : Nat) : (cutS s n).size ≤ n := by
  unfold cutS; split
  · rw [ByteArray.size_extract]; omega
  · omega
theorem strOf_one (x : UInt8) : strOf [.lit (.int .u8 (x.toNat : Int))] = ⟨#[x]⟩ := by
  have : ([.lit (.int .u8 (x.toNat : Int))] : List AV) = encB ⟨#[x]⟩ := rfl
  rw [this, strOf_encB]
theorem encB_push (o : ByteArray) (x : UInt8) : encB o ++ [.lit (.int .u8 (x.toNat : Int))] = encB (o ++ ⟨#[x]⟩) := by
  obtain ⟨⟨l⟩⟩ := o
  have : (⟨⟨l⟩⟩ ++ ⟨#[x]⟩ : ByteArray) = ⟨⟨l ++ [x]⟩⟩ := by
    apply ByteArray.ext
    rw [ByteArray.data_append]; simp
  rw [this]
  simp [encB]
@[go_sem] theorem encB_push_at (o s : ByteArray) (i : Nat) : encB o ++ [.lit (.int .u8 (byteAt s i))] = encB (o ++ ⟨#[byt s i]⟩) := encB_push o (byt s i)
noncomputable def convE (P : Program) (dst : TypeId) (o : ByteArray) : Option TypeId → Out
  | some e => ⟨kindT P dst = 3 ∧ intT P e = some .u8, .lit (.string o), [], []⟩
  | none => .bad
@[go_sem] theorem convE_some (P : Program) (dst : TypeId) (o : ByteArray) (e : TypeId) : convE P dst o (some e) = ⟨kindT P dst = 3 ∧ intT P e = some .u8, .lit (.string o), [], []⟩ := by exact Eq.trans rfl rfl
@[go_sem] theorem convA_encB (P : Program) (src dst : TypeId) (nl : Option Bool) (o : ByteArray) (tok : Tk) : convA P src dst (.isl nl (encB o) tok) = convE P dst o (slT P src) := by
  unfold convA convE
  cases slT P src <;> simp [strOf_encB]
@[go_sem] theorem convA_one (P : Program) (src dst : TypeId) (nl : Option Bool) (s : ByteArray) (i : Nat) (tok : Tk) : convA P src dst (.isl nl [.lit (.int .u8 (byteAt s i))] tok) = convE P dst ⟨#[byt s i]⟩ (slT P src) := convA_encB P src dst nl ⟨#[byt s i]⟩ tok
attribute [go_sem] encB_len
theorem size_push (o : ByteArray) (x : UInt8) : (o ++ ⟨#[x]⟩ : ByteArray).size = o.size + 1 := by
  rw [ByteArray.size_append]; rfl
end Go.Av

/-! Plain words about sets of small numbers: words of bits, and rising lists. No program in sight. -/
namespace Go.Av
set_option linter.unusedVariables false
set_option linter.unusedSimpArgs false
abbrev W64 := BitVec 64
abbrev Wl (ws : List W64) : List AV := ws.map fun x => U64 (NB x)
abbrev Il (l : List Int) : List AV := l.map fun x => I64 x
def bitW (n : Nat) : W64 := BitVec.twoPow 64 (n % 64)
def hasW (ws : List W64) (n : Nat) : Bool := (ws.getD (n / 64) 0#64).getLsbD (n % 64)
def hasI (ws : List W64) (n : Int) : Bool := decide (0 ≤ n) && hasW ws n.toNat
theorem getLsbD_bitW (n j : Nat) : (bitW n).getLsbD j = decide (n % 64 = j) := by
  unfold bitW; rw [BitVec.getLsbD_twoPow]; have := Nat.mod_lt n (show 64 > 0 by omega); simp [this]
theorem and_bitW (x : W64) (n : Nat) : (x &&& bitW n = 0#64) ↔ x.getLsbD (n % 64) = false := by
  have hm := Nat.mod_lt n (show 64 > 0 by omega)
  constructor
  · intro h
    have := congrArg (·.getLsbD (n % 64)) h
    simpa [getLsbD_bitW] using this
  · intro h
    apply BitVec.eq_of_getLsbD_eq
    intro i hi
    rw [BitVec.getLsbD_and, getLsbD_bitW]
    by_cases e : n % 64 = i
    · subst e; simp [h]
    · simp [e]
theorem getD_set {α : Type} (l : List α) (i j : Nat) (a d : α) (hi : i < l.length) : (l.set i a).getD j d = if j = i then a else l.getD j d := by
  rw [List.getD_eq_getElem?_getD, List.getElem?_set, List.getD_eq_getElem?_getD]
  split
  · rename_i h; subst h; simp [hi]
  · rename_i h; rw [if_neg (fun e => h e.symm)]
theorem getD_pad (ws : List W64) (k j : Nat) : (ws ++ List.replicate k 0#64).getD j 0#64 = ws.getD j 0#64 := by
  rw [List.getD_eq_getElem?_getD, List.getD_eq_getElem?_getD]
  by_cases h : j < ws.length
  · rw [List.getElem?_append_left h]
  · rw [List.getElem?_append_right (by omega), List.getElem?_eq_none (l := ws) (by omega), List.getElem?_replicate]
    split <;> rfl
/-! ### one more, one less -/
def padW (ws : List W64) (n : Nat) : List W64 := ws ++ List.replicate (n / 64 + 1 - ws.length) 0#64
theorem padW_len (ws : List W64) (n : Nat) : n / 64 < (padW ws n).length := by unfold padW; simp; omega
theorem padW_getD (ws : List W64) (n j : Nat) : (padW ws n).getD j 0#64 = ws.getD j 0#64 := getD_pad ws _ j
def addN (ws : List W64) (n : Nat) : List W64 := (padW ws n).set (n / 64) ((padW ws n).getD (n / 64) 0#64 ||| bitW n)
theorem same_place (n m : Nat) : n = m ↔ n / 64 = m / 64 ∧ n % 64 = m % 64 := by omega
theorem hasW_addN (ws : List W64) (n m : Nat) : hasW (addN ws n) m = (hasW ws m || decide (n = m)) := by
  unfold hasW addN
  rw [getD_set _ _ _ _ _ (padW_len ws n)]
  rw [show decide (n = m) = decide (n / 64 = m / 64 ∧ n % 64 = m % 64) from decide_eq_decide.2 (same_place n m)]
  by_cases h : m / 64 = n / 64
  · rw [if_pos h, BitVec.getLsbD_or, getLsbD_bitW, h, padW_getD]
    simp
  · rw [if_neg h, padW_getD]
    have : ¬ n / 64 = m / 64 := fun e => h e.symm
    simp [this]
def clrN (ws : List W64) (n : Nat) : List W64 := ws.set (n / 64) (ws.getD (n / 64) 0#64 &&& ~~~ bitW n)
theorem hasW_clrN (ws : List W64) (n m : Nat) (h : n / 64 < ws.length) : hasW (clrN ws n) m = (hasW ws m && !decide (n = m)) := by
  unfold hasW clrN
  rw [getD_set _ _ _ _ _ h]
  rw [show decide (n = m) = decide (n / 64 = m / 64 ∧ n % 64 = m % 64) from decide_eq_decide.2 (same_place n m)]
  have hm := Nat.mod_lt m (show 64 > 0 by omega)
  by_cases h : m / 64 = n / 64
  · rw [if_pos h, BitVec.getLsbD_and, BitVec.getLsbD_not, getLsbD_bitW, h]
    simp [hm]
  · rw [if_neg h]
    have : ¬ n / 64 = m / 64 := fun e => h e.symm
    simp [this]
/-! ### no words without a bit at the end -/
def trimN (ws : List W64) : Nat → Nat
  | 0 => 0
  | m + 1 => if ws.getD m 0#64 = 0#64 then trimN ws m else m + 1
theorem trimN_le (ws : List W64) : ∀ m, trimN ws m ≤ m
  | 0 => Nat.le_refl _
  | m + 1 => by unfold trimN; split
                · exact Nat.le_trans (trimN_le ws m) (Nat.le_succ m)
                · exact Nat.le_refl _
theorem trimN_zero (ws : List W64) : ∀ m j, trimN ws m ≤ j → j < m → ws.getD j 0#64 = 0#64
  | 0, j, h1, h2 => by omega
  | m + 1, j, h1, h2 => by
    unfold trimN at h1
    split at h1
    · rename_i h
      by_cases e : j = m
      · subst e; exact h
      · exact trimN_zero ws m j h1 (by omega)
    · omega
def trimW (ws : List W64) : List W64 := ws.take (trimN ws ws.length)
def Norm (ws : List W64) : Prop := ∀ m, ws.length = m + 1 → ws.getD m 0#64 ≠ 0#64
theorem getD_take {α : Type} (l : List α) (k j : Nat) (d : α) : (l.take k).getD j d = if j < k then l.getD j d else d := by
  rw [List.getD_eq_getElem?_getD, List.getElem?_take, List.getD_eq_getElem?_getD]
  split <;> rfl
theorem getD_len {α : Type} (l : List α) (j : Nat) (d : α) (h : l.length ≤ j) : l.getD j d = d := by
  rw [List.getD_eq_getElem?_getD, List.getElem?_eq_none h]; rfl
theorem trimW_getD (ws : List W64) (j : Nat) : (trimW ws).getD j 0#64 = ws.getD j 0#64 := by
  unfold trimW
  rw [getD_take]
  split
  · rfl
  · rename_i h
    by_cases hj : j < ws.length
    · exact (trimN_zero ws _ j (by omega) hj).symm
    · exact (getD_len ws j _ (by omega)).symm
theorem hasW_trimW (ws : List W64) (m : Nat) : hasW (trimW ws) m = hasW ws m := by unfold hasW; rw [trimW_getD]
theorem trimN_last (ws : List W64) : ∀ m k, trimN ws m = k + 1 → ws.getD k 0#64 ≠ 0#64
  | 0, k, h => by simp [trimN] at h
  | m + 1, k, h => by
    unfold trimN at h
    split at h
    · exact trimN_last ws m k h
    · rename_i h2; have : m = k := by omega
      subst this; exact h2
theorem trimW_len (ws : List W64) : (trimW ws).length = trimN ws ws.length := by
  unfold trimW; have := trimN_le ws ws.length; simp; omega
theorem norm_trimW (ws : List W64) : Norm (trimW ws) := by
  intro m hm
  rw [trimW_len] at hm
  rw [trimW_getD]
  exact trimN_last ws _ m hm
theorem trimN_take (ws : List W64) : ∀ m k, m ≤ k → trimN (ws.take k) m = trimN ws m
  | 0, k, h => rfl
  | m + 1, k, h => by
    unfold trimN
    rw [getD_take, if_pos (show m < k by omega), trimN_take ws m k (by omega)]
theorem trim_step (ws : List W64) (m : Nat) (h : ws.getD m 0#64 = 0#64) : trimN ws (m + 1) = trimN ws m := by rw [trimN, if_pos h]
theorem trim_stop (ws : List W64) (m : Nat) (h : ws.getD m 0#64 ≠ 0#64) : trimN ws (m + 1) = m + 1 := by rw [trimN, if_neg h]
def cutN (ws : List W64) (n : Nat) : List W64 := trimW (clrN ws n)
theorem hasW_lt (ws : List W64) (n : Nat) (h : hasW ws n = true) : n / 64 < ws.length := by
  unfold hasW at h
  by_cases hl : n / 64 < ws.length
  · exact hl
  · rw [getD_len _ _ _ (by omega)] at h; simp at h
theorem hasW_cutN (ws : List W64) (n m : Nat) (h : hasW ws n = true) : hasW (cutN ws n) m = (hasW ws m && !decide (n = m)) := by
  unfold cutN; rw [hasW_trimW, hasW_clrN _ _ _ (hasW_lt _ _ h)]
theorem bits_zero (x : W64) : x = 0#64 ↔ ∀ i, i < 64 → x.getLsbD i = false := by
  constructor
  · rintro rfl i _; simp
  · intro h; apply BitVec.eq_of_getLsbD_eq; intro i hi; simp [h i hi]
theorem norm_ext {ws vs : List W64} (h1 : Norm ws) (h2 : Norm vs) (h : ∀ n, hasW ws n = hasW vs n) : ws = vs := by
  have hg : ∀ j, ws.getD j 0#64 = vs.getD j 0#64 := by
    intro j
    apply BitVec.eq_of_getLsbD_eq
    intro i hi
    have := h (64 * j + i)
    unfold hasW at this
    rwa [show (64 * j + i) / 64 = j by omega, show (64 * j + i) % 64 = i by omega] at this
  have hlen : ws.length = vs.length := by
    rcases Nat.lt_trichotomy ws.length vs.length with hl | hl | hl
    · obtain ⟨m, hm⟩ : ∃ m, vs.length = m + 1 := ⟨vs.length - 1, by omega⟩
      have := h2 m hm
      rw [← hg, getD_len _ _ _ (by omega)] at this
      exact absurd rfl this
    · exact hl
    · obtain ⟨m, hm⟩ : ∃ m, ws.length = m + 1 := ⟨ws.length - 1, by omega⟩
      have := h1 m hm
      rw [hg, getD_len _ _ _ (by omega)] at this
      exact absurd rfl this
  apply List.ext_getElem hlen
  intro i h3 h4
  have := hg i
  rw [List.getD_eq_getElem?_getD, List.getD_eq_getElem?_getD] at this
  simpa [h3, h4] using this
theorem norm_addN (ws : List W64) (n : Nat) (h : Norm ws) : Norm (addN ws n) := by
  intro m hm
  have hne : ∀ x : W64, x ||| bitW n ≠ 0#64 := by
    intro x e
    have := congrArg (·.getLsbD (n % 64)) e
    simp [getLsbD_bitW] at this
  unfold addN at hm ⊢
  rw [getD_set _ _ _ _ _ (padW_len ws n)]
  split
  · exact hne _
  · rename_i hmn
    rw [padW_getD]
    rw [List.length_set] at hm
    unfold padW at hm
    simp at hm
    exact h m (by omega)
theorem addN_len (ws : List W64) (n : Nat) : (addN ws n).length = max ws.length (n / 64 + 1) := by
  unfold addN padW; simp; omega
/-! ### the least one from a number on -/
def scan (p : Nat → Bool) : Nat → Nat → Option Nat
  | 0, n => none
  | k + 1, n => if p n then some n else scan p k (n + 1)
theorem scan_some {p : Nat → Bool} : ∀ {k n m : Nat}, scan p k n = some m → n ≤ m ∧ m < n + k ∧ p m = true ∧ ∀ j, n ≤ j → j < m → p j = false
  | 0, n, m, h => by simp [scan] at h
  | k + 1, n, m, h => by
    unfold scan at h
    split at h
    · rename_i hp; cases h; exact ⟨Nat.le_refl _, by omega, hp, fun j h1 h2 => by omega⟩
    · rename_i hp
      obtain ⟨h1, h2, h3, h4⟩ := scan_some h
      refine ⟨by omega, by omega, h3, fun j h5 h6 => ?_⟩
      by_cases e : j = n
      · subst e; simpa using hp
      · exact h4 j (by omega) h6
theorem scan_none {p : Nat → Bool} : ∀ {k n : Nat}, scan p k n = none → ∀ j, n ≤ j → j < n + k → p j = false
  | 0, n, h, j, h1, h2 => by omega
  | k + 1, n, h, j, h1, h2 => by
    unfold scan at h
    split at h
    · cases h
    · rename_i hp
      by_cases e : j = n
      · subst e; simpa using hp
      · exact scan_none h j (by omega) (by omega)
/-- what 'next' hands back -/
def nextI (ws : List W64) (n : Nat) : Int := match scan (hasW ws) (64 * ws.length - n) n with | some m => (m : Int) | none => -1
theorem hasW_big (ws : List W64) (n : Nat) (h : 64 * ws.length ≤ n) : hasW ws n = false := by
  unfold hasW; rw [getD_len _ _ _ (by omega)]; simp
theorem nextI_eq (ws : List W64) (n : Nat) (m : Nat) (h1 : n ≤ m) (h2 : hasW ws m = true) (h3 : ∀ j, n ≤ j → j < m → hasW ws j = false) : nextI ws n = (m : Int) := by
  unfold nextI
  have hm := hasW_lt ws m h2
  cases hs : scan (hasW ws) (64 * ws.length - n) n with
  | none => have := scan_none hs m h1 (by omega); rw [h2] at this; cases this
  | some k =>
    obtain ⟨k1, k2, k3, k4⟩ := scan_some hs
    rcases Nat.lt_trichotomy k m with h | h | h
    · rw [h3 k k1 h] at k3; cases k3
    · simp [h]
    · rw [k4 m h1 h] at h2; cases h2
theorem nextI_none (ws : List W64) (n : Nat) (h : ∀ j, n ≤ j → j < 64 * ws.length → hasW ws j = false) : nextI ws n = -1 := by
  unfold nextI
  cases hs : scan (hasW ws) (64 * ws.length - n) n with
  | none => rfl
  | some k =>
    obtain ⟨k1, k2, k3, k4⟩ := scan_some hs
    rw [h k k1 (by omega)] at k3; cases k3
theorem nextI_cases (ws : List W64) (n : Nat) : (nextI ws n = -1 ∧ ∀ j, n ≤ j → hasW ws j = false) ∨ ∃ m : Nat, nextI ws n = (m : Int) ∧ n ≤ m ∧ m < 64 * ws.length ∧ hasW ws m = true ∧ ∀ j, n ≤ j → j < m → hasW ws j = false := by
  unfold nextI
  cases hs : scan (hasW ws) (64 * ws.length - n) n with
  | none =>
    refine .inl ⟨rfl, fun j hj => ?_⟩
    by_cases h : j < 64 * ws.length
    · exact scan_none hs j hj (by omega)
    · exact hasW_big ws j (by omega)
  | some k =>
    obtain ⟨k1, k2, k3, k4⟩ := scan_some hs
    exact .inr ⟨k, rfl, k1, by omega, k3, k4⟩
/-- the lowest bit of a word -/
theorem low_bit (x : W64) (h : x ≠ 0#64) : ∃ b, b < 64 ∧ x.getLsbD b = true ∧ (∀ j, j < b → x.getLsbD j = false) ∧ x &&& -x = BitVec.twoPow 64 b := by
  have : ∃ b, scan (x.getLsbD) 64 0 = some b := by
    cases hs : scan x.getLsbD 64 0 with
    | some b => exact ⟨b, rfl⟩
    | none => exact absurd ((bits_zero x).2 fun i hi => scan_none hs i (by omega) (by omega)) h
  obtain ⟨b, hb⟩ := this
  obtain ⟨h1, h2, h3, h4⟩ := scan_some hb
  refine ⟨b, by omega, h3, fun j hj => h4 j (by omega) hj, ?_⟩
  apply BitVec.eq_of_getLsbD_eq
  intro i hi
  rw [BitVec.getLsbD_and, BitVec.getLsbD_neg, BitVec.getLsbD_twoPow]
  have hb64 : b < 64 := by omega
  rcases Nat.lt_trichotomy i b with hl | hl | hl
  · rw [h4 i (by omega) hl]
    have : ¬ b = i := by omega
    simp [this]
  · subst hl
    have : ¬ ∃ j, j < i ∧ x.getLsbD j = true := by
      rintro ⟨j, k1, k2⟩; rw [h4 j (by omega) k1] at k2; cases k2
    simp [h3, this, hi]
  · have h5 : ∃ j, j < i ∧ x.getLsbD j = true := ⟨b, hl, h3⟩
    have h6 : ¬ b = i := by omega
    simp [h5, h6, hi]
theorem blK_pow : ∀ b k, b < k → blK k (2 ^ b) = b + 1
  | 0, 0, h => by omega
  | 0, k + 1, h => by rw [blK]; simp [blK_zero]
  | b + 1, 0, h => by omega
  | b + 1, k + 1, h => by
    have h0 : 0 < 2 ^ (b + 1) := Nat.pow_pos (by omega)
    rw [blK, if_neg (by omega), show 2 ^ (b + 1) / 2 = 2 ^ b by rw [Nat.pow_succ]; omega, blK_pow b k (by omega)]
    omega
end Go.Av

/-! Plain words: rising lists, and the sets of bits that they are. -/
namespace Go.Av
set_option linter.unusedVariables false
set_option linter.unusedSimpArgs false
def atN : List Int → Int → Nat
  | [], _ => 0
  | x :: l, n => if x < n then atN l n + 1 else 0
def isN (l : List Int) (n : Int) : Bool := decide (atN l n < l.length ∧ l.getD (atN l n) 0 = n)
def goodN (n : Int) : Bool := decide (0 ≤ n) && decide (n < 65536)
theorem atN_le : ∀ (l : List Int) n, atN l n ≤ l.length
  | [], n => Nat.le_refl _
  | x :: l, n => by unfold atN; have := atN_le l n; split <;> simp <;> omega
theorem atN_lt : ∀ (l : List Int) n j, j < atN l n → l.getD j 0 < n
  | [], n, j, h => by simp [atN] at h
  | x :: l, n, j, h => by
    unfold atN at h
    split at h
    · rename_i hx
      cases j with
      | zero => exact hx
      | succ j => exact atN_lt l n j (by omega)
    · omega
theorem atN_stop : ∀ (l : List Int) n, atN l n < l.length → ¬ l.getD (atN l n) 0 < n
  | [], n, h => by simp at h
  | x :: l, n, h => by
    unfold atN at h ⊢
    split
    · rename_i hx
      rw [if_pos hx] at h
      have := atN_stop l n (by simp at h; omega)
      simpa using this
    · rename_i hx; simpa using hx
theorem atN_eq (l : List Int) (n : Int) (i : Nat) (hi : i ≤ l.length) (h1 : ∀ j, j < i → l.getD j 0 < n) (h2 : i = l.length ∨ ¬ l.getD i 0 < n) : atN l n = i := by
  rcases Nat.lt_trichotomy (atN l n) i with h | h | h
  · exact absurd (h1 _ h) (atN_stop l n (by omega))
  · exact h
  · rcases h2 with h2 | h2
    · have := atN_le l n; omega
    · exact absurd (atN_lt l n i h) h2
abbrev Rises (l : List Int) : Prop := l.Pairwise (· < ·)
theorem rises_ext : ∀ {l m : List Int}, Rises l → Rises m → (∀ x, x ∈ l ↔ x ∈ m) → l = m
  | [], [], _, _, _ => rfl
  | [], y :: m, _, _, h => absurd ((h y).2 (by simp)) (by simp)
  | x :: l, [], _, _, h => absurd ((h x).1 (by simp)) (by simp)
  | x :: l, y :: m, h1, h2, h => by
    rw [Rises, List.pairwise_cons] at h1 h2
    have hxy : x = y := by
      have a := (h x).1 (by simp)
      have b := (h y).2 (by simp)
      rcases List.mem_cons.1 a with e | e
      · exact e
      · rcases List.mem_cons.1 b with e2 | e2
        · exact e2.symm
        · have := h2.1 x e; have := h1.1 y e2; omega
    subst hxy
    congr 1
    refine rises_ext h1.2 h2.2 fun z => ?_
    have := h z
    simp only [List.mem_cons] at this
    constructor
    · intro hz
      rcases this.1 (.inr hz) with e | e
      · subst e; have := h1.1 z hz; omega
      · exact e
    · intro hz
      rcases this.2 (.inr hz) with e | e
      · subst e; have := h2.1 z hz; omega
      · exact e
theorem mem_getD {l : List Int} {x : Int} (h : x ∈ l) : ∃ j, j < l.length ∧ l.getD j 0 = x := by
  obtain ⟨j, hj, rfl⟩ := List.getElem_of_mem h
  exact ⟨j, hj, by simp [List.getD_eq_getElem?_getD, hj]⟩
theorem getD_mem {l : List Int} {j : Nat} (h : j < l.length) : l.getD j 0 ∈ l := by
  rw [List.getD_eq_getElem?_getD]; simp [h]
theorem rises_lt {l : List Int} (h : Rises l) {i j : Nat} (hij : i < j) (hj : j < l.length) : l.getD i 0 < l.getD j 0 := by
  have := List.pairwise_iff_getElem.1 h i j (by omega) hj hij
  simpa [List.getD_eq_getElem?_getD, show i < l.length by omega, hj] using this
theorem isN_mem {l : List Int} (h : Rises l) (n : Int) : isN l n = decide (n ∈ l) := by
  unfold isN
  rw [decide_eq_decide]
  constructor
  · rintro ⟨h1, h2⟩; rw [← h2]; exact getD_mem h1
  · intro hm
    obtain ⟨j, hj, hjn⟩ := mem_getD hm
    have : atN l n = j := atN_eq l n j (by omega) (fun i hi => by rw [← hjn]; exact rises_lt h hi hj) (.inr (by rw [hjn]; omega))
    rw [this]; exact ⟨hj, hjn⟩
def addL (l : List Int) (n : Int) : List Int := if (isN l n || !goodN n) = true then l else l.take (atN l n) ++ n :: l.drop (atN l n)
def cutL (l : List Int) (n : Int) : List Int := if isN l n = true then l.take (atN l n) ++ l.drop (atN l n + 1) else l
def ofL (l : List Int) : List Int := l.foldl addL []
def orL (a b : List Int) : List Int := b.foldl addL a
def pickL (a b : List Int) (is : Bool) : List Int := a.filter fun x => isN b x == is
theorem mem_addL {l : List Int} (h : Rises l) (n m : Int) : m ∈ addL l n ↔ m ∈ l ∨ (m = n ∧ goodN n = true) := by
  unfold addL
  split
  · rename_i hc
    rw [isN_mem h] at hc
    constructor
    · exact .inl
    · rintro (h1 | ⟨rfl, h2⟩)
      · exact h1
      · simpa [h2] using hc
  · rename_i hc
    have hg : goodN n = true := by
      cases hg : goodN n with
      | true => rfl
      | false => simp [hg] at hc
    rw [List.mem_append, List.mem_cons]
    constructor
    · rintro (h1 | h1 | h1)
      · exact .inl (List.mem_of_mem_take h1)
      · exact .inr ⟨h1, hg⟩
      · exact .inl (List.mem_of_mem_drop h1)
    · rintro (h1 | ⟨rfl, _⟩)
      · rw [← List.take_append_drop (atN l n) l, List.mem_append] at h1
        rcases h1 with h1 | h1
        · exact .inl h1
        · exact .inr (.inr h1)
      · exact .inr (.inl rfl)
theorem mem_take_lt {l : List Int} {n x : Int} (h : x ∈ l.take (atN l n)) : x < n := by
  obtain ⟨j, hj, rfl⟩ := List.getElem_of_mem h
  simp at hj
  have := atN_lt l n j (by omega)
  simpa [List.getD_eq_getElem?_getD, show j < l.length by omega] using this
theorem mem_drop_ge {l : List Int} (hr : Rises l) {n x : Int} (h : x ∈ l.drop (atN l n)) : n ≤ x := by
  obtain ⟨j, hj, rfl⟩ := List.getElem_of_mem h
  simp at hj
  have h1 := atN_stop l n (by omega)
  have h2 : l.getD (atN l n) 0 ≤ l.getD (atN l n + j) 0 := by
    cases j with
    | zero => simp
    | succ j => exact Int.le_of_lt (rises_lt hr (by omega) (by omega))
  have : (l.drop (atN l n))[j] = l.getD (atN l n + j) 0 := by simp [List.getD_eq_getElem?_getD, show atN l n + j < l.length by omega]
  rw [this]; omega
theorem rises_addL {l : List Int} (h : Rises l) (n : Int) : Rises (addL l n) := by
  unfold addL
  split
  · exact h
  · rename_i hc
    have hni : ¬ n ∈ l := by
      intro hm; rw [isN_mem h] at hc; simp [hm] at hc
    rw [Rises, List.pairwise_append, List.pairwise_cons]
    refine ⟨h.sublist (List.take_sublist _ _), ⟨fun x hx => ?_, h.sublist (List.drop_sublist _ _)⟩, fun x hx y hy => ?_⟩
    · have h1 := mem_drop_ge h hx
      have : x ≠ n := fun e => hni (by rw [← e]; exact List.mem_of_mem_drop hx)
      omega
    · have h1 := mem_take_lt hx
      rcases List.mem_cons.1 hy with rfl | hy
      · exact h1
      · have := mem_drop_ge h hy; omega
theorem mem_cutL {l : List Int} (h : Rises l) (n m : Int) : m ∈ cutL l n ↔ m ∈ l ∧ m ≠ n := by
  unfold cutL
  split
  · rename_i hc
    unfold isN at hc
    obtain ⟨h1, h2⟩ := of_decide_eq_true hc
    have hd : l.drop (atN l n) = n :: l.drop (atN l n + 1) := by
      rw [List.drop_eq_getElem_cons h1]
      congr 1
      simpa [List.getD_eq_getElem?_getD, h1] using h2
    have hs : l = l.take (atN l n) ++ n :: l.drop (atN l n + 1) := by
      rw [← hd]; exact (List.take_append_drop _ _).symm
    have hr := h
    rw [hs, Rises, List.pairwise_append, List.pairwise_cons] at hr
    constructor
    · intro hm
      rcases List.mem_append.1 hm with hm | hm
      · exact ⟨List.mem_of_mem_take hm, by have := hr.2.2 m hm n (by simp); omega⟩
      · exact ⟨List.mem_of_mem_drop hm, by have := hr.2.1.1 m hm; omega⟩
    · rintro ⟨hm, hne⟩
      rw [hs] at hm
      rcases List.mem_append.1 hm with hm | hm
      · exact List.mem_append.2 (.inl hm)
      · rcases List.mem_cons.1 hm with e | hm
        · exact absurd e hne
        · exact List.mem_append.2 (.inr hm)
  · rename_i hc
    rw [isN_mem h] at hc
    constructor
    · intro hm; exact ⟨hm, fun e => hc (by rw [← e]; simpa using hm)⟩
    · exact fun hm => hm.1
theorem rises_cutL {l : List Int} (h : Rises l) (n : Int) : Rises (cutL l n) := by
  unfold cutL
  split
  · rw [Rises, List.pairwise_append]
    refine ⟨h.sublist (List.take_sublist _ _), h.sublist (List.drop_sublist _ _), fun x hx y hy => ?_⟩
    have h1 := mem_take_lt hx
    have h2 : y ∈ l.drop (atN l n) := by
      rw [← List.drop_drop] at hy; exact List.mem_of_mem_drop hy
    have := mem_drop_ge h h2; omega
  · exact h
/-! ### sets -/
structure IsS (ws : List W64) (l : List Int) : Prop where
  rises : Rises l
  good : ∀ x, x ∈ l → goodN x = true
  mem : ∀ n : Nat, hasW ws n = decide ((n : Int) ∈ l)
  norm : Norm ws
theorem goodN_iff (n : Int) : goodN n = true ↔ 0 ≤ n ∧ n < 65536 := by unfold goodN; simp
theorem IsS.unique {ws vs : List W64} {l : List Int} (h : IsS ws l) (k : IsS vs l) : ws = vs := norm_ext h.norm k.norm fun n => by rw [h.mem, k.mem]
theorem IsS.uniqueL {ws : List W64} {l m : List Int} (h : IsS ws l) (k : IsS ws m) : l = m := by
  refine rises_ext h.rises k.rises fun x => ?_
  have key : ∀ {l m : List Int}, IsS ws l → IsS ws m → x ∈ l → x ∈ m := by
    intro l m h k hx
    obtain ⟨h1, _⟩ := (goodN_iff x).1 (h.good x hx)
    have h2 := h.mem x.toNat
    rw [k.mem x.toNat, show ((x.toNat : Nat) : Int) = x by omega, decide_eq_decide] at h2
    exact h2.2 hx
  exact ⟨key h k, key k h⟩
theorem IsS.nil : IsS [] [] := ⟨List.Pairwise.nil, by simp, fun n => by simp [hasW], fun m h => by simp at h⟩
theorem IsS.has {ws : List W64} {l : List Int} (h : IsS ws l) (n : Int) : hasI ws n = isN l n := by
  unfold hasI
  rw [isN_mem h.rises]
  by_cases h0 : 0 ≤ n
  · rw [h.mem, show ((n.toNat : Nat) : Int) = n by omega]; simp [h0]
  · have : ¬ n ∈ l := fun hm => h0 ((goodN_iff n).1 (h.good n hm)).1
    simp [h0, this]
def addI (ws : List W64) (n : Int) : List W64 := if (hasI ws n || !goodN n) = true then ws else addN ws n.toNat
def cutI (ws : List W64) (n : Int) : List W64 := if hasI ws n = true then cutN ws n.toNat else ws
theorem IsS.add {ws : List W64} {l : List Int} (h : IsS ws l) (n : Int) : IsS (addI ws n) (addL l n) := by
  refine ⟨rises_addL h.rises n, fun x hx => ?_, fun m => ?_, ?_⟩
  · rcases (mem_addL h.rises n x).1 hx with h1 | ⟨rfl, h1⟩
    · exact h.good x h1
    · exact h1
  · rw [show decide ((m : Int) ∈ addL l n) = decide ((m : Int) ∈ l ∨ ((m : Int) = n ∧ goodN n = true)) from decide_eq_decide.2 (mem_addL h.rises n m)]
    unfold addI
    rw [h.has n, isN_mem h.rises]
    split
    · rename_i hc
      rw [h.mem, decide_eq_decide]
      constructor
      · exact .inl
      · rintro (h1 | ⟨rfl, h1⟩)
        · exact h1
        · simpa [h1] using hc
    · rename_i hc
      have hg : goodN n = true := by
        cases hg : goodN n with
        | true => rfl
        | false => simp [hg] at hc
      have hg2 := (goodN_iff n).1 hg
      rw [hasW_addN, h.mem]
      have : (n.toNat = m) ↔ ((m : Int) = n) := by omega
      simp [hg, this]
  · unfold addI
    split
    · exact h.norm
    · exact norm_addN _ _ h.norm
theorem IsS.cut {ws : List W64} {l : List Int} (h : IsS ws l) (n : Int) : IsS (cutI ws n) (cutL l n) := by
  refine ⟨rises_cutL h.rises n, fun x hx => h.good x ((mem_cutL h.rises n x).1 hx).1, fun m => ?_, ?_⟩
  · rw [show decide ((m : Int) ∈ cutL l n) = decide ((m : Int) ∈ l ∧ (m : Int) ≠ n) from decide_eq_decide.2 (mem_cutL h.rises n m)]
    unfold cutI
    have hh := h.has n
    rw [isN_mem h.rises] at hh
    split
    · rename_i hc
      have h0 : 0 ≤ n := by unfold hasI at hc; simp at hc; exact hc.1
      rw [hasW_cutN ws n.toNat m (by unfold hasI at hc; simp at hc; exact hc.2), h.mem]
      have : (n.toNat = m) ↔ ((m : Int) = n) := by omega
      simp [this]
    · rename_i hc
      rw [hh] at hc
      rw [h.mem, decide_eq_decide]
      constructor
      · intro hm; exact ⟨hm, fun e => hc (by rw [← e]; simpa using hm)⟩
      · exact fun hm => hm.1
  · unfold cutI
    split
    · exact norm_trimW _
    · exact h.norm
/-! ### what a set tells -/
def memB (ws : List W64) (b : Nat) : List Int := ((List.range b).filter (hasW ws)).map (fun k : Nat => (k : Int))
theorem mem_memB (ws : List W64) (b : Nat) (x : Int) : x ∈ memB ws b ↔ ∃ k : Nat, k < b ∧ hasW ws k = true ∧ (k : Int) = x := by
  unfold memB; simp [List.mem_map, List.mem_filter, and_assoc]
theorem rises_memB (ws : List W64) (b : Nat) : Rises (memB ws b) := by
  unfold memB
  rw [Rises, List.pairwise_map]
  refine ((List.pairwise_lt_range).sublist List.filter_sublist).imp ?_
  intro a b h; omega
theorem IsS.memB {ws : List W64} {l : List Int} (h : IsS ws l) (b : Nat) (hb : ∀ j, b ≤ j → hasW ws j = false) : memB ws b = l := by
  refine rises_ext (rises_memB ws b) h.rises fun x => ?_
  rw [mem_memB]
  constructor
  · rintro ⟨k, h1, h2, rfl⟩; rw [h.mem] at h2; simpa using h2
  · intro hx
    obtain ⟨h1, _⟩ := (goodN_iff x).1 (h.good x hx)
    have h2 : hasW ws x.toNat = true := by rw [h.mem, show ((x.toNat : Nat) : Int) = x by omega]; simpa using hx
    refine ⟨x.toNat, ?_, h2, by omega⟩
    apply Nat.lt_of_not_le
    intro hc; rw [hb _ hc] at h2; cases h2
theorem memB_zero (ws : List W64) : memB ws 0 = [] := rfl
theorem memB_next (ws : List W64) (b m : Nat) (h1 : b ≤ m) (h2 : hasW ws m = true) (h3 : ∀ j, b ≤ j → j < m → hasW ws j = false) : memB ws (m + 1) = memB ws b ++ [(m : Int)] := by
  unfold memB
  obtain ⟨k, rfl⟩ : ∃ k, m = b + k := ⟨m - b, by omega⟩
  rw [List.range_succ, List.filter_append, List.range_add, List.filter_append]
  have : ((List.range k).map (b + ·)).filter (hasW ws) = [] := by
    rw [List.filter_eq_nil_iff]
    intro x hx
    obtain ⟨i, hi, rfl⟩ := List.mem_map.1 hx
    rw [h3 (b + i) (by omega) (by have := List.mem_range.1 hi; omega)]; simp
  rw [this, List.append_nil]
  simp [h2]
def lenK (ws : List W64) : Nat → Nat
  | 0 => 0
  | k + 1 => lenK ws k + pcK 64 (ws.getD k 0#64).toNat
theorem lenK_le (ws : List W64) : ∀ k, lenK ws k ≤ 64 * k
  | 0 => Nat.le_refl _
  | k + 1 => by have := lenK_le ws k; have := pcK_le 64 (ws.getD k 0#64).toNat; rw [lenK]; omega
theorem countP_bits : ∀ (k n : Nat), (List.range k).countP (fun i => n.testBit i) = pcK k n
  | 0, n => rfl
  | k + 1, n => by
    rw [List.range_succ_eq_map, List.countP_cons, List.countP_map, pcK, ← countP_bits k (n / 2)]
    have : ((fun i => n.testBit i) ∘ Nat.succ) = fun i => (n / 2).testBit i := by
      funext i; simp [Nat.testBit_succ]
    rw [this]
    have h0 : n.testBit 0 = decide (n % 2 = 1) := Nat.testBit_zero n
    rw [h0]
    have : n % 2 = 0 ∨ n % 2 = 1 := by omega
    rcases this with e | e <;> simp [e] <;> omega
theorem memB_len (ws : List W64) : ∀ k, (memB ws (64 * k)).length = lenK ws k
  | 0 => rfl
  | k + 1 => by
    have ih := memB_len ws k
    unfold memB at ih ⊢
    rw [List.length_map] at ih ⊢
    rw [show 64 * (k + 1) = 64 * k + 64 by omega, List.range_add, List.filter_append, List.length_append, ih, lenK, ← countP_bits, List.countP_eq_length_filter]
    congr 1
    rw [List.filter_map, List.length_map]
    congr 1
    apply List.filter_congr
    intro i hi
    have hi := List.mem_range.1 hi
    show hasW ws (64 * k + i) = _
    unfold hasW
    rw [show (64 * k + i) / 64 = k by omega, show (64 * k + i) % 64 = i by omega]
    rfl
theorem IsS.len {ws : List W64} {l : List Int} (h : IsS ws l) : lenK ws ws.length = l.length := by
  rw [← memB_len, h.memB _ fun j hj => hasW_big ws j hj]
theorem IsS.next_none {ws : List W64} {l : List Int} (h : IsS ws l) (n : Int) (hn : nextI ws (imx n 0).toNat = -1) : atN l n = l.length := by
  rcases nextI_cases ws (imx n 0).toNat with ⟨_, h1⟩ | ⟨m, h1, _⟩
  · refine atN_eq l n _ (Nat.le_refl _) (fun j hj => ?_) (.inl rfl)
    have hx := getD_mem hj
    obtain ⟨h3, _⟩ := (goodN_iff _).1 (h.good _ hx)
    apply Int.not_le.1
    intro hc
    have h2 := h1 (l.getD j 0).toNat (by unfold imx; split <;> omega)
    rw [h.mem, show (((l.getD j 0).toNat : Nat) : Int) = l.getD j 0 by omega] at h2
    exact absurd hx (of_decide_eq_false h2)
  · rw [hn] at h1; omega
theorem IsS.next_some {ws : List W64} {l : List Int} (h : IsS ws l) (n : Int) (hn : 0 ≤ nextI ws (imx n 0).toNat) : atN l n < l.length ∧ l.getD (atN l n) 0 = nextI ws (imx n 0).toNat := by
  rcases nextI_cases ws (imx n 0).toNat with ⟨h1, _⟩ | ⟨m, h1, h2, _, h3, h4⟩
  · rw [h1] at hn; omega
  · rw [h1]
    have hm : (m : Int) ∈ l := by rw [h.mem] at h3; simpa using h3
    obtain ⟨j, hj, hjm⟩ := mem_getD hm
    have hnm : n ≤ (m : Int) := by unfold imx at h2; split at h2 <;> omega
    have : atN l n = j := by
      refine atN_eq l n j (by omega) (fun i hi => ?_) (.inr (by rw [hjm]; omega))
      have hlt := rises_lt h.rises hi hj
      rw [hjm] at hlt
      have hx := getD_mem (l := l) (show i < l.length by omega)
      obtain ⟨h5, _⟩ := (goodN_iff _).1 (h.good _ hx)
      apply Int.not_le.1
      intro hc
      have h6 := h4 (l.getD i 0).toNat (by unfold imx; split <;> omega) (by omega)
      rw [h.mem, show (((l.getD i 0).toNat : Nat) : Int) = l.getD i 0 by omega] at h6
      exact absurd hx (of_decide_eq_false h6)
    rw [this]; exact ⟨hj, hjm⟩
theorem IsS.at_big {ws : List W64} {l : List Int} (h : IsS ws l) (n : Int) (hn : 65536 ≤ n) : atN l n = l.length :=
  atN_eq l n _ (Nat.le_refl _) (fun j hj => by have := ((goodN_iff _).1 (h.good _ (getD_mem hj))).2; omega) (.inl rfl)
/-! ### two sets -/
def opW (f : W64 → W64 → W64) (ws vs : List W64) : List W64 := (List.range (max ws.length vs.length)).map fun i => f (ws.getD i 0#64) (vs.getD i 0#64)
theorem opW_getD (f : W64 → W64 → W64) (hf : f 0#64 0#64 = 0#64) (ws vs : List W64) (i : Nat) : (opW f ws vs).getD i 0#64 = f (ws.getD i 0#64) (vs.getD i 0#64) := by
  unfold opW
  by_cases h : i < max ws.length vs.length
  · simp [List.getD_eq_getElem?_getD, h]
  · rw [getD_len _ _ _ (by simp; omega), getD_len ws _ _ (by omega), getD_len vs _ _ (by omega), hf]
theorem hasW_opW (f : W64 → W64 → W64) (b : Bool → Bool → Bool) (hf : f 0#64 0#64 = 0#64) (hb : ∀ x y i, i < 64 → (f x y).getLsbD i = b (x.getLsbD i) (y.getLsbD i)) (ws vs : List W64) (n : Nat) :
    hasW (trimW (opW f ws vs)) n = b (hasW ws n) (hasW vs n) := by
  rw [hasW_trimW]
  unfold hasW
  rw [opW_getD f hf, hb _ _ _ (Nat.mod_lt n (by omega))]
theorem mem_foldl {a : List Int} (h : Rises a) : ∀ (b : List Int), Rises (b.foldl addL a) ∧ ∀ x, x ∈ b.foldl addL a ↔ x ∈ a ∨ (x ∈ b ∧ goodN x = true) := by
  intro b
  induction b generalizing a with
  | nil => exact ⟨h, by simp⟩
  | cons y b ih =>
    obtain ⟨h1, h2⟩ := ih (rises_addL h y)
    refine ⟨h1, fun x => ?_⟩
    rw [List.foldl_cons, h2, mem_addL h, List.mem_cons]
    constructor
    · rintro ((h3 | ⟨rfl, h3⟩) | ⟨h3, h4⟩)
      · exact .inl h3
      · exact .inr ⟨.inl rfl, h3⟩
      · exact .inr ⟨.inr h3, h4⟩
    · rintro (h3 | ⟨rfl | h3, h4⟩)
      · exact .inl (.inl h3)
      · exact .inl (.inr ⟨rfl, h4⟩)
      · exact .inr ⟨h3, h4⟩
def orW : W64 → W64 → W64 := fun x y => x ||| y
def andW : W64 → W64 → W64 := fun x y => x &&& y
def minW : W64 → W64 → W64 := fun x y => x &&& ~~~ y
theorem IsS.or {ws vs : List W64} {l m : List Int} (h : IsS ws l) (k : IsS vs m) : IsS (trimW (opW orW ws vs)) (orL l m) := by
  obtain ⟨h1, h2⟩ := mem_foldl h.rises m
  refine ⟨h1, fun x hx => ?_, fun n => ?_, norm_trimW _⟩
  · rcases (h2 x).1 hx with h3 | ⟨_, h3⟩
    · exact h.good x h3
    · exact h3
  · rw [hasW_opW _ (· || ·) (by simp [orW]) (fun x y i hi => by simp [orW]), h.mem, k.mem]
    rw [show decide ((n : Int) ∈ orL l m) = decide ((n : Int) ∈ l ∨ (n : Int) ∈ m ∧ goodN (n : Int) = true) from decide_eq_decide.2 (h2 n)]
    by_cases hm : (n : Int) ∈ m
    · simp [hm, k.good _ hm]
    · simp [hm]
theorem IsS.pick {ws vs : List W64} {l m : List Int} (h : IsS ws l) (k : IsS vs m) (is : Bool) (f : W64 → W64 → W64) (hf : f 0#64 0#64 = 0#64) (hb : ∀ x y i, i < 64 → (f x y).getLsbD i = (x.getLsbD i && (y.getLsbD i == is))) :
    IsS (trimW (opW f ws vs)) (pickL l m is) := by
  refine ⟨h.rises.sublist List.filter_sublist, fun x hx => h.good x (List.mem_filter.1 hx).1, fun n => ?_, norm_trimW _⟩
  rw [hasW_opW f (fun a b => a && (b == is)) hf hb, h.mem, k.mem]
  unfold pickL
  rw [show decide ((n : Int) ∈ l.filter fun x => isN m x == is) = decide ((n : Int) ∈ l ∧ (isN m n == is) = true) from decide_eq_decide.2 List.mem_filter, isN_mem k.rises]
  by_cases h1 : (n : Int) ∈ l <;> by_cases h2 : (n : Int) ∈ m <;> cases is <;> simp [h1, h2]
theorem IsS.and {ws vs : List W64} {l m : List Int} (h : IsS ws l) (k : IsS vs m) : IsS (trimW (opW andW ws vs)) (pickL l m true) :=
  h.pick k true andW (by simp [andW]) fun x y i hi => by simp [andW]
theorem IsS.minus {ws vs : List W64} {l m : List Int} (h : IsS ws l) (k : IsS vs m) : IsS (trimW (opW minW ws vs)) (pickL l m false) :=
  h.pick k false minW (by simp [minW]) fun x y i hi => by simp [minW, hi]
theorem IsS.empty {ws : List W64} {l : List Int} (h : IsS ws l) : ws = [] ↔ l = [] := by
  constructor
  · rintro rfl; exact (h.uniqueL IsS.nil)
  · rintro rfl; exact h.unique IsS.nil
theorem IsS.same {ws vs : List W64} {l m : List Int} (h : IsS ws l) (k : IsS vs m) : ws = vs ↔ l = m := by
  constructor
  · rintro rfl; exact h.uniqueL k
  · rintro rfl; exact h.unique k
theorem IsS.meets {ws vs : List W64} {l m : List Int} (h : IsS ws l) (k : IsS vs m) : (∃ i, i < min ws.length vs.length ∧ ws.getD i 0#64 &&& vs.getD i 0#64 ≠ 0#64) ↔ pickL l m true ≠ [] := by
  rw [Ne, ← (h.and k).empty]
  constructor
  · rintro ⟨i, hi, hne⟩ he
    have : (trimW (opW andW ws vs)).getD i 0#64 = 0#64 := by rw [he]; rfl
    rw [trimW_getD, opW_getD _ (by simp [andW])] at this
    exact hne this
  · intro hne
    apply Classical.byContradiction
    intro hc
    apply hne
    have hz : ∀ i, (trimW (opW andW ws vs)).getD i 0#64 = 0#64 := by
      intro i
      rw [trimW_getD, opW_getD _ (by simp [andW])]
      by_cases hi : i < min ws.length vs.length
      · apply Classical.byContradiction
        intro h2; exact hc ⟨i, hi, h2⟩
      · by_cases h1 : i < ws.length
        · rw [getD_len vs _ _ (by omega)]; simp [andW]
        · rw [getD_len ws _ _ (by omega)]; simp [andW]
    match hl : (trimW (opW andW ws vs)) with
    | [] => rfl
    | x :: r =>
      have := norm_trimW (opW andW ws vs) r.length (by rw [hl]; rfl)
      exact absurd (hz _) this
/-! ### words of a list -/
def wordsL (l : List Int) : List W64 := l.foldl (fun ws x => addN ws x.toNat) []
theorem IsS.words {l : List Int} (h : Rises l) (hg : ∀ x, x ∈ l → goodN x = true) : ∀ i, i ≤ l.length → IsS (wordsL (l.take i)) (l.take i)
  | 0, _ => IsS.nil
  | i + 1, hi => by
    have ih := IsS.words h hg i (by omega)
    have hi2 : i < l.length := by omega
    rw [List.take_succ_eq_append_getElem hi2]
    have hx : goodN l[i] = true := hg _ (List.getElem_mem hi2)
    have hlt : ∀ y, y ∈ l.take i → y < l[i] := by
      intro y hy
      obtain ⟨j, hj, rfl⟩ := List.getElem_of_mem hy
      simp at hj
      simpa using List.pairwise_iff_getElem.1 h j i (by omega) hi2 (by omega)
    have hat : atN (l.take i) l[i] = (l.take i).length := by
      refine atN_eq _ _ _ (Nat.le_refl _) (fun j hj => ?_) (.inl rfl)
      exact hlt _ (getD_mem hj)
    have hni : isN (l.take i) l[i] = false := by
      rw [isN_mem ih.rises]
      simp only [decide_eq_false_iff_not]
      intro hm; have := hlt _ hm; omega
    have hadd : addL (l.take i) l[i] = l.take i ++ [l[i]] := by
      unfold addL
      rw [hni, hx, if_neg (by simp), hat, List.take_length, List.drop_length]
    have hw : addI (wordsL (l.take i)) l[i] = wordsL (l.take i ++ [l[i]]) := by
      unfold addI
      rw [ih.has, hni, hx, if_neg (by simp)]
      unfold wordsL
      rw [List.foldl_append]; rfl
    rw [← hw, ← hadd]
    exact ih.add _
theorem add_bit (x : W64) (n : Nat) (h : x.getLsbD (n % 64) = false) : x + bitW n = x ||| bitW n := BitVec.add_eq_or_of_and_eq_zero _ _ ((and_bitW x n).2 h)
/-! ### the least one, word by word -/
theorem NB_eq_zero (x : W64) : (NB x = 0) = (x = 0#64) := by
  refine propext ⟨fun h => ?_, fun h => by subst h; rfl⟩
  apply BitVec.eq_of_toNat_eq
  unfold NB at h
  simpa using h
theorem NB_neg (x : W64) : IntKind.u64.wrap (0 - NB x) = NB (-x) := by
  rw [wrap_u64]; unfold NB; rw [BitVec.toNat_neg]; have := x.isLt; omega
theorem mask_k (k : Nat) : IntKind.u64.wrap (18446744073709551615 * 2 ^ k) = NB (BitVec.allOnes 64 <<< k) := by
  rw [← NB_shl _ k _ rfl]
  have : NB (BitVec.allOnes 64) = 18446744073709551615 := rfl
  rw [this, Int.natCast_pow]; rfl
theorem log_low (x : W64) (b : Nat) (hb : b < 64) (h : x &&& -x = BitVec.twoPow 64 b) : ((blK 64 (NB (x &&& -x)).toNat : Nat) : Int) - 1 = b := by
  have : (BitVec.twoPow 64 b).toNat = 2 ^ b := by
    rw [BitVec.toNat_twoPow]; exact Nat.mod_eq_of_lt (Nat.pow_lt_pow_right (by omega) hb)
  rw [h]; unfold NB; rw [Int.toNat_natCast, this, blK_pow b 64 hb]; omega
theorem next_found (ws : List W64) (k i : Nat) (u : W64) (hl : i < ws.length) (hl2 : ws.length ≤ 1024) (hu : ∀ b, b < 64 → u.getLsbD b = ((ws.getD i 0#64).getLsbD b && decide (k ≤ 64 * i + b))) (hp : ∀ j, k ≤ j → j < 64 * i → hasW ws j = false) (hne : ¬ u = 0#64) :
    IntKind.i64.wrap (IntKind.i64.wrap ((i : Int) * 64) + (((blK 64 (NB (u &&& -u)).toNat : Nat) : Int) - 1)) = nextI ws k := by
  obtain ⟨b, hb, h1, h2, h3⟩ := low_bit u hne
  rw [log_low u b hb h3, hu b hb] at *
  simp only [Bool.and_eq_true, decide_eq_true_eq] at h1
  rw [nextI_eq ws k (64 * i + b) h1.2 (by unfold hasW; rw [show (64 * i + b) / 64 = i by omega, show (64 * i + b) % 64 = b by omega]; exact h1.1)]
  · rw [wrap_i64, wrap_i64]; omega
  · intro j h4 h5
    by_cases h6 : j < 64 * i
    · exact hp j h4 h6
    · have h7 := h2 (j - 64 * i) (by omega)
      rw [hu _ (by omega), show decide (k ≤ 64 * i + (j - 64 * i)) = true by simp; omega, Bool.and_true] at h7
      unfold hasW
      rw [show j / 64 = i by omega, show j % 64 = j - 64 * i by omega]; exact h7
theorem next_not (ws : List W64) (k i : Nat) (u : W64) (hu : ∀ b, b < 64 → u.getLsbD b = ((ws.getD i 0#64).getLsbD b && decide (k ≤ 64 * i + b))) (hp : ∀ j, k ≤ j → j < 64 * i → hasW ws j = false) (he : u = 0#64) :
    ∀ j, k ≤ j → j < 64 * (i + 1) → hasW ws j = false := by
  intro j h4 h5
  by_cases h6 : j < 64 * i
  · exact hp j h4 h6
  · have h7 := hu (j - 64 * i) (by omega)
    rw [show decide (k ≤ 64 * i + (j - 64 * i)) = true by simp; omega, Bool.and_true, he] at h7
    unfold hasW
    rw [show j / 64 = i by omega, show j % 64 = j - 64 * i by omega, ← h7]; simp
theorem mask_bits (x : W64) (k i : Nat) (hi : i = k / 64) (b : Nat) (hb : b < 64) : (x &&& BitVec.allOnes 64 <<< (k % 64)).getLsbD b = (x.getLsbD b && decide (k ≤ 64 * i + b)) := by
  rw [BitVec.getLsbD_and, BitVec.getLsbD_shiftLeft, BitVec.getLsbD_allOnes]
  congr 1
  by_cases h : b < k % 64
  · have : ¬ k ≤ 64 * i + b := by omega
    simp [h, this]
  · have h2 : k ≤ 64 * i + b := by omega
    have h3 : b - k % 64 < 64 := by omega
    simp [h, h2, hb, h3]
/-! ### word by word -/
def opS (f : W64 → W64 → W64) (ws vs : List W64) (i : Nat) : List W64 := (List.range (max ws.length vs.length)).map fun j => if j < i then f (ws.getD j 0#64) (vs.getD j 0#64) else 0#64
theorem opS_len (f : W64 → W64 → W64) (ws vs : List W64) (i : Nat) : (opS f ws vs i).length = max ws.length vs.length := by unfold opS; simp
theorem opS_zero (f : W64 → W64 → W64) (ws vs : List W64) : opS f ws vs 0 = List.replicate (max ws.length vs.length) 0#64 := by
  apply List.ext_getElem (by simp [opS_len])
  intro j h1 h2
  simp [opS]
theorem opS_get (f : W64 → W64 → W64) (ws vs : List W64) (i j : Nat) (h : j < (opS f ws vs i).length) : (opS f ws vs i)[j] = if j < i then f (ws.getD j 0#64) (vs.getD j 0#64) else 0#64 := by
  simp only [opS, List.getElem_map, List.getElem_range]
theorem opW_get (f : W64 → W64 → W64) (ws vs : List W64) (j : Nat) (h : j < (opW f ws vs).length) : (opW f ws vs)[j] = f (ws.getD j 0#64) (vs.getD j 0#64) := by
  simp only [opW, List.getElem_map, List.getElem_range]
theorem opS_succ (f : W64 → W64 → W64) (ws vs : List W64) (i : Nat) : (opS f ws vs i).set i (f (ws.getD i 0#64) (vs.getD i 0#64)) = opS f ws vs (i + 1) := by
  apply List.ext_getElem (by simp [opS_len])
  intro j h1 h2
  rw [List.getElem_set, opS_get, opS_get]
  by_cases h : i = j
  · subst h; rw [if_pos rfl, if_pos (by omega)]
  · rw [if_neg h]
    by_cases h3 : j < i
    · rw [if_pos h3, if_pos (by omega)]
    · rw [if_neg h3, if_neg (by omega)]
theorem opS_full (f : W64 → W64 → W64) (ws vs : List W64) : opS f ws vs (max ws.length vs.length) = opW f ws vs := by
  apply List.ext_getElem (by simp [opS_len, opW])
  intro j h1 h2
  rw [opS_get, opW_get, if_pos (by rw [opS_len] at h1; exact h1)]
theorem opW_len (f : W64 → W64 → W64) (ws vs : List W64) : (opW f ws vs).length = max ws.length vs.length := by unfold opW; simp
theorem Wl_splice (ws : List W64) (i : Nat) (x : W64) (h : i < ws.length) : (Wl ws).take i ++ [U64 (NB x)] ++ (Wl ws).drop (i + 1) = Wl (ws.set i x) := by
  have : Wl (ws.set i x) = (Wl ws).set i (U64 (NB x)) := List.map_set
  rw [this, List.set_eq_take_append_cons_drop, if_pos (by simpa using h)]
  simp
theorem Wl_rep (k : Nat) : List.replicate k (U64 0) = Wl (List.replicate k 0#64) := by simp [Wl]; exact .inr rfl
theorem Wl_idf (ws : List W64) : (Wl ws).all AV.idf = true := by simp [Wl, AV.idf, Value.oneCell']
theorem Il_idf (l : List Int) : (Il l).all AV.idf = true := by simp [Il, AV.idf, Value.oneCell']
theorem Wl_take (ws : List W64) (k : Nat) : (Wl ws).take k = Wl (ws.take k) := by simp [Wl]
theorem Wl_len (ws : List W64) : (Wl ws).length = ws.length := by simp
theorem IsS.len_le {ws : List W64} {l : List Int} (h : IsS ws l) : ws.length ≤ 1024 := by
  apply Nat.le_of_not_lt
  intro hc
  obtain ⟨m, hm⟩ : ∃ m, ws.length = m + 1 := ⟨ws.length - 1, by omega⟩
  have hn := h.norm m hm
  obtain ⟨b, hb, h1, _⟩ := low_bit _ hn
  have h2 : hasW ws (64 * m + b) = true := by unfold hasW; rw [show (64 * m + b) / 64 = m by omega, show (64 * m + b) % 64 = b by omega]; exact h1
  rw [h.mem] at h2
  have := ((goodN_iff _).1 (h.good _ (of_decide_eq_true h2))).2
  omega
end Go.Av

