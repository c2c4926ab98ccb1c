import Derived.Test.YtjinngfpbmkhaaaTxt
import Derived.Test.YtjinngfpbmkhaaaNumC
/-! Plain words about sets of small numbers: words of bits, and rising lists. No program in sight. -/
namespace Go.Av
set_option linter.unusedVariables false
set_option linter.unusedSimpArgs false
abbrev W64 := BitVec 64
abbrev Wl (ws : List W64) : List AV := ws.map fun x => U64 (NB x)
abbrev Il (l : List Int) : List AV := l.map fun x => I64 x
def bitW (n : Nat) : W64 := BitVec.twoPow 64 (n % 64)
def hasW (ws : List W64) (n : Nat) : Bool := (ws.getD (n / 64) 0#64).getLsbD (n % 64)
def hasI (ws : List W64) (n : Int) : Bool := decide (0 ≤ n) && hasW ws n.toNat
theorem getLsbD_bitW (n j : Nat) : (bitW n).getLsbD j = decide (n % 64 = j) := by
  unfold bitW; rw [BitVec.getLsbD_twoPow]; have := Nat.mod_lt n (show 64 > 0 by omega); simp [this]
theorem and_bitW (x : W64) (n : Nat) : (x &&& bitW n = 0#64) ↔ x.getLsbD (n % 64) = false := by
  have hm := Nat.mod_lt n (show 64 > 0 by omega)
  constructor
  · intro h
    have := congrArg (·.getLsbD (n % 64)) h
    simpa [getLsbD_bitW] using this
  · intro h
    apply BitVec.eq_of_getLsbD_eq
    intro i hi
    rw [BitVec.getLsbD_and, getLsbD_bitW]
    by_cases e : n % 64 = i
    · subst e; simp [h]
    · simp [e]
theorem getD_set {α : Type} (l : List α) (i j : Nat) (a d : α) (hi : i < l.length) : (l.set i a).getD j d = if j = i then a else l.getD j d := by
  rw [List.getD_eq_getElem?_getD, List.getElem?_set, List.getD_eq_getElem?_getD]
  split
  · rename_i h; subst h; simp [hi]
  · rename_i h; rw [if_neg (fun e => h e.symm)]
theorem getD_pad (ws : List W64) (k j : Nat) : (ws ++ List.replicate k 0#64).getD j 0#64 = ws.getD j 0#64 := by
  rw [List.getD_eq_getElem?_getD, List.getD_eq_getElem?_getD]
  by_cases h : j < ws.length
  · rw [List.getElem?_append_left h]
  · rw [List.getElem?_append_right (by omega), List.getElem?_eq_none (l := ws) (by omega), List.getElem?_replicate]
    split <;> rfl
/-! ### one more, one less -/
def padW (ws : List W64) (n : Nat) : List W64 := ws ++ List.replicate (n / 64 + 1 - ws.length) 0#64
theorem padW_len (ws : List W64) (n : Nat) : n / 64 < (padW ws n).length := by unfold padW; simp; omega
theorem padW_getD (ws : List W64) (n j : Nat) : (padW ws n).getD j 0#64 = ws.getD j 0#64 := getD_pad ws _ j
def addN (ws : List W64) (n : Nat) : List W64 := (padW ws n).set (n / 64) ((padW ws n).getD (n / 64) 0#64 ||| bitW n)
theorem same_place (n m : Nat) : n = m ↔ n / 64 = m / 64 ∧ n % 64 = m % 64 := by omega
theorem hasW_addN (ws : List W64) (n m : Nat) : hasW (addN ws n) m = (hasW ws m || decide (n = m)) := by
  unfold hasW addN
  rw [getD_set _ _ _ _ _ (padW_len ws n)]
  rw [show decide (n = m) = decide (n / 64 = m / 64 ∧ n % 64 = m % 64) from decide_eq_decide.2 (same_place n m)]
  by_cases h : m / 64 = n / 64
  · rw [if_pos h, BitVec.getLsbD_or, getLsbD_bitW, h, padW_getD]
    simp
  · rw [if_neg h, padW_getD]
    have : ¬ n / 64 = m / 64 := fun e => h e.symm
    simp [this]
def clrN (ws : List W64) (n : Nat) : List W64 := ws.set (n / 64) (ws.getD (n / 64) 0#64 &&& ~~~ bitW n)
theorem hasW_clrN (ws : List W64) (n m : Nat) (h : n / 64 < ws.length) : hasW (clrN ws n) m = (hasW ws m && !decide (n = m)) := by
  unfold hasW clrN
  rw [getD_set _ _ _ _ _ h]
  rw [show decide (n = m) = decide (n / 64 = m / 64 ∧ n % 64 = m % 64) from decide_eq_decide.2 (same_place n m)]
  have hm := Nat.mod_lt m (show 64 > 0 by omega)
  by_cases h : m / 64 = n / 64
  · rw [if_pos h, BitVec.getLsbD_and, BitVec.getLsbD_not, getLsbD_bitW, h]
    simp [hm]
  · rw [if_neg h]
    have : ¬ n / 64 = m / 64 := fun e => h e.symm
    simp [this]
/-! ### no words without a bit at the end -/
def trimN (ws : List W64) : Nat → Nat
  | 0 => 0
  | m + 1 => if ws.getD m 0#64 = 0#64 then trimN ws m else m + 1
theorem trimN_le (ws : List W64) : ∀ m, trimN ws m ≤ m
  | 0 => Nat.le_refl _
  | m + 1 => by unfold trimN; split
                · exact Nat.le_trans (trimN_le ws m) (Nat.le_succ m)
                · exact Nat.le_refl _
theorem trimN_zero (ws : List W64) : ∀ m j, trimN ws m ≤ j → j < m → ws.getD j 0#64 = 0#64
  | 0, j, h1, h2 => by omega
  | m + 1, j, h1, h2 => by
    unfold trimN at h1
    split at h1
    · rename_i h
      by_cases e : j = m
      · subst e; exact h
      · exact trimN_zero ws m j h1 (by omega)
    · omega
def trimW (ws : List W64) : List W64 := ws.take (trimN ws ws.length)
def Norm (ws : List W64) : Prop := ∀ m, ws.length = m + 1 → ws.getD m 0#64 ≠ 0#64
theorem getD_take {α : Type} (l : List α) (k j : Nat) (d : α) : (l.take k).getD j d = if j < k then l.getD j d else d := by
  rw [List.getD_eq_getElem?_getD, List.getElem?_take, List.getD_eq_getElem?_getD]
  split <;> rfl
theorem getD_len {α : Type} (l : List α) (j : Nat) (d : α) (h : l.length ≤ j) : l.getD j d = d := by
  rw [List.getD_eq_getElem?_getD, List.getElem?_eq_none h]; rfl
theorem trimW_getD (ws : List W64) (j : Nat) : (trimW ws).getD j 0#64 = ws.getD j 0#64 := by
  unfold trimW
  rw [getD_take]
  split
  · rfl
  · rename_i h
    by_cases hj : j < ws.length
    · exact (trimN_zero ws _ j (by omega) hj).symm
    · exact (getD_len ws j _ (by omega)).symm
theorem hasW_trimW (ws : List W64) (m : Nat) : hasW (trimW ws) m = hasW ws m := by unfold hasW; rw [trimW_getD]
theorem trimN_last (ws : List W64) : ∀ m k, trimN ws m = k + 1 → ws.getD k 0#64 ≠ 0#64
  | 0, k, h => by simp [trimN] at h
  | m + 1, k, h => by
    unfold trimN at h
    split at h
    · exact trimN_last ws m k h
    · rename_i h2; have : m = k := by omega
      subst this; exact h2
theorem trimW_len (ws : List W64) : (trimW ws).length = trimN ws ws.length := by
  unfold trimW; have := trimN_le ws ws.length; simp; omega
theorem norm_trimW (ws : List W64) : Norm (trimW ws) := by
  intro m hm
  rw [trimW_len] at hm
  rw [trimW_getD]
  exact trimN_last ws _ m hm
theorem trimN_take (ws : List W64) : ∀ m k, m ≤ k → trimN (ws.take k) m = trimN ws m
  | 0, k, h => rfl
  | m + 1, k, h => by
    unfold trimN
    rw [getD_take, if_pos (show m < k by omega), trimN_take ws m k (by omega)]
theorem trim_step (ws : List W64) (m : Nat) (h : ws.getD m 0#64 = 0#64) : trimN ws (m + 1) = trimN ws m := by rw [trimN, if_pos h]
theorem trim_stop (ws : List W64) (m : Nat) (h : ws.getD m 0#64 ≠ 0#64) : trimN ws (m + 1) = m + 1 := by rw [trimN, if_neg h]
def cutN (ws : List W64) (n : Nat) : List W64 := trimW (clrN ws n)
theorem hasW_lt (ws : List W64) (n : Nat) (h : hasW ws n = true) : n / 64 < ws.length := by
  unfold hasW at h
  by_cases hl : n / 64 < ws.length
  · exact hl
  · rw [getD_len _ _ _ (by omega)] at h; simp at h
theorem hasW_cutN (ws : List W64) (n m : Nat) (h : hasW ws n = true) : hasW (cutN ws n) m = (hasW ws m && !decide (n = m)) := by
  unfold cutN; rw [hasW_trimW, hasW_clrN _ _ _ (hasW_lt _ _ h)]
theorem bits_zero (x : W64) : x = 0#64 ↔ ∀ i, i < 64 → x.getLsbD i = false := by
  constructor
  · rintro rfl i _; simp
  · intro h; apply BitVec.eq_of_getLsbD_eq; intro i hi; simp [h i hi]
theorem norm_ext {ws vs : List W64} (h1 : Norm ws) (h2 : Norm vs) (h : ∀ n, hasW ws n = hasW vs n) : ws = vs := by
  have hg : ∀ j, ws.getD j 0#64 = vs.getD j 0#64 := by
    intro j
    apply BitVec.eq_of_getLsbD_eq
    intro i hi
    have := h (64 * j + i)
    unfold hasW at this
    rwa [show (64 * j + i) / 64 = j by omega, show (64 * j + i) % 64 = i by omega] at this
  have hlen : ws.length = vs.length := by
    rcases Nat.lt_trichotomy ws.length vs.length with hl | hl | hl
    · obtain ⟨m, hm⟩ : ∃ m, vs.length = m + 1 := ⟨vs.length - 1, by omega⟩
      have := h2 m hm
      rw [← hg, getD_len _ _ _ (by omega)] at this
      exact absurd rfl this
    · exact hl
    · obtain ⟨m, hm⟩ : ∃ m, ws.length = m + 1 := ⟨ws.length - 1, by omega⟩
      have := h1 m hm
      rw [hg, getD_len _ _ _ (by omega)] at this
      exact absurd rfl this
  apply List.ext_getElem hlen
  intro i h3 h4
  have := hg i
  rw [List.getD_eq_getElem?_getD, List.getD_eq_getElem?_getD] at this
  simpa [h3, h4] using this
theorem norm_addN (ws : List W64) (n : Nat) (h : Norm ws) : Norm (addN ws n) := by
  intro m hm
  have hne : ∀ x : W64, x ||| bitW n ≠ 0#64 := by
    intro x e
    have := congrArg (·.getLsbD (n % 64)) e
    simp [getLsbD_bitW] at this
  unfold addN at hm ⊢
  rw [getD_set _ _ _ _ _ (padW_len ws n)]
  split
  · exact hne _
  · rename_i hmn
    rw [padW_getD]
    rw [List.length_set] at hm
    unfold padW at hm
    simp at hm
    exact h m (by omega)
theorem addN_len (ws : List W64) (n : Nat) : (addN ws n).length = max ws.length (n / 64 + 1) := by
  unfold addN padW; simp; omega
/-! ### the least one from a number on -/
def scan (p : Nat → Bool) : Nat → Nat → Option Nat
  | 0, n => none
  | k + 1, n => if p n then some n else scan p k (n + 1)
theorem scan_some {p : Nat → Bool} : ∀ {k n m : Nat}, scan p k n = some m → n ≤ m ∧ m < n + k ∧ p m = true ∧ ∀ j, n ≤ j → j < m → p j = false
  | 0, n, m, h => by simp [scan] at h
  | k + 1, n, m, h => by
    unfold scan at h
    split at h
    · rename_i hp; cases h; exact ⟨Nat.le_refl _, by omega, hp, fun j h1 h2 => by omega⟩
    · rename_i hp
      obtain ⟨h1, h2, h3, h4⟩ := scan_some h
      refine ⟨by omega, by omega, h3, fun j h5 h6 => ?_⟩
      by_cases e : j = n
      · subst e; simpa using hp
      · exact h4 j (by omega) h6
theorem scan_none {p : Nat → Bool} : ∀ {k n : Nat}, scan p k n = none → ∀ j, n ≤ j → j < n + k → p j = false
  | 0, n, h, j, h1, h2 => by omega
  | k + 1, n, h, j, h1, h2 => by
    unfold scan at h
    split at h
    · cases h
    · rename_i hp
      by_cases e : j = n
      · subst e; simpa using hp
      · exact scan_none h j (by omega) (by omega)
/-- what 'next' hands back -/
def nextI (ws : List W64) (n : Nat) : Int := match scan (hasW ws) (64 * ws.length - n) n with | some m => (m : Int) | none => -1
theorem hasW_big (ws : List W64) (n : Nat) (h : 64 * ws.length ≤ n) : hasW ws n = false := by
  unfold hasW; rw [getD_len _ _ _ (by omega)]; simp
theorem nextI_eq (ws : List W64) (n : Nat) (m : Nat) (h1 : n ≤ m) (h2 : hasW ws m = true) (h3 : ∀ j, n ≤ j → j < m → hasW ws j = false) : nextI ws n = (m : Int) := by
  unfold nextI
  have hm := hasW_lt ws m h2
  cases hs : scan (hasW ws) (64 * ws.length - n) n with
  | none => have := scan_none hs m h1 (by omega); rw [h2] at this; cases this
  | some k =>
    obtain ⟨k1, k2, k3, k4⟩ := scan_some hs
    rcases Nat.lt_trichotomy k m with h | h | h
    · rw [h3 k k1 h] at k3; cases k3
    · simp [h]
    · rw [k4 m h1 h] at h2; cases h2
theorem nextI_none (ws : List W64) (n : Nat) (h : ∀ j, n ≤ j → j < 64 * ws.length → hasW ws j = false) : nextI ws n = -1 := by
  unfold nextI
  cases hs : scan (hasW ws) (64 * ws.length - n) n with
  | none => rfl
  | some k =>
    obtain ⟨k1, k2, k3, k4⟩ := scan_some hs
    rw [h k k1 (by omega)] at k3; cases k3
theorem nextI_cases (ws : List W64) (n : Nat) : (nextI ws n = -1 ∧ ∀ j, n ≤ j → hasW ws j = false) ∨ ∃ m : Nat, nextI ws n = (m : Int) ∧ n ≤ m ∧ m < 64 * ws.length ∧ hasW ws m = true ∧ ∀ j, n ≤ j → j < m → hasW ws j = false := by
  unfold nextI
  cases hs : scan (hasW ws) (64 * ws.length - n) n with
  | none =>
    refine .inl ⟨rfl, fun j hj => ?_⟩
    by_cases h : j < 64 * ws.length
    · exact scan_none hs j hj (by omega)
    · exact hasW_big ws j (by omega)
  | some k =>
    obtain ⟨k1, k2, k3, k4⟩ := scan_some hs
    exact .inr ⟨k, rfl, k1, by omega, k3, k4⟩
/-- the lowest bit of a word -/
theorem low_bit (x : W64) (h : x ≠ 0#64) : ∃ b, b < 64 ∧ x.getLsbD b = true ∧ (∀ j, j < b → x.getLsbD j = false) ∧ x &&& -x = BitVec.twoPow 64 b := by
  have : ∃ b, scan (x.getLsbD) 64 0 = some b := by
    cases hs : scan x.getLsbD 64 0 with
    | some b => exact ⟨b, rfl⟩
    | none => exact absurd ((bits_zero x).2 fun i hi => scan_none hs i (by omega) (by omega)) h
  obtain ⟨b, hb⟩ := this
  obtain ⟨h1, h2, h3, h4⟩ := scan_some hb
  refine ⟨b, by omega, h3, fun j hj => h4 j (by omega) hj, ?_⟩
  apply BitVec.eq_of_getLsbD_eq
  intro i hi
  rw [BitVec.getLsbD_and, BitVec.getLsbD_neg, BitVec.getLsbD_twoPow]
  have hb64 : b < 64 := by omega
  rcases Nat.lt_trichotomy i b with hl | hl | hl
  · rw [h4 i (by omega) hl]
    have : ¬ b = i := by omega
    simp [this]
  · subst hl
    have : ¬ ∃ j, j < i ∧ x.getLsbD j = true := by
      rintro ⟨j, k1, k2⟩; rw [h4 j (by omega) k1] at k2; cases k2
    simp [h3, this, hi]
  · have h5 : ∃ j, j < i ∧ x.getLsbD j = true := ⟨b, hl, h3⟩
    have h6 : ¬ b = i := by omega
    simp [h5, h6, hi]
theorem blK_pow : ∀ b k, b < k → blK k (2 ^ b) = b + 1
  | 0, 0, h => by omega
  | 0, k + 1, h => by rw [blK]; simp [blK_zero]
  | b + 1, 0, h => by omega
  | b + 1, k + 1, h => by
    have h0 : 0 < 2 ^ (b + 1) := Nat.pow_pos (by omega)
    rw [blK, if_neg (by omega), show 2 ^ (b + 1) / 2 = 2 ^ b by rw [Nat.pow_succ]; omega, blK_pow b k (by omega)]
    omega
end Go.Av
