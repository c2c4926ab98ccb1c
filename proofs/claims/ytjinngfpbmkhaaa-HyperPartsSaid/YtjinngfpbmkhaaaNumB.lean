import Derived.Test.YtjinngfpbmkhaaaNum
namespace Go.Av
set_option linter.unusedVariables false
/-- a word, read as a number -/
def NB (x : BitVec 64) : Int := (x.toNat : Int)
theorem NB_range (x : BitVec 64) : 0 ≤ NB x ∧ NB x < 18446744073709551616 := by unfold NB; have := x.isLt; omega
theorem NB_ofInt (x : BitVec 64) : BitVec.ofInt 64 (NB x) = x := by
  apply BitVec.eq_of_toNat_eq; rw [BitVec.toNat_ofInt]; unfold NB; have := x.isLt; omega
theorem ofInt_NB (u : Int) (h0 : 0 ≤ u) (h1 : u < 18446744073709551616) : NB (BitVec.ofInt 64 u) = u := by
  unfold NB; rw [BitVec.toNat_ofInt]; omega
theorem NB_wrap (x : BitVec 64) : IntKind.u64.wrap (x.toNat : Int) = NB x := by rw [wrap_u64]; unfold NB; have := x.isLt; omega
theorem NB_add (x y : BitVec 64) : IntKind.u64.wrap (NB x + NB y) = NB (x + y) := by
  rw [wrap_u64]; unfold NB; rw [BitVec.toNat_add]; omega
theorem NB_shr (x : BitVec 64) (k : Nat) (p : Int) (hp : p = ((2 ^ k : Nat) : Int)) : NB x / p = NB (x >>> k) := by
  unfold NB; rw [BitVec.toNat_ushiftRight, Nat.shiftRight_eq_div_pow, hp]; rfl
theorem NB_shl (x : BitVec 64) (k : Nat) (p : Int) (hp : p = ((2 ^ k : Nat) : Int)) : IntKind.u64.wrap (NB x * p) = NB (x <<< k) := by
  rw [wrap_u64]; unfold NB; rw [BitVec.toNat_shiftLeft, Nat.shiftLeft_eq, hp]; omega
def sw (k : Nat) (m : BitVec 64) (x : BitVec 64) : BitVec 64 := (x >>> k &&& m) ||| ((x &&& m) <<< k)
def sw0 (k : Nat) (x : BitVec 64) : BitVec 64 := (x >>> k) ||| (x <<< k)
def rev64 (x : BitVec 64) : BitVec 64 :=
  sw0 32 (sw 16 281470681808895#64 (sw 8 71777214294589695#64 (sw 4 1085102592571150095#64 (sw 2 3689348814741910323#64 (sw 1 6148914691236517205#64 x)))))
def flip (k i : Nat) : Nat := if i / k % 2 = 0 then i + k else i - k
theorem sw_bit (k : Nat) (hk0 : 0 < k) (m x : BitVec 64) (hm : ∀ i : Fin 64, m.getLsbD i = decide (i.val / k % 2 = 0) ∧ (i.val / k % 2 = 0 → i.val + k < 64) ∧ (¬ i.val / k % 2 = 0 → k ≤ i.val ∧ (i.val - k) / k % 2 = 0)) (i : Nat) (hi : i < 64) : (sw k m x).getLsbD i = x.getLsbD (flip k i) := by
  obtain ⟨h1, h2, h3⟩ := hm ⟨i, hi⟩
  simp only at h1 h2 h3
  unfold sw flip
  rw [BitVec.getLsbD_or, BitVec.getLsbD_and, BitVec.getLsbD_ushiftRight, BitVec.getLsbD_shiftLeft, BitVec.getLsbD_and, h1]
  by_cases hc : i / k % 2 = 0
  · rw [if_pos hc, decide_eq_true hc, Bool.and_true, Nat.add_comm k i]
    by_cases hk : i < k
    · simp [hk]
    · obtain ⟨h4, -, -⟩ := hm ⟨i - k, by omega⟩
      simp only at h4
      rw [h4]
      have : ¬ ((i - k) / k % 2 = 0) := by
        rw [show i = (i - k) + k by omega, Nat.add_div_right _ hk0] at hc
        omega
      simp [this]
  · obtain ⟨h4, h5⟩ := h3 hc
    obtain ⟨h6, -, -⟩ := hm ⟨i - k, by omega⟩
    simp only at h6
    rw [if_neg hc, decide_eq_false hc, h6, decide_eq_true h5]
    simp [hi]; omega
theorem sw0_bit (x : BitVec 64) (i : Nat) (hi : i < 64) : (sw0 32 x).getLsbD i = x.getLsbD (flip 32 i) := by
  unfold sw0 flip
  rw [BitVec.getLsbD_or, BitVec.getLsbD_ushiftRight, BitVec.getLsbD_shiftLeft]
  by_cases hc : i < 32
  · rw [if_pos (by omega), Nat.add_comm 32 i]; simp [hc]
  · rw [if_neg (by omega), BitVec.getLsbD_of_ge x (32 + i) (by omega)]; simp [hc, hi]
theorem rev64_bit (x : BitVec 64) (i : Nat) (hi : i < 64) : (rev64 x).getLsbD i = x.getLsbD (63 - i) := by
  have hall : ∀ i : Fin 64, flip 32 i.val < 64 ∧ flip 16 (flip 32 i.val) < 64 ∧ flip 8 (flip 16 (flip 32 i.val)) < 64 ∧ flip 4 (flip 8 (flip 16 (flip 32 i.val))) < 64 ∧ flip 2 (flip 4 (flip 8 (flip 16 (flip 32 i.val)))) < 64 ∧ flip 1 (flip 2 (flip 4 (flip 8 (flip 16 (flip 32 i.val))))) = 63 - i.val := by decide
  obtain ⟨h1, h2, h3, h4, h5, h6⟩ := hall ⟨i, hi⟩
  simp only at h1 h2 h3 h4 h5 h6
  unfold rev64
  rw [sw0_bit _ _ hi, sw_bit 16 (by decide) _ _ (by decide) _ h1, sw_bit 8 (by decide) _ _ (by decide) _ h2, sw_bit 4 (by decide) _ _ (by decide) _ h3, sw_bit 2 (by decide) _ _ (by decide) _ h4, sw_bit 1 (by decide) _ _ (by decide) _ h5, h6]
/-- the lowest w bits of a number in the other order -/
def turnF (u : Int) : Nat → Int
  | 0 => 0
  | w + 1 => 2 * turnF u w + u / 2 ^ w % 2
theorem turn_rev (x : BitVec 64) : ∀ w, w ≤ 64 → (rev64 x).toNat / 2 ^ (64 - w) = (turnF (NB x) w).toNat ∧ 0 ≤ turnF (NB x) w
  | 0, _ => by
    have := (rev64 x).isLt
    exact ⟨by show _ / 2 ^ 64 = 0; omega, Int.le_refl _⟩
  | w + 1, h => by
    obtain ⟨ih, ih0⟩ := turn_rev x w (by omega)
    have hb := rev64_bit x (63 - w) (by omega)
    rw [show 63 - (63 - w) = w by omega, BitVec.getLsbD, BitVec.getLsbD, Nat.testBit_eq_decide_div_mod_eq, Nat.testBit_eq_decide_div_mod_eq, decide_eq_decide] at hb
    have e : (rev64 x).toNat / 2 ^ (64 - w) = (rev64 x).toNat / 2 ^ (63 - w) / 2 := by
      rw [Nat.div_div_eq_div_mul, ← Nat.pow_succ, show (63 - w).succ = 64 - w by omega]
    have e2 : NB x / 2 ^ w % 2 = ((x.toNat / 2 ^ w % 2 : Nat) : Int) := by
      unfold NB
      rw [Int.natCast_emod, Int.natCast_ediv, Int.natCast_pow]; rfl
    unfold turnF
    rw [show 64 - (w + 1) = 63 - w by omega, e2]
    rw [e] at ih
    generalize (rev64 x).toNat / 2 ^ (63 - w) = a at *
    generalize x.toNat / 2 ^ w = b at *
    generalize turnF (NB x) w = t at *
    omega
theorem turnF_lt (u : Int) (h0 : 0 ≤ u) : ∀ w, 0 ≤ turnF u w ∧ turnF u w < 2 ^ w
  | 0 => ⟨Int.le_refl _, by show (0 : Int) < 1; decide⟩
  | w + 1 => by
    have := turnF_lt u h0 w
    unfold turnF
    rw [Int.pow_succ]
    generalize (2:Int) ^ w = p at *
    have := Int.emod_nonneg (u / p) (show (2:Int) ≠ 0 by decide)
    have := Int.emod_lt_of_pos (u / p) (show (0:Int) < 2 by decide)
    omega
/-- how many of a number's lowest k bits are 1 -/
def pcK : Nat → Nat → Nat
  | 0, _ => 0
  | k + 1, n => n % 2 + pcK k (n / 2)
/-- the least number of bits that a number has, counted up to k -/
def blK : Nat → Nat → Nat
  | 0, _ => 0
  | k + 1, n => if n = 0 then 0 else 1 + blK k (n / 2)
theorem pcK_zero : ∀ k, pcK k 0 = 0
  | 0 => rfl
  | k + 1 => by simp [pcK, pcK_zero k]
theorem blK_zero : ∀ k, blK k 0 = 0
  | 0 => rfl
  | k + 1 => rfl
theorem pcK_le : ∀ k n, pcK k n ≤ k
  | 0, _ => Nat.le_refl _
  | k + 1, n => by have := pcK_le k (n / 2); unfold pcK; omega
theorem blK_le : ∀ k n, blK k n ≤ k
  | 0, _ => Nat.le_refl _
  | k + 1, n => by have := blK_le k (n / 2); unfold blK; split <;> omega
theorem blK_big : ∀ j k n, 2 ^ j ≤ n → blK (j + k) n = j + blK k (n / 2 ^ j)
  | 0, k, n, _ => by simp
  | j + 1, k, n, h => by
    rw [show j + 1 + k = (j + k) + 1 by omega, blK]
    have h2 : 2 ^ j ≤ n / 2 := by rw [Nat.pow_succ] at h; omega
    have : 0 < 2 ^ j := Nat.pow_pos (by decide)
    rw [if_neg (by omega), blK_big j k (n / 2) h2, Nat.div_div_eq_div_mul, ← Nat.pow_succ', Nat.succ_eq_add_one]
    omega
theorem blK_more : ∀ k m n, n < 2 ^ k → blK (k + m) n = blK k n
  | 0, m, n, h => by
    have : n = 0 := by simp at h; exact h
    subst this; rw [blK_zero]; rfl
  | k + 1, m, n, h => by
    rw [show k + 1 + m = (k + m) + 1 by omega, blK, blK]
    rw [blK_more k m (n / 2) (by rw [Nat.pow_succ] at h; omega)]
theorem pcK_more : ∀ k m n, n < 2 ^ k → pcK (k + m) n = pcK k n
  | 0, m, n, h => by
    have : n = 0 := by simp at h; exact h
    subst this; rw [pcK_zero]; rfl
  | k + 1, m, n, h => by
    rw [show k + 1 + m = (k + m) + 1 by omega, pcK, pcK]
    rw [pcK_more k m (n / 2) (by rw [Nat.pow_succ] at h; omega)]
theorem pcK_add : ∀ k m n, pcK (k + m) n = pcK k n + pcK m (n / 2 ^ k)
  | 0, m, n => by simp [pcK]
  | k + 1, m, n => by
    rw [show k + 1 + m = (k + m) + 1 by omega, pcK, pcK, pcK_add k m, Nat.div_div_eq_div_mul, ← Nat.pow_succ', Nat.succ_eq_add_one]
    omega
theorem pcK_mod : ∀ k n, pcK k (n % 2 ^ k) = pcK k n
  | 0, _ => rfl
  | k + 1, n => by
    rw [pcK, pcK]
    have e : n % 2 ^ (k + 1) / 2 = n / 2 % 2 ^ k := by
      rw [Nat.pow_succ, Nat.mul_comm, Nat.mod_mul_right_div_self]
    have e2 : n % 2 ^ (k + 1) % 2 = n % 2 := by
      rw [Nat.pow_succ]; exact Nat.mod_mul_left_mod _ _ _
    rw [e, e2, pcK_mod k]
/-- the turned bits have as many ones -/
theorem turn_pc (u : Nat) : ∀ w m, w ≤ m → pcK m (turnF (u : Int) w).toNat = pcK w u
  | 0, m, _ => by show pcK m 0 = 0; exact pcK_zero m
  | w + 1, m, h => by
    obtain ⟨m', rfl⟩ : ∃ m', m = m' + 1 := ⟨m - 1, by omega⟩
    have h0 := (turnF_lt (u : Int) (by omega) w).1
    have e2 : ((u : Int) / 2 ^ w % 2) = ((u / 2 ^ w % 2 : Nat) : Int) := by
      rw [Int.natCast_emod, Int.natCast_ediv, Int.natCast_pow]; rfl
    have ih := turn_pc u w m' (by omega)
    rw [pcK, pcK_add w 1 u, pcK, pcK]
    unfold turnF
    rw [e2, ← ih]
    generalize turnF (u : Int) w = t at *
    generalize u / 2 ^ w = b at *
    rw [show (2 * t + ((b % 2 : Nat) : Int)).toNat / 2 = t.toNat by omega]
    omega
/-! the sum of bits by fields -/
theorem and_split (c d m M : Nat) (hc : c < 256) (hm : m < 256) : (c + 256 * d) &&& (m + 256 * M) = (c &&& m) + 256 * (d &&& M) := by
  apply Nat.eq_of_testBit_eq
  intro i
  have h : ∀ a b : Nat, a < 256 → (a + 256 * b).testBit i = if i < 8 then a.testBit i else b.testBit (i - 8) := by
    intro a b ha
    rw [Nat.add_comm, show 256 = 2 ^ 8 by rfl]
    exact Nat.testBit_two_pow_mul_add b ha i
  have : c &&& m < 256 := Nat.lt_of_le_of_lt Nat.and_le_left hc
  rw [Nat.testBit_and, h c d hc, h m M hm, h _ _ this, Nat.testBit_and, Nat.testBit_and]
  split <;> rfl
end Go.Av
