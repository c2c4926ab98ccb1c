/- Plain words. -/
import GoSem.Claim
namespace Go.Av
set_option linter.unusedVariables false
theorem wrap_u64 (x : Int) : IntKind.u64.wrap x = x % 18446744073709551616 := by
  simp [IntKind.wrap, IntKind.bits, IntKind.signed]
theorem wrap_u32 (x : Int) : IntKind.u32.wrap x = x % 4294967296 := by
  simp [IntKind.wrap, IntKind.bits, IntKind.signed]
theorem wrap_u8 (x : Int) : IntKind.u8.wrap x = x % 256 := by
  simp [IntKind.wrap, IntKind.bits, IntKind.signed]
theorem wrap_i64 (x : Int) : IntKind.i64.wrap x = (x + 9223372036854775808) % 18446744073709551616 - 9223372036854775808 := by
  simp [IntKind.wrap, IntKind.bits, IntKind.signed]; omega
theorem ofInt_nat (x : Int) : (BitVec.ofInt 64 x).toNat = (x % 18446744073709551616).toNat := by
  simp [BitVec.toNat_ofInt]
theorem ofInt_zero : BitVec.ofInt 64 0 = 0#64 := rfl
theorem ofInt_ones : BitVec.ofInt 64 18446744073709551615 = BitVec.allOnes 64 := by decide
theorem ofInt_m1 : BitVec.ofInt 64 (-1) = BitVec.allOnes 64 := by decide
def zigF (n : Int) : Int := if 0 ≤ n then 2 * n else -2 * n - 1
def zagF (u : Int) : Int := if u % 2 = 1 then -(u / 2) - 1 else u / 2
theorem zig_eq (n : Int) (h0 : -9223372036854775808 ≤ n) (h1 : n ≤ 9223372036854775807) :
    IntKind.u64.wrap ((BitVec.ofInt 64 (IntKind.u64.wrap (IntKind.i64.wrap (n * 2))) ^^^ BitVec.ofInt 64 (IntKind.u64.wrap (n / 9223372036854775808))).toNat : Int) = zigF n := by
  unfold zigF
  by_cases h : 0 ≤ n
  · have e : n / 9223372036854775808 = 0 := by omega
    rw [e, show IntKind.u64.wrap 0 = 0 from rfl, ofInt_zero, BitVec.xor_zero, ofInt_nat, if_pos h, wrap_u64, wrap_u64, wrap_i64]
    omega
  · have e : n / 9223372036854775808 = -1 := by omega
    rw [e, show IntKind.u64.wrap (-1) = 18446744073709551615 from rfl, ofInt_ones, BitVec.xor_allOnes, BitVec.toNat_not, ofInt_nat, if_neg h, wrap_u64, wrap_u64, wrap_i64]
    omega
theorem refZig_neg (n : Int) (h0 : -9223372036854775808 ≤ n) (h : n < 0) :
    IntKind.u64.wrap (IntKind.u64.wrap (2 * IntKind.u64.wrap (IntKind.i64.wrap (0 - IntKind.i64.wrap (n + 1)))) + 1) = zigF n := by
  unfold zigF
  rw [if_neg (by omega)]
  simp only [wrap_u64, wrap_i64]
  omega
theorem refZig_pos (n : Int) (h1 : n ≤ 9223372036854775807) (h : ¬ n < 0) : IntKind.u64.wrap (2 * IntKind.u64.wrap n) = zigF n := by
  unfold zigF
  rw [if_pos (by omega)]
  simp only [wrap_u64]
  omega
theorem and_one (u : Int) (h0 : 0 ≤ u) (h1 : u < 18446744073709551616) : IntKind.u64.wrap ((BitVec.ofInt 64 u &&& BitVec.ofInt 64 1).toNat : Int) = u % 2 := by
  have : (BitVec.ofInt 64 u &&& BitVec.ofInt 64 1).toNat = (BitVec.ofInt 64 u).toNat % 2 := by
    rw [BitVec.toNat_and, show (BitVec.ofInt 64 1).toNat = 1 from rfl, Nat.and_one_is_mod]
  rw [this, ofInt_nat, wrap_u64]; omega
theorem zag_eq (u : Int) (h0 : 0 ≤ u) (h1 : u < 18446744073709551616) :
    IntKind.i64.wrap ((BitVec.ofInt 64 (IntKind.i64.wrap (u / 2)) ^^^ BitVec.ofInt 64 (IntKind.i64.wrap (0 - IntKind.i64.wrap (IntKind.u64.wrap ((BitVec.ofInt 64 u &&& BitVec.ofInt 64 1).toNat : Int))))).toNat : Int) = zagF u := by
  unfold zagF
  rw [and_one u h0 h1]
  have e0 : IntKind.i64.wrap (u / 2) = u / 2 := by rw [wrap_i64]; omega
  rw [e0]
  by_cases h : u % 2 = 1
  · rw [if_pos h, h, show IntKind.i64.wrap (0 - IntKind.i64.wrap 1) = -1 from rfl, ofInt_m1, BitVec.xor_allOnes, BitVec.toNat_not, ofInt_nat, wrap_i64]
    omega
  · have : u % 2 = 0 := by omega
    rw [if_neg h, this, show IntKind.i64.wrap (0 - IntKind.i64.wrap 0) = 0 from rfl, ofInt_zero, BitVec.xor_zero, ofInt_nat, wrap_i64]
    omega
theorem refZag_odd (u : Int) (h0 : 0 ≤ u) (h1 : u < 18446744073709551616) (h : u.tmod 2 = 1) :
    IntKind.i64.wrap (IntKind.i64.wrap (0 - IntKind.i64.wrap (IntKind.u64.wrap (u.tdiv 2))) - 1) = zagF u := by
  unfold zagF
  rw [Int.tmod_eq_emod_of_nonneg h0] at h
  rw [Int.tdiv_eq_ediv_of_nonneg h0, if_pos h]
  simp only [wrap_u64, wrap_i64]; omega
theorem refZag_even (u : Int) (h0 : 0 ≤ u) (h1 : u < 18446744073709551616) (h : ¬ u.tmod 2 = 1) : IntKind.i64.wrap (IntKind.u64.wrap (u.tdiv 2)) = zagF u := by
  unfold zagF
  rw [Int.tmod_eq_emod_of_nonneg h0] at h
  rw [Int.tdiv_eq_ediv_of_nonneg h0, if_neg h]
  simp only [wrap_u64, wrap_i64]; omega
theorem zag_zig (n : Int) : zagF (zigF n) = n := by unfold zagF zigF; split <;> split <;> omega
theorem zig_zag (u : Int) (h0 : 0 ≤ u) : zigF (zagF u) = u := by unfold zagF zigF; split <;> split <;> omega
theorem zigF_range (n : Int) (h0 : -9223372036854775808 ≤ n) (h1 : n ≤ 9223372036854775807) : 0 ≤ zigF n ∧ zigF n < 18446744073709551616 := by unfold zigF; split <;> omega
theorem zagF_range (u : Int) (h0 : 0 ≤ u) (h1 : u < 18446744073709551616) : -9223372036854775808 ≤ zagF u ∧ zagF u ≤ 9223372036854775807 := by unfold zagF; split <;> omega
theorem pow_lt {i : Nat} (h : i < 63) : (0:Int) < 2 ^ i ∧ (2:Int) ^ i < 9223372036854775808 := by
  have h1 : (2:Nat) ^ i < 2 ^ 63 := Nat.pow_lt_pow_right (by omega) h
  have h2 : ((2 ^ i : Nat) : Int) < ((2 ^ 63 : Nat) : Int) := Int.ofNat_lt.2 h1
  have h3 : 0 < (2:Nat) ^ i := Nat.pow_pos (by omega)
  have h4 : (0 : Int) < ((2 ^ i : Nat) : Int) := Int.ofNat_lt.2 h3
  simp only [Int.natCast_pow] at h2 h4
  exact ⟨h4, h2⟩
/-- a number's lowest m bits, the highest of which is its sign -/
def cutF (n : Int) (m : Nat) : Int := (n + 2 ^ (m - 1)) % 2 ^ m - 2 ^ (m - 1)
theorem cutF_64 (n m : Int) (h0 : -9223372036854775808 ≤ n) (h1 : n ≤ 9223372036854775807) (hm : m = 64) : n = cutF n m.toNat := by
  subst hm
  show n = (n + 9223372036854775808) % 18446744073709551616 - 9223372036854775808
  omega
theorem cut_parts (n m : Int) (h0 : 1 ≤ m) (h1 : m < 64) : ∃ p : Int, (2:Int) ^ (m - 1).toNat = p ∧ (2:Int) ^ m.toNat = 2 * p ∧ 0 < p ∧ p < 9223372036854775808 ∧ ∃ k : Int, 9223372036854775808 = p * k ∧ 0 < k := by
  refine ⟨2 ^ (m - 1).toNat, rfl, ?_, (pow_lt (by omega)).1, (pow_lt (by omega)).2, 2 ^ (64 - m.toNat), ?_, Int.pow_pos (by omega)⟩
  · rw [show m.toNat = (m - 1).toNat + 1 by omega, Int.pow_succ]; omega
  · rw [← Int.pow_add, show (m - 1).toNat + (64 - m.toNat) = 63 by omega]; rfl
theorem emod_emod_mul (n p k : Int) : n % (2 * (p * k)) % (2 * p) = n % (2 * p) := by
  rw [← Int.mul_assoc]; exact Int.emod_emod_of_dvd n ⟨k, rfl⟩
theorem cut_low (n m : Int) (h0 : 1 ≤ m) (h1 : m < 64) : (IntKind.u64.wrap n).tmod (2 ^ m.toNat) = n % 2 ^ m.toNat := by
  obtain ⟨p, e1, e2, e3, e4, k, e5, e6⟩ := cut_parts n m h0 h1
  rw [wrap_u64, e2, Int.tmod_eq_emod_of_nonneg (Int.emod_nonneg _ (by decide)), show (18446744073709551616 : Int) = 2 * (p * k) by omega]
  exact emod_emod_mul n p k
theorem cutF_eq (n m : Int) (h0 : 1 ≤ m) : cutF n m.toNat = (n + 2 ^ (m - 1).toNat) % 2 ^ m.toNat - 2 ^ (m - 1).toNat := by
  unfold cutF; rw [show m.toNat - 1 = (m - 1).toNat by omega]
theorem emod_shift_hi (n p : Int) (hp : 0 < p) (h : p ≤ n % (2 * p)) : (n + p) % (2 * p) = n % (2 * p) - p := by
  have h1 := Int.emod_lt_of_pos n (show (0:Int) < 2 * p by omega)
  have h2 := Int.mul_ediv_add_emod n (2 * p)
  rw [show n + p = (n % (2 * p) - p) + 2 * p * (n / (2 * p) + 1) by rw [Int.mul_add]; omega, Int.add_mul_emod_self_left, Int.emod_eq_of_lt (by omega) (by omega)]
theorem emod_shift_lo (n p : Int) (hp : 0 < p) (h : ¬ p ≤ n % (2 * p)) : (n + p) % (2 * p) = n % (2 * p) + p := by
  have h0 := Int.emod_nonneg n (show (2 * p) ≠ 0 by omega)
  have h2 := Int.mul_ediv_add_emod n (2 * p)
  rw [show n + p = (n % (2 * p) + p) + 2 * p * (n / (2 * p)) by omega, Int.add_mul_emod_self_left, Int.emod_eq_of_lt (by omega) (by omega)]
theorem cutF_hi (n m : Int) (hn : -9223372036854775808 ≤ n) (hn1 : n ≤ 9223372036854775807) (h0 : 1 ≤ m) (h1 : m < 64) (h : (2 ^ (m - 1).toNat : Int) ≤ (IntKind.u64.wrap n).tmod (2 ^ m.toNat)) :
    IntKind.i64.wrap (IntKind.i64.wrap (IntKind.i64.wrap ((IntKind.u64.wrap n).tmod (2 ^ m.toNat)) - IntKind.i64.wrap (2 ^ (m - 1).toNat)) - IntKind.i64.wrap (2 ^ (m - 1).toNat)) = cutF n m.toNat := by
  rw [cut_low n m h0 h1] at h ⊢
  rw [cutF_eq n m h0]
  obtain ⟨p, e1, e2, e3, e4, k, e5, e6⟩ := cut_parts n m h0 h1
  rw [e1, e2] at h ⊢
  rw [emod_shift_hi n p e3 h]
  have h3 := Int.emod_lt_of_pos n (show (0:Int) < 2 * p by omega)
  generalize n % (2 * p) = x at *
  simp only [wrap_i64]
  omega
theorem cutF_lo (n m : Int) (hn : -9223372036854775808 ≤ n) (hn1 : n ≤ 9223372036854775807) (h0 : 1 ≤ m) (h1 : m < 64) (h : ¬ (2 ^ (m - 1).toNat : Int) ≤ (IntKind.u64.wrap n).tmod (2 ^ m.toNat)) :
    IntKind.i64.wrap ((IntKind.u64.wrap n).tmod (2 ^ m.toNat)) = cutF n m.toNat := by
  rw [cut_low n m h0 h1] at h ⊢
  rw [cutF_eq n m h0]
  obtain ⟨p, e1, e2, e3, e4, k, e5, e6⟩ := cut_parts n m h0 h1
  rw [e1, e2] at h ⊢
  rw [emod_shift_lo n p e3 h]
  have h3 := Int.emod_nonneg n (show (2 * p) ≠ 0 by omega)
  generalize n % (2 * p) = x at *
  simp only [wrap_i64]
  omega
theorem emod_mul_right (a b : Int) {q : Int} (hq : 0 < q) : (a * q) % (b * q) = a % b * q := by
  rw [Int.mul_comm a, Int.mul_comm b, Int.mul_emod_mul_of_pos a b hq, Int.mul_comm]
theorem cutF_sh (n m : Int) (hn : -9223372036854775808 ≤ n) (hn1 : n ≤ 9223372036854775807) (h0 : 1 ≤ m) (h1 : m ≤ 64) :
    IntKind.i64.wrap (n * 2 ^ (64 - m).toNat) / 2 ^ (64 - m).toNat = cutF n m.toNat := by
  rw [cutF_eq n m h0, wrap_i64]
  have hq : (0:Int) < 2 ^ (64 - m).toNat := Int.pow_pos (by omega)
  have e1 : (9223372036854775808 : Int) = 2 ^ (m - 1).toNat * 2 ^ (64 - m).toNat := by
    rw [← Int.pow_add, show (m - 1).toNat + (64 - m).toNat = 63 by omega]; rfl
  have e2 : (18446744073709551616 : Int) = 2 ^ m.toNat * 2 ^ (64 - m).toNat := by
    rw [← Int.pow_add, show m.toNat + (64 - m).toNat = 64 by omega]; rfl
  generalize (2:Int) ^ (64 - m).toNat = q at *
  generalize (2:Int) ^ (m - 1).toNat = p at *
  generalize (2:Int) ^ m.toNat = r at *
  rw [e1, e2, ← Int.add_mul, emod_mul_right _ _ hq, ← Int.sub_mul, Int.mul_ediv_cancel _ (by omega)]
theorem wf_i64 {n : Int} (h : (Lit.int .i64 n).wf = true) : -9223372036854775808 ≤ n ∧ n ≤ 9223372036854775807 := by
  simpa [Lit.wf, IntKind.min, IntKind.max, IntKind.bits, IntKind.signed] using h
theorem wf_u64 {n : Int} (h : (Lit.int .u64 n).wf = true) : 0 ≤ n ∧ n < 18446744073709551616 := by
  have := h
  simp [Lit.wf, IntKind.min, IntKind.max, IntKind.bits, IntKind.signed] at this
  omega
theorem wf_u32 {n : Int} (h : (Lit.int .u32 n).wf = true) : 0 ≤ n ∧ n < 4294967296 := by
  have := h
  simp [Lit.wf, IntKind.min, IntKind.max, IntKind.bits, IntKind.signed] at this
  omega
end Go.Av

namespace Go.Av
set_option linter.unusedVariables false
/-- a word, read as a number -/
def NB (x : BitVec 64) : Int := (x.toNat : Int)
theorem NB_range (x : BitVec 64) : 0 ≤ NB x ∧ NB x < 18446744073709551616 := by unfold NB; have := x.isLt; omega
theorem NB_ofInt (x : BitVec 64) : BitVec.ofInt 64 (NB x) = x := by
  apply BitVec.eq_of_toNat_eq; rw [BitVec.toNat_ofInt]; unfold NB; have := x.isLt; omega
theorem ofInt_NB (u : Int) (h0 : 0 ≤ u) (h1 : u < 18446744073709551616) : NB (BitVec.ofInt 64 u) = u := by
  unfold NB; rw [BitVec.toNat_ofInt]; omega
theorem NB_wrap (x : BitVec 64) : IntKind.u64.wrap (x.toNat : Int) = NB x := by rw [wrap_u64]; unfold NB; have := x.isLt; omega
theorem NB_add (x y : BitVec 64) : IntKind.u64.wrap (NB x + NB y) = NB (x + y) := by
  rw [wrap_u64]; unfold NB; rw [BitVec.toNat_add]; omega
theorem NB_shr (x : BitVec 64) (k : Nat) (p : Int) (hp : p = ((2 ^ k : Nat) : Int)) : NB x / p = NB (x >>> k) := by
  unfold NB; rw [BitVec.toNat_ushiftRight, Nat.shiftRight_eq_div_pow, hp]; rfl
theorem NB_shl (x : BitVec 64) (k : Nat) (p : Int) (hp : p = ((2 ^ k : Nat) : Int)) : IntKind.u64.wrap (NB x * p) = NB (x <<< k) := by
  rw [wrap_u64]; unfold NB; rw [BitVec.toNat_shiftLeft, Nat.shiftLeft_eq, hp]; omega
def sw (k : Nat) (m : BitVec 64) (x : BitVec 64) : BitVec 64 := (x >>> k &&& m) ||| ((x &&& m) <<< k)
def sw0 (k : Nat) (x : BitVec 64) : BitVec 64 := (x >>> k) ||| (x <<< k)
def rev64 (x : BitVec 64) : BitVec 64 :=
  sw0 32 (sw 16 281470681808895#64 (sw 8 71777214294589695#64 (sw 4 1085102592571150095#64 (sw 2 3689348814741910323#64 (sw 1 6148914691236517205#64 x)))))
def flip (k i : Nat) : Nat := if i / k % 2 = 0 then i + k else i - k
theorem sw_bit (k : Nat) (hk0 : 0 < k) (m x : BitVec 64) (hm : ∀ i : Fin 64, m.getLsbD i = decide (i.val / k % 2 = 0) ∧ (i.val / k % 2 = 0 → i.val + k < 64) ∧ (¬ i.val / k % 2 = 0 → k ≤ i.val ∧ (i.val - k) / k % 2 = 0)) (i : Nat) (hi : i < 64) : (sw k m x).getLsbD i = x.getLsbD (flip k i) := by
  obtain ⟨h1, h2, h3⟩ := hm ⟨i, hi⟩
  simp only at h1 h2 h3
  unfold sw flip
  rw [BitVec.getLsbD_or, BitVec.getLsbD_and, BitVec.getLsbD_ushiftRight, BitVec.getLsbD_shiftLeft, BitVec.getLsbD_and, h1]
  by_cases hc : i / k % 2 = 0
  · rw [if_pos hc, decide_eq_true hc, Bool.and_true, Nat.add_comm k i]
    by_cases hk : i < k
    · simp [hk]
    · obtain ⟨h4, -, -⟩ := hm ⟨i - k, by omega⟩
      simp only at h4
      rw [h4]
      have : ¬ ((i - k) / k % 2 = 0) := by
        rw [show i = (i - k) + k by omega, Nat.add_div_right _ hk0] at hc
        omega
      simp [this]
  · obtain ⟨h4, h5⟩ := h3 hc
    obtain ⟨h6, -, -⟩ := hm ⟨i - k, by omega⟩
    simp only at h6
    rw [if_neg hc, decide_eq_false hc, h6, decide_eq_true h5]
    simp [hi]; omega
theorem sw0_bit (x : BitVec 64) (i : Nat) (hi : i < 64) : (sw0 32 x).getLsbD i = x.getLsbD (flip 32 i) := by
  unfold sw0 flip
  rw [BitVec.getLsbD_or, BitVec.getLsbD_ushiftRight, BitVec.getLsbD_shiftLeft]
  by_cases hc : i < 32
  · rw [if_pos (by omega), Nat.add_comm 32 i]; simp [hc]
  · rw [if_neg (by omega), BitVec.getLsbD_of_ge x (32 + i) (by omega)]; simp [hc, hi]
theorem rev64_bit (x : BitVec 64) (i : Nat) (hi : i < 64) : (rev64 x).getLsbD i = x.getLsbD (63 - i) := by
  have hall : ∀ i : Fin 64, flip 32 i.val < 64 ∧ flip 16 (flip 32 i.val) < 64 ∧ flip 8 (flip 16 (flip 32 i.val)) < 64 ∧ flip 4 (flip 8 (flip 16 (flip 32 i.val))) < 64 ∧ flip 2 (flip 4 (flip 8 (flip 16 (flip 32 i.val)))) < 64 ∧ flip 1 (flip 2 (flip 4 (flip 8 (flip 16 (flip 32 i.val))))) = 63 - i.val := by decide
  obtain ⟨h1, h2, h3, h4, h5, h6⟩ := hall ⟨i, hi⟩
  simp only at h1 h2 h3 h4 h5 h6
  unfold rev64
  rw [sw0_bit _ _ hi, sw_bit 16 (by decide) _ _ (by decide) _ h1, sw_bit 8 (by decide) _ _ (by decide) _ h2, sw_bit 4 (by decide) _ _ (by decide) _ h3, sw_bit 2 (by decide) _ _ (by decide) _ h4, sw_bit 1 (by decide) _ _ (by decide) _ h5, h6]
/-- the lowest w bits of a number in the other order -/
def turnF (u : Int) : Nat → Int
  | 0 => 0
  | w + 1 => 2 * turnF u w + u / 2 ^ w % 2
theorem turn_rev (x : BitVec 64) : ∀ w, w ≤ 64 → (rev64 x).toNat / 2 ^ (64 - w) = (turnF (NB x) w).toNat ∧ 0 ≤ turnF (NB x) w
  | 0, _ => by
    have := (rev64 x).isLt
    exact ⟨by show _ / 2 ^ 64 = 0; omega, Int.le_refl _⟩
  | w + 1, h => by
    obtain ⟨ih, ih0⟩ := turn_rev x w (by omega)
    have hb := rev64_bit x (63 - w) (by omega)
    rw [show 63 - (63 - w) = w by omega, BitVec.getLsbD, BitVec.getLsbD, Nat.testBit_eq_decide_div_mod_eq, Nat.testBit_eq_decide_div_mod_eq, decide_eq_decide] at hb
    have e : (rev64 x).toNat / 2 ^ (64 - w) = (rev64 x).toNat / 2 ^ (63 - w) / 2 := by
      rw [Nat.div_div_eq_div_mul, ← Nat.pow_succ, show (63 - w).succ = 64 - w by omega]
    have e2 : NB x / 2 ^ w % 2 = ((x.toNat / 2 ^ w % 2 : Nat) : Int) := by
      unfold NB
      rw [Int.natCast_emod, Int.natCast_ediv, Int.natCast_pow]; rfl
    unfold turnF
    rw [show 64 - (w + 1) = 63 - w by omega, e2]
    rw [e] at ih
    generalize (rev64 x).toNat / 2 ^ (63 - w) = a at *
    generalize x.toNat / 2 ^ w = b at *
    generalize turnF (NB x) w = t at *
    omega
theorem turnF_lt (u : Int) (h0 : 0 ≤ u) : ∀ w, 0 ≤ turnF u w ∧ turnF u w < 2 ^ w
  | 0 => ⟨Int.le_refl _, by show (0 : Int) < 1; decide⟩
  | w + 1 => by
    have := turnF_lt u h0 w
    unfold turnF
    rw [Int.pow_succ]
    generalize (2:Int) ^ w = p at *
    have := Int.emod_nonneg (u / p) (show (2:Int) ≠ 0 by decide)
    have := Int.emod_lt_of_pos (u / p) (show (0:Int) < 2 by decide)
    omega
/-- how many of a number's lowest k bits are 1 -/
def pcK : Nat → Nat → Nat
  | 0, _ => 0
  | k + 1, n => n % 2 + pcK k (n / 2)
/-- the least number of bits that a number has, counted up to k -/
def blK : Nat → Nat → Nat
  | 0, _ => 0
  | k + 1, n => if n = 0 then 0 else 1 + blK k (n / 2)
theorem pcK_zero : ∀ k, pcK k 0 = 0
  | 0 => rfl
  | k + 1 => by simp [pcK, pcK_zero k]
theorem blK_zero : ∀ k, blK k 0 = 0
  | 0 => rfl
  | k + 1 => rfl
theorem pcK_le : ∀ k n, pcK k n ≤ k
  | 0, _ => Nat.le_refl _
  | k + 1, n => by have := pcK_le k (n / 2); unfold pcK; omega
theorem blK_le : ∀ k n, blK k n ≤ k
  | 0, _ => Nat.le_refl _
  | k + 1, n => by have := blK_le k (n / 2); unfold blK; split <;> omega
theorem blK_big : ∀ j k n, 2 ^ j ≤ n → blK (j + k) n = j + blK k (n / 2 ^ j)
  | 0, k, n, _ => by simp
  | j + 1, k, n, h => by
    rw [show j + 1 + k = (j + k) + 1 by omega, blK]
    have h2 : 2 ^ j ≤ n / 2 := by rw [Nat.pow_succ] at h; omega
    have : 0 < 2 ^ j := Nat.pow_pos (by decide)
    rw [if_neg (by omega), blK_big j k (n / 2) h2, Nat.div_div_eq_div_mul, ← Nat.pow_succ', Nat.succ_eq_add_one]
    omega
theorem blK_more : ∀ k m n, n < 2 ^ k → blK (k + m) n = blK k n
  | 0, m, n, h => by
    have : n = 0 := by simp at h; exact h
    subst this; rw [blK_zero]; rfl
  | k + 1, m, n, h => by
    rw [show k + 1 + m = (k + m) + 1 by omega, blK, blK]
    rw [blK_more k m (n / 2) (by rw [Nat.pow_succ] at h; omega)]
theorem pcK_more : ∀ k m n, n < 2 ^ k → pcK (k + m) n = pcK k n
  | 0, m, n, h => by
    have : n = 0 := by simp at h; exact h
    subst this; rw [pcK_zero]; rfl
  | k + 1, m, n, h => by
    rw [show k + 1 + m = (k + m) + 1 by omega, pcK, pcK]
    rw [pcK_more k m (n / 2) (by rw [Nat.pow_succ] at h; omega)]
theorem pcK_add : ∀ k m n, pcK (k + m) n = pcK k n + pcK m (n / 2 ^ k)
  | 0, m, n => by simp [pcK]
  | k + 1, m, n => by
    rw [show k + 1 + m = (k + m) + 1 by omega, pcK, pcK, pcK_add k m, Nat.div_div_eq_div_mul, ← Nat.pow_succ', Nat.succ_eq_add_one]
    omega
theorem pcK_mod : ∀ k n, pcK k (n % 2 ^ k) = pcK k n
  | 0, _ => rfl
  | k + 1, n => by
    rw [pcK, pcK]
    have e : n % 2 ^ (k + 1) / 2 = n / 2 % 2 ^ k := by
      rw [Nat.pow_succ, Nat.mul_comm, Nat.mod_mul_right_div_self]
    have e2 : n % 2 ^ (k + 1) % 2 = n % 2 := by
      rw [Nat.pow_succ]; exact Nat.mod_mul_left_mod _ _ _
    rw [e, e2, pcK_mod k]
/-- the turned bits have as many ones -/
theorem turn_pc (u : Nat) : ∀ w m, w ≤ m → pcK m (turnF (u : Int) w).toNat = pcK w u
  | 0, m, _ => by show pcK m 0 = 0; exact pcK_zero m
  | w + 1, m, h => by
    obtain ⟨m', rfl⟩ : ∃ m', m = m' + 1 := ⟨m - 1, by omega⟩
    have h0 := (turnF_lt (u : Int) (by omega) w).1
    have e2 : ((u : Int) / 2 ^ w % 2) = ((u / 2 ^ w % 2 : Nat) : Int) := by
      rw [Int.natCast_emod, Int.natCast_ediv, Int.natCast_pow]; rfl
    have ih := turn_pc u w m' (by omega)
    rw [pcK, pcK_add w 1 u, pcK, pcK]
    unfold turnF
    rw [e2, ← ih]
    generalize turnF (u : Int) w = t at *
    generalize u / 2 ^ w = b at *
    rw [show (2 * t + ((b % 2 : Nat) : Int)).toNat / 2 = t.toNat by omega]
    omega
/-! the sum of bits by fields -/
theorem and_split (c d m M : Nat) (hc : c < 256) (hm : m < 256) : (c + 256 * d) &&& (m + 256 * M) = (c &&& m) + 256 * (d &&& M) := by
  apply Nat.eq_of_testBit_eq
  intro i
  have h : ∀ a b : Nat, a < 256 → (a + 256 * b).testBit i = if i < 8 then a.testBit i else b.testBit (i - 8) := by
    intro a b ha
    rw [Nat.add_comm, show 256 = 2 ^ 8 by rfl]
    exact Nat.testBit_two_pow_mul_add b ha i
  have : c &&& m < 256 := Nat.lt_of_le_of_lt Nat.and_le_left hc
  rw [Nat.testBit_and, h c d hc, h m M hm, h _ _ this, Nat.testBit_and, Nat.testBit_and]
  split <;> rfl
end Go.Av

namespace Go.Av
set_option linter.unusedVariables false
def HB : List Nat → Nat
  | [] => 0
  | a :: l => a + 256 * HB l
def digs : Nat → Nat → List Nat
  | 0, _ => []
  | k + 1, u => u % 256 :: digs k (u / 256)
def maskB (m : Nat) : Nat → Nat
  | 0 => 0
  | k + 1 => m + 256 * maskB m k
theorem digs_len : ∀ k u, (digs k u).length = k
  | 0, _ => rfl
  | k + 1, u => by simp [digs, digs_len k]
theorem digs_lt : ∀ k u, ∀ a ∈ digs k u, a < 256
  | 0, _, _, h => by simp [digs] at h
  | k + 1, u, a, h => by
    simp only [digs, List.mem_cons] at h
    rcases h with rfl | h
    · omega
    · exact digs_lt k _ a h
theorem HB_digs : ∀ k u, u < 256 ^ k → HB (digs k u) = u
  | 0, u, h => by simp at h; subst h; rfl
  | k + 1, u, h => by
    rw [digs, HB, HB_digs k (u / 256) (by rw [Nat.pow_succ] at h; omega)]; omega
theorem pc_digs : ∀ k u, pcK (8 * k) u = ((digs k u).map (pcK 8)).sum
  | 0, u => rfl
  | k + 1, u => by
    rw [show 8 * (k + 1) = 8 + 8 * k by omega, pcK_add, show 2 ^ 8 = 256 from rfl, pc_digs k (u / 256), digs, List.map_cons, List.sum_cons]
    have := pcK_mod 8 u
    rw [show 2 ^ 8 = 256 from rfl] at this
    rw [this]
def q1 (a : Nat) : Nat := (a / 2 &&& 85) + (a &&& 85)
def q2 (a : Nat) : Nat := (a / 4 &&& 51) + (a &&& 51)
theorem stage1 : ∀ l : List Nat, (∀ a ∈ l, a < 256) → (HB l / 2 &&& maskB 85 l.length) + (HB l &&& maskB 85 l.length) = HB (l.map q1)
  | [], _ => rfl
  | a :: l, h => by
    have ha := h a (by simp)
    have ih := stage1 l fun x hx => h x (by simp [hx])
    have hd : ∀ a : Fin 256, ∀ c : Fin 2, (a.val / 2 + 128 * c.val) &&& 85 = a.val / 2 &&& 85 := by decide +kernel
    have hd := hd ⟨a, ha⟩ ⟨HB l % 2, by omega⟩
    simp only at hd
    simp only [HB, List.length_cons, maskB, List.map_cons]
    rw [show (a + 256 * HB l) / 2 = (a / 2 + 128 * (HB l % 2)) + 256 * (HB l / 2) by omega, and_split _ _ _ _ (by omega) (by decide), and_split _ _ _ _ ha (by decide), hd, ← ih]
    unfold q1
    omega
theorem stage2 : ∀ l : List Nat, (∀ a ∈ l, a < 256) → (HB l / 4 &&& maskB 51 l.length) + (HB l &&& maskB 51 l.length) = HB (l.map q2)
  | [], _ => rfl
  | a :: l, h => by
    have ha := h a (by simp)
    have ih := stage2 l fun x hx => h x (by simp [hx])
    have hd : ∀ a : Fin 256, ∀ c : Fin 4, (a.val / 4 + 64 * c.val) &&& 51 = a.val / 4 &&& 51 := by decide +kernel
    have hd := hd ⟨a, ha⟩ ⟨HB l % 4, by omega⟩
    simp only at hd
    simp only [HB, List.length_cons, maskB, List.map_cons]
    rw [show (a + 256 * HB l) / 4 = (a / 4 + 64 * (HB l % 4)) + 256 * (HB l / 4) by omega, and_split _ _ _ _ (by omega) (by decide), and_split _ _ _ _ ha (by decide), hd, ← ih]
    unfold q2
    omega
theorem HB_mod16 : ∀ l : List Nat, (∀ a ∈ l, a % 16 ≤ 4) → HB l % 16 ≤ 4
  | [], _ => by decide
  | a :: l, h => by have := h a (by simp); rw [HB]; omega
theorem stage3 : ∀ l : List Nat, (∀ a ∈ l, a % 16 ≤ 4 ∧ a / 16 ≤ 4) → (HB l / 16 + HB l) &&& maskB 15 l.length = HB (l.map fun a => a / 16 + a % 16)
  | [], _ => rfl
  | a :: l, h => by
    have ha := h a (by simp)
    have ih := stage3 l fun x hx => h x (by simp [hx])
    have hm := HB_mod16 l fun x hx => (h x (by simp [hx])).1
    simp only [HB, List.length_cons, maskB, List.map_cons]
    rw [show (a + 256 * HB l) / 16 + (a + 256 * HB l) = (a / 16 + a + 16 * (HB l % 16)) + 256 * (HB l / 16 + HB l) by omega, and_split _ _ _ _ (by omega) (by decide), ih, show (15 : Nat) = 2 ^ 4 - 1 from rfl, Nat.and_two_pow_sub_one_eq_mod]
    omega
theorem q12 : ∀ a : Fin 256, q1 a.val < 256 ∧ q2 (q1 a.val) % 16 ≤ 4 ∧ q2 (q1 a.val) / 16 ≤ 4 ∧ q2 (q1 a.val) / 16 + q2 (q1 a.val) % 16 = pcK 8 a.val := by decide +kernel
def fold8 (x : Nat) : Nat := let x := x + x / 256; let x := x + x / 65536; (x + x / 4294967296) % 128
def ones64 (u : Nat) : Nat :=
  let x := (u / 2 &&& 6148914691236517205) + (u &&& 6148914691236517205)
  let x := (x / 4 &&& 3689348814741910323) + (x &&& 3689348814741910323)
  fold8 ((x / 16 + x) &&& 1085102592571150095)
theorem HB_add : ∀ l m : List Nat, l.length = m.length → HB l + HB m = HB (List.zipWith (· + ·) l m)
  | [], [], _ => rfl
  | a :: l, b :: m, h => by
    simp only [List.zipWith_cons_cons, HB]
    rw [← HB_add l m (by simpa using h)]
    omega
theorem HB_div (a : Nat) (l : List Nat) (h : a < 256) : HB (a :: l) / 256 = HB l := by rw [HB]; omega
theorem HB_div2 (a b : Nat) (l : List Nat) (h : a < 256) (h2 : b < 256) : HB (a :: b :: l) / 65536 = HB l := by
  rw [show 65536 = 256 * 256 from rfl, ← Nat.div_div_eq_div_mul, HB_div _ _ h, HB_div _ _ h2]
theorem HB_div4 (a b c d : Nat) (l : List Nat) (h : a < 256) (h2 : b < 256) (h3 : c < 256) (h4 : d < 256) : HB (a :: b :: c :: d :: l) / 4294967296 = HB l := by
  rw [show 4294967296 = 65536 * 65536 from rfl, ← Nat.div_div_eq_div_mul, HB_div2 _ _ _ h h2, HB_div2 _ _ _ h3 h4]
theorem HB_mod (a : Nat) (l : List Nat) (h : a < 128) : HB (a :: l) % 128 = a := by rw [HB]; omega
theorem HB_pad (l : List Nat) : HB (l ++ [0]) = HB l := by
  induction l with
  | nil => rfl
  | cons a l ih => simp only [List.cons_append, HB, ih]
theorem fold_sum : ∀ l : List Nat, l.length = 8 → (∀ a ∈ l, a ≤ 8) → fold8 (HB l) = l.sum
  | [a, b, c, d, e, f, g, h], _, hl => by
    have h1 := hl a (by simp)
    have h2 := hl b (by simp)
    have h3 := hl c (by simp)
    have h4 := hl d (by simp)
    have h5 := hl e (by simp)
    have h6 := hl f (by simp)
    have h7 := hl g (by simp)
    have h8 := hl h (by simp)
    clear hl
    have s1 : HB [a, b, c, d, e, f, g, h] + HB [a, b, c, d, e, f, g, h] / 256 = HB [a + b, b + c, c + d, d + e, e + f, f + g, g + h, h + 0] := by
      rw [HB_div _ _ (by omega), ← HB_pad [b, c, d, e, f, g, h]]
      exact HB_add [a, b, c, d, e, f, g, h] [b, c, d, e, f, g, h, 0] rfl
    have s2 : HB [a + b, b + c, c + d, d + e, e + f, f + g, g + h, h + 0] + HB [a + b, b + c, c + d, d + e, e + f, f + g, g + h, h + 0] / 65536 = HB [a + b + (c + d), b + c + (d + e), c + d + (e + f), d + e + (f + g), e + f + (g + h), f + g + (h + 0), g + h + 0, h + 0 + 0] := by
      rw [HB_div2 _ _ _ (by omega) (by omega), ← HB_pad [c + d, d + e, e + f, f + g, g + h, h + 0], ← HB_pad ([c + d, d + e, e + f, f + g, g + h, h + 0] ++ [0])]
      exact HB_add [a + b, b + c, c + d, d + e, e + f, f + g, g + h, h + 0] [c + d, d + e, e + f, f + g, g + h, h + 0, 0, 0] rfl
    have s3 : HB [a + b + (c + d), b + c + (d + e), c + d + (e + f), d + e + (f + g), e + f + (g + h), f + g + (h + 0), g + h + 0, h + 0 + 0] + HB [a + b + (c + d), b + c + (d + e), c + d + (e + f), d + e + (f + g), e + f + (g + h), f + g + (h + 0), g + h + 0, h + 0 + 0] / 4294967296 = HB [a + b + (c + d) + (e + f + (g + h)), b + c + (d + e) + (f + g + (h + 0)), c + d + (e + f) + (g + h + 0), d + e + (f + g) + (h + 0 + 0), e + f + (g + h) + 0, f + g + (h + 0) + 0, g + h + 0 + 0, h + 0 + 0 + 0] := by
      rw [HB_div4 _ _ _ _ _ (by omega) (by omega) (by omega) (by omega), ← HB_pad [e + f + (g + h), f + g + (h + 0), g + h + 0, h + 0 + 0], ← HB_pad ([e + f + (g + h), f + g + (h + 0), g + h + 0, h + 0 + 0] ++ [0]), ← HB_pad ([e + f + (g + h), f + g + (h + 0), g + h + 0, h + 0 + 0] ++ [0] ++ [0]), ← HB_pad ([e + f + (g + h), f + g + (h + 0), g + h + 0, h + 0 + 0] ++ [0] ++ [0] ++ [0])]
      exact HB_add [a + b + (c + d), b + c + (d + e), c + d + (e + f), d + e + (f + g), e + f + (g + h), f + g + (h + 0), g + h + 0, h + 0 + 0] [e + f + (g + h), f + g + (h + 0), g + h + 0, h + 0 + 0, 0, 0, 0, 0] rfl
    unfold fold8
    simp only
    rw [s1, s2, s3, HB_mod _ _ (by omega)]
    simp only [List.sum_cons, List.sum_nil]
    omega
theorem ones_pc (u : Nat) (hu : u < 18446744073709551616) : ones64 u = pcK 64 u := by
  have e0 := HB_digs 8 u hu
  have hl := digs_len 8 u
  have hd := digs_lt 8 u
  have h1 := stage1 (digs 8 u) hd
  have hd1 : ∀ a ∈ (digs 8 u).map q1, a < 256 := by
    intro a ha
    obtain ⟨b, hb, rfl⟩ := List.mem_map.1 ha
    exact (q12 ⟨b, hd b hb⟩).1
  have h2 := stage2 _ hd1
  have hd2 : ∀ a ∈ ((digs 8 u).map q1).map q2, a % 16 ≤ 4 ∧ a / 16 ≤ 4 := by
    intro a ha
    rw [List.map_map] at ha
    obtain ⟨b, hb, rfl⟩ := List.mem_map.1 ha
    have := q12 ⟨b, hd b hb⟩
    exact ⟨this.2.1, this.2.2.1⟩
  have h3 := stage3 _ hd2
  have h4 := fold_sum ((((digs 8 u).map q1).map q2).map fun a => a / 16 + a % 16) (by simp [hl]) (by
    intro a ha
    obtain ⟨b, hb, rfl⟩ := List.mem_map.1 ha
    have := hd2 b hb
    omega)
  simp only [List.length_map, hl] at h1 h2 h3
  rw [e0] at h1
  have m1 : maskB 85 8 = 6148914691236517205 := rfl
  have m2 : maskB 51 8 = 3689348814741910323 := rfl
  have m3 : maskB 15 8 = 1085102592571150095 := rfl
  rw [m1] at h1
  rw [m2] at h2
  rw [m3] at h3
  unfold ones64
  simp only
  rw [h1, h2, h3, h4, show 64 = 8 * 8 from rfl, pc_digs 8 u, List.map_map, List.map_map]
  congr 1
  apply List.map_congr_left
  intro a ha
  exact (q12 ⟨a, hd a ha⟩).2.2.2
end Go.Av

