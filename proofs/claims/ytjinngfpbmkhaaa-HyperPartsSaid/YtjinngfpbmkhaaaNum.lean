import GoSem.Claim
namespace Go.Av
set_option linter.unusedVariables false
theorem wrap_u64 (x : Int) : IntKind.u64.wrap x = x % 18446744073709551616 := by
  simp [IntKind.wrap, IntKind.bits, IntKind.signed]
theorem wrap_u32 (x : Int) : IntKind.u32.wrap x = x % 4294967296 := by
  simp [IntKind.wrap, IntKind.bits, IntKind.signed]
theorem wrap_u8 (x : Int) : IntKind.u8.wrap x = x % 256 := by
  simp [IntKind.wrap, IntKind.bits, IntKind.signed]
theorem wrap_i64 (x : Int) : IntKind.i64.wrap x = (x + 9223372036854775808) % 18446744073709551616 - 9223372036854775808 := by
  simp [IntKind.wrap, IntKind.bits, IntKind.signed]; omega
theorem ofInt_nat (x : Int) : (BitVec.ofInt 64 x).toNat = (x % 18446744073709551616).toNat := by
  simp [BitVec.toNat_ofInt]
theorem ofInt_zero : BitVec.ofInt 64 0 = 0#64 := rfl
theorem ofInt_ones : BitVec.ofInt 64 18446744073709551615 = BitVec.allOnes 64 := by decide
theorem ofInt_m1 : BitVec.ofInt 64 (-1) = BitVec.allOnes 64 := by decide
def zigF (n : Int) : Int := if 0 ≤ n then 2 * n else -2 * n - 1
def zagF (u : Int) : Int := if u % 2 = 1 then -(u / 2) - 1 else u / 2
theorem zig_eq (n : Int) (h0 : -9223372036854775808 ≤ n) (h1 : n ≤ 9223372036854775807) :
    IntKind.u64.wrap ((BitVec.ofInt 64 (IntKind.u64.wrap (IntKind.i64.wrap (n * 2))) ^^^ BitVec.ofInt 64 (IntKind.u64.wrap (n / 9223372036854775808))).toNat : Int) = zigF n := by
  unfold zigF
  by_cases h : 0 ≤ n
  · have e : n / 9223372036854775808 = 0 := by omega
    rw [e, show IntKind.u64.wrap 0 = 0 from rfl, ofInt_zero, BitVec.xor_zero, ofInt_nat, if_pos h, wrap_u64, wrap_u64, wrap_i64]
    omega
  · have e : n / 9223372036854775808 = -1 := by omega
    rw [e, show IntKind.u64.wrap (-1) = 18446744073709551615 from rfl, ofInt_ones, BitVec.xor_allOnes, BitVec.toNat_not, ofInt_nat, if_neg h, wrap_u64, wrap_u64, wrap_i64]
    omega
theorem refZig_neg (n : Int) (h0 : -9223372036854775808 ≤ n) (h : n < 0) :
    IntKind.u64.wrap (IntKind.u64.wrap (2 * IntKind.u64.wrap (IntKind.i64.wrap (0 - IntKind.i64.wrap (n + 1)))) + 1) = zigF n := by
  unfold zigF
  rw [if_neg (by omega)]
  simp only [wrap_u64, wrap_i64]
  omega
theorem refZig_pos (n : Int) (h1 : n ≤ 9223372036854775807) (h : ¬ n < 0) : IntKind.u64.wrap (2 * IntKind.u64.wrap n) = zigF n := by
  unfold zigF
  rw [if_pos (by omega)]
  simp only [wrap_u64]
  omega
theorem and_one (u : Int) (h0 : 0 ≤ u) (h1 : u < 18446744073709551616) : IntKind.u64.wrap ((BitVec.ofInt 64 u &&& BitVec.ofInt 64 1).toNat : Int) = u % 2 := by
  have : (BitVec.ofInt 64 u &&& BitVec.ofInt 64 1).toNat = (BitVec.ofInt 64 u).toNat % 2 := by
    rw [BitVec.toNat_and, show (BitVec.ofInt 64 1).toNat = 1 from rfl, Nat.and_one_is_mod]
  rw [this, ofInt_nat, wrap_u64]; omega
theorem zag_eq (u : Int) (h0 : 0 ≤ u) (h1 : u < 18446744073709551616) :
    IntKind.i64.wrap ((BitVec.ofInt 64 (IntKind.i64.wrap (u / 2)) ^^^ BitVec.ofInt 64 (IntKind.i64.wrap (0 - IntKind.i64.wrap (IntKind.u64.wrap ((BitVec.ofInt 64 u &&& BitVec.ofInt 64 1).toNat : Int))))).toNat : Int) = zagF u := by
  unfold zagF
  rw [and_one u h0 h1]
  have e0 : IntKind.i64.wrap (u / 2) = u / 2 := by rw [wrap_i64]; omega
  rw [e0]
  by_cases h : u % 2 = 1
  · rw [if_pos h, h, show IntKind.i64.wrap (0 - IntKind.i64.wrap 1) = -1 from rfl, ofInt_m1, BitVec.xor_allOnes, BitVec.toNat_not, ofInt_nat, wrap_i64]
    omega
  · have : u % 2 = 0 := by omega
    rw [if_neg h, this, show IntKind.i64.wrap (0 - IntKind.i64.wrap 0) = 0 from rfl, ofInt_zero, BitVec.xor_zero, ofInt_nat, wrap_i64]
    omega
theorem refZag_odd (u : Int) (h0 : 0 ≤ u) (h1 : u < 18446744073709551616) (h : u.tmod 2 = 1) :
    IntKind.i64.wrap (IntKind.i64.wrap (0 - IntKind.i64.wrap (IntKind.u64.wrap (u.tdiv 2))) - 1) = zagF u := by
  unfold zagF
  rw [Int.tmod_eq_emod_of_nonneg h0] at h
  rw [Int.tdiv_eq_ediv_of_nonneg h0, if_pos h]
  simp only [wrap_u64, wrap_i64]; omega
theorem refZag_even (u : Int) (h0 : 0 ≤ u) (h1 : u < 18446744073709551616) (h : ¬ u.tmod 2 = 1) : IntKind.i64.wrap (IntKind.u64.wrap (u.tdiv 2)) = zagF u := by
  unfold zagF
  rw [Int.tmod_eq_emod_of_nonneg h0] at h
  rw [Int.tdiv_eq_ediv_of_nonneg h0, if_neg h]
  simp only [wrap_u64, wrap_i64]; omega
theorem zag_zig (n : Int) : zagF (zigF n) = n := by unfold zagF zigF; split <;> split <;> omega
theorem zig_zag (u : Int) (h0 : 0 ≤ u) : zigF (zagF u) = u := by unfold zagF zigF; split <;> split <;> omega
theorem zigF_range (n : Int) (h0 : -9223372036854775808 ≤ n) (h1 : n ≤ 9223372036854775807) : 0 ≤ zigF n ∧ zigF n < 18446744073709551616 := by unfold zigF; split <;> omega
theorem zagF_range (u : Int) (h0 : 0 ≤ u) (h1 : u < 18446744073709551616) : -9223372036854775808 ≤ zagF u ∧ zagF u ≤ 9223372036854775807 := by unfold zagF; split <;> omega
theorem pow_lt {i : Nat} (h : i < 63) : (0:Int) < 2 ^ i ∧ (2:Int) ^ i < 9223372036854775808 := by
  have h1 : (2:Nat) ^ i < 2 ^ 63 := Nat.pow_lt_pow_right (by omega) h
  have h2 : ((2 ^ i : Nat) : Int) < ((2 ^ 63 : Nat) : Int) := Int.ofNat_lt.2 h1
  have h3 : 0 < (2:Nat) ^ i := Nat.pow_pos (by omega)
  have h4 : (0 : Int) < ((2 ^ i : Nat) : Int) := Int.ofNat_lt.2 h3
  simp only [Int.natCast_pow] at h2 h4
  exact ⟨h4, h2⟩
/-- a number's lowest m bits, the highest of which is its sign -/
def cutF (n : Int) (m : Nat) : Int := (n + 2 ^ (m - 1)) % 2 ^ m - 2 ^ (m - 1)
theorem cutF_64 (n m : Int) (h0 : -9223372036854775808 ≤ n) (h1 : n ≤ 9223372036854775807) (hm : m = 64) : n = cutF n m.toNat := by
  subst hm
  show n = (n + 9223372036854775808) % 18446744073709551616 - 9223372036854775808
  omega
theorem cut_parts (n m : Int) (h0 : 1 ≤ m) (h1 : m < 64) : ∃ p : Int, (2:Int) ^ (m - 1).toNat = p ∧ (2:Int) ^ m.toNat = 2 * p ∧ 0 < p ∧ p < 9223372036854775808 ∧ ∃ k : Int, 9223372036854775808 = p * k ∧ 0 < k := by
  refine ⟨2 ^ (m - 1).toNat, rfl, ?_, (pow_lt (by omega)).1, (pow_lt (by omega)).2, 2 ^ (64 - m.toNat), ?_, Int.pow_pos (by omega)⟩
  · rw [show m.toNat = (m - 1).toNat + 1 by omega, Int.pow_succ]; omega
  · rw [← Int.pow_add, show (m - 1).toNat + (64 - m.toNat) = 63 by omega]; rfl
theorem emod_emod_mul (n p k : Int) : n % (2 * (p * k)) % (2 * p) = n % (2 * p) := by
  rw [← Int.mul_assoc]; exact Int.emod_emod_of_dvd n ⟨k, rfl⟩
theorem cut_low (n m : Int) (h0 : 1 ≤ m) (h1 : m < 64) : (IntKind.u64.wrap n).tmod (2 ^ m.toNat) = n % 2 ^ m.toNat := by
  obtain ⟨p, e1, e2, e3, e4, k, e5, e6⟩ := cut_parts n m h0 h1
  rw [wrap_u64, e2, Int.tmod_eq_emod_of_nonneg (Int.emod_nonneg _ (by decide)), show (18446744073709551616 : Int) = 2 * (p * k) by omega]
  exact emod_emod_mul n p k
theorem cutF_eq (n m : Int) (h0 : 1 ≤ m) : cutF n m.toNat = (n + 2 ^ (m - 1).toNat) % 2 ^ m.toNat - 2 ^ (m - 1).toNat := by
  unfold cutF; rw [show m.toNat - 1 = (m - 1).toNat by omega]
theorem emod_shift_hi (n p : Int) (hp : 0 < p) (h : p ≤ n % (2 * p)) : (n + p) % (2 * p) = n % (2 * p) - p := by
  have h1 := Int.emod_lt_of_pos n (show (0:Int) < 2 * p by omega)
  have h2 := Int.mul_ediv_add_emod n (2 * p)
  rw [show n + p = (n % (2 * p) - p) + 2 * p * (n / (2 * p) + 1) by rw [Int.mul_add]; omega, Int.add_mul_emod_self_left, Int.emod_eq_of_lt (by omega) (by omega)]
theorem emod_shift_lo (n p : Int) (hp : 0 < p) (h : ¬ p ≤ n % (2 * p)) : (n + p) % (2 * p) = n % (2 * p) + p := by
  have h0 := Int.emod_nonneg n (show (2 * p) ≠ 0 by omega)
  have h2 := Int.mul_ediv_add_emod n (2 * p)
  rw [show n + p = (n % (2 * p) + p) + 2 * p * (n / (2 * p)) by omega, Int.add_mul_emod_self_left, Int.emod_eq_of_lt (by omega) (by omega)]
theorem cutF_hi (n m : Int) (hn : -9223372036854775808 ≤ n) (hn1 : n ≤ 9223372036854775807) (h0 : 1 ≤ m) (h1 : m < 64) (h : (2 ^ (m - 1).toNat : Int) ≤ (IntKind.u64.wrap n).tmod (2 ^ m.toNat)) :
    IntKind.i64.wrap (IntKind.i64.wrap (IntKind.i64.wrap ((IntKind.u64.wrap n).tmod (2 ^ m.toNat)) - IntKind.i64.wrap (2 ^ (m - 1).toNat)) - IntKind.i64.wrap (2 ^ (m - 1).toNat)) = cutF n m.toNat := by
  rw [cut_low n m h0 h1] at h ⊢
  rw [cutF_eq n m h0]
  obtain ⟨p, e1, e2, e3, e4, k, e5, e6⟩ := cut_parts n m h0 h1
  rw [e1, e2] at h ⊢
  rw [emod_shift_hi n p e3 h]
  have h3 := Int.emod_lt_of_pos n (show (0:Int) < 2 * p by omega)
  generalize n % (2 * p) = x at *
  simp only [wrap_i64]
  omega
theorem cutF_lo (n m : Int) (hn : -9223372036854775808 ≤ n) (hn1 : n ≤ 9223372036854775807) (h0 : 1 ≤ m) (h1 : m < 64) (h : ¬ (2 ^ (m - 1).toNat : Int) ≤ (IntKind.u64.wrap n).tmod (2 ^ m.toNat)) :
    IntKind.i64.wrap ((IntKind.u64.wrap n).tmod (2 ^ m.toNat)) = cutF n m.toNat := by
  rw [cut_low n m h0 h1] at h ⊢
  rw [cutF_eq n m h0]
  obtain ⟨p, e1, e2, e3, e4, k, e5, e6⟩ := cut_parts n m h0 h1
  rw [e1, e2] at h ⊢
  rw [emod_shift_lo n p e3 h]
  have h3 := Int.emod_nonneg n (show (2 * p) ≠ 0 by omega)
  generalize n % (2 * p) = x at *
  simp only [wrap_i64]
  omega
theorem emod_mul_right (a b : Int) {q : Int} (hq : 0 < q) : (a * q) % (b * q) = a % b * q := by
  rw [Int.mul_comm a, Int.mul_comm b, Int.mul_emod_mul_of_pos a b hq, Int.mul_comm]
theorem cutF_sh (n m : Int) (hn : -9223372036854775808 ≤ n) (hn1 : n ≤ 9223372036854775807) (h0 : 1 ≤ m) (h1 : m ≤ 64) :
    IntKind.i64.wrap (n * 2 ^ (64 - m).toNat) / 2 ^ (64 - m).toNat = cutF n m.toNat := by
  rw [cutF_eq n m h0, wrap_i64]
  have hq : (0:Int) < 2 ^ (64 - m).toNat := Int.pow_pos (by omega)
  have e1 : (9223372036854775808 : Int) = 2 ^ (m - 1).toNat * 2 ^ (64 - m).toNat := by
    rw [← Int.pow_add, show (m - 1).toNat + (64 - m).toNat = 63 by omega]; rfl
  have e2 : (18446744073709551616 : Int) = 2 ^ m.toNat * 2 ^ (64 - m).toNat := by
    rw [← Int.pow_add, show m.toNat + (64 - m).toNat = 64 by omega]; rfl
  generalize (2:Int) ^ (64 - m).toNat = q at *
  generalize (2:Int) ^ (m - 1).toNat = p at *
  generalize (2:Int) ^ m.toNat = r at *
  rw [e1, e2, ← Int.add_mul, emod_mul_right _ _ hq, ← Int.sub_mul, Int.mul_ediv_cancel _ (by omega)]
theorem wf_i64 {n : Int} (h : (Lit.int .i64 n).wf = true) : -9223372036854775808 ≤ n ∧ n ≤ 9223372036854775807 := by
  simpa [Lit.wf, IntKind.min, IntKind.max, IntKind.bits, IntKind.signed] using h
theorem wf_u64 {n : Int} (h : (Lit.int .u64 n).wf = true) : 0 ≤ n ∧ n < 18446744073709551616 := by
  have := h
  simp [Lit.wf, IntKind.min, IntKind.max, IntKind.bits, IntKind.signed] at this
  omega
theorem wf_u32 {n : Int} (h : (Lit.int .u32 n).wf = true) : 0 ≤ n ∧ n < 4294967296 := by
  have := h
  simp [Lit.wf, IntKind.min, IntKind.max, IntKind.bits, IntKind.signed] at this
  omega
end Go.Av
