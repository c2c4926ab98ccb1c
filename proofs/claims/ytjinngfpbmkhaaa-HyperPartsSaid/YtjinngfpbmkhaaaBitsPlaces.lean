import Derived.Test.YtjinngfpbmkhaaaBitsWide
import Derived.Test.YtjinngfpbmkhaaaNumC
namespace Go.Proofs.Ytjinngfpbmkhaaa.Bits
open Go Go.Av
set_option linter.unusedSimpArgs false
set_option linter.unusedVariables false
theorem andN (a b : Nat) (ha : a < 18446744073709551616) (hb : b < 18446744073709551616) : andI .u64 (a : Int) (b : Int) = ((a &&& b : Nat) : Int) := by
  show IntKind.u64.wrap ((BitVec.ofInt 64 (a : Int) &&& BitVec.ofInt 64 (b : Int)).toNat : Int) = _
  have h : a &&& b ≤ b := Nat.and_le_right
  rw [BitVec.toNat_and, BitVec.toNat_ofInt, BitVec.toNat_ofInt, wrap_u64, show ((a : Int) % ((2 ^ 64 : Nat) : Int)).toNat = a by omega, show ((b : Int) % ((2 ^ 64 : Nat) : Int)).toNat = b by omega]
  omega
theorem and127 (a : Nat) (ha : a < 9223372036854775808) : andI .i64 (a : Int) 127 = ((a % 128 : Nat) : Int) := by
  show IntKind.i64.wrap ((BitVec.ofInt 64 (a : Int) &&& BitVec.ofInt 64 (127 : Int)).toNat : Int) = _
  rw [BitVec.toNat_and, BitVec.toNat_ofInt, show (BitVec.ofInt 64 127).toNat = 2 ^ 7 - 1 from rfl, Nat.and_two_pow_sub_one_eq_mod, show ((a : Int) % ((2 ^ 64 : Nat) : Int)).toNat = a by omega, wrap_i64]
  omega
theorem pcK_ne (m v : Nat) (hv : v < 2 ^ m) (h : 0 < v) : ∃ m', m = m' + 1 ∧ v / 2 < 2 ^ m' := by
  cases m with
  | zero => simp at hv; omega
  | succ m => exact ⟨m, rfl, by rw [Nat.pow_succ] at hv; omega⟩
theorem pcK_succ (m v : Nat) : pcK (m + 1) v = v % 2 + pcK m (v / 2) := rfl
theorem blK_succ (m v : Nat) (h : 0 < v) : blK (m + 1) v = 1 + blK m (v / 2) := by rw [blK, if_neg (by omega)]
theorem pow_le64 (j : Nat) (h : j ≤ 64) : (2 : Int) ^ j ≤ 18446744073709551616 := by
  have := Nat.pow_le_pow_right (show 0 < 2 by decide) h
  have h2 : ((2 ^ j : Nat) : Int) ≤ ((2 ^ 64 : Nat) : Int) := Int.ofNat_le.2 this
  rw [Int.natCast_pow] at h2
  exact h2
theorem andI_NB (x y : BitVec 64) : andI .u64 (NB x) (NB y) = NB (x &&& y) := by
  show IntKind.u64.wrap ((BitVec.ofInt 64 (NB x) &&& BitVec.ofInt 64 (NB y)).toNat : Int) = _
  rw [NB_ofInt, NB_ofInt, NB_wrap]
theorem orI_NB (x y : BitVec 64) : orI .u64 (NB x) (NB y) = NB (x ||| y) := by
  show IntKind.u64.wrap ((BitVec.ofInt 64 (NB x) ||| BitVec.ofInt 64 (NB y)).toNat : Int) = _
  rw [NB_ofInt, NB_ofInt, NB_wrap]
theorem swI (x : BitVec 64) (k : Nat) (m : BitVec 64) (m' p : Int) (hm : m' = NB m) (hp : p = ((2 ^ k : Nat) : Int)) : orI .u64 (andI .u64 (NB x / p) m') (IntKind.u64.wrap (andI .u64 (NB x) m' * p)) = NB (sw k m x) := by
  subst hm
  rw [NB_shr x k p hp, andI_NB, andI_NB, NB_shl _ k p hp, orI_NB]; rfl
theorem sw0I (x : BitVec 64) : orI .u64 (NB x / 4294967296) (IntKind.u64.wrap (NB x * 4294967296)) = NB (sw0 32 x) := by
  rw [NB_shr x 32 4294967296 rfl, NB_shl x 32 4294967296 rfl, orI_NB]; rfl
/-- a number's bits, moved -/
def shiftF (u n : Int) : Int := if 0 ≤ n then (if n < 64 then u * 2 ^ n.toNat % 18446744073709551616 else 0) else (if -64 < n then u / 2 ^ (-n).toNat else 0)
theorem turnF_succ (u : Int) (w : Nat) : turnF u (w + 1) = 2 * turnF u w + u / 2 ^ w % 2 := rfl
theorem blK_half (j n : Nat) : blK (j + j) n = if 2 ^ j ≤ n then j + blK j (n / 2 ^ j) else blK j n := by
  split
  · exact blK_big j j n ‹_›
  · exact blK_more j j n (by omega)
def tabOk (s : ByteArray) : Bool := s.size == 256 && (List.range 256).all fun i => byteAt s i == ((blK 8 i : Nat) : Int)
theorem tab_ok (s : ByteArray) (h : tabOk s = true) : s.size = 256 ∧ ∀ i : Fin 256, byteAt s i.val = ((blK 8 i.val : Nat) : Int) := by
  simp only [tabOk, Bool.and_eq_true, beq_iff_eq, List.all_eq_true, List.mem_range] at h
  exact ⟨h.1, fun i => h.2 i.val i.isLt⟩
end Go.Proofs.Ytjinngfpbmkhaaa.Bits
