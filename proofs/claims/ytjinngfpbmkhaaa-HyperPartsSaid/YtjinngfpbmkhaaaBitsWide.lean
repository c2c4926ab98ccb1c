import Derived.Test.YtjinngfpbmkhaaaBitsW
namespace Go.Proofs.Ytjinngfpbmkhaaa.Bits
open Go Go.Av
set_option linter.unusedSimpArgs false
set_option linter.unusedVariables false
theorem cutF_range (n m : Int) (h0 : 1 ≤ m) (h1 : m ≤ 64) : -9223372036854775808 ≤ cutF n m.toNat ∧ cutF n m.toNat ≤ 9223372036854775807 := by
  by_cases h : m = 64
  · subst h
    show -9223372036854775808 ≤ (n + 9223372036854775808) % 18446744073709551616 - 9223372036854775808 ∧ (n + 9223372036854775808) % 18446744073709551616 - 9223372036854775808 ≤ 9223372036854775807
    omega
  · obtain ⟨p, e1, e2, e3, e4, k, e5, e6⟩ := cut_parts n m h0 (by omega)
    rw [cutF_eq n m h0, e1, e2]
    have a1 := Int.emod_nonneg (n + p) (show 2 * p ≠ 0 by omega)
    have a2 := Int.emod_lt_of_pos (n + p) (show 0 < 2 * p by omega)
    omega
theorem cutF_cutF (n : Int) (m : Nat) : cutF (cutF n m) m = cutF n m := by
  unfold cutF
  rw [Int.sub_add_cancel, Int.emod_emod]
end Go.Proofs.Ytjinngfpbmkhaaa.Bits
