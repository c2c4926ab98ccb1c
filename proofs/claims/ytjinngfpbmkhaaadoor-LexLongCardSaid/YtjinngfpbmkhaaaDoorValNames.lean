import Derived.Test.YtjinngfpbmkhaaaDoorValA
/- Which texts are names, and with which sign a text begins: the code against the words. -/
namespace Go.Proofs.YtjinngfpbmkhaaaDoor.Val
open Go Go.Av
set_option linter.unusedSimpArgs false
set_option linter.unusedVariables false
def opN (s : ByteArray) : Nat → Nat × Nat
  | 0 => (0, 0)
  | i + 1 => if preB s (sgn i) = true ∧ (opN s i).2 < (sgn i).size then (i + 1, (sgn i).size) else opN s i
theorem opN_yes {s : ByteArray} {i : Nat} (h1 : preB s (sgn i) = true) (h2 : (opN s i).2 < (sgn i).size) : opN s (i + 1) = (i + 1, (sgn i).size) := by rw [opN, if_pos ⟨h1, h2⟩]
theorem opN_no {s : ByteArray} {i : Nat} (h : ¬ (preB s (sgn i) = true ∧ (opN s i).2 < (sgn i).size)) : opN s (i + 1) = opN s i := by rw [opN, if_neg h]
def okAt (s : ByteArray) (i : Nat) : Prop := letB (byteAt s i) = true ∨ (i ≠ 0 ∧ (digB (byteAt s i) = true ∨ byteAt s i = 95))
def isName (s : ByteArray) : Prop := s.size ≠ 0 ∧ s.size ≤ 30 ∧ ∀ i, i < s.size → okAt s i
open Classical in
noncomputable def nameB (s : ByteArray) : Bool := decide (isName s)
theorem nameB_no {s : ByteArray} (h : ¬ isName s) : nameB s = false := by unfold nameB; simp [h]
theorem nameB_yes {s : ByteArray} (h : isName s) : nameB s = true := by unfold nameB; simp [h]
end Go.Proofs.YtjinngfpbmkhaaaDoor.Val
