/- Plain words. -/
import Derived.Test.YtcnhpclfflcdfaaDoorRSetM
import Derived.Test.YtcnhpclfflcdfaaDoorRAvZ
import Derived.Lib.Fields
/-! Plain words about a query's words: texts in lists. -/
namespace Go.Av
set_option linter.unusedVariables false
set_option linter.unusedSimpArgs false
open Go.RowKit
/-- texts, as a slice holds them -/
abbrev Tl (l : List ByteArray) : List AV := l.map fun s => SS s
theorem Tl_get (l : List ByteArray) (i : Nat) (h : i < l.length) : (Tl l).getD i .any = SS (l.getD i ⟨#[]⟩) := by
  simp [List.getD_eq_getElem?_getD, h]
def bytesOf (l : List UInt8) : ByteArray := ⟨l.toArray⟩
def fieldsB (s : ByteArray) : List ByteArray := (Lib.fields s.data.toList).map bytesOf
def asciiB (s : ByteArray) : Bool := s.data.toList.all fun b => decide (b.toNat < 128)
/-- the signs, and the words that the language has for itself -/
def signsT : List ByteArray := [⟨#[45, 91]⟩, ⟨#[93, 45, 62]⟩, ⟨#[60, 45, 91]⟩, ⟨#[93, 45]⟩, ⟨#[40]⟩, ⟨#[41]⟩, ⟨#[123]⟩, ⟨#[125]⟩, ⟨#[44]⟩, ⟨#[58]⟩, ⟨#[46]⟩, ⟨#[124]⟩, ⟨#[94]⟩, ⟨#[42]⟩, ⟨#[43]⟩, ⟨#[63]⟩, ⟨#[61]⟩, ⟨#[60, 62]⟩, ⟨#[60]⟩, ⟨#[60, 61]⟩, ⟨#[62]⟩, ⟨#[62, 61]⟩]
def keysT : List ByteArray := [⟨#[77, 65, 84, 67, 72]⟩, ⟨#[82, 69, 84, 85, 82, 78]⟩, ⟨#[79, 82, 68, 69, 82]⟩, ⟨#[66, 89]⟩, ⟨#[67, 79, 83, 84]⟩, ⟨#[83, 75, 73, 80]⟩, ⟨#[76, 73, 77, 73, 84]⟩, ⟨#[67, 79, 85, 78, 84]⟩, ⟨#[83, 72, 79, 82, 84, 69, 83, 84]⟩]
def keyB (s : ByteArray) : Bool := keysT.any fun k => decide (k = s)
def signStep (s out t : ByteArray) : ByteArray := if preB s t = true ∧ out.size < t.size then t else out
def signF (s : ByteArray) : ByteArray := signsT.foldl (signStep s) ⟨#[]⟩
theorem foldl_at {α β : Type} (f : α → β → α) (a : α) (l : List β) (i : Nat) (h : i < l.length) (d : β) : (l.take (i + 1)).foldl f a = f ((l.take i).foldl f a) (l.getD i d) := by
  rw [List.take_succ_eq_append_getElem h, List.foldl_append]
  simp [List.getD_eq_getElem?_getD, h]
theorem any_at {α : Type} (p : α → Bool) (l : List α) (i : Nat) (h : i < l.length) (d : α) (hp : p (l.getD i d) = true) : l.any p = true := by
  rw [List.any_eq_true]
  refine ⟨l[i], List.getElem_mem h, ?_⟩
  simpa [List.getD_eq_getElem?_getD, h] using hp
theorem any_not {α : Type} (p : α → Bool) (l : List α) (d : α) (hp : ∀ i, i < l.length → p (l.getD i d) = false) : l.any p = false := by
  rw [List.any_eq_false]
  intro x hx
  obtain ⟨i, h, rfl⟩ := List.getElem_of_mem hx
  have := hp i h
  simp [List.getD_eq_getElem?_getD, h] at this
  simp [this]
/-- a function of the library that lays what it likes of its own, and hands back one value -/
theorem PureC.of_below {P : Program} {f : FuncId} {as : List Value} {r : Value} (h : ∀ w, BaseW w → Calls P f as.toArray w fun e w' => e = .returned r ∧ Below w.heap.size w w') (g : GH) : PureC P f (as.map .lit) g (.lit r) := by
  intro n w0 M φ w vs hdom hw hr
  have hvs : vs = as.toArray := by
    apply Array.ext'
    have hl : as.length = vs.toList.length := by have := hr.1; simpa using this
    apply List.ext_getElem?
    intro i
    by_cases hi : i < as.length
    · have := hr.2 i (.lit as[i]) (vs.toList[i]'(by omega)) (by simp [hi]) (by simp)
      rw [List.getElem?_eq_getElem (by omega), lit_inv this]; simp [hi]
    · rw [List.getElem?_eq_none (by omega), List.getElem?_eq_none (by simpa using hi)]
  subst hvs
  refine (h w hw.baseNow).mono ?_
  rintro e w' ⟨rfl, bel⟩
  have hlt : ∀ r j v, M r j = some v → r < w.heap.size := fun r j v hm => cell_lt (hw.mem r j v hm)
  refine ⟨M, φ, _, _, g, rfl, Mem.le.refl _, Phi.le.refl _, hdom, ?_, .lit _, rfl, rfl⟩
  exact hw.grow (hw.below.trans (bel.mono hw.below.size)) (fun r j v hm => by rw [bel.cell (p := ⟨r, j, none⟩) (hlt r j v hm)]; exact hw.mem r j v hm) (Mem.le.refl _) fun r hr => ⟨bel.block r hr, fun _ => rfl⟩
/-! ### a loop that is left in one way: what comes behind it is shown once -/
theorem WC_loopR {S : Type} {C : Cfg} {body : Code} {k : List KI} {Q : QT} {fr : List AV} {h : HP} (F : S → List AV) (H : S → HP) (inv : S → Prop) (μ : S → Nat) (s0 : S) (i : Nat) (X : S → Prop) (h0 : inv s0) (w0 : Imp C fr h (F s0) (H s0))
    (rest : ∀ s, inv s → X s → WX C (.exit i) k Q (F s) (H s)) (round : (∀ s, inv s → X s → WX C (.exit i) k Q (F s) (H s)) → ∀ s, inv s → WC C body [] (LPF C F H inv μ s k Q) (F s) (H s)) : WC C (.loop body) k Q fr h :=
  WC_loopF F H inv μ s0 h0 w0 (round rest)
/-- a word: kind, text, its value's kind, number and text, and its place -/
abbrev Wd := Int × ByteArray × Int × Int × ByteArray × Int
abbrev wA (w : Wd) : AV := .agg [I64 w.1, SS w.2.1, I64 w.2.2.1, I64 w.2.2.2.1, SS w.2.2.2.2.1, I64 w.2.2.2.2.2]
end Go.Av

