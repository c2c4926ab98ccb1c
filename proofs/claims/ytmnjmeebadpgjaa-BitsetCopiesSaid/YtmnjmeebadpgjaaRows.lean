/-
  No cell of these rows narrows 'for every input' (looked for: loops, veiled, ifaces, maps, wideKeys, modest, calm, conditions, laid).
  DERIVED. THE GIVEN ROWS OF THIS SEAT. 12 by the template 'for every input the law returns true; each argument reads behind the call as it read before'; 0 by the template 'total and deterministic' (their statements: YtmnjmeebadpgjaaTotals.lean).
  GIVEN WITH THE SEED: the statements are not yours to turn. If you find one false, say at which input.
  Laid BY PROGRAM, IN A SANDBOX (cutbox-rows.mjs): the forced cells as the released guide's own fill.sh prints them over the translation 73426dc4c80ab951… (all of the seat's roots in one cut). By AI agents, Wed Nov 11 2026. No macro, syntax, notation, axiom, sorry.
-/
import Derived.Test.YtmnjmeebadpgjaaChecked
import GoSem.Claim
import GoSem.ClaimJoined
import GoSem.ClaimMapViews
import Derived.JoinedTies
import Derived.KernelRfl
namespace Go.Proofs.Ytmnjmeebadpgjaa
/- THE CELL 'sum', in the pinned program and in every row, IS THE sha256 OF THE DUMP (.gsa) THAT YtmnjmeebadpgjaaProg.lean LOADS. Nothing in Lean hashes anything: it is a label: what it is worth is what the hold of that sum in a sandbox is worth. -/
noncomputable def Try.pinned : Pinned := { name := "ytmnjmeebadpgjaa", sum := "73426dc4c80ab951e5ce4264a7ff60695cbda5575c05d5dbc3d15d32ce10f28c", checked := Try.checked }
namespace Rows
def none {H : Type} : Left H := { results := [], args := [] }

/-- 'bridlewaylaw01.BitsZig': WHATEVER THE INPUT: true; the input reads as it did. -/
def bitsZigSpec : ChangeSpec := { name := "bitsZig", fn := fun _ => fun
  | [d1, d2] => { results := [.lit (.bool true)], args := [d1, d2] }
  | _ => none }
def bitsZigRow : OpenClaim := { program := "ytmnjmeebadpgjaa", sum := "73426dc4c80ab951e5ce4264a7ff60695cbda5575c05d5dbc3d15d32ce10f28c", func := "bridleway/bridlewaylaw01.BitsZig", spec := "bitsZig", apart := false }
def BitsZigSaid : Prop := bitsZigRow.holds Try.pinned (OpenSpec.ofChange bitsZigSpec)

/-- ITS FALSE NEIGHBOUR: 'it returns false'. Refute it at one input. -/
def bitsZigWrong : ChangeSpec := { name := "bitsZig", fn := fun _ => fun
  | [d1, d2] => { results := [.lit (.bool false)], args := [d1, d2] }
  | _ => none }
def BitsZigWrongFalsely : Prop := bitsZigRow.holds Try.pinned (OpenSpec.ofChange bitsZigWrong)

/-- 'bridlewaylaw01.BitsWide': WHATEVER THE INPUT: true; the input reads as it did. -/
def bitsWideSpec : ChangeSpec := { name := "bitsWide", fn := fun _ => fun
  | [d1, d2] => { results := [.lit (.bool true)], args := [d1, d2] }
  | _ => none }
def bitsWideRow : OpenClaim := { program := "ytmnjmeebadpgjaa", sum := "73426dc4c80ab951e5ce4264a7ff60695cbda5575c05d5dbc3d15d32ce10f28c", func := "bridleway/bridlewaylaw01.BitsWide", spec := "bitsWide", apart := false }
def BitsWideSaid : Prop := bitsWideRow.holds Try.pinned (OpenSpec.ofChange bitsWideSpec)

/-- ITS FALSE NEIGHBOUR: 'it returns false'. Refute it at one input. -/
def bitsWideWrong : ChangeSpec := { name := "bitsWide", fn := fun _ => fun
  | [d1, d2] => { results := [.lit (.bool false)], args := [d1, d2] }
  | _ => none }
def BitsWideWrongFalsely : Prop := bitsWideRow.holds Try.pinned (OpenSpec.ofChange bitsWideWrong)

/-- 'bridlewaylaw01.BitsPack': WHATEVER THE INPUT: true; the input reads as it did. -/
def bitsPackSpec : ChangeSpec := { name := "bitsPack", fn := fun _ => fun
  | [d1, d2, d3] => { results := [.lit (.bool true)], args := [d1, d2, d3] }
  | _ => none }
def bitsPackRow : OpenClaim := { program := "ytmnjmeebadpgjaa", sum := "73426dc4c80ab951e5ce4264a7ff60695cbda5575c05d5dbc3d15d32ce10f28c", func := "bridleway/bridlewaylaw01.BitsPack", spec := "bitsPack", apart := false }
def BitsPackSaid : Prop := bitsPackRow.holds Try.pinned (OpenSpec.ofChange bitsPackSpec)

/-- ITS FALSE NEIGHBOUR: 'it returns false'. Refute it at one input. -/
def bitsPackWrong : ChangeSpec := { name := "bitsPack", fn := fun _ => fun
  | [d1, d2, d3] => { results := [.lit (.bool false)], args := [d1, d2, d3] }
  | _ => none }
def BitsPackWrongFalsely : Prop := bitsPackRow.holds Try.pinned (OpenSpec.ofChange bitsPackWrong)

/-- 'bridlewaylaw01.BitsCounts': WHATEVER THE INPUT: true; the input reads as it did. -/
def bitsCountsSpec : ChangeSpec := { name := "bitsCounts", fn := fun _ => fun
  | [d1, d2] => { results := [.lit (.bool true)], args := [d1, d2] }
  | _ => none }
def bitsCountsRow : OpenClaim := { program := "ytmnjmeebadpgjaa", sum := "73426dc4c80ab951e5ce4264a7ff60695cbda5575c05d5dbc3d15d32ce10f28c", func := "bridleway/bridlewaylaw01.BitsCounts", spec := "bitsCounts", apart := false }
def BitsCountsSaid : Prop := bitsCountsRow.holds Try.pinned (OpenSpec.ofChange bitsCountsSpec)

/-- ITS FALSE NEIGHBOUR: 'it returns false'. Refute it at one input. -/
def bitsCountsWrong : ChangeSpec := { name := "bitsCounts", fn := fun _ => fun
  | [d1, d2] => { results := [.lit (.bool false)], args := [d1, d2] }
  | _ => none }
def BitsCountsWrongFalsely : Prop := bitsCountsRow.holds Try.pinned (OpenSpec.ofChange bitsCountsWrong)

/-- 'bridlewaylaw01.BitsPlaces': WHATEVER THE INPUT: true; the input reads as it did. -/
def bitsPlacesSpec : ChangeSpec := { name := "bitsPlaces", fn := fun _ => fun
  | [d1, d2] => { results := [.lit (.bool true)], args := [d1, d2] }
  | _ => none }
def bitsPlacesRow : OpenClaim := { program := "ytmnjmeebadpgjaa", sum := "73426dc4c80ab951e5ce4264a7ff60695cbda5575c05d5dbc3d15d32ce10f28c", func := "bridleway/bridlewaylaw01.BitsPlaces", spec := "bitsPlaces", apart := false }
def BitsPlacesSaid : Prop := bitsPlacesRow.holds Try.pinned (OpenSpec.ofChange bitsPlacesSpec)

/-- ITS FALSE NEIGHBOUR: 'it returns false'. Refute it at one input. -/
def bitsPlacesWrong : ChangeSpec := { name := "bitsPlaces", fn := fun _ => fun
  | [d1, d2] => { results := [.lit (.bool false)], args := [d1, d2] }
  | _ => none }
def BitsPlacesWrongFalsely : Prop := bitsPlacesRow.holds Try.pinned (OpenSpec.ofChange bitsPlacesWrong)

/-- 'bridlewaylaw05.ValueNames': WHATEVER THE INPUT: true; the input reads as it did. -/
def valueNamesSpec : ChangeSpec := { name := "valueNames", fn := fun _ => fun
  | [d] => { results := [.lit (.bool true)], args := [d] }
  | _ => none }
def valueNamesRow : OpenClaim := { program := "ytmnjmeebadpgjaa", sum := "73426dc4c80ab951e5ce4264a7ff60695cbda5575c05d5dbc3d15d32ce10f28c", func := "bridleway/bridlewaylaw05.ValueNames", spec := "valueNames", apart := false }
def ValueNamesSaid : Prop := valueNamesRow.holds Try.pinned (OpenSpec.ofChange valueNamesSpec)

/-- ITS FALSE NEIGHBOUR: 'it returns false'. Refute it at one input. -/
def valueNamesWrong : ChangeSpec := { name := "valueNames", fn := fun _ => fun
  | [d] => { results := [.lit (.bool false)], args := [d] }
  | _ => none }
def ValueNamesWrongFalsely : Prop := valueNamesRow.holds Try.pinned (OpenSpec.ofChange valueNamesWrong)

/-- 'bridlewaylaw05.ValueReads': WHATEVER THE INPUT: true; the input reads as it did. -/
def valueReadsSpec : ChangeSpec := { name := "valueReads", fn := fun _ => fun
  | [d] => { results := [.lit (.bool true)], args := [d] }
  | _ => none }
def valueReadsRow : OpenClaim := { program := "ytmnjmeebadpgjaa", sum := "73426dc4c80ab951e5ce4264a7ff60695cbda5575c05d5dbc3d15d32ce10f28c", func := "bridleway/bridlewaylaw05.ValueReads", spec := "valueReads", apart := false }
def ValueReadsSaid : Prop := valueReadsRow.holds Try.pinned (OpenSpec.ofChange valueReadsSpec)

/-- ITS FALSE NEIGHBOUR: 'it returns false'. Refute it at one input. -/
def valueReadsWrong : ChangeSpec := { name := "valueReads", fn := fun _ => fun
  | [d] => { results := [.lit (.bool false)], args := [d] }
  | _ => none }
def ValueReadsWrongFalsely : Prop := valueReadsRow.holds Try.pinned (OpenSpec.ofChange valueReadsWrong)

/-- 'bridlewaylaw03.BitsetCopies': WHATEVER THE INPUT: true; the input reads as it did. -/
def bitsetCopiesSpec : ChangeSpec := { name := "bitsetCopies", fn := fun _ => fun
  | [d1, d2] => { results := [.lit (.bool true)], args := [d1, d2] }
  | _ => none }
def bitsetCopiesRow : OpenClaim := { program := "ytmnjmeebadpgjaa", sum := "73426dc4c80ab951e5ce4264a7ff60695cbda5575c05d5dbc3d15d32ce10f28c", func := "bridleway/bridlewaylaw03.BitsetCopies", spec := "bitsetCopies", apart := false }
def BitsetCopiesSaid : Prop := bitsetCopiesRow.holds Try.pinned (OpenSpec.ofChange bitsetCopiesSpec)

/-- ITS FALSE NEIGHBOUR: 'it returns false'. Refute it at one input. -/
def bitsetCopiesWrong : ChangeSpec := { name := "bitsetCopies", fn := fun _ => fun
  | [d1, d2] => { results := [.lit (.bool false)], args := [d1, d2] }
  | _ => none }
def BitsetCopiesWrongFalsely : Prop := bitsetCopiesRow.holds Try.pinned (OpenSpec.ofChange bitsetCopiesWrong)

/-- 'bridlewaylaw05.ValueLeast': WHATEVER THE INPUT: true; the input reads as it did. -/
def valueLeastSpec : ChangeSpec := { name := "valueLeast", fn := fun _ => fun
  | [d] => { results := [.lit (.bool true)], args := [d] }
  | _ => none }
def valueLeastRow : OpenClaim := { program := "ytmnjmeebadpgjaa", sum := "73426dc4c80ab951e5ce4264a7ff60695cbda5575c05d5dbc3d15d32ce10f28c", func := "bridleway/bridlewaylaw05.ValueLeast", spec := "valueLeast", inPlace := ["internal/bytealg.abigen_runtime_cmpstring"], apart := false }
def ValueLeastSaid : Prop := valueLeastRow.holds Try.pinned (OpenSpec.ofChange valueLeastSpec)

/-- ITS FALSE NEIGHBOUR: 'it returns false'. Refute it at one input. -/
def valueLeastWrong : ChangeSpec := { name := "valueLeast", fn := fun _ => fun
  | [d] => { results := [.lit (.bool false)], args := [d] }
  | _ => none }
def ValueLeastWrongFalsely : Prop := valueLeastRow.holds Try.pinned (OpenSpec.ofChange valueLeastWrong)

/-- 'bridlewaylaw03.BitsetPairs': WHATEVER THE INPUT: true; the input reads as it did. -/
def bitsetPairsSpec : ChangeSpec := { name := "bitsetPairs", fn := fun _ => fun
  | [d1, d2] => { results := [.lit (.bool true)], args := [d1, d2] }
  | _ => none }
def bitsetPairsRow : OpenClaim := { program := "ytmnjmeebadpgjaa", sum := "73426dc4c80ab951e5ce4264a7ff60695cbda5575c05d5dbc3d15d32ce10f28c", func := "bridleway/bridlewaylaw03.BitsetPairs", spec := "bitsetPairs", unfollowed := true, recurses := true, apart := false }
def BitsetPairsSaid : Prop := bitsetPairsRow.holds Try.pinned (OpenSpec.ofChange bitsetPairsSpec)

/-- ITS FALSE NEIGHBOUR: 'it returns false'. Refute it at one input. -/
def bitsetPairsWrong : ChangeSpec := { name := "bitsetPairs", fn := fun _ => fun
  | [d1, d2] => { results := [.lit (.bool false)], args := [d1, d2] }
  | _ => none }
def BitsetPairsWrongFalsely : Prop := bitsetPairsRow.holds Try.pinned (OpenSpec.ofChange bitsetPairsWrong)

/-- 'bridlewaylaw03.BitsetPlays': WHATEVER THE INPUT: true; the input reads as it did. -/
def bitsetPlaysSpec : ChangeSpec := { name := "bitsetPlays", fn := fun _ => fun
  | [d1, d2] => { results := [.lit (.bool true)], args := [d1, d2] }
  | _ => none }
def bitsetPlaysRow : OpenClaim := { program := "ytmnjmeebadpgjaa", sum := "73426dc4c80ab951e5ce4264a7ff60695cbda5575c05d5dbc3d15d32ce10f28c", func := "bridleway/bridlewaylaw03.BitsetPlays", spec := "bitsetPlays", apart := false }
def BitsetPlaysSaid : Prop := bitsetPlaysRow.holds Try.pinned (OpenSpec.ofChange bitsetPlaysSpec)

/-- ITS FALSE NEIGHBOUR: 'it returns false'. Refute it at one input. -/
def bitsetPlaysWrong : ChangeSpec := { name := "bitsetPlays", fn := fun _ => fun
  | [d1, d2] => { results := [.lit (.bool false)], args := [d1, d2] }
  | _ => none }
def BitsetPlaysWrongFalsely : Prop := bitsetPlaysRow.holds Try.pinned (OpenSpec.ofChange bitsetPlaysWrong)

/-- 'bridlewaylaw05.ValueTests': WHATEVER THE INPUT: true; the input reads as it did. -/
def valueTestsSpec : ChangeSpec := { name := "valueTests", fn := fun _ => fun
  | [d1, d2, d3] => { results := [.lit (.bool true)], args := [d1, d2, d3] }
  | _ => none }
def valueTestsRow : OpenClaim := { program := "ytmnjmeebadpgjaa", sum := "73426dc4c80ab951e5ce4264a7ff60695cbda5575c05d5dbc3d15d32ce10f28c", func := "bridleway/bridlewaylaw05.ValueTests", spec := "valueTests", inPlace := ["internal/bytealg.abigen_runtime_cmpstring"], apart := false }
def ValueTestsSaid : Prop := valueTestsRow.holds Try.pinned (OpenSpec.ofChange valueTestsSpec)

/-- ITS FALSE NEIGHBOUR: 'it returns false'. Refute it at one input. -/
def valueTestsWrong : ChangeSpec := { name := "valueTests", fn := fun _ => fun
  | [d1, d2, d3] => { results := [.lit (.bool false)], args := [d1, d2, d3] }
  | _ => none }
def ValueTestsWrongFalsely : Prop := valueTestsRow.holds Try.pinned (OpenSpec.ofChange valueTestsWrong)

/- THE SECOND FORM. 'bulk': how many values and letters a reading holds, each counted each time it is reached (what is shared counts as often as it is met; a slice's spare places count too). A statement '..UptoSaid' is the law's where the arguments, and the package variables that the reading takes, are together of bulk at most 1048576: NARROWER than '..Said'. Prove '..Said' where nothing that the law and all that it calls make is longer than what came in: it says more and counts as full. Else prove '..UptoSaid'. A law counts once. -/
mutual
def uptoBulk {H : Type} : DataW H → Nat
  | .lit (.string bytes) => bytes.length + 1
  | .lit _ => 1
  | .nil => 1
  | .ptr d => uptoBulk d + 1
  | .slice elems spare => uptoBulkAll elems + uptoBulkAll spare + 1
  | .agg parts => uptoBulkAll parts + 1
  | .iface _ d => uptoBulk d + 1
  | .map entries => uptoBulkEntries entries + 1
  | .held _ => 1
def uptoBulkAll {H : Type} : List (DataW H) → Nat
  | [] => 0
  | d :: r => uptoBulk d + uptoBulkAll r
def uptoBulkEntries {H : Type} : List (Lit × DataW H) → Nat
  | [] => 0
  | x :: r => uptoBulkEntry x + uptoBulkEntries r
def uptoBulkEntry {H : Type} : Lit × DataW H → Nat
  | (.string bytes, d) => bytes.length + uptoBulk d + 1
  | (_, d) => uptoBulk d + 1
 end
def uptoSmall : (H : Type) → List (DataW H) → Bool := fun _ ds => decide (uptoBulkAll ds ≤ 1048576)
def OpenSpec.upto (s : _root_.Go.ChangeSpec) : _root_.Go.OpenSpec := { _root_.Go.OpenSpec.ofChange s with cond := some uptoSmall }

/-- 'bridlewaylaw01.BitsZig', WHERE WHAT IT READS IS OF BULK AT MOST 1048576: true; the input reads as it did. -/
def bitsZigUptoRow : OpenClaim := { program := "ytmnjmeebadpgjaa", sum := "73426dc4c80ab951e5ce4264a7ff60695cbda5575c05d5dbc3d15d32ce10f28c", func := "bridleway/bridlewaylaw01.BitsZig", spec := "bitsZig", apart := false, narrowed := true }
def BitsZigUptoSaid : Prop := bitsZigUptoRow.holds Try.pinned (OpenSpec.upto bitsZigSpec)

/-- 'bridlewaylaw01.BitsWide', WHERE WHAT IT READS IS OF BULK AT MOST 1048576: true; the input reads as it did. -/
def bitsWideUptoRow : OpenClaim := { program := "ytmnjmeebadpgjaa", sum := "73426dc4c80ab951e5ce4264a7ff60695cbda5575c05d5dbc3d15d32ce10f28c", func := "bridleway/bridlewaylaw01.BitsWide", spec := "bitsWide", apart := false, narrowed := true }
def BitsWideUptoSaid : Prop := bitsWideUptoRow.holds Try.pinned (OpenSpec.upto bitsWideSpec)

/-- 'bridlewaylaw01.BitsPack', WHERE WHAT IT READS IS OF BULK AT MOST 1048576: true; the input reads as it did. -/
def bitsPackUptoRow : OpenClaim := { program := "ytmnjmeebadpgjaa", sum := "73426dc4c80ab951e5ce4264a7ff60695cbda5575c05d5dbc3d15d32ce10f28c", func := "bridleway/bridlewaylaw01.BitsPack", spec := "bitsPack", apart := false, narrowed := true }
def BitsPackUptoSaid : Prop := bitsPackUptoRow.holds Try.pinned (OpenSpec.upto bitsPackSpec)

/-- 'bridlewaylaw01.BitsCounts', WHERE WHAT IT READS IS OF BULK AT MOST 1048576: true; the input reads as it did. -/
def bitsCountsUptoRow : OpenClaim := { program := "ytmnjmeebadpgjaa", sum := "73426dc4c80ab951e5ce4264a7ff60695cbda5575c05d5dbc3d15d32ce10f28c", func := "bridleway/bridlewaylaw01.BitsCounts", spec := "bitsCounts", apart := false, narrowed := true }
def BitsCountsUptoSaid : Prop := bitsCountsUptoRow.holds Try.pinned (OpenSpec.upto bitsCountsSpec)

/-- 'bridlewaylaw01.BitsPlaces', WHERE WHAT IT READS IS OF BULK AT MOST 1048576: true; the input reads as it did. -/
def bitsPlacesUptoRow : OpenClaim := { program := "ytmnjmeebadpgjaa", sum := "73426dc4c80ab951e5ce4264a7ff60695cbda5575c05d5dbc3d15d32ce10f28c", func := "bridleway/bridlewaylaw01.BitsPlaces", spec := "bitsPlaces", apart := false, narrowed := true }
def BitsPlacesUptoSaid : Prop := bitsPlacesUptoRow.holds Try.pinned (OpenSpec.upto bitsPlacesSpec)

/-- 'bridlewaylaw05.ValueNames', WHERE WHAT IT READS IS OF BULK AT MOST 1048576: true; the input reads as it did. -/
def valueNamesUptoRow : OpenClaim := { program := "ytmnjmeebadpgjaa", sum := "73426dc4c80ab951e5ce4264a7ff60695cbda5575c05d5dbc3d15d32ce10f28c", func := "bridleway/bridlewaylaw05.ValueNames", spec := "valueNames", apart := false, narrowed := true }
def ValueNamesUptoSaid : Prop := valueNamesUptoRow.holds Try.pinned (OpenSpec.upto valueNamesSpec)

/-- 'bridlewaylaw05.ValueReads', WHERE WHAT IT READS IS OF BULK AT MOST 1048576: true; the input reads as it did. -/
def valueReadsUptoRow : OpenClaim := { program := "ytmnjmeebadpgjaa", sum := "73426dc4c80ab951e5ce4264a7ff60695cbda5575c05d5dbc3d15d32ce10f28c", func := "bridleway/bridlewaylaw05.ValueReads", spec := "valueReads", apart := false, narrowed := true }
def ValueReadsUptoSaid : Prop := valueReadsUptoRow.holds Try.pinned (OpenSpec.upto valueReadsSpec)

/-- 'bridlewaylaw03.BitsetCopies', WHERE WHAT IT READS IS OF BULK AT MOST 1048576: true; the input reads as it did. -/
def bitsetCopiesUptoRow : OpenClaim := { program := "ytmnjmeebadpgjaa", sum := "73426dc4c80ab951e5ce4264a7ff60695cbda5575c05d5dbc3d15d32ce10f28c", func := "bridleway/bridlewaylaw03.BitsetCopies", spec := "bitsetCopies", apart := false, narrowed := true }
def BitsetCopiesUptoSaid : Prop := bitsetCopiesUptoRow.holds Try.pinned (OpenSpec.upto bitsetCopiesSpec)

/-- 'bridlewaylaw05.ValueLeast', WHERE WHAT IT READS IS OF BULK AT MOST 1048576: true; the input reads as it did. -/
def valueLeastUptoRow : OpenClaim := { program := "ytmnjmeebadpgjaa", sum := "73426dc4c80ab951e5ce4264a7ff60695cbda5575c05d5dbc3d15d32ce10f28c", func := "bridleway/bridlewaylaw05.ValueLeast", spec := "valueLeast", inPlace := ["internal/bytealg.abigen_runtime_cmpstring"], apart := false, narrowed := true }
def ValueLeastUptoSaid : Prop := valueLeastUptoRow.holds Try.pinned (OpenSpec.upto valueLeastSpec)

/-- 'bridlewaylaw03.BitsetPairs', WHERE WHAT IT READS IS OF BULK AT MOST 1048576: true; the input reads as it did. -/
def bitsetPairsUptoRow : OpenClaim := { program := "ytmnjmeebadpgjaa", sum := "73426dc4c80ab951e5ce4264a7ff60695cbda5575c05d5dbc3d15d32ce10f28c", func := "bridleway/bridlewaylaw03.BitsetPairs", spec := "bitsetPairs", unfollowed := true, recurses := true, apart := false, narrowed := true }
def BitsetPairsUptoSaid : Prop := bitsetPairsUptoRow.holds Try.pinned (OpenSpec.upto bitsetPairsSpec)

/-- 'bridlewaylaw03.BitsetPlays', WHERE WHAT IT READS IS OF BULK AT MOST 1048576: true; the input reads as it did. -/
def bitsetPlaysUptoRow : OpenClaim := { program := "ytmnjmeebadpgjaa", sum := "73426dc4c80ab951e5ce4264a7ff60695cbda5575c05d5dbc3d15d32ce10f28c", func := "bridleway/bridlewaylaw03.BitsetPlays", spec := "bitsetPlays", apart := false, narrowed := true }
def BitsetPlaysUptoSaid : Prop := bitsetPlaysUptoRow.holds Try.pinned (OpenSpec.upto bitsetPlaysSpec)

/-- 'bridlewaylaw05.ValueTests', WHERE WHAT IT READS IS OF BULK AT MOST 1048576: true; the input reads as it did. -/
def valueTestsUptoRow : OpenClaim := { program := "ytmnjmeebadpgjaa", sum := "73426dc4c80ab951e5ce4264a7ff60695cbda5575c05d5dbc3d15d32ce10f28c", func := "bridleway/bridlewaylaw05.ValueTests", spec := "valueTests", inPlace := ["internal/bytealg.abigen_runtime_cmpstring"], apart := false, narrowed := true }
def ValueTestsUptoSaid : Prop := valueTestsUptoRow.holds Try.pinned (OpenSpec.upto valueTestsSpec)

end Rows
end Go.Proofs.Ytmnjmeebadpgjaa
