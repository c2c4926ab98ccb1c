/-
  NARROWER THAN 'FOR EVERY INPUT', by the rows' own cells (each row's printed sentence says how): MiniTwice: loops.
  DERIVED. THE GIVEN ROWS OF THIS SEAT. 9 by the template 'for every input the law returns true; each argument reads behind the call as it read before'; 0 by the template 'total and deterministic' (their statements: YtjinngfpbmkhaaaTotals.lean).
  GIVEN WITH THE SEED: the statements are not yours to turn. If you find one false, say at which input.
  Laid BY PROGRAM, IN A SANDBOX (cutbox-rows.mjs): the forced cells as the released guide's own fill.sh prints them over the translation 0686808524253617… (all of the seat's roots in one cut). By AI agents, Wed Nov 11 2026. No macro, syntax, notation, axiom, sorry.
-/
import Derived.Test.YtjinngfpbmkhaaaChecked
import GoSem.Claim
import GoSem.ClaimJoined
import GoSem.ClaimMapViews
import Derived.JoinedTies
import Derived.KernelRfl
namespace Go.Proofs.Ytjinngfpbmkhaaa
/- THE CELL 'sum', in the pinned program and in every row, IS THE sha256 OF THE DUMP (.gsa) THAT YtjinngfpbmkhaaaProg.lean LOADS. Nothing in Lean hashes anything: it is a label: what it is worth is what the hold of that sum in a sandbox is worth. -/
noncomputable def Try.pinned : Pinned := { name := "ytjinngfpbmkhaaa", sum := "06868085242536172f34c44b49942e07dd5fac22a8f74d816507ac3ca65bc1dd", checked := Try.checked }
namespace Rows
def none {H : Type} : Left H := { results := [], args := [] }

/-- 'bridlewaylaw18.HyperJoins': WHATEVER THE INPUT: true; the input reads as it did. -/
def hyperJoinsSpec : ChangeSpec := { name := "hyperJoins", fn := fun _ => fun
  | [d] => { results := [.lit (.bool true)], args := [d] }
  | _ => none }
def hyperJoinsRow : OpenClaim := { program := "ytjinngfpbmkhaaa", sum := "06868085242536172f34c44b49942e07dd5fac22a8f74d816507ac3ca65bc1dd", func := "bridleway/bridlewaylaw18.HyperJoins", spec := "hyperJoins", unfollowed := true, recurses := true, plainKeys := false, apart := false }
def HyperJoinsSaid : Prop := hyperJoinsRow.holds Try.pinned (OpenSpec.ofChange hyperJoinsSpec)

/-- ITS FALSE NEIGHBOUR: 'it returns false'. Refute it at one input. -/
def hyperJoinsWrong : ChangeSpec := { name := "hyperJoins", fn := fun _ => fun
  | [d] => { results := [.lit (.bool false)], args := [d] }
  | _ => none }
def HyperJoinsWrongFalsely : Prop := hyperJoinsRow.holds Try.pinned (OpenSpec.ofChange hyperJoinsWrong)

/-- 'bridlewaylaw18.HyperParts': WHATEVER THE INPUT: true; the input reads as it did. -/
def hyperPartsSpec : ChangeSpec := { name := "hyperParts", fn := fun _ => fun
  | [d1, d2] => { results := [.lit (.bool true)], args := [d1, d2] }
  | _ => none }
def hyperPartsRow : OpenClaim := { program := "ytjinngfpbmkhaaa", sum := "06868085242536172f34c44b49942e07dd5fac22a8f74d816507ac3ca65bc1dd", func := "bridleway/bridlewaylaw18.HyperParts", spec := "hyperParts", unfollowed := true, recurses := true, plainKeys := false, apart := false }
def HyperPartsSaid : Prop := hyperPartsRow.holds Try.pinned (OpenSpec.ofChange hyperPartsSpec)

/-- ITS FALSE NEIGHBOUR: 'it returns false'. Refute it at one input. -/
def hyperPartsWrong : ChangeSpec := { name := "hyperParts", fn := fun _ => fun
  | [d1, d2] => { results := [.lit (.bool false)], args := [d1, d2] }
  | _ => none }
def HyperPartsWrongFalsely : Prop := hyperPartsRow.holds Try.pinned (OpenSpec.ofChange hyperPartsWrong)

/-- 'bridlewaylaw18.HyperTrees': WHATEVER THE INPUT: true; the input reads as it did. -/
def hyperTreesSpec : ChangeSpec := { name := "hyperTrees", fn := fun _ => fun
  | [d1, d2] => { results := [.lit (.bool true)], args := [d1, d2] }
  | _ => none }
def hyperTreesRow : OpenClaim := { program := "ytjinngfpbmkhaaa", sum := "06868085242536172f34c44b49942e07dd5fac22a8f74d816507ac3ca65bc1dd", func := "bridleway/bridlewaylaw18.HyperTrees", spec := "hyperTrees", unfollowed := true, recurses := true, plainKeys := false, apart := false }
def HyperTreesSaid : Prop := hyperTreesRow.holds Try.pinned (OpenSpec.ofChange hyperTreesSpec)

/-- ITS FALSE NEIGHBOUR: 'it returns false'. Refute it at one input. -/
def hyperTreesWrong : ChangeSpec := { name := "hyperTrees", fn := fun _ => fun
  | [d1, d2] => { results := [.lit (.bool false)], args := [d1, d2] }
  | _ => none }
def HyperTreesWrongFalsely : Prop := hyperTreesRow.holds Try.pinned (OpenSpec.ofChange hyperTreesWrong)

/-- 'bridlewaylaw17.AutoMany': WHATEVER THE INPUT: true; the input reads as it did. -/
def autoManySpec : ChangeSpec := { name := "autoMany", fn := fun _ => fun
  | [d] => { results := [.lit (.bool true)], args := [d] }
  | _ => none }
def autoManyRow : OpenClaim := { program := "ytjinngfpbmkhaaa", sum := "06868085242536172f34c44b49942e07dd5fac22a8f74d816507ac3ca65bc1dd", func := "bridleway/bridlewaylaw17.AutoMany", spec := "autoMany", unfollowed := true, recurses := true, plainKeys := false, apart := false }
def AutoManySaid : Prop := autoManyRow.holds Try.pinned (OpenSpec.ofChange autoManySpec)

/-- ITS FALSE NEIGHBOUR: 'it returns false'. Refute it at one input. -/
def autoManyWrong : ChangeSpec := { name := "autoMany", fn := fun _ => fun
  | [d] => { results := [.lit (.bool false)], args := [d] }
  | _ => none }
def AutoManyWrongFalsely : Prop := autoManyRow.holds Try.pinned (OpenSpec.ofChange autoManyWrong)

/-- 'bridlewaylaw17.AutoCounts': WHATEVER THE INPUT: true; the input reads as it did. -/
def autoCountsSpec : ChangeSpec := { name := "autoCounts", fn := fun _ => fun
  | [d1, d2] => { results := [.lit (.bool true)], args := [d1, d2] }
  | _ => none }
def autoCountsRow : OpenClaim := { program := "ytjinngfpbmkhaaa", sum := "06868085242536172f34c44b49942e07dd5fac22a8f74d816507ac3ca65bc1dd", func := "bridleway/bridlewaylaw17.AutoCounts", spec := "autoCounts", unfollowed := true, recurses := true, plainKeys := false, apart := false }
def AutoCountsSaid : Prop := autoCountsRow.holds Try.pinned (OpenSpec.ofChange autoCountsSpec)

/-- ITS FALSE NEIGHBOUR: 'it returns false'. Refute it at one input. -/
def autoCountsWrong : ChangeSpec := { name := "autoCounts", fn := fun _ => fun
  | [d1, d2] => { results := [.lit (.bool false)], args := [d1, d2] }
  | _ => none }
def AutoCountsWrongFalsely : Prop := autoCountsRow.holds Try.pinned (OpenSpec.ofChange autoCountsWrong)

/-- 'bridlewaylaw17.AutoFirst': WHATEVER THE INPUT: true; the input reads as it did. -/
def autoFirstSpec : ChangeSpec := { name := "autoFirst", fn := fun _ => fun
  | [d1, d2] => { results := [.lit (.bool true)], args := [d1, d2] }
  | _ => none }
def autoFirstRow : OpenClaim := { program := "ytjinngfpbmkhaaa", sum := "06868085242536172f34c44b49942e07dd5fac22a8f74d816507ac3ca65bc1dd", func := "bridleway/bridlewaylaw17.AutoFirst", spec := "autoFirst", unfollowed := true, recurses := true, plainKeys := false, apart := false }
def AutoFirstSaid : Prop := autoFirstRow.holds Try.pinned (OpenSpec.ofChange autoFirstSpec)

/-- ITS FALSE NEIGHBOUR: 'it returns false'. Refute it at one input. -/
def autoFirstWrong : ChangeSpec := { name := "autoFirst", fn := fun _ => fun
  | [d1, d2] => { results := [.lit (.bool false)], args := [d1, d2] }
  | _ => none }
def AutoFirstWrongFalsely : Prop := autoFirstRow.holds Try.pinned (OpenSpec.ofChange autoFirstWrong)

/-- 'bridlewaylaw16.MiniKeeps': WHATEVER THE INPUT: true; the input reads as it did. -/
def miniKeepsSpec : ChangeSpec := { name := "miniKeeps", fn := fun _ => fun
  | [d1, d2] => { results := [.lit (.bool true)], args := [d1, d2] }
  | _ => none }
def miniKeepsRow : OpenClaim := { program := "ytjinngfpbmkhaaa", sum := "06868085242536172f34c44b49942e07dd5fac22a8f74d816507ac3ca65bc1dd", func := "bridleway/bridlewaylaw16.MiniKeeps", spec := "miniKeeps", unfollowed := true, recurses := true, plainKeys := false, apart := false }
def MiniKeepsSaid : Prop := miniKeepsRow.holds Try.pinned (OpenSpec.ofChange miniKeepsSpec)

/-- ITS FALSE NEIGHBOUR: 'it returns false'. Refute it at one input. -/
def miniKeepsWrong : ChangeSpec := { name := "miniKeeps", fn := fun _ => fun
  | [d1, d2] => { results := [.lit (.bool false)], args := [d1, d2] }
  | _ => none }
def MiniKeepsWrongFalsely : Prop := miniKeepsRow.holds Try.pinned (OpenSpec.ofChange miniKeepsWrong)

/-- 'bridlewaylaw16.MiniTwice': WHATEVER THE INPUT: true; the input reads as it did. -/
def miniTwiceSpec : ChangeSpec := { name := "miniTwice", fn := fun _ => fun
  | [d] => { results := [.lit (.bool true)], args := [d] }
  | _ => none }
def miniTwiceRow : OpenClaim := { program := "ytjinngfpbmkhaaa", sum := "06868085242536172f34c44b49942e07dd5fac22a8f74d816507ac3ca65bc1dd", func := "bridleway/bridlewaylaw16.MiniTwice", spec := "miniTwice", unfollowed := true, recurses := true, loops := true, plainKeys := false, apart := false }
def MiniTwiceSaid : Prop := miniTwiceRow.holds Try.pinned (OpenSpec.ofChange miniTwiceSpec)

/-- ITS FALSE NEIGHBOUR: 'it returns false'. Refute it at one input. -/
def miniTwiceWrong : ChangeSpec := { name := "miniTwice", fn := fun _ => fun
  | [d] => { results := [.lit (.bool false)], args := [d] }
  | _ => none }
def MiniTwiceWrongFalsely : Prop := miniTwiceRow.holds Try.pinned (OpenSpec.ofChange miniTwiceWrong)

/-- 'bridlewaylaw16.MiniMakes': WHATEVER THE INPUT: true; the input reads as it did. -/
def miniMakesSpec : ChangeSpec := { name := "miniMakes", fn := fun _ => fun
  | [d] => { results := [.lit (.bool true)], args := [d] }
  | _ => none }
def miniMakesRow : OpenClaim := { program := "ytjinngfpbmkhaaa", sum := "06868085242536172f34c44b49942e07dd5fac22a8f74d816507ac3ca65bc1dd", func := "bridleway/bridlewaylaw16.MiniMakes", spec := "miniMakes", unfollowed := true, recurses := true, plainKeys := false, apart := false }
def MiniMakesSaid : Prop := miniMakesRow.holds Try.pinned (OpenSpec.ofChange miniMakesSpec)

/-- ITS FALSE NEIGHBOUR: 'it returns false'. Refute it at one input. -/
def miniMakesWrong : ChangeSpec := { name := "miniMakes", fn := fun _ => fun
  | [d] => { results := [.lit (.bool false)], args := [d] }
  | _ => none }
def MiniMakesWrongFalsely : Prop := miniMakesRow.holds Try.pinned (OpenSpec.ofChange miniMakesWrong)

/- THE SECOND FORM. 'bulk': how many values and letters a reading holds, each counted each time it is reached (what is shared counts as often as it is met; a slice's spare places count too). A statement '..UptoSaid' is the law's where the arguments, and the package variables that the reading takes, are together of bulk at most 1048576: NARROWER than '..Said'. Prove '..Said' where nothing that the law and all that it calls make is longer than what came in: it says more and counts as full. Else prove '..UptoSaid'. A law counts once. -/
mutual
def uptoBulk {H : Type} : DataW H → Nat
  | .lit (.string bytes) => bytes.length + 1
  | .lit _ => 1
  | .nil => 1
  | .ptr d => uptoBulk d + 1
  | .slice elems spare => uptoBulkAll elems + uptoBulkAll spare + 1
  | .agg parts => uptoBulkAll parts + 1
  | .iface _ d => uptoBulk d + 1
  | .map entries => uptoBulkEntries entries + 1
  | .held _ => 1
def uptoBulkAll {H : Type} : List (DataW H) → Nat
  | [] => 0
  | d :: r => uptoBulk d + uptoBulkAll r
def uptoBulkEntries {H : Type} : List (Lit × DataW H) → Nat
  | [] => 0
  | x :: r => uptoBulkEntry x + uptoBulkEntries r
def uptoBulkEntry {H : Type} : Lit × DataW H → Nat
  | (.string bytes, d) => bytes.length + uptoBulk d + 1
  | (_, d) => uptoBulk d + 1
 end
def uptoSmall : (H : Type) → List (DataW H) → Bool := fun _ ds => decide (uptoBulkAll ds ≤ 1048576)
def OpenSpec.upto (s : _root_.Go.ChangeSpec) : _root_.Go.OpenSpec := { _root_.Go.OpenSpec.ofChange s with cond := some uptoSmall }

/-- 'bridlewaylaw18.HyperJoins', WHERE WHAT IT READS IS OF BULK AT MOST 1048576: true; the input reads as it did. -/
def hyperJoinsUptoRow : OpenClaim := { program := "ytjinngfpbmkhaaa", sum := "06868085242536172f34c44b49942e07dd5fac22a8f74d816507ac3ca65bc1dd", func := "bridleway/bridlewaylaw18.HyperJoins", spec := "hyperJoins", unfollowed := true, recurses := true, plainKeys := false, apart := false, narrowed := true }
def HyperJoinsUptoSaid : Prop := hyperJoinsUptoRow.holds Try.pinned (OpenSpec.upto hyperJoinsSpec)

/-- 'bridlewaylaw18.HyperParts', WHERE WHAT IT READS IS OF BULK AT MOST 1048576: true; the input reads as it did. -/
def hyperPartsUptoRow : OpenClaim := { program := "ytjinngfpbmkhaaa", sum := "06868085242536172f34c44b49942e07dd5fac22a8f74d816507ac3ca65bc1dd", func := "bridleway/bridlewaylaw18.HyperParts", spec := "hyperParts", unfollowed := true, recurses := true, plainKeys := false, apart := false, narrowed := true }
def HyperPartsUptoSaid : Prop := hyperPartsUptoRow.holds Try.pinned (OpenSpec.upto hyperPartsSpec)

/-- 'bridlewaylaw18.HyperTrees', WHERE WHAT IT READS IS OF BULK AT MOST 1048576: true; the input reads as it did. -/
def hyperTreesUptoRow : OpenClaim := { program := "ytjinngfpbmkhaaa", sum := "06868085242536172f34c44b49942e07dd5fac22a8f74d816507ac3ca65bc1dd", func := "bridleway/bridlewaylaw18.HyperTrees", spec := "hyperTrees", unfollowed := true, recurses := true, plainKeys := false, apart := false, narrowed := true }
def HyperTreesUptoSaid : Prop := hyperTreesUptoRow.holds Try.pinned (OpenSpec.upto hyperTreesSpec)

/-- 'bridlewaylaw17.AutoMany', WHERE WHAT IT READS IS OF BULK AT MOST 1048576: true; the input reads as it did. -/
def autoManyUptoRow : OpenClaim := { program := "ytjinngfpbmkhaaa", sum := "06868085242536172f34c44b49942e07dd5fac22a8f74d816507ac3ca65bc1dd", func := "bridleway/bridlewaylaw17.AutoMany", spec := "autoMany", unfollowed := true, recurses := true, plainKeys := false, apart := false, narrowed := true }
def AutoManyUptoSaid : Prop := autoManyUptoRow.holds Try.pinned (OpenSpec.upto autoManySpec)

/-- 'bridlewaylaw17.AutoCounts', WHERE WHAT IT READS IS OF BULK AT MOST 1048576: true; the input reads as it did. -/
def autoCountsUptoRow : OpenClaim := { program := "ytjinngfpbmkhaaa", sum := "06868085242536172f34c44b49942e07dd5fac22a8f74d816507ac3ca65bc1dd", func := "bridleway/bridlewaylaw17.AutoCounts", spec := "autoCounts", unfollowed := true, recurses := true, plainKeys := false, apart := false, narrowed := true }
def AutoCountsUptoSaid : Prop := autoCountsUptoRow.holds Try.pinned (OpenSpec.upto autoCountsSpec)

/-- 'bridlewaylaw17.AutoFirst', WHERE WHAT IT READS IS OF BULK AT MOST 1048576: true; the input reads as it did. -/
def autoFirstUptoRow : OpenClaim := { program := "ytjinngfpbmkhaaa", sum := "06868085242536172f34c44b49942e07dd5fac22a8f74d816507ac3ca65bc1dd", func := "bridleway/bridlewaylaw17.AutoFirst", spec := "autoFirst", unfollowed := true, recurses := true, plainKeys := false, apart := false, narrowed := true }
def AutoFirstUptoSaid : Prop := autoFirstUptoRow.holds Try.pinned (OpenSpec.upto autoFirstSpec)

/-- 'bridlewaylaw16.MiniKeeps', WHERE WHAT IT READS IS OF BULK AT MOST 1048576: true; the input reads as it did. -/
def miniKeepsUptoRow : OpenClaim := { program := "ytjinngfpbmkhaaa", sum := "06868085242536172f34c44b49942e07dd5fac22a8f74d816507ac3ca65bc1dd", func := "bridleway/bridlewaylaw16.MiniKeeps", spec := "miniKeeps", unfollowed := true, recurses := true, plainKeys := false, apart := false, narrowed := true }
def MiniKeepsUptoSaid : Prop := miniKeepsUptoRow.holds Try.pinned (OpenSpec.upto miniKeepsSpec)

/-- 'bridlewaylaw16.MiniTwice', WHERE WHAT IT READS IS OF BULK AT MOST 1048576: true; the input reads as it did. -/
def miniTwiceUptoRow : OpenClaim := { program := "ytjinngfpbmkhaaa", sum := "06868085242536172f34c44b49942e07dd5fac22a8f74d816507ac3ca65bc1dd", func := "bridleway/bridlewaylaw16.MiniTwice", spec := "miniTwice", unfollowed := true, recurses := true, loops := true, plainKeys := false, apart := false, narrowed := true }
def MiniTwiceUptoSaid : Prop := miniTwiceUptoRow.holds Try.pinned (OpenSpec.upto miniTwiceSpec)

/-- 'bridlewaylaw16.MiniMakes', WHERE WHAT IT READS IS OF BULK AT MOST 1048576: true; the input reads as it did. -/
def miniMakesUptoRow : OpenClaim := { program := "ytjinngfpbmkhaaa", sum := "06868085242536172f34c44b49942e07dd5fac22a8f74d816507ac3ca65bc1dd", func := "bridleway/bridlewaylaw16.MiniMakes", spec := "miniMakes", unfollowed := true, recurses := true, plainKeys := false, apart := false, narrowed := true }
def MiniMakesUptoSaid : Prop := miniMakesUptoRow.holds Try.pinned (OpenSpec.upto miniMakesSpec)

end Rows
end Go.Proofs.Ytjinngfpbmkhaaa
