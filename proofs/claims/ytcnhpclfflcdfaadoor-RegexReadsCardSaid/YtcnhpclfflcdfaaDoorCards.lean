/-
  DERIVED. GIVEN WITH THE SEED: THE CARDS: each row of YtcnhpclfflcdfaaDoorRows.lean that lists a variable, with what it lists TIED to the program's text (the seventh form; the later family's looks); each row that meets fmt, with fmt's text TOLD by the authors' own Lean function (tested against real Go, not proved from fmt's source: count such statements apart). THE CARD IS WHAT COUNTS. Prove the row's statement (the work); the ties are given (YtcnhpclfflcdfaaDoorTie.lean); close each card by the builder's one call (the guide's Derived/Test/ToyasCard.lean, 'card_holds'). Laid BY PROGRAM, IN A SANDBOX (cutbox-door.mjs). By AI agents, Wed Nov 11 2026. No macro, syntax, notation, axiom, sorry.
-/
import Derived.Test.YtcnhpclfflcdfaaDoorRows
import GoSem.ClaimSeven
namespace Go.Proofs.YtcnhpclfflcdfaaDoor
namespace Rows

/-- THE TIED CARD OF 'bridlewaylaw05.ValueBack'. -/
def valueBackCard : Claim7 := { stood := { row := valueBackRow, standIns := [], harness := (true, "98bb0a6998dc92d7e5439f014bd106a2df950a40556a15b8f5e11dea60cafa84"), looks := false }, kinds := [], alts := [], laidByText := true, laidKinds := [.data, .data, .data], laidTests := true, laidLooks := .later }
def ValueBackCardSaid : Prop := Claim7.holds Tryd.pinned (.plain (OpenSpec.ofChange valueBackSpec)) valueBackCard

/-- THE TIED CARD OF 'bridlewaylaw09.LexBack'. -/
def lexBackCard : Claim7 := { stood := { row := lexBackRow, standIns := [], harness := (true, "98bb0a6998dc92d7e5439f014bd106a2df950a40556a15b8f5e11dea60cafa84"), looks := false }, kinds := [], alts := [], laidByText := true, laidKinds := [.data, .data, .data, .listed, .data], laidTests := true, laidLooks := .later }
def LexBackCardSaid : Prop := Claim7.holds Tryd.pinned (.plain (OpenSpec.ofChange lexBackSpec)) lexBackCard

/-- THE TIED CARD OF 'bridlewaylaw09.LexSame'. -/
def lexSameCard : Claim7 := { stood := { row := lexSameRow, standIns := [], harness := (true, "98bb0a6998dc92d7e5439f014bd106a2df950a40556a15b8f5e11dea60cafa84"), looks := false }, kinds := [], alts := [], laidByText := true, laidKinds := [.data, .data, .data, .listed, .data], laidTests := true, laidLooks := .later }
def LexSameCardSaid : Prop := Claim7.holds Tryd.pinned (.plain (OpenSpec.ofChange lexSameSpec)) lexSameCard

/-- THE TIED CARD OF 'bridlewaylaw10.RegexMatches'. -/
def regexMatchesCard : Claim7 := { stood := { row := regexMatchesRow, standIns := [], harness := (true, "98bb0a6998dc92d7e5439f014bd106a2df950a40556a15b8f5e11dea60cafa84"), looks := false }, kinds := [], alts := [], laidByText := true, laidKinds := [.listed, .data], laidTests := true, laidLooks := .later }
def RegexMatchesCardSaid : Prop := Claim7.holds Tryd.pinned (.plain (OpenSpec.ofChange regexMatchesSpec)) regexMatchesCard

/-- THE TIED CARD OF 'bridlewaylaw10.RegexReads'. -/
def regexReadsCard : Claim7 := { stood := { row := regexReadsRow, standIns := [], harness := (true, "98bb0a6998dc92d7e5439f014bd106a2df950a40556a15b8f5e11dea60cafa84"), looks := false }, kinds := [], alts := [], laidByText := true, laidKinds := [.listed, .data], laidTests := true, laidLooks := .later }
def RegexReadsCardSaid : Prop := Claim7.holds Tryd.pinned (.plain (OpenSpec.ofChange regexReadsSpec)) regexReadsCard

/-- THE TIED CARD OF 'bridlewaylaw10.RegexDeep'. -/
def regexDeepCard : Claim7 := { stood := { row := regexDeepRow, standIns := [], harness := (true, "98bb0a6998dc92d7e5439f014bd106a2df950a40556a15b8f5e11dea60cafa84"), looks := false }, kinds := [], alts := [], laidByText := true, laidKinds := [.listed, .data], laidTests := true, laidLooks := .later }
def RegexDeepCardSaid : Prop := Claim7.holds Tryd.pinned (.plain (OpenSpec.ofChange regexDeepSpec)) regexDeepCard

/-- THE TIED CARD OF 'bridlewaylaw10.RegexBegins'. -/
def regexBeginsCard : Claim7 := { stood := { row := regexBeginsRow, standIns := [], harness := (true, "98bb0a6998dc92d7e5439f014bd106a2df950a40556a15b8f5e11dea60cafa84"), looks := false }, kinds := [], alts := [], laidByText := true, laidKinds := [.listed, .data], laidTests := true, laidLooks := .later }
def RegexBeginsCardSaid : Prop := Claim7.holds Tryd.pinned (.plain (OpenSpec.ofChange regexBeginsSpec)) regexBeginsCard

/-- THE TIED CARD OF 'bridlewaylaw10.RegexTurns'. -/
def regexTurnsCard : Claim7 := { stood := { row := regexTurnsRow, standIns := [], harness := (true, "98bb0a6998dc92d7e5439f014bd106a2df950a40556a15b8f5e11dea60cafa84"), looks := false }, kinds := [], alts := [], laidByText := true, laidKinds := [.listed, .data], laidTests := true, laidLooks := .later }
def RegexTurnsCardSaid : Prop := Claim7.holds Tryd.pinned (.plain (OpenSpec.ofChange regexTurnsSpec)) regexTurnsCard

/-- THE TIED CARD OF 'bridlewaylaw10.RegexPrints'. -/
def regexPrintsCard : Claim7 := { stood := { row := regexPrintsRow, standIns := [], harness := (true, "98bb0a6998dc92d7e5439f014bd106a2df950a40556a15b8f5e11dea60cafa84"), looks := false }, kinds := [], alts := [], laidByText := true, laidKinds := [.listed, .data], laidTests := true, laidLooks := .later }
def RegexPrintsCardSaid : Prop := Claim7.holds Tryd.pinned (.plain (OpenSpec.ofChange regexPrintsSpec)) regexPrintsCard

/-- THE TIED CARD OF 'bridlewaylaw10.RegexSyms'. -/
def regexSymsCard : Claim7 := { stood := { row := regexSymsRow, standIns := [], harness := (true, "98bb0a6998dc92d7e5439f014bd106a2df950a40556a15b8f5e11dea60cafa84"), looks := false }, kinds := [], alts := [], laidByText := true, laidKinds := [.listed, .data], laidTests := true, laidLooks := .later }
def RegexSymsCardSaid : Prop := Claim7.holds Tryd.pinned (.plain (OpenSpec.ofChange regexSymsSpec)) regexSymsCard

/-- THE SECOND FORM's CARD OF 'bridlewaylaw05.ValueBack'. -/
def valueBackUptoCard : Claim7 := { stood := { row := valueBackUptoRow, standIns := [], harness := (true, "98bb0a6998dc92d7e5439f014bd106a2df950a40556a15b8f5e11dea60cafa84"), looks := false }, kinds := [], alts := [], laidByText := true, laidKinds := [.data, .data, .data], laidTests := true, laidLooks := .later }
def ValueBackUptoCardSaid : Prop := Claim7.holds Tryd.pinned (.plain (OpenSpec.upto valueBackSpec)) valueBackUptoCard

/-- THE SECOND FORM's CARD OF 'bridlewaylaw09.LexBack'. -/
def lexBackUptoCard : Claim7 := { stood := { row := lexBackUptoRow, standIns := [], harness := (true, "98bb0a6998dc92d7e5439f014bd106a2df950a40556a15b8f5e11dea60cafa84"), looks := false }, kinds := [], alts := [], laidByText := true, laidKinds := [.data, .data, .data, .listed, .data], laidTests := true, laidLooks := .later }
def LexBackUptoCardSaid : Prop := Claim7.holds Tryd.pinned (.plain (OpenSpec.upto lexBackSpec)) lexBackUptoCard

/-- THE SECOND FORM's CARD OF 'bridlewaylaw09.LexSame'. -/
def lexSameUptoCard : Claim7 := { stood := { row := lexSameUptoRow, standIns := [], harness := (true, "98bb0a6998dc92d7e5439f014bd106a2df950a40556a15b8f5e11dea60cafa84"), looks := false }, kinds := [], alts := [], laidByText := true, laidKinds := [.data, .data, .data, .listed, .data], laidTests := true, laidLooks := .later }
def LexSameUptoCardSaid : Prop := Claim7.holds Tryd.pinned (.plain (OpenSpec.upto lexSameSpec)) lexSameUptoCard

/-- THE SECOND FORM's CARD OF 'bridlewaylaw10.RegexMatches'. -/
def regexMatchesUptoCard : Claim7 := { stood := { row := regexMatchesUptoRow, standIns := [], harness := (true, "98bb0a6998dc92d7e5439f014bd106a2df950a40556a15b8f5e11dea60cafa84"), looks := false }, kinds := [], alts := [], laidByText := true, laidKinds := [.listed, .data], laidTests := true, laidLooks := .later }
def RegexMatchesUptoCardSaid : Prop := Claim7.holds Tryd.pinned (.plain (OpenSpec.upto regexMatchesSpec)) regexMatchesUptoCard

/-- THE SECOND FORM's CARD OF 'bridlewaylaw10.RegexReads'. -/
def regexReadsUptoCard : Claim7 := { stood := { row := regexReadsUptoRow, standIns := [], harness := (true, "98bb0a6998dc92d7e5439f014bd106a2df950a40556a15b8f5e11dea60cafa84"), looks := false }, kinds := [], alts := [], laidByText := true, laidKinds := [.listed, .data], laidTests := true, laidLooks := .later }
def RegexReadsUptoCardSaid : Prop := Claim7.holds Tryd.pinned (.plain (OpenSpec.upto regexReadsSpec)) regexReadsUptoCard

/-- THE SECOND FORM's CARD OF 'bridlewaylaw10.RegexDeep'. -/
def regexDeepUptoCard : Claim7 := { stood := { row := regexDeepUptoRow, standIns := [], harness := (true, "98bb0a6998dc92d7e5439f014bd106a2df950a40556a15b8f5e11dea60cafa84"), looks := false }, kinds := [], alts := [], laidByText := true, laidKinds := [.listed, .data], laidTests := true, laidLooks := .later }
def RegexDeepUptoCardSaid : Prop := Claim7.holds Tryd.pinned (.plain (OpenSpec.upto regexDeepSpec)) regexDeepUptoCard

/-- THE SECOND FORM's CARD OF 'bridlewaylaw10.RegexBegins'. -/
def regexBeginsUptoCard : Claim7 := { stood := { row := regexBeginsUptoRow, standIns := [], harness := (true, "98bb0a6998dc92d7e5439f014bd106a2df950a40556a15b8f5e11dea60cafa84"), looks := false }, kinds := [], alts := [], laidByText := true, laidKinds := [.listed, .data], laidTests := true, laidLooks := .later }
def RegexBeginsUptoCardSaid : Prop := Claim7.holds Tryd.pinned (.plain (OpenSpec.upto regexBeginsSpec)) regexBeginsUptoCard

/-- THE SECOND FORM's CARD OF 'bridlewaylaw10.RegexTurns'. -/
def regexTurnsUptoCard : Claim7 := { stood := { row := regexTurnsUptoRow, standIns := [], harness := (true, "98bb0a6998dc92d7e5439f014bd106a2df950a40556a15b8f5e11dea60cafa84"), looks := false }, kinds := [], alts := [], laidByText := true, laidKinds := [.listed, .data], laidTests := true, laidLooks := .later }
def RegexTurnsUptoCardSaid : Prop := Claim7.holds Tryd.pinned (.plain (OpenSpec.upto regexTurnsSpec)) regexTurnsUptoCard

/-- THE SECOND FORM's CARD OF 'bridlewaylaw10.RegexPrints'. -/
def regexPrintsUptoCard : Claim7 := { stood := { row := regexPrintsUptoRow, standIns := [], harness := (true, "98bb0a6998dc92d7e5439f014bd106a2df950a40556a15b8f5e11dea60cafa84"), looks := false }, kinds := [], alts := [], laidByText := true, laidKinds := [.listed, .data], laidTests := true, laidLooks := .later }
def RegexPrintsUptoCardSaid : Prop := Claim7.holds Tryd.pinned (.plain (OpenSpec.upto regexPrintsSpec)) regexPrintsUptoCard

/-- THE SECOND FORM's CARD OF 'bridlewaylaw10.RegexSyms'. -/
def regexSymsUptoCard : Claim7 := { stood := { row := regexSymsUptoRow, standIns := [], harness := (true, "98bb0a6998dc92d7e5439f014bd106a2df950a40556a15b8f5e11dea60cafa84"), looks := false }, kinds := [], alts := [], laidByText := true, laidKinds := [.listed, .data], laidTests := true, laidLooks := .later }
def RegexSymsUptoCardSaid : Prop := Claim7.holds Tryd.pinned (.plain (OpenSpec.upto regexSymsSpec)) regexSymsUptoCard
end Rows
end Go.Proofs.YtcnhpclfflcdfaaDoor
