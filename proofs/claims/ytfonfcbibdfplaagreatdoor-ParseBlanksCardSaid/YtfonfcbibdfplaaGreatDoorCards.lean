/-
  DERIVED. GIVEN WITH THE SEED: THE CARDS: each row of YtfonfcbibdfplaaGreatDoorRows.lean that lists a variable, with what it lists TIED to the program's text (the seventh form; the later family's looks); each row that meets fmt, with fmt's text TOLD by the authors' own Lean function (tested against real Go, not proved from fmt's source: count such statements apart). THE CARD IS WHAT COUNTS. Prove the row's statement (the work); the ties are given (YtfonfcbibdfplaaGreatDoorTie.lean); close each card by the builder's one call (the guide's Derived/Test/ToyasCard.lean, 'card_holds'). Laid BY PROGRAM, IN A SANDBOX (cutbox-door.mjs). By AI agents, Wed Nov 11 2026. No macro, syntax, notation, axiom, sorry.
-/
import Derived.Test.YtfonfcbibdfplaaGreatDoorRows
import GoSem.ClaimSeven
namespace Go.Proofs.YtfonfcbibdfplaaGreatDoor
namespace Rows

/-- THE TIED CARD OF 'carryalllaw13.OriginTells'. -/
def originTellsCard : Claim7 := { stood := { row := originTellsRow, standIns := [], harness := (true, "c4ce527565f2037302aefd59deb2480d5bfc904463843d69433df8a83d9472fe"), looks := true }, kinds := [], alts := [], laidByText := true, laidKinds := [.data, .data, .data, .data, .sentinel, .sentinel, .pinned], laidTests := true, laidLooks := .later }
def OriginTellsCardSaid : Prop := Claim7.holds Tryz.pinned (.plain (OpenSpec.ofChange originTellsSpec)) originTellsCard

/-- THE TIED CARD OF 'carryalllaw13.OriginSame'. -/
def originSameCard : Claim7 := { stood := { row := originSameRow, standIns := [], harness := (true, "c4ce527565f2037302aefd59deb2480d5bfc904463843d69433df8a83d9472fe"), looks := true }, kinds := [], alts := [], laidByText := true, laidKinds := [.data, .data, .data, .data, .sentinel, .sentinel, .pinned], laidTests := true, laidLooks := .later }
def OriginSameCardSaid : Prop := Claim7.holds Tryz.pinned (.plain (OpenSpec.ofChange originSameSpec)) originSameCard

/-- THE TIED CARD OF 'carryalllaw13.OriginBlobs'. -/
def originBlobsCard : Claim7 := { stood := { row := originBlobsRow, standIns := [], harness := (true, "c4ce527565f2037302aefd59deb2480d5bfc904463843d69433df8a83d9472fe"), looks := true }, kinds := [], alts := [], laidByText := true, laidKinds := [.data, .data, .data, .data, .sentinel, .sentinel, .pinned], laidTests := true, laidLooks := .later }
def OriginBlobsCardSaid : Prop := Claim7.holds Tryz.pinned (.plain (OpenSpec.ofChange originBlobsSpec)) originBlobsCard

/-- THE TIED CARD OF 'carryalllaw12.ParseReads'. -/
def parseReadsCard : Claim7 := { stood := { row := parseReadsRow, standIns := [], harness := (true, "c4ce527565f2037302aefd59deb2480d5bfc904463843d69433df8a83d9472fe"), looks := true }, kinds := [], alts := [], laidByText := true, laidKinds := [.data, .data, .data, .data, .sentinel, .sentinel, .pinned], laidTests := true, laidLooks := .later }
def ParseReadsCardSaid : Prop := Claim7.holds Tryz.pinned (.plain (OpenSpec.ofChange parseReadsSpec)) parseReadsCard

/-- THE TIED CARD OF 'carryalllaw12.ParseBeside'. -/
def parseBesideCard : Claim7 := { stood := { row := parseBesideRow, standIns := [], harness := (true, "c4ce527565f2037302aefd59deb2480d5bfc904463843d69433df8a83d9472fe"), looks := true }, kinds := [], alts := [], laidByText := true, laidKinds := [.data, .data, .data, .data, .sentinel, .sentinel, .pinned], laidTests := true, laidLooks := .later }
def ParseBesideCardSaid : Prop := Claim7.holds Tryz.pinned (.plain (OpenSpec.ofChange parseBesideSpec)) parseBesideCard

/-- THE TIED CARD OF 'carryalllaw12.ParseLong'. -/
def parseLongCard : Claim7 := { stood := { row := parseLongRow, standIns := [], harness := (true, "c4ce527565f2037302aefd59deb2480d5bfc904463843d69433df8a83d9472fe"), looks := true }, kinds := [], alts := [], laidByText := true, laidKinds := [.data, .data, .data, .data, .sentinel, .sentinel, .pinned], laidTests := true, laidLooks := .later }
def ParseLongCardSaid : Prop := Claim7.holds Tryz.pinned (.plain (OpenSpec.ofChange parseLongSpec)) parseLongCard

/-- THE TIED CARD OF 'carryalllaw12.ParseSelf'. -/
def parseSelfCard : Claim7 := { stood := { row := parseSelfRow, standIns := [], harness := (true, "c4ce527565f2037302aefd59deb2480d5bfc904463843d69433df8a83d9472fe"), looks := true }, kinds := [], alts := [], laidByText := true, laidKinds := [.data, .data, .data, .data, .sentinel, .sentinel, .pinned], laidTests := true, laidLooks := .later }
def ParseSelfCardSaid : Prop := Claim7.holds Tryz.pinned (.plain (OpenSpec.ofChange parseSelfSpec)) parseSelfCard

/-- THE TIED CARD OF 'carryalllaw12.ParseBack'. -/
def parseBackCard : Claim7 := { stood := { row := parseBackRow, standIns := [], harness := (true, "c4ce527565f2037302aefd59deb2480d5bfc904463843d69433df8a83d9472fe"), looks := true }, kinds := [], alts := [], laidByText := true, laidKinds := [.data, .data, .data, .data, .sentinel, .sentinel, .pinned], laidTests := true, laidLooks := .later }
def ParseBackCardSaid : Prop := Claim7.holds Tryz.pinned (.plain (OpenSpec.ofChange parseBackSpec)) parseBackCard

/-- THE TIED CARD OF 'carryalllaw12.ParseBases'. -/
def parseBasesCard : Claim7 := { stood := { row := parseBasesRow, standIns := [], harness := (true, "c4ce527565f2037302aefd59deb2480d5bfc904463843d69433df8a83d9472fe"), looks := true }, kinds := [], alts := [], laidByText := true, laidKinds := [.data, .data, .data, .data, .sentinel, .sentinel, .pinned], laidTests := true, laidLooks := .later }
def ParseBasesCardSaid : Prop := Claim7.holds Tryz.pinned (.plain (OpenSpec.ofChange parseBasesSpec)) parseBasesCard

/-- THE TIED CARD OF 'carryalllaw12.ParseBlanks'. -/
def parseBlanksCard : Claim7 := { stood := { row := parseBlanksRow, standIns := [], harness := (true, "c4ce527565f2037302aefd59deb2480d5bfc904463843d69433df8a83d9472fe"), looks := true }, kinds := [], alts := [], laidByText := true, laidKinds := [.data, .data, .data, .data, .sentinel, .sentinel, .pinned], laidTests := true, laidLooks := .later }
def ParseBlanksCardSaid : Prop := Claim7.holds Tryz.pinned (.plain (OpenSpec.ofChange parseBlanksSpec)) parseBlanksCard

/-- THE TIED CARD OF 'carryalllaw12.ParseQueries'. -/
def parseQueriesCard : Claim7 := { stood := { row := parseQueriesRow, standIns := [], harness := (true, "c4ce527565f2037302aefd59deb2480d5bfc904463843d69433df8a83d9472fe"), looks := true }, kinds := [], alts := [], laidByText := true, laidKinds := [.data, .data, .data, .data, .sentinel, .sentinel, .pinned], laidTests := true, laidLooks := .later }
def ParseQueriesCardSaid : Prop := Claim7.holds Tryz.pinned (.plain (OpenSpec.ofChange parseQueriesSpec)) parseQueriesCard

/-- THE SECOND FORM's CARD OF 'carryalllaw13.OriginTells'. -/
def originTellsUptoCard : Claim7 := { stood := { row := originTellsUptoRow, standIns := [], harness := (true, "c4ce527565f2037302aefd59deb2480d5bfc904463843d69433df8a83d9472fe"), looks := true }, kinds := [], alts := [], laidByText := true, laidKinds := [.data, .data, .data, .data, .sentinel, .sentinel, .pinned], laidTests := true, laidLooks := .later }
def OriginTellsUptoCardSaid : Prop := Claim7.holds Tryz.pinned (.plain (OpenSpec.upto originTellsSpec)) originTellsUptoCard

/-- THE SECOND FORM's CARD OF 'carryalllaw13.OriginSame'. -/
def originSameUptoCard : Claim7 := { stood := { row := originSameUptoRow, standIns := [], harness := (true, "c4ce527565f2037302aefd59deb2480d5bfc904463843d69433df8a83d9472fe"), looks := true }, kinds := [], alts := [], laidByText := true, laidKinds := [.data, .data, .data, .data, .sentinel, .sentinel, .pinned], laidTests := true, laidLooks := .later }
def OriginSameUptoCardSaid : Prop := Claim7.holds Tryz.pinned (.plain (OpenSpec.upto originSameSpec)) originSameUptoCard

/-- THE SECOND FORM's CARD OF 'carryalllaw13.OriginBlobs'. -/
def originBlobsUptoCard : Claim7 := { stood := { row := originBlobsUptoRow, standIns := [], harness := (true, "c4ce527565f2037302aefd59deb2480d5bfc904463843d69433df8a83d9472fe"), looks := true }, kinds := [], alts := [], laidByText := true, laidKinds := [.data, .data, .data, .data, .sentinel, .sentinel, .pinned], laidTests := true, laidLooks := .later }
def OriginBlobsUptoCardSaid : Prop := Claim7.holds Tryz.pinned (.plain (OpenSpec.upto originBlobsSpec)) originBlobsUptoCard

/-- THE SECOND FORM's CARD OF 'carryalllaw12.ParseReads'. -/
def parseReadsUptoCard : Claim7 := { stood := { row := parseReadsUptoRow, standIns := [], harness := (true, "c4ce527565f2037302aefd59deb2480d5bfc904463843d69433df8a83d9472fe"), looks := true }, kinds := [], alts := [], laidByText := true, laidKinds := [.data, .data, .data, .data, .sentinel, .sentinel, .pinned], laidTests := true, laidLooks := .later }
def ParseReadsUptoCardSaid : Prop := Claim7.holds Tryz.pinned (.plain (OpenSpec.upto parseReadsSpec)) parseReadsUptoCard

/-- THE SECOND FORM's CARD OF 'carryalllaw12.ParseBeside'. -/
def parseBesideUptoCard : Claim7 := { stood := { row := parseBesideUptoRow, standIns := [], harness := (true, "c4ce527565f2037302aefd59deb2480d5bfc904463843d69433df8a83d9472fe"), looks := true }, kinds := [], alts := [], laidByText := true, laidKinds := [.data, .data, .data, .data, .sentinel, .sentinel, .pinned], laidTests := true, laidLooks := .later }
def ParseBesideUptoCardSaid : Prop := Claim7.holds Tryz.pinned (.plain (OpenSpec.upto parseBesideSpec)) parseBesideUptoCard

/-- THE SECOND FORM's CARD OF 'carryalllaw12.ParseLong'. -/
def parseLongUptoCard : Claim7 := { stood := { row := parseLongUptoRow, standIns := [], harness := (true, "c4ce527565f2037302aefd59deb2480d5bfc904463843d69433df8a83d9472fe"), looks := true }, kinds := [], alts := [], laidByText := true, laidKinds := [.data, .data, .data, .data, .sentinel, .sentinel, .pinned], laidTests := true, laidLooks := .later }
def ParseLongUptoCardSaid : Prop := Claim7.holds Tryz.pinned (.plain (OpenSpec.upto parseLongSpec)) parseLongUptoCard

/-- THE SECOND FORM's CARD OF 'carryalllaw12.ParseSelf'. -/
def parseSelfUptoCard : Claim7 := { stood := { row := parseSelfUptoRow, standIns := [], harness := (true, "c4ce527565f2037302aefd59deb2480d5bfc904463843d69433df8a83d9472fe"), looks := true }, kinds := [], alts := [], laidByText := true, laidKinds := [.data, .data, .data, .data, .sentinel, .sentinel, .pinned], laidTests := true, laidLooks := .later }
def ParseSelfUptoCardSaid : Prop := Claim7.holds Tryz.pinned (.plain (OpenSpec.upto parseSelfSpec)) parseSelfUptoCard

/-- THE SECOND FORM's CARD OF 'carryalllaw12.ParseBack'. -/
def parseBackUptoCard : Claim7 := { stood := { row := parseBackUptoRow, standIns := [], harness := (true, "c4ce527565f2037302aefd59deb2480d5bfc904463843d69433df8a83d9472fe"), looks := true }, kinds := [], alts := [], laidByText := true, laidKinds := [.data, .data, .data, .data, .sentinel, .sentinel, .pinned], laidTests := true, laidLooks := .later }
def ParseBackUptoCardSaid : Prop := Claim7.holds Tryz.pinned (.plain (OpenSpec.upto parseBackSpec)) parseBackUptoCard

/-- THE SECOND FORM's CARD OF 'carryalllaw12.ParseBases'. -/
def parseBasesUptoCard : Claim7 := { stood := { row := parseBasesUptoRow, standIns := [], harness := (true, "c4ce527565f2037302aefd59deb2480d5bfc904463843d69433df8a83d9472fe"), looks := true }, kinds := [], alts := [], laidByText := true, laidKinds := [.data, .data, .data, .data, .sentinel, .sentinel, .pinned], laidTests := true, laidLooks := .later }
def ParseBasesUptoCardSaid : Prop := Claim7.holds Tryz.pinned (.plain (OpenSpec.upto parseBasesSpec)) parseBasesUptoCard

/-- THE SECOND FORM's CARD OF 'carryalllaw12.ParseBlanks'. -/
def parseBlanksUptoCard : Claim7 := { stood := { row := parseBlanksUptoRow, standIns := [], harness := (true, "c4ce527565f2037302aefd59deb2480d5bfc904463843d69433df8a83d9472fe"), looks := true }, kinds := [], alts := [], laidByText := true, laidKinds := [.data, .data, .data, .data, .sentinel, .sentinel, .pinned], laidTests := true, laidLooks := .later }
def ParseBlanksUptoCardSaid : Prop := Claim7.holds Tryz.pinned (.plain (OpenSpec.upto parseBlanksSpec)) parseBlanksUptoCard

/-- THE SECOND FORM's CARD OF 'carryalllaw12.ParseQueries'. -/
def parseQueriesUptoCard : Claim7 := { stood := { row := parseQueriesUptoRow, standIns := [], harness := (true, "c4ce527565f2037302aefd59deb2480d5bfc904463843d69433df8a83d9472fe"), looks := true }, kinds := [], alts := [], laidByText := true, laidKinds := [.data, .data, .data, .data, .sentinel, .sentinel, .pinned], laidTests := true, laidLooks := .later }
def ParseQueriesUptoCardSaid : Prop := Claim7.holds Tryz.pinned (.plain (OpenSpec.upto parseQueriesSpec)) parseQueriesUptoCard
end Rows
end Go.Proofs.YtfonfcbibdfplaaGreatDoor
