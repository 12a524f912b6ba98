/-
  DERIVED. GIVEN WITH THE SEED: THE CARDS: each row of YtfejbphkpgdpeaaGreatDoorRows.lean that lists a variable, with what it lists TIED to the program's text (the seventh form; the later family's looks); each row that meets fmt, with fmt's text TOLD by the authors' own Lean function (tested against real Go, not proved from fmt's source: count such statements apart). THE CARD IS WHAT COUNTS. Prove the row's statement (the work); the ties are given (YtfejbphkpgdpeaaGreatDoorTie.lean); close each card by the builder's one call (the guide's Derived/Test/ToyasCard.lean, 'card_holds'). Laid BY PROGRAM, IN A SANDBOX (cutbox-door.mjs). By AI agents, Wed Nov 11 2026. No macro, syntax, notation, axiom, sorry.
-/
import Derived.Test.YtfejbphkpgdpeaaGreatDoorRows
import GoSem.ClaimSeven
namespace Go.Proofs.YtfejbphkpgdpeaaGreatDoor
namespace Rows

/-- THE TIED CARD OF 'carryalllaw14.SortTells'. -/
def sortTellsCard : Claim7 := { stood := { row := sortTellsRow, standIns := [], harness := (true, "20958b22d256683a657519e7f1c8bce1a88497fe311862b2c4943aa1cd044881"), looks := true }, kinds := [], alts := [], laidByText := true, laidKinds := [.data, .data, .data, .data, .sentinel, .sentinel, .pinned], laidTests := true, laidLooks := .later }
def SortTellsCardSaid : Prop := Claim7.holds Tryz.pinned (.plain (OpenSpec.ofChange sortTellsSpec)) sortTellsCard

/-- THE TIED CARD OF 'carryalllaw14.SortTexts'. -/
def sortTextsCard : Claim7 := { stood := { row := sortTextsRow, standIns := [], harness := (true, "20958b22d256683a657519e7f1c8bce1a88497fe311862b2c4943aa1cd044881"), looks := true }, kinds := [], alts := [], laidByText := true, laidKinds := [.data, .data, .data, .data, .sentinel, .sentinel, .pinned], laidTests := true, laidLooks := .later }
def SortTextsCardSaid : Prop := Claim7.holds Tryz.pinned (.plain (OpenSpec.ofChange sortTextsSpec)) sortTextsCard

/-- THE TIED CARD OF 'carryalllaw14.SortNames'. -/
def sortNamesCard : Claim7 := { stood := { row := sortNamesRow, standIns := [], harness := (true, "20958b22d256683a657519e7f1c8bce1a88497fe311862b2c4943aa1cd044881"), looks := true }, kinds := [], alts := [], laidByText := true, laidKinds := [.data, .data, .data, .data, .sentinel, .sentinel, .pinned], laidTests := true, laidLooks := .later }
def SortNamesCardSaid : Prop := Claim7.holds Tryz.pinned (.plain (OpenSpec.ofChange sortNamesSpec)) sortNamesCard

/-- THE SECOND FORM's CARD OF 'carryalllaw14.SortTells'. -/
def sortTellsUptoCard : Claim7 := { stood := { row := sortTellsUptoRow, standIns := [], harness := (true, "20958b22d256683a657519e7f1c8bce1a88497fe311862b2c4943aa1cd044881"), looks := true }, kinds := [], alts := [], laidByText := true, laidKinds := [.data, .data, .data, .data, .sentinel, .sentinel, .pinned], laidTests := true, laidLooks := .later }
def SortTellsUptoCardSaid : Prop := Claim7.holds Tryz.pinned (.plain (OpenSpec.upto sortTellsSpec)) sortTellsUptoCard

/-- THE SECOND FORM's CARD OF 'carryalllaw14.SortTexts'. -/
def sortTextsUptoCard : Claim7 := { stood := { row := sortTextsUptoRow, standIns := [], harness := (true, "20958b22d256683a657519e7f1c8bce1a88497fe311862b2c4943aa1cd044881"), looks := true }, kinds := [], alts := [], laidByText := true, laidKinds := [.data, .data, .data, .data, .sentinel, .sentinel, .pinned], laidTests := true, laidLooks := .later }
def SortTextsUptoCardSaid : Prop := Claim7.holds Tryz.pinned (.plain (OpenSpec.upto sortTextsSpec)) sortTextsUptoCard

/-- THE SECOND FORM's CARD OF 'carryalllaw14.SortNames'. -/
def sortNamesUptoCard : Claim7 := { stood := { row := sortNamesUptoRow, standIns := [], harness := (true, "20958b22d256683a657519e7f1c8bce1a88497fe311862b2c4943aa1cd044881"), looks := true }, kinds := [], alts := [], laidByText := true, laidKinds := [.data, .data, .data, .data, .sentinel, .sentinel, .pinned], laidTests := true, laidLooks := .later }
def SortNamesUptoCardSaid : Prop := Claim7.holds Tryz.pinned (.plain (OpenSpec.upto sortNamesSpec)) sortNamesUptoCard
end Rows
end Go.Proofs.YtfejbphkpgdpeaaGreatDoor
