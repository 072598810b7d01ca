/-
  DERIVED. GIVEN WITH THE SEED: THE CARDS: each row of YtfginhjgeholcaaGreatDoorRows.lean that lists a variable, with what it lists TIED to the program's text (the seventh form; the later family's looks); each row that meets fmt, with fmt's text TOLD by the authors' own Lean function (tested against real Go, not proved from fmt's source: count such statements apart). THE CARD IS WHAT COUNTS. Prove the row's statement (the work); the ties are given (YtfginhjgeholcaaGreatDoorTie.lean); close each card by the builder's one call (the guide's Derived/Test/ToyasCard.lean, 'card_holds'). Laid BY PROGRAM, IN A SANDBOX (cutbox-door.mjs). By AI agents, Wed Nov 11 2026. No macro, syntax, notation, axiom, sorry.
-/
import Derived.Test.YtfginhjgeholcaaGreatDoorRows
import GoSem.ClaimSeven
namespace Go.Proofs.YtfginhjgeholcaaGreatDoor
namespace Rows

/-- THE TIED CARD OF 'laws.FnCodesGuessed'. -/
def fnCodesGuessedCard : Claim7 := { stood := { row := fnCodesGuessedRow, standIns := [], harness := (true, "78ee23473dfec8ae678d99feb2b8a8c0cd6012889343f8a39bdbcf47cfb6ffee"), looks := true }, kinds := [], alts := [], laidByText := true, laidKinds := [.data, .data, .data, .data, .sentinel, .sentinel, .pinned], laidTests := true, laidLooks := .later }
def FnCodesGuessedCardSaid : Prop := Claim7.holds Tryz.pinned (.plain (OpenSpec.ofChange fnCodesGuessedSpec)) fnCodesGuessedCard

/-- THE SECOND FORM's CARD OF 'laws.FnCodesGuessed'. -/
def fnCodesGuessedUptoCard : Claim7 := { stood := { row := fnCodesGuessedUptoRow, standIns := [], harness := (true, "78ee23473dfec8ae678d99feb2b8a8c0cd6012889343f8a39bdbcf47cfb6ffee"), looks := true }, kinds := [], alts := [], laidByText := true, laidKinds := [.data, .data, .data, .data, .sentinel, .sentinel, .pinned], laidTests := true, laidLooks := .later }
def FnCodesGuessedUptoCardSaid : Prop := Claim7.holds Tryz.pinned (.plain (OpenSpec.upto fnCodesGuessedSpec)) fnCodesGuessedUptoCard
end Rows
end Go.Proofs.YtfginhjgeholcaaGreatDoor
