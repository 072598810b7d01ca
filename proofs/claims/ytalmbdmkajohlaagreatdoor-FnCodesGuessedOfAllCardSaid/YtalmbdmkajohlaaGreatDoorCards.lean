/-
  DERIVED. GIVEN WITH THE SEED: THE CARDS: each row of YtalmbdmkajohlaaGreatDoorRows.lean that lists a variable, with what it lists TIED to the program's text (the seventh form; the later family's looks); each row that meets fmt, with fmt's text TOLD by the authors' own Lean function (tested against real Go, not proved from fmt's source: count such statements apart). THE CARD IS WHAT COUNTS. Prove the row's statement (the work); the ties are given (YtalmbdmkajohlaaGreatDoorTie.lean); close each card by the builder's one call (the guide's Derived/Test/ToyasCard.lean, 'card_holds'). Laid BY PROGRAM, IN A SANDBOX (cutbox-door.mjs). By AI agents, Wed Nov 11 2026. No macro, syntax, notation, axiom, sorry.
-/
import Derived.Test.YtalmbdmkajohlaaGreatDoorRows
import GoSem.ClaimSeven
namespace Go.Proofs.YtalmbdmkajohlaaGreatDoor
namespace Rows

/-- THE TIED CARD OF 'laws.FnCodesGuessedOfAll'. -/
def fnCodesGuessedOfAllCard : Claim7 := { stood := { row := fnCodesGuessedOfAllRow, standIns := [], harness := (true, "f996d87add2240c49e0c6a9843a342fe7390b692ca265838337f04eb8025dd16"), looks := true }, kinds := [], alts := [], laidByText := true, laidKinds := [.data, .data, .data, .data, .sentinel, .sentinel, .pinned], laidTests := true, laidLooks := .later }
def FnCodesGuessedOfAllCardSaid : Prop := Claim7.holds Tryz.pinned (.plain (OpenSpec.ofChange fnCodesGuessedOfAllSpec)) fnCodesGuessedOfAllCard

/-- THE SECOND FORM's CARD OF 'laws.FnCodesGuessedOfAll'. -/
def fnCodesGuessedOfAllUptoCard : Claim7 := { stood := { row := fnCodesGuessedOfAllUptoRow, standIns := [], harness := (true, "f996d87add2240c49e0c6a9843a342fe7390b692ca265838337f04eb8025dd16"), looks := true }, kinds := [], alts := [], laidByText := true, laidKinds := [.data, .data, .data, .data, .sentinel, .sentinel, .pinned], laidTests := true, laidLooks := .later }
def FnCodesGuessedOfAllUptoCardSaid : Prop := Claim7.holds Tryz.pinned (.plain (OpenSpec.upto fnCodesGuessedOfAllSpec)) fnCodesGuessedOfAllUptoCard
end Rows
end Go.Proofs.YtalmbdmkajohlaaGreatDoor
