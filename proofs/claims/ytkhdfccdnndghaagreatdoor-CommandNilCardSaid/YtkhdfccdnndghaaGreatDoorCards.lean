/-
  DERIVED. GIVEN WITH THE SEED: THE CARDS: each row of YtkhdfccdnndghaaGreatDoorRows.lean that lists a variable, with what it lists TIED to the program's text (the seventh form; the later family's looks); each row that meets fmt, with fmt's text TOLD by the authors' own Lean function (tested against real Go, not proved from fmt's source: count such statements apart). THE CARD IS WHAT COUNTS. Prove the row's statement (the work); the ties are given (YtkhdfccdnndghaaGreatDoorTie.lean); close each card by the builder's one call (the guide's Derived/Test/ToyasCard.lean, 'card_holds'). Laid BY PROGRAM, IN A SANDBOX (cutbox-door.mjs). By AI agents, Wed Nov 11 2026. No macro, syntax, notation, axiom, sorry.
-/
import Derived.Test.YtkhdfccdnndghaaGreatDoorRows
import GoSem.ClaimSeven
namespace Go.Proofs.YtkhdfccdnndghaaGreatDoor
namespace Rows

/-- THE TIED CARD OF 'oghamlaw24.CommandNil'. -/
def commandNilCard : Claim7 := { stood := { row := commandNilRow, standIns := [], harness := (true, "95d43b16a6d4ed94a69555d752c30d329b0270caf87eb01a5a1ea6eba1711994"), looks := true }, kinds := [], alts := [], laidByText := true, laidKinds := [.data, .data, .data, .data, .sentinel, .sentinel, .pinned], laidTests := true, laidLooks := .later }
def CommandNilCardSaid : Prop := Claim7.holds Tryz.pinned (.plain (OpenSpec.ofChange commandNilSpec)) commandNilCard

/-- THE SECOND FORM's CARD OF 'oghamlaw24.CommandNil'. -/
def commandNilUptoCard : Claim7 := { stood := { row := commandNilUptoRow, standIns := [], harness := (true, "95d43b16a6d4ed94a69555d752c30d329b0270caf87eb01a5a1ea6eba1711994"), looks := true }, kinds := [], alts := [], laidByText := true, laidKinds := [.data, .data, .data, .data, .sentinel, .sentinel, .pinned], laidTests := true, laidLooks := .later }
def CommandNilUptoCardSaid : Prop := Claim7.holds Tryz.pinned (.plain (OpenSpec.upto commandNilSpec)) commandNilUptoCard
end Rows
end Go.Proofs.YtkhdfccdnndghaaGreatDoor
