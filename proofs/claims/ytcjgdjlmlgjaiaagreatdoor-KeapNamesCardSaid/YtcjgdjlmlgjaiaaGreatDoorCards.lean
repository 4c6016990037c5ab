/-
  DERIVED. GIVEN WITH THE SEED: THE CARDS: each row of YtcjgdjlmlgjaiaaGreatDoorRows.lean that lists a variable, with what it lists TIED to the program's text (the seventh form; the later family's looks); each row that meets fmt, with fmt's text TOLD by the authors' own Lean function (tested against real Go, not proved from fmt's source: count such statements apart). THE CARD IS WHAT COUNTS. Prove the row's statement (the work); the ties are given (YtcjgdjlmlgjaiaaGreatDoorTie.lean); close each card by the builder's one call (the guide's Derived/Test/ToyasCard.lean, 'card_holds'). Laid BY PROGRAM, IN A SANDBOX (cutbox-door.mjs). By AI agents, Wed Nov 11 2026. No macro, syntax, notation, axiom, sorry.
-/
import Derived.Test.YtcjgdjlmlgjaiaaGreatDoorRows
import GoSem.ClaimSeven
namespace Go.Proofs.YtcjgdjlmlgjaiaaGreatDoor
namespace Rows

/-- THE TIED CARD OF 'glebelaw22.KeapNames'. -/
def keapNamesCard : Claim7 := { stood := { row := keapNamesRow, standIns := [], harness := (true, "841d443b572a95732f681a5514a4a3bad673d5dda9fee52034f45bdc97054c3a"), looks := false }, kinds := [], alts := [], laidByText := true, laidKinds := [.data, .data, .data, .data, .pinned], laidTests := true, laidLooks := .later }
def KeapNamesCardSaid : Prop := Claim7.holds Tryz.pinned (.plain (OpenSpec.ofChange keapNamesSpec)) keapNamesCard

/-- THE SECOND FORM's CARD OF 'glebelaw22.KeapNames'. -/
def keapNamesUptoCard : Claim7 := { stood := { row := keapNamesUptoRow, standIns := [], harness := (true, "841d443b572a95732f681a5514a4a3bad673d5dda9fee52034f45bdc97054c3a"), looks := false }, kinds := [], alts := [], laidByText := true, laidKinds := [.data, .data, .data, .data, .pinned], laidTests := true, laidLooks := .later }
def KeapNamesUptoCardSaid : Prop := Claim7.holds Tryz.pinned (.plain (OpenSpec.upto keapNamesSpec)) keapNamesUptoCard
end Rows
end Go.Proofs.YtcjgdjlmlgjaiaaGreatDoor
