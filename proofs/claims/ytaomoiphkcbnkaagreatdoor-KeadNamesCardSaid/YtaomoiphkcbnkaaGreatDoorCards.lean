/-
  DERIVED. GIVEN WITH THE SEED: THE CARDS: each row of YtaomoiphkcbnkaaGreatDoorRows.lean that lists a variable, with what it lists TIED to the program's text (the seventh form; the later family's looks); each row that meets fmt, with fmt's text TOLD by the authors' own Lean function (tested against real Go, not proved from fmt's source: count such statements apart). THE CARD IS WHAT COUNTS. Prove the row's statement (the work); the ties are given (YtaomoiphkcbnkaaGreatDoorTie.lean); close each card by the builder's one call (the guide's Derived/Test/ToyasCard.lean, 'card_holds'). Laid BY PROGRAM, IN A SANDBOX (cutbox-door.mjs). By AI agents, Wed Nov 11 2026. No macro, syntax, notation, axiom, sorry.
-/
import Derived.Test.YtaomoiphkcbnkaaGreatDoorRows
import GoSem.ClaimSeven
namespace Go.Proofs.YtaomoiphkcbnkaaGreatDoor
namespace Rows

/-- THE TIED CARD OF 'glebelaw21.KeadNames'. -/
def keadNamesCard : Claim7 := { stood := { row := keadNamesRow, standIns := [], harness := (true, "f1a8ca0e04bf290de7250c8a23b97b6a40d54180e7216309a132cb00d394d4d9"), looks := true }, kinds := [], alts := [], laidByText := true, laidKinds := [.data, .data, .data, .data, .sentinel, .sentinel, .pinned], laidTests := true, laidLooks := .later }
def KeadNamesCardSaid : Prop := Claim7.holds Tryz.pinned (.plain (OpenSpec.ofChange keadNamesSpec)) keadNamesCard

/-- THE SECOND FORM's CARD OF 'glebelaw21.KeadNames'. -/
def keadNamesUptoCard : Claim7 := { stood := { row := keadNamesUptoRow, standIns := [], harness := (true, "f1a8ca0e04bf290de7250c8a23b97b6a40d54180e7216309a132cb00d394d4d9"), looks := true }, kinds := [], alts := [], laidByText := true, laidKinds := [.data, .data, .data, .data, .sentinel, .sentinel, .pinned], laidTests := true, laidLooks := .later }
def KeadNamesUptoCardSaid : Prop := Claim7.holds Tryz.pinned (.plain (OpenSpec.upto keadNamesSpec)) keadNamesUptoCard
end Rows
end Go.Proofs.YtaomoiphkcbnkaaGreatDoor
