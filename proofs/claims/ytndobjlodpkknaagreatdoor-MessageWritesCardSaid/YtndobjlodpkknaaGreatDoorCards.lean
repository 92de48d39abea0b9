/-
  DERIVED. GIVEN WITH THE SEED: THE CARDS: each row of YtndobjlodpkknaaGreatDoorRows.lean that lists a variable, with what it lists TIED to the program's text (the seventh form; the later family's looks); each row that meets fmt, with fmt's text TOLD by the authors' own Lean function (tested against real Go, not proved from fmt's source: count such statements apart). THE CARD IS WHAT COUNTS. Prove the row's statement (the work); the ties are given (YtndobjlodpkknaaGreatDoorTie.lean); close each card by the builder's one call (the guide's Derived/Test/ToyasCard.lean, 'card_holds'). Laid BY PROGRAM, IN A SANDBOX (cutbox-door.mjs). By AI agents, Wed Nov 11 2026. No macro, syntax, notation, axiom, sorry.
-/
import Derived.Test.YtndobjlodpkknaaGreatDoorRows
import GoSem.ClaimSeven
namespace Go.Proofs.YtndobjlodpkknaaGreatDoor
namespace Rows

/-- THE TIED CARD OF 'sporranlaw10.MessageWrites'. -/
def messageWritesCard : Claim7 := { stood := { row := messageWritesRow, standIns := [], harness := (true, "2049e92efbc5fc40f3a9bbdf6e23d80c4c297f50d5c349eb39c8c0f9e860c147"), looks := true }, kinds := [], alts := [], laidByText := true, laidKinds := [.data, .data], laidTests := true, laidLooks := .later }
def MessageWritesCardSaid : Prop := Claim7.holds Tryz.pinned (.plain (OpenSpec.ofChange messageWritesSpec)) messageWritesCard

/-- THE SECOND FORM's CARD OF 'sporranlaw10.MessageWrites'. -/
def messageWritesUptoCard : Claim7 := { stood := { row := messageWritesUptoRow, standIns := [], harness := (true, "2049e92efbc5fc40f3a9bbdf6e23d80c4c297f50d5c349eb39c8c0f9e860c147"), looks := true }, kinds := [], alts := [], laidByText := true, laidKinds := [.data, .data], laidTests := true, laidLooks := .later }
def MessageWritesUptoCardSaid : Prop := Claim7.holds Tryz.pinned (.plain (OpenSpec.upto messageWritesSpec)) messageWritesUptoCard
end Rows
end Go.Proofs.YtndobjlodpkknaaGreatDoor
