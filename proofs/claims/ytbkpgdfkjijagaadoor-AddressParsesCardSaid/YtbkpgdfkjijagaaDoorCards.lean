/-
  DERIVED. GIVEN WITH THE SEED: THE CARDS: each row of YtbkpgdfkjijagaaDoorRows.lean that lists a variable, with what it lists TIED to the program's text (the seventh form; the later family's looks); each row that meets fmt, with fmt's text TOLD by the authors' own Lean function (tested against real Go, not proved from fmt's source: count such statements apart). THE CARD IS WHAT COUNTS. Prove the row's statement (the work); the ties are given (YtbkpgdfkjijagaaDoorTie.lean); close each card by the builder's one call (the guide's Derived/Test/ToyasCard.lean, 'card_holds'). Laid BY PROGRAM, IN A SANDBOX (cutbox-door.mjs). By AI agents, Wed Nov 11 2026. No macro, syntax, notation, axiom, sorry.
-/
import Derived.Test.YtbkpgdfkjijagaaDoorRows
import GoSem.ClaimSeven
namespace Go.Proofs.YtbkpgdfkjijagaaDoor
namespace Rows

/-- THE TIED CARD OF 'sporranlaw14.AddressDigits'. -/
def addressDigitsCard : Claim7 := { stood := { row := addressDigitsRow, standIns := [], harness := (true, "62a5157eb50a17ff6cac11c9eb9764a204e425b4d9722fa22e5668cde2a261e5"), looks := false }, kinds := [], alts := [], laidByText := true, laidKinds := [.data, .pinned], laidTests := true, laidLooks := .later }
def AddressDigitsCardSaid : Prop := Claim7.holds Tryd.pinned (.plain (OpenSpec.ofChange addressDigitsSpec)) addressDigitsCard

/-- THE TIED CARD OF 'sporranlaw14.AddressBase'. -/
def addressBaseCard : Claim7 := { stood := { row := addressBaseRow, standIns := [], harness := (true, "62a5157eb50a17ff6cac11c9eb9764a204e425b4d9722fa22e5668cde2a261e5"), looks := false }, kinds := [], alts := [], laidByText := true, laidKinds := [.data, .pinned], laidTests := true, laidLooks := .later }
def AddressBaseCardSaid : Prop := Claim7.holds Tryd.pinned (.plain (OpenSpec.ofChange addressBaseSpec)) addressBaseCard

/-- THE TIED CARD OF 'sporranlaw14.AddressParses'. -/
def addressParsesCard : Claim7 := { stood := { row := addressParsesRow, standIns := [], harness := (true, "62a5157eb50a17ff6cac11c9eb9764a204e425b4d9722fa22e5668cde2a261e5"), looks := false }, kinds := [], alts := [], laidByText := true, laidKinds := [.data, .data, .data, .pinned], laidTests := true, laidLooks := .later }
def AddressParsesCardSaid : Prop := Claim7.holds Tryd.pinned (.plain (OpenSpec.ofChange addressParsesSpec)) addressParsesCard

/-- THE SECOND FORM's CARD OF 'sporranlaw14.AddressDigits'. -/
def addressDigitsUptoCard : Claim7 := { stood := { row := addressDigitsUptoRow, standIns := [], harness := (true, "62a5157eb50a17ff6cac11c9eb9764a204e425b4d9722fa22e5668cde2a261e5"), looks := false }, kinds := [], alts := [], laidByText := true, laidKinds := [.data, .pinned], laidTests := true, laidLooks := .later }
def AddressDigitsUptoCardSaid : Prop := Claim7.holds Tryd.pinned (.plain (OpenSpec.upto addressDigitsSpec)) addressDigitsUptoCard

/-- THE SECOND FORM's CARD OF 'sporranlaw14.AddressBase'. -/
def addressBaseUptoCard : Claim7 := { stood := { row := addressBaseUptoRow, standIns := [], harness := (true, "62a5157eb50a17ff6cac11c9eb9764a204e425b4d9722fa22e5668cde2a261e5"), looks := false }, kinds := [], alts := [], laidByText := true, laidKinds := [.data, .pinned], laidTests := true, laidLooks := .later }
def AddressBaseUptoCardSaid : Prop := Claim7.holds Tryd.pinned (.plain (OpenSpec.upto addressBaseSpec)) addressBaseUptoCard

/-- THE SECOND FORM's CARD OF 'sporranlaw14.AddressParses'. -/
def addressParsesUptoCard : Claim7 := { stood := { row := addressParsesUptoRow, standIns := [], harness := (true, "62a5157eb50a17ff6cac11c9eb9764a204e425b4d9722fa22e5668cde2a261e5"), looks := false }, kinds := [], alts := [], laidByText := true, laidKinds := [.data, .data, .data, .pinned], laidTests := true, laidLooks := .later }
def AddressParsesUptoCardSaid : Prop := Claim7.holds Tryd.pinned (.plain (OpenSpec.upto addressParsesSpec)) addressParsesUptoCard
end Rows
end Go.Proofs.YtbkpgdfkjijagaaDoor
