/-
  DERIVED. GIVEN WITH THE SEED: THE CARDS: each row of YthglocpbdfcfnaaDoorRows.lean that lists a variable, with what it lists TIED to the program's text (the seventh form; the later family's looks); each row that meets fmt, with fmt's text TOLD by the authors' own Lean function (tested against real Go, not proved from fmt's source: count such statements apart). THE CARD IS WHAT COUNTS. Prove the row's statement (the work); the ties are given (YthglocpbdfcfnaaDoorTie.lean); close each card by the builder's one call (the guide's Derived/Test/ToyasCard.lean, 'card_holds'). Laid BY PROGRAM, IN A SANDBOX (cutbox-door.mjs). By AI agents, Wed Nov 11 2026. No macro, syntax, notation, axiom, sorry.
-/
import Derived.Test.YthglocpbdfcfnaaDoorRows
import GoSem.ClaimSeven
namespace Go.Proofs.YthglocpbdfcfnaaDoor
namespace Rows

/-- THE TIED CARD OF 'sporranlaw07.TxWitnesses'. -/
def txWitnessesCard : Claim7 := { stood := { row := txWitnessesRow, standIns := [], harness := (true, "de6b1290c02f50f6b363e6ab06b4bac30d8d56075e9fde0b207d53e6086bd966"), looks := false }, kinds := [], alts := [], laidByText := true, laidKinds := [.data, .data], laidTests := true, laidLooks := .later }
def TxWitnessesCardSaid : Prop := Claim7.holds Tryd.pinned (.plain (OpenSpec.ofChange txWitnessesSpec)) txWitnessesCard

/-- THE TIED CARD OF 'sporranlaw07.TxWrites'. -/
def txWritesCard : Claim7 := { stood := { row := txWritesRow, standIns := [], harness := (true, "de6b1290c02f50f6b363e6ab06b4bac30d8d56075e9fde0b207d53e6086bd966"), looks := false }, kinds := [], alts := [], laidByText := true, laidKinds := [.data, .data], laidTests := true, laidLooks := .later }
def TxWritesCardSaid : Prop := Claim7.holds Tryd.pinned (.plain (OpenSpec.ofChange txWritesSpec)) txWritesCard

/-- THE TIED CARD OF 'sporranlaw08.BlockChecks'. -/
def blockChecksCard : Claim7 := { stood := { row := blockChecksRow, standIns := [], harness := (true, "de6b1290c02f50f6b363e6ab06b4bac30d8d56075e9fde0b207d53e6086bd966"), looks := false }, kinds := [], alts := [], laidByText := true, laidKinds := [.data, .data], laidTests := true, laidLooks := .later }
def BlockChecksCardSaid : Prop := Claim7.holds Tryd.pinned (.plain (OpenSpec.ofChange blockChecksSpec)) blockChecksCard

/-- THE TIED CARD OF 'sporranlaw08.BlockWrites'. -/
def blockWritesCard : Claim7 := { stood := { row := blockWritesRow, standIns := [], harness := (true, "de6b1290c02f50f6b363e6ab06b4bac30d8d56075e9fde0b207d53e6086bd966"), looks := false }, kinds := [], alts := [], laidByText := true, laidKinds := [.data, .data], laidTests := true, laidLooks := .later }
def BlockWritesCardSaid : Prop := Claim7.holds Tryd.pinned (.plain (OpenSpec.ofChange blockWritesSpec)) blockWritesCard

/-- THE SECOND FORM's CARD OF 'sporranlaw07.TxWitnesses'. -/
def txWitnessesUptoCard : Claim7 := { stood := { row := txWitnessesUptoRow, standIns := [], harness := (true, "de6b1290c02f50f6b363e6ab06b4bac30d8d56075e9fde0b207d53e6086bd966"), looks := false }, kinds := [], alts := [], laidByText := true, laidKinds := [.data, .data], laidTests := true, laidLooks := .later }
def TxWitnessesUptoCardSaid : Prop := Claim7.holds Tryd.pinned (.plain (OpenSpec.upto txWitnessesSpec)) txWitnessesUptoCard

/-- THE SECOND FORM's CARD OF 'sporranlaw07.TxWrites'. -/
def txWritesUptoCard : Claim7 := { stood := { row := txWritesUptoRow, standIns := [], harness := (true, "de6b1290c02f50f6b363e6ab06b4bac30d8d56075e9fde0b207d53e6086bd966"), looks := false }, kinds := [], alts := [], laidByText := true, laidKinds := [.data, .data], laidTests := true, laidLooks := .later }
def TxWritesUptoCardSaid : Prop := Claim7.holds Tryd.pinned (.plain (OpenSpec.upto txWritesSpec)) txWritesUptoCard

/-- THE SECOND FORM's CARD OF 'sporranlaw08.BlockChecks'. -/
def blockChecksUptoCard : Claim7 := { stood := { row := blockChecksUptoRow, standIns := [], harness := (true, "de6b1290c02f50f6b363e6ab06b4bac30d8d56075e9fde0b207d53e6086bd966"), looks := false }, kinds := [], alts := [], laidByText := true, laidKinds := [.data, .data], laidTests := true, laidLooks := .later }
def BlockChecksUptoCardSaid : Prop := Claim7.holds Tryd.pinned (.plain (OpenSpec.upto blockChecksSpec)) blockChecksUptoCard

/-- THE SECOND FORM's CARD OF 'sporranlaw08.BlockWrites'. -/
def blockWritesUptoCard : Claim7 := { stood := { row := blockWritesUptoRow, standIns := [], harness := (true, "de6b1290c02f50f6b363e6ab06b4bac30d8d56075e9fde0b207d53e6086bd966"), looks := false }, kinds := [], alts := [], laidByText := true, laidKinds := [.data, .data], laidTests := true, laidLooks := .later }
def BlockWritesUptoCardSaid : Prop := Claim7.holds Tryd.pinned (.plain (OpenSpec.upto blockWritesSpec)) blockWritesUptoCard
end Rows
end Go.Proofs.YthglocpbdfcfnaaDoor
