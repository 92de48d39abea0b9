/-
  DERIVED. GIVEN WITH THE SEED: THE CARDS: each row of YtifanifgbkpdgaaDoorRows.lean that lists a variable, with what it lists TIED to the program's text (the seventh form; the later family's looks); each row that meets fmt, with fmt's text TOLD by the authors' own Lean function (tested against real Go, not proved from fmt's source: count such statements apart). THE CARD IS WHAT COUNTS. Prove the row's statement (the work); the ties are given (YtifanifgbkpdgaaDoorTie.lean); close each card by the builder's one call (the guide's Derived/Test/ToyasCard.lean, 'card_holds'). Laid BY PROGRAM, IN A SANDBOX (cutbox-door.mjs). By AI agents, Wed Nov 11 2026. No macro, syntax, notation, axiom, sorry.
-/
import Derived.Test.YtifanifgbkpdgaaDoorRows
import GoSem.ClaimSeven
namespace Go.Proofs.YtifanifgbkpdgaaDoor
namespace Rows

/-- THE TIED CARD OF 'sporranlaw08.BlockTwice'. -/
def blockTwiceCard : Claim7 := { stood := { row := blockTwiceRow, standIns := [], harness := (true, "f803ee7cdce80427b461018eddbf989e675b060ed8b00b34314e0142d90ff627"), looks := false }, kinds := [], alts := [], laidByText := true, laidKinds := [.data, .data], laidTests := true, laidLooks := .later }
def BlockTwiceCardSaid : Prop := Claim7.holds Tryd.pinned (.plain (OpenSpec.ofChange blockTwiceSpec)) blockTwiceCard

/-- THE TIED CARD OF 'sporranlaw24.AuditLeads'. -/
def auditLeadsCard : Claim7 := { stood := { row := auditLeadsRow, standIns := [], harness := (true, "f803ee7cdce80427b461018eddbf989e675b060ed8b00b34314e0142d90ff627"), looks := false }, kinds := [], alts := [], laidByText := true, laidKinds := [.data, .data], laidTests := true, laidLooks := .later }
def AuditLeadsCardSaid : Prop := Claim7.holds Tryd.pinned (.plain (OpenSpec.ofChange auditLeadsSpec)) auditLeadsCard

/-- THE TIED CARD OF 'sporranlaw06.HeaderTells'. -/
def headerTellsCard : Claim7 := { stood := { row := headerTellsRow, standIns := [], harness := (true, "f803ee7cdce80427b461018eddbf989e675b060ed8b00b34314e0142d90ff627"), looks := false }, kinds := [], alts := [], laidByText := true, laidKinds := [.data, .data], laidTests := true, laidLooks := .later }
def HeaderTellsCardSaid : Prop := Claim7.holds Tryd.pinned (.plain (OpenSpec.ofChange headerTellsSpec)) headerTellsCard

/-- THE TIED CARD OF 'sporranlaw08.BlockRoots'. -/
def blockRootsCard : Claim7 := { stood := { row := blockRootsRow, standIns := [], harness := (true, "f803ee7cdce80427b461018eddbf989e675b060ed8b00b34314e0142d90ff627"), looks := false }, kinds := [], alts := [], laidByText := true, laidKinds := [.data, .data], laidTests := true, laidLooks := .later }
def BlockRootsCardSaid : Prop := Claim7.holds Tryd.pinned (.plain (OpenSpec.ofChange blockRootsSpec)) blockRootsCard

/-- THE TIED CARD OF 'sporranlaw07.TxWitnesses'. -/
def txWitnessesCard : Claim7 := { stood := { row := txWitnessesRow, standIns := [], harness := (true, "f803ee7cdce80427b461018eddbf989e675b060ed8b00b34314e0142d90ff627"), looks := false }, kinds := [], alts := [], laidByText := true, laidKinds := [.data, .data], laidTests := true, laidLooks := .later }
def TxWitnessesCardSaid : Prop := Claim7.holds Tryd.pinned (.plain (OpenSpec.ofChange txWitnessesSpec)) txWitnessesCard

/-- THE TIED CARD OF 'sporranlaw07.TxWrites'. -/
def txWritesCard : Claim7 := { stood := { row := txWritesRow, standIns := [], harness := (true, "f803ee7cdce80427b461018eddbf989e675b060ed8b00b34314e0142d90ff627"), looks := false }, kinds := [], alts := [], laidByText := true, laidKinds := [.data, .data], laidTests := true, laidLooks := .later }
def TxWritesCardSaid : Prop := Claim7.holds Tryd.pinned (.plain (OpenSpec.ofChange txWritesSpec)) txWritesCard

/-- THE TIED CARD OF 'sporranlaw08.BlockChecks'. -/
def blockChecksCard : Claim7 := { stood := { row := blockChecksRow, standIns := [], harness := (true, "f803ee7cdce80427b461018eddbf989e675b060ed8b00b34314e0142d90ff627"), looks := false }, kinds := [], alts := [], laidByText := true, laidKinds := [.data, .data], laidTests := true, laidLooks := .later }
def BlockChecksCardSaid : Prop := Claim7.holds Tryd.pinned (.plain (OpenSpec.ofChange blockChecksSpec)) blockChecksCard

/-- THE TIED CARD OF 'sporranlaw08.BlockWrites'. -/
def blockWritesCard : Claim7 := { stood := { row := blockWritesRow, standIns := [], harness := (true, "f803ee7cdce80427b461018eddbf989e675b060ed8b00b34314e0142d90ff627"), looks := false }, kinds := [], alts := [], laidByText := true, laidKinds := [.data, .data], laidTests := true, laidLooks := .later }
def BlockWritesCardSaid : Prop := Claim7.holds Tryd.pinned (.plain (OpenSpec.ofChange blockWritesSpec)) blockWritesCard

/-- THE SECOND FORM's CARD OF 'sporranlaw08.BlockTwice'. -/
def blockTwiceUptoCard : Claim7 := { stood := { row := blockTwiceUptoRow, standIns := [], harness := (true, "f803ee7cdce80427b461018eddbf989e675b060ed8b00b34314e0142d90ff627"), looks := false }, kinds := [], alts := [], laidByText := true, laidKinds := [.data, .data], laidTests := true, laidLooks := .later }
def BlockTwiceUptoCardSaid : Prop := Claim7.holds Tryd.pinned (.plain (OpenSpec.upto blockTwiceSpec)) blockTwiceUptoCard

/-- THE SECOND FORM's CARD OF 'sporranlaw24.AuditLeads'. -/
def auditLeadsUptoCard : Claim7 := { stood := { row := auditLeadsUptoRow, standIns := [], harness := (true, "f803ee7cdce80427b461018eddbf989e675b060ed8b00b34314e0142d90ff627"), looks := false }, kinds := [], alts := [], laidByText := true, laidKinds := [.data, .data], laidTests := true, laidLooks := .later }
def AuditLeadsUptoCardSaid : Prop := Claim7.holds Tryd.pinned (.plain (OpenSpec.upto auditLeadsSpec)) auditLeadsUptoCard

/-- THE SECOND FORM's CARD OF 'sporranlaw06.HeaderTells'. -/
def headerTellsUptoCard : Claim7 := { stood := { row := headerTellsUptoRow, standIns := [], harness := (true, "f803ee7cdce80427b461018eddbf989e675b060ed8b00b34314e0142d90ff627"), looks := false }, kinds := [], alts := [], laidByText := true, laidKinds := [.data, .data], laidTests := true, laidLooks := .later }
def HeaderTellsUptoCardSaid : Prop := Claim7.holds Tryd.pinned (.plain (OpenSpec.upto headerTellsSpec)) headerTellsUptoCard

/-- THE SECOND FORM's CARD OF 'sporranlaw08.BlockRoots'. -/
def blockRootsUptoCard : Claim7 := { stood := { row := blockRootsUptoRow, standIns := [], harness := (true, "f803ee7cdce80427b461018eddbf989e675b060ed8b00b34314e0142d90ff627"), looks := false }, kinds := [], alts := [], laidByText := true, laidKinds := [.data, .data], laidTests := true, laidLooks := .later }
def BlockRootsUptoCardSaid : Prop := Claim7.holds Tryd.pinned (.plain (OpenSpec.upto blockRootsSpec)) blockRootsUptoCard

/-- THE SECOND FORM's CARD OF 'sporranlaw07.TxWitnesses'. -/
def txWitnessesUptoCard : Claim7 := { stood := { row := txWitnessesUptoRow, standIns := [], harness := (true, "f803ee7cdce80427b461018eddbf989e675b060ed8b00b34314e0142d90ff627"), looks := false }, kinds := [], alts := [], laidByText := true, laidKinds := [.data, .data], laidTests := true, laidLooks := .later }
def TxWitnessesUptoCardSaid : Prop := Claim7.holds Tryd.pinned (.plain (OpenSpec.upto txWitnessesSpec)) txWitnessesUptoCard

/-- THE SECOND FORM's CARD OF 'sporranlaw07.TxWrites'. -/
def txWritesUptoCard : Claim7 := { stood := { row := txWritesUptoRow, standIns := [], harness := (true, "f803ee7cdce80427b461018eddbf989e675b060ed8b00b34314e0142d90ff627"), looks := false }, kinds := [], alts := [], laidByText := true, laidKinds := [.data, .data], laidTests := true, laidLooks := .later }
def TxWritesUptoCardSaid : Prop := Claim7.holds Tryd.pinned (.plain (OpenSpec.upto txWritesSpec)) txWritesUptoCard

/-- THE SECOND FORM's CARD OF 'sporranlaw08.BlockChecks'. -/
def blockChecksUptoCard : Claim7 := { stood := { row := blockChecksUptoRow, standIns := [], harness := (true, "f803ee7cdce80427b461018eddbf989e675b060ed8b00b34314e0142d90ff627"), looks := false }, kinds := [], alts := [], laidByText := true, laidKinds := [.data, .data], laidTests := true, laidLooks := .later }
def BlockChecksUptoCardSaid : Prop := Claim7.holds Tryd.pinned (.plain (OpenSpec.upto blockChecksSpec)) blockChecksUptoCard

/-- THE SECOND FORM's CARD OF 'sporranlaw08.BlockWrites'. -/
def blockWritesUptoCard : Claim7 := { stood := { row := blockWritesUptoRow, standIns := [], harness := (true, "f803ee7cdce80427b461018eddbf989e675b060ed8b00b34314e0142d90ff627"), looks := false }, kinds := [], alts := [], laidByText := true, laidKinds := [.data, .data], laidTests := true, laidLooks := .later }
def BlockWritesUptoCardSaid : Prop := Claim7.holds Tryd.pinned (.plain (OpenSpec.upto blockWritesSpec)) blockWritesUptoCard
end Rows
end Go.Proofs.YtifanifgbkpdgaaDoor
