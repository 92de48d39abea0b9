/-
  DERIVED. GIVEN WITH THE SEED: THE CARDS: each row of YtikjhnbehihbjaaDoorRows.lean that lists a variable, with what it lists TIED to the program's text (the seventh form; the later family's looks); each row that meets fmt, with fmt's text TOLD by the authors' own Lean function (tested against real Go, not proved from fmt's source: count such statements apart). THE CARD IS WHAT COUNTS. Prove the row's statement (the work); the ties are given (YtikjhnbehihbjaaDoorTie.lean); close each card by the builder's one call (the guide's Derived/Test/ToyasCard.lean, 'card_holds'). Laid BY PROGRAM, IN A SANDBOX (cutbox-door.mjs). By AI agents, Wed Nov 11 2026. No macro, syntax, notation, axiom, sorry.
-/
import Derived.Test.YtikjhnbehihbjaaDoorRows
import GoSem.ClaimSeven
namespace Go.Proofs.YtikjhnbehihbjaaDoor
namespace Rows

/-- THE TIED CARD OF 'sporranlaw09.FrameWrites'. -/
def frameWritesCard : Claim7 := { stood := { row := frameWritesRow, standIns := [], harness := (true, "db9449692d055b22483da79235cf24a3af7f3666b6f62738be4b85236d3540f6"), looks := false }, kinds := [], alts := [], laidByText := true, laidKinds := [.data, .data], laidTests := true, laidLooks := .later }
def FrameWritesCardSaid : Prop := Claim7.holds Tryd.pinned (.plain (OpenSpec.ofChange frameWritesSpec)) frameWritesCard

/-- THE TIED CARD OF 'sporranlaw09.FrameFaults'. -/
def frameFaultsCard : Claim7 := { stood := { row := frameFaultsRow, standIns := [], harness := (true, "db9449692d055b22483da79235cf24a3af7f3666b6f62738be4b85236d3540f6"), looks := false }, kinds := [], alts := [], laidByText := true, laidKinds := [.data, .data, .data, .pinned], laidTests := true, laidLooks := .later }
def FrameFaultsCardSaid : Prop := Claim7.holds Tryd.pinned (.plain (OpenSpec.ofChange frameFaultsSpec)) frameFaultsCard

/-- THE TIED CARD OF 'sporranlaw09.FrameSums'. -/
def frameSumsCard : Claim7 := { stood := { row := frameSumsRow, standIns := [], harness := (true, "db9449692d055b22483da79235cf24a3af7f3666b6f62738be4b85236d3540f6"), looks := false }, kinds := [], alts := [], laidByText := true, laidKinds := [.data, .data, .data, .pinned], laidTests := true, laidLooks := .later }
def FrameSumsCardSaid : Prop := Claim7.holds Tryd.pinned (.plain (OpenSpec.ofChange frameSumsSpec)) frameSumsCard

/-- THE TIED CARD OF 'sporranlaw09.FrameNobody'. -/
def frameNobodyCard : Claim7 := { stood := { row := frameNobodyRow, standIns := [], harness := (true, "db9449692d055b22483da79235cf24a3af7f3666b6f62738be4b85236d3540f6"), looks := false }, kinds := [], alts := [], laidByText := true, laidKinds := [.data, .data, .data, .pinned], laidTests := true, laidLooks := .later }
def FrameNobodyCardSaid : Prop := Claim7.holds Tryd.pinned (.plain (OpenSpec.ofChange frameNobodySpec)) frameNobodyCard

/-- THE TIED CARD OF 'sporranlaw09.FrameLives'. -/
def frameLivesCard : Claim7 := { stood := { row := frameLivesRow, standIns := [], harness := (true, "db9449692d055b22483da79235cf24a3af7f3666b6f62738be4b85236d3540f6"), looks := false }, kinds := [], alts := [], laidByText := true, laidKinds := [.data, .data, .data, .pinned], laidTests := true, laidLooks := .later }
def FrameLivesCardSaid : Prop := Claim7.holds Tryd.pinned (.plain (OpenSpec.ofChange frameLivesSpec)) frameLivesCard

/-- THE TIED CARD OF 'sporranlaw09.FrameBack'. -/
def frameBackCard : Claim7 := { stood := { row := frameBackRow, standIns := [], harness := (true, "db9449692d055b22483da79235cf24a3af7f3666b6f62738be4b85236d3540f6"), looks := false }, kinds := [], alts := [], laidByText := true, laidKinds := [.data, .data, .data, .pinned], laidTests := true, laidLooks := .later }
def FrameBackCardSaid : Prop := Claim7.holds Tryd.pinned (.plain (OpenSpec.ofChange frameBackSpec)) frameBackCard

/-- THE SECOND FORM's CARD OF 'sporranlaw09.FrameWrites'. -/
def frameWritesUptoCard : Claim7 := { stood := { row := frameWritesUptoRow, standIns := [], harness := (true, "db9449692d055b22483da79235cf24a3af7f3666b6f62738be4b85236d3540f6"), looks := false }, kinds := [], alts := [], laidByText := true, laidKinds := [.data, .data], laidTests := true, laidLooks := .later }
def FrameWritesUptoCardSaid : Prop := Claim7.holds Tryd.pinned (.plain (OpenSpec.upto frameWritesSpec)) frameWritesUptoCard

/-- THE SECOND FORM's CARD OF 'sporranlaw09.FrameFaults'. -/
def frameFaultsUptoCard : Claim7 := { stood := { row := frameFaultsUptoRow, standIns := [], harness := (true, "db9449692d055b22483da79235cf24a3af7f3666b6f62738be4b85236d3540f6"), looks := false }, kinds := [], alts := [], laidByText := true, laidKinds := [.data, .data, .data, .pinned], laidTests := true, laidLooks := .later }
def FrameFaultsUptoCardSaid : Prop := Claim7.holds Tryd.pinned (.plain (OpenSpec.upto frameFaultsSpec)) frameFaultsUptoCard

/-- THE SECOND FORM's CARD OF 'sporranlaw09.FrameSums'. -/
def frameSumsUptoCard : Claim7 := { stood := { row := frameSumsUptoRow, standIns := [], harness := (true, "db9449692d055b22483da79235cf24a3af7f3666b6f62738be4b85236d3540f6"), looks := false }, kinds := [], alts := [], laidByText := true, laidKinds := [.data, .data, .data, .pinned], laidTests := true, laidLooks := .later }
def FrameSumsUptoCardSaid : Prop := Claim7.holds Tryd.pinned (.plain (OpenSpec.upto frameSumsSpec)) frameSumsUptoCard

/-- THE SECOND FORM's CARD OF 'sporranlaw09.FrameNobody'. -/
def frameNobodyUptoCard : Claim7 := { stood := { row := frameNobodyUptoRow, standIns := [], harness := (true, "db9449692d055b22483da79235cf24a3af7f3666b6f62738be4b85236d3540f6"), looks := false }, kinds := [], alts := [], laidByText := true, laidKinds := [.data, .data, .data, .pinned], laidTests := true, laidLooks := .later }
def FrameNobodyUptoCardSaid : Prop := Claim7.holds Tryd.pinned (.plain (OpenSpec.upto frameNobodySpec)) frameNobodyUptoCard

/-- THE SECOND FORM's CARD OF 'sporranlaw09.FrameLives'. -/
def frameLivesUptoCard : Claim7 := { stood := { row := frameLivesUptoRow, standIns := [], harness := (true, "db9449692d055b22483da79235cf24a3af7f3666b6f62738be4b85236d3540f6"), looks := false }, kinds := [], alts := [], laidByText := true, laidKinds := [.data, .data, .data, .pinned], laidTests := true, laidLooks := .later }
def FrameLivesUptoCardSaid : Prop := Claim7.holds Tryd.pinned (.plain (OpenSpec.upto frameLivesSpec)) frameLivesUptoCard

/-- THE SECOND FORM's CARD OF 'sporranlaw09.FrameBack'. -/
def frameBackUptoCard : Claim7 := { stood := { row := frameBackUptoRow, standIns := [], harness := (true, "db9449692d055b22483da79235cf24a3af7f3666b6f62738be4b85236d3540f6"), looks := false }, kinds := [], alts := [], laidByText := true, laidKinds := [.data, .data, .data, .pinned], laidTests := true, laidLooks := .later }
def FrameBackUptoCardSaid : Prop := Claim7.holds Tryd.pinned (.plain (OpenSpec.upto frameBackSpec)) frameBackUptoCard
end Rows
end Go.Proofs.YtikjhnbehihbjaaDoor
