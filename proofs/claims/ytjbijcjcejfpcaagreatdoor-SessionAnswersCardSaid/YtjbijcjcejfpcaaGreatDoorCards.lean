/-
  DERIVED. GIVEN WITH THE SEED: THE CARDS: each row of YtjbijcjcejfpcaaGreatDoorRows.lean that lists a variable, with what it lists TIED to the program's text (the seventh form; the later family's looks); each row that meets fmt, with fmt's text TOLD by the authors' own Lean function (tested against real Go, not proved from fmt's source: count such statements apart). THE CARD IS WHAT COUNTS. Prove the row's statement (the work); the ties are given (YtjbijcjcejfpcaaGreatDoorTie.lean); close each card by the builder's one call (the guide's Derived/Test/ToyasCard.lean, 'card_holds'). Laid BY PROGRAM, IN A SANDBOX (cutbox-door.mjs). By AI agents, Wed Nov 11 2026. No macro, syntax, notation, axiom, sorry.
-/
import Derived.Test.YtjbijcjcejfpcaaGreatDoorRows
import GoSem.ClaimSeven
namespace Go.Proofs.YtjbijcjcejfpcaaGreatDoor
namespace Rows

/-- THE TIED CARD OF 'sporranlaw20.SessionPings'. -/
def sessionPingsCard : Claim7 := { stood := { row := sessionPingsRow, standIns := [], harness := (true, "a0c49c0d23c157a9a6b79f4571b74fa00fdb0b637feb788e8a1188efa4ed196a"), looks := true }, kinds := [], alts := [], laidByText := true, laidKinds := [.data, .data, .data, .pinned], laidTests := true, laidLooks := .later }
def SessionPingsCardSaid : Prop := Claim7.holds Tryz.pinned (.plain (OpenSpec.ofChange sessionPingsSpec)) sessionPingsCard

/-- THE TIED CARD OF 'sporranlaw20.SessionBans'. -/
def sessionBansCard : Claim7 := { stood := { row := sessionBansRow, standIns := [], harness := (true, "a0c49c0d23c157a9a6b79f4571b74fa00fdb0b637feb788e8a1188efa4ed196a"), looks := true }, kinds := [], alts := [], laidByText := true, laidKinds := [.data, .data, .data, .pinned], laidTests := true, laidLooks := .later }
def SessionBansCardSaid : Prop := Claim7.holds Tryz.pinned (.plain (OpenSpec.ofChange sessionBansSpec)) sessionBansCard

/-- THE TIED CARD OF 'sporranlaw20.SessionLate'. -/
def sessionLateCard : Claim7 := { stood := { row := sessionLateRow, standIns := [], harness := (true, "a0c49c0d23c157a9a6b79f4571b74fa00fdb0b637feb788e8a1188efa4ed196a"), looks := true }, kinds := [], alts := [], laidByText := true, laidKinds := [.data, .data, .data, .pinned], laidTests := true, laidLooks := .later }
def SessionLateCardSaid : Prop := Claim7.holds Tryz.pinned (.plain (OpenSpec.ofChange sessionLateSpec)) sessionLateCard

/-- THE TIED CARD OF 'sporranlaw20.SessionAnswers'. -/
def sessionAnswersCard : Claim7 := { stood := { row := sessionAnswersRow, standIns := [], harness := (true, "a0c49c0d23c157a9a6b79f4571b74fa00fdb0b637feb788e8a1188efa4ed196a"), looks := true }, kinds := [], alts := [], laidByText := true, laidKinds := [.data, .data, .data, .pinned], laidTests := true, laidLooks := .later }
def SessionAnswersCardSaid : Prop := Claim7.holds Tryz.pinned (.plain (OpenSpec.ofChange sessionAnswersSpec)) sessionAnswersCard

/-- THE TIED CARD OF 'sporranlaw20.SessionNobody'. -/
def sessionNobodyCard : Claim7 := { stood := { row := sessionNobodyRow, standIns := [], harness := (true, "a0c49c0d23c157a9a6b79f4571b74fa00fdb0b637feb788e8a1188efa4ed196a"), looks := true }, kinds := [], alts := [], laidByText := true, laidKinds := [.data, .data, .data, .pinned], laidTests := true, laidLooks := .later }
def SessionNobodyCardSaid : Prop := Claim7.holds Tryz.pinned (.plain (OpenSpec.ofChange sessionNobodySpec)) sessionNobodyCard

/-- THE SECOND FORM's CARD OF 'sporranlaw20.SessionPings'. -/
def sessionPingsUptoCard : Claim7 := { stood := { row := sessionPingsUptoRow, standIns := [], harness := (true, "a0c49c0d23c157a9a6b79f4571b74fa00fdb0b637feb788e8a1188efa4ed196a"), looks := true }, kinds := [], alts := [], laidByText := true, laidKinds := [.data, .data, .data, .pinned], laidTests := true, laidLooks := .later }
def SessionPingsUptoCardSaid : Prop := Claim7.holds Tryz.pinned (.plain (OpenSpec.upto sessionPingsSpec)) sessionPingsUptoCard

/-- THE SECOND FORM's CARD OF 'sporranlaw20.SessionBans'. -/
def sessionBansUptoCard : Claim7 := { stood := { row := sessionBansUptoRow, standIns := [], harness := (true, "a0c49c0d23c157a9a6b79f4571b74fa00fdb0b637feb788e8a1188efa4ed196a"), looks := true }, kinds := [], alts := [], laidByText := true, laidKinds := [.data, .data, .data, .pinned], laidTests := true, laidLooks := .later }
def SessionBansUptoCardSaid : Prop := Claim7.holds Tryz.pinned (.plain (OpenSpec.upto sessionBansSpec)) sessionBansUptoCard

/-- THE SECOND FORM's CARD OF 'sporranlaw20.SessionLate'. -/
def sessionLateUptoCard : Claim7 := { stood := { row := sessionLateUptoRow, standIns := [], harness := (true, "a0c49c0d23c157a9a6b79f4571b74fa00fdb0b637feb788e8a1188efa4ed196a"), looks := true }, kinds := [], alts := [], laidByText := true, laidKinds := [.data, .data, .data, .pinned], laidTests := true, laidLooks := .later }
def SessionLateUptoCardSaid : Prop := Claim7.holds Tryz.pinned (.plain (OpenSpec.upto sessionLateSpec)) sessionLateUptoCard

/-- THE SECOND FORM's CARD OF 'sporranlaw20.SessionAnswers'. -/
def sessionAnswersUptoCard : Claim7 := { stood := { row := sessionAnswersUptoRow, standIns := [], harness := (true, "a0c49c0d23c157a9a6b79f4571b74fa00fdb0b637feb788e8a1188efa4ed196a"), looks := true }, kinds := [], alts := [], laidByText := true, laidKinds := [.data, .data, .data, .pinned], laidTests := true, laidLooks := .later }
def SessionAnswersUptoCardSaid : Prop := Claim7.holds Tryz.pinned (.plain (OpenSpec.upto sessionAnswersSpec)) sessionAnswersUptoCard

/-- THE SECOND FORM's CARD OF 'sporranlaw20.SessionNobody'. -/
def sessionNobodyUptoCard : Claim7 := { stood := { row := sessionNobodyUptoRow, standIns := [], harness := (true, "a0c49c0d23c157a9a6b79f4571b74fa00fdb0b637feb788e8a1188efa4ed196a"), looks := true }, kinds := [], alts := [], laidByText := true, laidKinds := [.data, .data, .data, .pinned], laidTests := true, laidLooks := .later }
def SessionNobodyUptoCardSaid : Prop := Claim7.holds Tryz.pinned (.plain (OpenSpec.upto sessionNobodySpec)) sessionNobodyUptoCard
end Rows
end Go.Proofs.YtjbijcjcejfpcaaGreatDoor
