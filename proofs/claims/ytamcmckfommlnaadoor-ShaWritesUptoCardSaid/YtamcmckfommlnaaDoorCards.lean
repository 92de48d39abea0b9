/-
  DERIVED. GIVEN WITH THE SEED: THE CARDS: each row of YtamcmckfommlnaaDoorRows.lean that lists a variable, with what it lists TIED to the program's text (the seventh form; the later family's looks); each row that meets fmt, with fmt's text TOLD by the authors' own Lean function (tested against real Go, not proved from fmt's source: count such statements apart). THE CARD IS WHAT COUNTS. Prove the row's statement (the work); the ties are given (YtamcmckfommlnaaDoorTie.lean); close each card by the builder's one call (the guide's Derived/Test/ToyasCard.lean, 'card_holds'). Laid BY PROGRAM, IN A SANDBOX (cutbox-door.mjs). By AI agents, Wed Nov 11 2026. No macro, syntax, notation, axiom, sorry.
-/
import Derived.Test.YtamcmckfommlnaaDoorRows
import GoSem.ClaimSeven
namespace Go.Proofs.YtamcmckfommlnaaDoor
namespace Rows

/-- THE TIED CARD OF 'sporranlaw01.ShaBorders'. -/
def shaBordersCard : Claim7 := { stood := { row := shaBordersRow, standIns := [], harness := (true, "aa7fb34a8437d9be37f54ba552dbd424ca988f83799734c208ce86695fe412e9"), looks := false }, kinds := [], alts := [], laidByText := true, laidKinds := [.data, .data], laidTests := true, laidLooks := .later }
def ShaBordersCardSaid : Prop := Claim7.holds Tryd.pinned (.plain (OpenSpec.ofChange shaBordersSpec)) shaBordersCard

/-- THE TIED CARD OF 'sporranlaw01.ShaNobody'. -/
def shaNobodyCard : Claim7 := { stood := { row := shaNobodyRow, standIns := [], harness := (true, "aa7fb34a8437d9be37f54ba552dbd424ca988f83799734c208ce86695fe412e9"), looks := false }, kinds := [], alts := [], laidByText := true, laidKinds := [.data, .data], laidTests := true, laidLooks := .later }
def ShaNobodyCardSaid : Prop := Claim7.holds Tryd.pinned (.plain (OpenSpec.ofChange shaNobodySpec)) shaNobodyCard

/-- THE TIED CARD OF 'sporranlaw01.ShaTwice'. -/
def shaTwiceCard : Claim7 := { stood := { row := shaTwiceRow, standIns := [], harness := (true, "aa7fb34a8437d9be37f54ba552dbd424ca988f83799734c208ce86695fe412e9"), looks := false }, kinds := [], alts := [], laidByText := true, laidKinds := [.data, .data], laidTests := true, laidLooks := .later }
def ShaTwiceCardSaid : Prop := Claim7.holds Tryd.pinned (.plain (OpenSpec.ofChange shaTwiceSpec)) shaTwiceCard

/-- THE TIED CARD OF 'sporranlaw01.ShaWrites'. -/
def shaWritesCard : Claim7 := { stood := { row := shaWritesRow, standIns := [], harness := (true, "aa7fb34a8437d9be37f54ba552dbd424ca988f83799734c208ce86695fe412e9"), looks := false }, kinds := [], alts := [], laidByText := true, laidKinds := [.data, .data], laidTests := true, laidLooks := .later }
def ShaWritesCardSaid : Prop := Claim7.holds Tryd.pinned (.plain (OpenSpec.ofChange shaWritesSpec)) shaWritesCard

/-- THE TIED CARD OF 'sporranlaw01.ShaSums'. -/
def shaSumsCard : Claim7 := { stood := { row := shaSumsRow, standIns := [], harness := (true, "aa7fb34a8437d9be37f54ba552dbd424ca988f83799734c208ce86695fe412e9"), looks := false }, kinds := [], alts := [], laidByText := true, laidKinds := [.data, .data], laidTests := true, laidLooks := .later }
def ShaSumsCardSaid : Prop := Claim7.holds Tryd.pinned (.plain (OpenSpec.ofChange shaSumsSpec)) shaSumsCard

/-- THE TIED CARD OF 'sporranlaw06.HeaderTells'. -/
def headerTellsCard : Claim7 := { stood := { row := headerTellsRow, standIns := [], harness := (true, "aa7fb34a8437d9be37f54ba552dbd424ca988f83799734c208ce86695fe412e9"), looks := false }, kinds := [], alts := [], laidByText := true, laidKinds := [.data, .data], laidTests := true, laidLooks := .later }
def HeaderTellsCardSaid : Prop := Claim7.holds Tryd.pinned (.plain (OpenSpec.ofChange headerTellsSpec)) headerTellsCard

/-- THE SECOND FORM's CARD OF 'sporranlaw01.ShaBorders'. -/
def shaBordersUptoCard : Claim7 := { stood := { row := shaBordersUptoRow, standIns := [], harness := (true, "aa7fb34a8437d9be37f54ba552dbd424ca988f83799734c208ce86695fe412e9"), looks := false }, kinds := [], alts := [], laidByText := true, laidKinds := [.data, .data], laidTests := true, laidLooks := .later }
def ShaBordersUptoCardSaid : Prop := Claim7.holds Tryd.pinned (.plain (OpenSpec.upto shaBordersSpec)) shaBordersUptoCard

/-- THE SECOND FORM's CARD OF 'sporranlaw01.ShaNobody'. -/
def shaNobodyUptoCard : Claim7 := { stood := { row := shaNobodyUptoRow, standIns := [], harness := (true, "aa7fb34a8437d9be37f54ba552dbd424ca988f83799734c208ce86695fe412e9"), looks := false }, kinds := [], alts := [], laidByText := true, laidKinds := [.data, .data], laidTests := true, laidLooks := .later }
def ShaNobodyUptoCardSaid : Prop := Claim7.holds Tryd.pinned (.plain (OpenSpec.upto shaNobodySpec)) shaNobodyUptoCard

/-- THE SECOND FORM's CARD OF 'sporranlaw01.ShaTwice'. -/
def shaTwiceUptoCard : Claim7 := { stood := { row := shaTwiceUptoRow, standIns := [], harness := (true, "aa7fb34a8437d9be37f54ba552dbd424ca988f83799734c208ce86695fe412e9"), looks := false }, kinds := [], alts := [], laidByText := true, laidKinds := [.data, .data], laidTests := true, laidLooks := .later }
def ShaTwiceUptoCardSaid : Prop := Claim7.holds Tryd.pinned (.plain (OpenSpec.upto shaTwiceSpec)) shaTwiceUptoCard

/-- THE SECOND FORM's CARD OF 'sporranlaw01.ShaWrites'. -/
def shaWritesUptoCard : Claim7 := { stood := { row := shaWritesUptoRow, standIns := [], harness := (true, "aa7fb34a8437d9be37f54ba552dbd424ca988f83799734c208ce86695fe412e9"), looks := false }, kinds := [], alts := [], laidByText := true, laidKinds := [.data, .data], laidTests := true, laidLooks := .later }
def ShaWritesUptoCardSaid : Prop := Claim7.holds Tryd.pinned (.plain (OpenSpec.upto shaWritesSpec)) shaWritesUptoCard

/-- THE SECOND FORM's CARD OF 'sporranlaw01.ShaSums'. -/
def shaSumsUptoCard : Claim7 := { stood := { row := shaSumsUptoRow, standIns := [], harness := (true, "aa7fb34a8437d9be37f54ba552dbd424ca988f83799734c208ce86695fe412e9"), looks := false }, kinds := [], alts := [], laidByText := true, laidKinds := [.data, .data], laidTests := true, laidLooks := .later }
def ShaSumsUptoCardSaid : Prop := Claim7.holds Tryd.pinned (.plain (OpenSpec.upto shaSumsSpec)) shaSumsUptoCard

/-- THE SECOND FORM's CARD OF 'sporranlaw06.HeaderTells'. -/
def headerTellsUptoCard : Claim7 := { stood := { row := headerTellsUptoRow, standIns := [], harness := (true, "aa7fb34a8437d9be37f54ba552dbd424ca988f83799734c208ce86695fe412e9"), looks := false }, kinds := [], alts := [], laidByText := true, laidKinds := [.data, .data], laidTests := true, laidLooks := .later }
def HeaderTellsUptoCardSaid : Prop := Claim7.holds Tryd.pinned (.plain (OpenSpec.upto headerTellsSpec)) headerTellsUptoCard
end Rows
end Go.Proofs.YtamcmckfommlnaaDoor
