/-
  No cell of these rows narrows 'for every input' (looked for: loops, veiled, ifaces, maps, wideKeys, modest, calm, conditions, laid).
  DERIVED. THE GIVEN ROWS OF THIS SEAT. 9 by the template 'for every input the law returns true; each argument reads behind the call as it read before'; 0 by the template 'total and deterministic' (their statements: YtamcmckfommlnaaTotals.lean).
  GIVEN WITH THE SEED: the statements are not yours to turn. If you find one false, say at which input.
  Laid BY PROGRAM, IN A SANDBOX (cutbox-rows.mjs): the forced cells as the released guide's own fill.sh prints them over the translation 5c9c12189e2b34be… (all of the seat's roots in one cut). By AI agents, Wed Nov 11 2026. No macro, syntax, notation, axiom, sorry.
-/
import Derived.Test.YtamcmckfommlnaaChecked
import GoSem.Claim
import GoSem.ClaimJoined
import GoSem.ClaimMapViews
import Derived.JoinedTies
import Derived.KernelRfl
namespace Go.Proofs.Ytamcmckfommlnaa
/- THE CELL 'sum', in the pinned program and in every row, IS THE sha256 OF THE DUMP (.gsa) THAT YtamcmckfommlnaaProg.lean LOADS. Nothing in Lean hashes anything: it is a label: what it is worth is what the hold of that sum in a sandbox is worth. -/
noncomputable def Try.pinned : Pinned := { name := "ytamcmckfommlnaa", sum := "5c9c12189e2b34be86fcc7f1d08ba98fcf65c639373130343d5c9533c34fcf99", checked := Try.checked }
namespace Rows
def none {H : Type} : Left H := { results := [], args := [] }

/-- 'sporranlaw06.HeaderShort': WHATEVER THE INPUT: true; the input reads as it did. -/
def headerShortSpec : ChangeSpec := { name := "headerShort", fn := fun _ => fun
  | [d1, d2] => { results := [.lit (.bool true)], args := [d1, d2] }
  | _ => none }
def headerShortRow : OpenClaim := { program := "ytamcmckfommlnaa", sum := "5c9c12189e2b34be86fcc7f1d08ba98fcf65c639373130343d5c9533c34fcf99", func := "sporran/sporranlaw06.HeaderShort", spec := "headerShort", unfollowed := true, recurses := true, apart := false }
def HeaderShortSaid : Prop := headerShortRow.holds Try.pinned (OpenSpec.ofChange headerShortSpec)

/-- ITS FALSE NEIGHBOUR: 'it returns false'. Refute it at one input. -/
def headerShortWrong : ChangeSpec := { name := "headerShort", fn := fun _ => fun
  | [d1, d2] => { results := [.lit (.bool false)], args := [d1, d2] }
  | _ => none }
def HeaderShortWrongFalsely : Prop := headerShortRow.holds Try.pinned (OpenSpec.ofChange headerShortWrong)

/-- 'sporranlaw06.HeaderBack': WHATEVER THE INPUT: true; the input reads as it did. -/
def headerBackSpec : ChangeSpec := { name := "headerBack", fn := fun _ => fun
  | [d1, d2] => { results := [.lit (.bool true)], args := [d1, d2] }
  | _ => none }
def headerBackRow : OpenClaim := { program := "ytamcmckfommlnaa", sum := "5c9c12189e2b34be86fcc7f1d08ba98fcf65c639373130343d5c9533c34fcf99", func := "sporran/sporranlaw06.HeaderBack", spec := "headerBack", unfollowed := true, recurses := true, apart := false }
def HeaderBackSaid : Prop := headerBackRow.holds Try.pinned (OpenSpec.ofChange headerBackSpec)

/-- ITS FALSE NEIGHBOUR: 'it returns false'. Refute it at one input. -/
def headerBackWrong : ChangeSpec := { name := "headerBack", fn := fun _ => fun
  | [d1, d2] => { results := [.lit (.bool false)], args := [d1, d2] }
  | _ => none }
def HeaderBackWrongFalsely : Prop := headerBackRow.holds Try.pinned (OpenSpec.ofChange headerBackWrong)

/-- 'sporranlaw06.HeaderOnce': WHATEVER THE INPUT: true; the input reads as it did. -/
def headerOnceSpec : ChangeSpec := { name := "headerOnce", fn := fun _ => fun
  | [d] => { results := [.lit (.bool true)], args := [d] }
  | _ => none }
def headerOnceRow : OpenClaim := { program := "ytamcmckfommlnaa", sum := "5c9c12189e2b34be86fcc7f1d08ba98fcf65c639373130343d5c9533c34fcf99", func := "sporran/sporranlaw06.HeaderOnce", spec := "headerOnce", unfollowed := true, recurses := true, apart := false }
def HeaderOnceSaid : Prop := headerOnceRow.holds Try.pinned (OpenSpec.ofChange headerOnceSpec)

/-- ITS FALSE NEIGHBOUR: 'it returns false'. Refute it at one input. -/
def headerOnceWrong : ChangeSpec := { name := "headerOnce", fn := fun _ => fun
  | [d] => { results := [.lit (.bool false)], args := [d] }
  | _ => none }
def HeaderOnceWrongFalsely : Prop := headerOnceRow.holds Try.pinned (OpenSpec.ofChange headerOnceWrong)

/-- 'sporranlaw13.ScriptSizes': WHATEVER THE INPUT: true; the input reads as it did. -/
def scriptSizesSpec : ChangeSpec := { name := "scriptSizes", fn := fun _ => fun
  | [d1, d2] => { results := [.lit (.bool true)], args := [d1, d2] }
  | _ => none }
def scriptSizesRow : OpenClaim := { program := "ytamcmckfommlnaa", sum := "5c9c12189e2b34be86fcc7f1d08ba98fcf65c639373130343d5c9533c34fcf99", func := "sporran/sporranlaw13.ScriptSizes", spec := "scriptSizes", apart := false }
def ScriptSizesSaid : Prop := scriptSizesRow.holds Try.pinned (OpenSpec.ofChange scriptSizesSpec)

/-- ITS FALSE NEIGHBOUR: 'it returns false'. Refute it at one input. -/
def scriptSizesWrong : ChangeSpec := { name := "scriptSizes", fn := fun _ => fun
  | [d1, d2] => { results := [.lit (.bool false)], args := [d1, d2] }
  | _ => none }
def ScriptSizesWrongFalsely : Prop := scriptSizesRow.holds Try.pinned (OpenSpec.ofChange scriptSizesWrong)

/-- 'sporranlaw05.SizeShortest': WHATEVER THE INPUT: true; the input reads as it did. -/
def sizeShortestSpec : ChangeSpec := { name := "sizeShortest", fn := fun _ => fun
  | [d1, d2] => { results := [.lit (.bool true)], args := [d1, d2] }
  | _ => none }
def sizeShortestRow : OpenClaim := { program := "ytamcmckfommlnaa", sum := "5c9c12189e2b34be86fcc7f1d08ba98fcf65c639373130343d5c9533c34fcf99", func := "sporran/sporranlaw05.SizeShortest", spec := "sizeShortest", apart := false }
def SizeShortestSaid : Prop := sizeShortestRow.holds Try.pinned (OpenSpec.ofChange sizeShortestSpec)

/-- ITS FALSE NEIGHBOUR: 'it returns false'. Refute it at one input. -/
def sizeShortestWrong : ChangeSpec := { name := "sizeShortest", fn := fun _ => fun
  | [d1, d2] => { results := [.lit (.bool false)], args := [d1, d2] }
  | _ => none }
def SizeShortestWrongFalsely : Prop := sizeShortestRow.holds Try.pinned (OpenSpec.ofChange sizeShortestWrong)

/-- 'sporranlaw05.SizeTells': WHATEVER THE INPUT: true; the input reads as it did. -/
def sizeTellsSpec : ChangeSpec := { name := "sizeTells", fn := fun _ => fun
  | [d1, d2] => { results := [.lit (.bool true)], args := [d1, d2] }
  | _ => none }
def sizeTellsRow : OpenClaim := { program := "ytamcmckfommlnaa", sum := "5c9c12189e2b34be86fcc7f1d08ba98fcf65c639373130343d5c9533c34fcf99", func := "sporran/sporranlaw05.SizeTells", spec := "sizeTells", apart := false }
def SizeTellsSaid : Prop := sizeTellsRow.holds Try.pinned (OpenSpec.ofChange sizeTellsSpec)

/-- ITS FALSE NEIGHBOUR: 'it returns false'. Refute it at one input. -/
def sizeTellsWrong : ChangeSpec := { name := "sizeTells", fn := fun _ => fun
  | [d1, d2] => { results := [.lit (.bool false)], args := [d1, d2] }
  | _ => none }
def SizeTellsWrongFalsely : Prop := sizeTellsRow.holds Try.pinned (OpenSpec.ofChange sizeTellsWrong)

/-- 'sporranlaw05.SizeBounds': WHATEVER THE INPUT: true; the input reads as it did. -/
def sizeBoundsSpec : ChangeSpec := { name := "sizeBounds", fn := fun _ => fun
  | [d1, d2] => { results := [.lit (.bool true)], args := [d1, d2] }
  | _ => none }
def sizeBoundsRow : OpenClaim := { program := "ytamcmckfommlnaa", sum := "5c9c12189e2b34be86fcc7f1d08ba98fcf65c639373130343d5c9533c34fcf99", func := "sporran/sporranlaw05.SizeBounds", spec := "sizeBounds", apart := false }
def SizeBoundsSaid : Prop := sizeBoundsRow.holds Try.pinned (OpenSpec.ofChange sizeBoundsSpec)

/-- ITS FALSE NEIGHBOUR: 'it returns false'. Refute it at one input. -/
def sizeBoundsWrong : ChangeSpec := { name := "sizeBounds", fn := fun _ => fun
  | [d1, d2] => { results := [.lit (.bool false)], args := [d1, d2] }
  | _ => none }
def SizeBoundsWrongFalsely : Prop := sizeBoundsRow.holds Try.pinned (OpenSpec.ofChange sizeBoundsWrong)

/-- 'sporranlaw05.SizeTexts': WHATEVER THE INPUT: true; the input reads as it did. -/
def sizeTextsSpec : ChangeSpec := { name := "sizeTexts", fn := fun _ => fun
  | [d1, d2] => { results := [.lit (.bool true)], args := [d1, d2] }
  | _ => none }
def sizeTextsRow : OpenClaim := { program := "ytamcmckfommlnaa", sum := "5c9c12189e2b34be86fcc7f1d08ba98fcf65c639373130343d5c9533c34fcf99", func := "sporran/sporranlaw05.SizeTexts", spec := "sizeTexts", apart := false }
def SizeTextsSaid : Prop := sizeTextsRow.holds Try.pinned (OpenSpec.ofChange sizeTextsSpec)

/-- ITS FALSE NEIGHBOUR: 'it returns false'. Refute it at one input. -/
def sizeTextsWrong : ChangeSpec := { name := "sizeTexts", fn := fun _ => fun
  | [d1, d2] => { results := [.lit (.bool false)], args := [d1, d2] }
  | _ => none }
def SizeTextsWrongFalsely : Prop := sizeTextsRow.holds Try.pinned (OpenSpec.ofChange sizeTextsWrong)

/-- 'sporranlaw05.SizeBack': WHATEVER THE INPUT: true; the input reads as it did. -/
def sizeBackSpec : ChangeSpec := { name := "sizeBack", fn := fun _ => fun
  | [d1, d2, d3] => { results := [.lit (.bool true)], args := [d1, d2, d3] }
  | _ => none }
def sizeBackRow : OpenClaim := { program := "ytamcmckfommlnaa", sum := "5c9c12189e2b34be86fcc7f1d08ba98fcf65c639373130343d5c9533c34fcf99", func := "sporran/sporranlaw05.SizeBack", spec := "sizeBack", apart := false }
def SizeBackSaid : Prop := sizeBackRow.holds Try.pinned (OpenSpec.ofChange sizeBackSpec)

/-- ITS FALSE NEIGHBOUR: 'it returns false'. Refute it at one input. -/
def sizeBackWrong : ChangeSpec := { name := "sizeBack", fn := fun _ => fun
  | [d1, d2, d3] => { results := [.lit (.bool false)], args := [d1, d2, d3] }
  | _ => none }
def SizeBackWrongFalsely : Prop := sizeBackRow.holds Try.pinned (OpenSpec.ofChange sizeBackWrong)

/- THE SECOND FORM. 'bulk': how many values and letters a reading holds, each counted each time it is reached (what is shared counts as often as it is met; a slice's spare places count too). A statement '..UptoSaid' is the law's where the arguments, and the package variables that the reading takes, are together of bulk at most 1048576: NARROWER than '..Said'. Prove '..Said' where nothing that the law and all that it calls make is longer than what came in: it says more and counts as full. Else prove '..UptoSaid'. A law counts once. -/
mutual
def uptoBulk {H : Type} : DataW H → Nat
  | .lit (.string bytes) => bytes.length + 1
  | .lit _ => 1
  | .nil => 1
  | .ptr d => uptoBulk d + 1
  | .slice elems spare => uptoBulkAll elems + uptoBulkAll spare + 1
  | .agg parts => uptoBulkAll parts + 1
  | .iface _ d => uptoBulk d + 1
  | .map entries => uptoBulkEntries entries + 1
  | .held _ => 1
def uptoBulkAll {H : Type} : List (DataW H) → Nat
  | [] => 0
  | d :: r => uptoBulk d + uptoBulkAll r
def uptoBulkEntries {H : Type} : List (Lit × DataW H) → Nat
  | [] => 0
  | x :: r => uptoBulkEntry x + uptoBulkEntries r
def uptoBulkEntry {H : Type} : Lit × DataW H → Nat
  | (.string bytes, d) => bytes.length + uptoBulk d + 1
  | (_, d) => uptoBulk d + 1
 end
def uptoSmall : (H : Type) → List (DataW H) → Bool := fun _ ds => decide (uptoBulkAll ds ≤ 1048576)
def OpenSpec.upto (s : _root_.Go.ChangeSpec) : _root_.Go.OpenSpec := { _root_.Go.OpenSpec.ofChange s with cond := some uptoSmall }

/-- 'sporranlaw06.HeaderShort', WHERE WHAT IT READS IS OF BULK AT MOST 1048576: true; the input reads as it did. -/
def headerShortUptoRow : OpenClaim := { program := "ytamcmckfommlnaa", sum := "5c9c12189e2b34be86fcc7f1d08ba98fcf65c639373130343d5c9533c34fcf99", func := "sporran/sporranlaw06.HeaderShort", spec := "headerShort", unfollowed := true, recurses := true, apart := false, narrowed := true }
def HeaderShortUptoSaid : Prop := headerShortUptoRow.holds Try.pinned (OpenSpec.upto headerShortSpec)

/-- 'sporranlaw06.HeaderBack', WHERE WHAT IT READS IS OF BULK AT MOST 1048576: true; the input reads as it did. -/
def headerBackUptoRow : OpenClaim := { program := "ytamcmckfommlnaa", sum := "5c9c12189e2b34be86fcc7f1d08ba98fcf65c639373130343d5c9533c34fcf99", func := "sporran/sporranlaw06.HeaderBack", spec := "headerBack", unfollowed := true, recurses := true, apart := false, narrowed := true }
def HeaderBackUptoSaid : Prop := headerBackUptoRow.holds Try.pinned (OpenSpec.upto headerBackSpec)

/-- 'sporranlaw06.HeaderOnce', WHERE WHAT IT READS IS OF BULK AT MOST 1048576: true; the input reads as it did. -/
def headerOnceUptoRow : OpenClaim := { program := "ytamcmckfommlnaa", sum := "5c9c12189e2b34be86fcc7f1d08ba98fcf65c639373130343d5c9533c34fcf99", func := "sporran/sporranlaw06.HeaderOnce", spec := "headerOnce", unfollowed := true, recurses := true, apart := false, narrowed := true }
def HeaderOnceUptoSaid : Prop := headerOnceUptoRow.holds Try.pinned (OpenSpec.upto headerOnceSpec)

/-- 'sporranlaw13.ScriptSizes', WHERE WHAT IT READS IS OF BULK AT MOST 1048576: true; the input reads as it did. -/
def scriptSizesUptoRow : OpenClaim := { program := "ytamcmckfommlnaa", sum := "5c9c12189e2b34be86fcc7f1d08ba98fcf65c639373130343d5c9533c34fcf99", func := "sporran/sporranlaw13.ScriptSizes", spec := "scriptSizes", apart := false, narrowed := true }
def ScriptSizesUptoSaid : Prop := scriptSizesUptoRow.holds Try.pinned (OpenSpec.upto scriptSizesSpec)

/-- 'sporranlaw05.SizeShortest', WHERE WHAT IT READS IS OF BULK AT MOST 1048576: true; the input reads as it did. -/
def sizeShortestUptoRow : OpenClaim := { program := "ytamcmckfommlnaa", sum := "5c9c12189e2b34be86fcc7f1d08ba98fcf65c639373130343d5c9533c34fcf99", func := "sporran/sporranlaw05.SizeShortest", spec := "sizeShortest", apart := false, narrowed := true }
def SizeShortestUptoSaid : Prop := sizeShortestUptoRow.holds Try.pinned (OpenSpec.upto sizeShortestSpec)

/-- 'sporranlaw05.SizeTells', WHERE WHAT IT READS IS OF BULK AT MOST 1048576: true; the input reads as it did. -/
def sizeTellsUptoRow : OpenClaim := { program := "ytamcmckfommlnaa", sum := "5c9c12189e2b34be86fcc7f1d08ba98fcf65c639373130343d5c9533c34fcf99", func := "sporran/sporranlaw05.SizeTells", spec := "sizeTells", apart := false, narrowed := true }
def SizeTellsUptoSaid : Prop := sizeTellsUptoRow.holds Try.pinned (OpenSpec.upto sizeTellsSpec)

/-- 'sporranlaw05.SizeBounds', WHERE WHAT IT READS IS OF BULK AT MOST 1048576: true; the input reads as it did. -/
def sizeBoundsUptoRow : OpenClaim := { program := "ytamcmckfommlnaa", sum := "5c9c12189e2b34be86fcc7f1d08ba98fcf65c639373130343d5c9533c34fcf99", func := "sporran/sporranlaw05.SizeBounds", spec := "sizeBounds", apart := false, narrowed := true }
def SizeBoundsUptoSaid : Prop := sizeBoundsUptoRow.holds Try.pinned (OpenSpec.upto sizeBoundsSpec)

/-- 'sporranlaw05.SizeTexts', WHERE WHAT IT READS IS OF BULK AT MOST 1048576: true; the input reads as it did. -/
def sizeTextsUptoRow : OpenClaim := { program := "ytamcmckfommlnaa", sum := "5c9c12189e2b34be86fcc7f1d08ba98fcf65c639373130343d5c9533c34fcf99", func := "sporran/sporranlaw05.SizeTexts", spec := "sizeTexts", apart := false, narrowed := true }
def SizeTextsUptoSaid : Prop := sizeTextsUptoRow.holds Try.pinned (OpenSpec.upto sizeTextsSpec)

/-- 'sporranlaw05.SizeBack', WHERE WHAT IT READS IS OF BULK AT MOST 1048576: true; the input reads as it did. -/
def sizeBackUptoRow : OpenClaim := { program := "ytamcmckfommlnaa", sum := "5c9c12189e2b34be86fcc7f1d08ba98fcf65c639373130343d5c9533c34fcf99", func := "sporran/sporranlaw05.SizeBack", spec := "sizeBack", apart := false, narrowed := true }
def SizeBackUptoSaid : Prop := sizeBackUptoRow.holds Try.pinned (OpenSpec.upto sizeBackSpec)

end Rows
end Go.Proofs.Ytamcmckfommlnaa
