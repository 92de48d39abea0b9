/-
  No cell of these rows narrows 'for every input' (looked for: loops, veiled, ifaces, maps, wideKeys, modest, calm, conditions, laid).
  DERIVED. THE GIVEN ROWS OF THIS SEAT. 7 by the template 'for every input the law returns true; each argument reads behind the call as it read before'; 0 by the template 'total and deterministic' (their statements: YthglocpbdfcfnaaTotals.lean).
  GIVEN WITH THE SEED: the statements are not yours to turn. If you find one false, say at which input.
  Laid BY PROGRAM, IN A SANDBOX (cutbox-rows.mjs): the forced cells as the released guide's own fill.sh prints them over the translation cdc905029074f907… (all of the seat's roots in one cut). By AI agents, Wed Nov 11 2026. No macro, syntax, notation, axiom, sorry.
-/
import Derived.Test.YthglocpbdfcfnaaChecked
import GoSem.Claim
import GoSem.ClaimJoined
import GoSem.ClaimMapViews
import Derived.JoinedTies
import Derived.KernelRfl
namespace Go.Proofs.Ythglocpbdfcfnaa
/- THE CELL 'sum', in the pinned program and in every row, IS THE sha256 OF THE DUMP (.gsa) THAT YthglocpbdfcfnaaProg.lean LOADS. Nothing in Lean hashes anything: it is a label: what it is worth is what the hold of that sum in a sandbox is worth. -/
noncomputable def Try.pinned : Pinned := { name := "ythglocpbdfcfnaa", sum := "cdc905029074f90736e169bdb4b5f86b7849df6c04cb8e159809b169e780b4d5", checked := Try.checked }
namespace Rows
def none {H : Type} : Left H := { results := [], args := [] }

/-- 'sporranlaw07.TxShort': WHATEVER THE INPUT: true; the input reads as it did. -/
def txShortSpec : ChangeSpec := { name := "txShort", fn := fun _ => fun
  | [d1, d2] => { results := [.lit (.bool true)], args := [d1, d2] }
  | _ => none }
def txShortRow : OpenClaim := { program := "ythglocpbdfcfnaa", sum := "cdc905029074f90736e169bdb4b5f86b7849df6c04cb8e159809b169e780b4d5", func := "sporran/sporranlaw07.TxShort", spec := "txShort", unfollowed := true, recurses := true, apart := false }
def TxShortSaid : Prop := txShortRow.holds Try.pinned (OpenSpec.ofChange txShortSpec)

/-- ITS FALSE NEIGHBOUR: 'it returns false'. Refute it at one input. -/
def txShortWrong : ChangeSpec := { name := "txShort", fn := fun _ => fun
  | [d1, d2] => { results := [.lit (.bool false)], args := [d1, d2] }
  | _ => none }
def TxShortWrongFalsely : Prop := txShortRow.holds Try.pinned (OpenSpec.ofChange txShortWrong)

/-- 'sporranlaw07.TxOnce': WHATEVER THE INPUT: true; the input reads as it did. -/
def txOnceSpec : ChangeSpec := { name := "txOnce", fn := fun _ => fun
  | [d] => { results := [.lit (.bool true)], args := [d] }
  | _ => none }
def txOnceRow : OpenClaim := { program := "ythglocpbdfcfnaa", sum := "cdc905029074f90736e169bdb4b5f86b7849df6c04cb8e159809b169e780b4d5", func := "sporran/sporranlaw07.TxOnce", spec := "txOnce", unfollowed := true, recurses := true, apart := false }
def TxOnceSaid : Prop := txOnceRow.holds Try.pinned (OpenSpec.ofChange txOnceSpec)

/-- ITS FALSE NEIGHBOUR: 'it returns false'. Refute it at one input. -/
def txOnceWrong : ChangeSpec := { name := "txOnce", fn := fun _ => fun
  | [d] => { results := [.lit (.bool false)], args := [d] }
  | _ => none }
def TxOnceWrongFalsely : Prop := txOnceRow.holds Try.pinned (OpenSpec.ofChange txOnceWrong)

/-- 'sporranlaw07.TxReads': WHATEVER THE INPUT: true; the input reads as it did. -/
def txReadsSpec : ChangeSpec := { name := "txReads", fn := fun _ => fun
  | [d] => { results := [.lit (.bool true)], args := [d] }
  | _ => none }
def txReadsRow : OpenClaim := { program := "ythglocpbdfcfnaa", sum := "cdc905029074f90736e169bdb4b5f86b7849df6c04cb8e159809b169e780b4d5", func := "sporran/sporranlaw07.TxReads", spec := "txReads", unfollowed := true, recurses := true, apart := false }
def TxReadsSaid : Prop := txReadsRow.holds Try.pinned (OpenSpec.ofChange txReadsSpec)

/-- ITS FALSE NEIGHBOUR: 'it returns false'. Refute it at one input. -/
def txReadsWrong : ChangeSpec := { name := "txReads", fn := fun _ => fun
  | [d] => { results := [.lit (.bool false)], args := [d] }
  | _ => none }
def TxReadsWrongFalsely : Prop := txReadsRow.holds Try.pinned (OpenSpec.ofChange txReadsWrong)

/-- 'sporranlaw07.TxBack': WHATEVER THE INPUT: true; the input reads as it did. -/
def txBackSpec : ChangeSpec := { name := "txBack", fn := fun _ => fun
  | [d1, d2] => { results := [.lit (.bool true)], args := [d1, d2] }
  | _ => none }
def txBackRow : OpenClaim := { program := "ythglocpbdfcfnaa", sum := "cdc905029074f90736e169bdb4b5f86b7849df6c04cb8e159809b169e780b4d5", func := "sporran/sporranlaw07.TxBack", spec := "txBack", unfollowed := true, recurses := true, apart := false }
def TxBackSaid : Prop := txBackRow.holds Try.pinned (OpenSpec.ofChange txBackSpec)

/-- ITS FALSE NEIGHBOUR: 'it returns false'. Refute it at one input. -/
def txBackWrong : ChangeSpec := { name := "txBack", fn := fun _ => fun
  | [d1, d2] => { results := [.lit (.bool false)], args := [d1, d2] }
  | _ => none }
def TxBackWrongFalsely : Prop := txBackRow.holds Try.pinned (OpenSpec.ofChange txBackWrong)

/-- 'sporranlaw08.BlockShort': WHATEVER THE INPUT: true; the input reads as it did. -/
def blockShortSpec : ChangeSpec := { name := "blockShort", fn := fun _ => fun
  | [d1, d2, d3] => { results := [.lit (.bool true)], args := [d1, d2, d3] }
  | _ => none }
def blockShortRow : OpenClaim := { program := "ythglocpbdfcfnaa", sum := "cdc905029074f90736e169bdb4b5f86b7849df6c04cb8e159809b169e780b4d5", func := "sporran/sporranlaw08.BlockShort", spec := "blockShort", unfollowed := true, recurses := true, apart := false }
def BlockShortSaid : Prop := blockShortRow.holds Try.pinned (OpenSpec.ofChange blockShortSpec)

/-- ITS FALSE NEIGHBOUR: 'it returns false'. Refute it at one input. -/
def blockShortWrong : ChangeSpec := { name := "blockShort", fn := fun _ => fun
  | [d1, d2, d3] => { results := [.lit (.bool false)], args := [d1, d2, d3] }
  | _ => none }
def BlockShortWrongFalsely : Prop := blockShortRow.holds Try.pinned (OpenSpec.ofChange blockShortWrong)

/-- 'sporranlaw08.BlockReads': WHATEVER THE INPUT: true; the input reads as it did. -/
def blockReadsSpec : ChangeSpec := { name := "blockReads", fn := fun _ => fun
  | [d] => { results := [.lit (.bool true)], args := [d] }
  | _ => none }
def blockReadsRow : OpenClaim := { program := "ythglocpbdfcfnaa", sum := "cdc905029074f90736e169bdb4b5f86b7849df6c04cb8e159809b169e780b4d5", func := "sporran/sporranlaw08.BlockReads", spec := "blockReads", unfollowed := true, recurses := true, apart := false }
def BlockReadsSaid : Prop := blockReadsRow.holds Try.pinned (OpenSpec.ofChange blockReadsSpec)

/-- ITS FALSE NEIGHBOUR: 'it returns false'. Refute it at one input. -/
def blockReadsWrong : ChangeSpec := { name := "blockReads", fn := fun _ => fun
  | [d] => { results := [.lit (.bool false)], args := [d] }
  | _ => none }
def BlockReadsWrongFalsely : Prop := blockReadsRow.holds Try.pinned (OpenSpec.ofChange blockReadsWrong)

/-- 'sporranlaw08.BlockBack': WHATEVER THE INPUT: true; the input reads as it did. -/
def blockBackSpec : ChangeSpec := { name := "blockBack", fn := fun _ => fun
  | [d] => { results := [.lit (.bool true)], args := [d] }
  | _ => none }
def blockBackRow : OpenClaim := { program := "ythglocpbdfcfnaa", sum := "cdc905029074f90736e169bdb4b5f86b7849df6c04cb8e159809b169e780b4d5", func := "sporran/sporranlaw08.BlockBack", spec := "blockBack", unfollowed := true, recurses := true, apart := false }
def BlockBackSaid : Prop := blockBackRow.holds Try.pinned (OpenSpec.ofChange blockBackSpec)

/-- ITS FALSE NEIGHBOUR: 'it returns false'. Refute it at one input. -/
def blockBackWrong : ChangeSpec := { name := "blockBack", fn := fun _ => fun
  | [d] => { results := [.lit (.bool false)], args := [d] }
  | _ => none }
def BlockBackWrongFalsely : Prop := blockBackRow.holds Try.pinned (OpenSpec.ofChange blockBackWrong)

/- THE SECOND FORM. 'bulk': how many values and letters a reading holds, each counted each time it is reached (what is shared counts as often as it is met; a slice's spare places count too). A statement '..UptoSaid' is the law's where the arguments, and the package variables that the reading takes, are together of bulk at most 1048576: NARROWER than '..Said'. Prove '..Said' where nothing that the law and all that it calls make is longer than what came in: it says more and counts as full. Else prove '..UptoSaid'. A law counts once. -/
mutual
def uptoBulk {H : Type} : DataW H → Nat
  | .lit (.string bytes) => bytes.length + 1
  | .lit _ => 1
  | .nil => 1
  | .ptr d => uptoBulk d + 1
  | .slice elems spare => uptoBulkAll elems + uptoBulkAll spare + 1
  | .agg parts => uptoBulkAll parts + 1
  | .iface _ d => uptoBulk d + 1
  | .map entries => uptoBulkEntries entries + 1
  | .held _ => 1
def uptoBulkAll {H : Type} : List (DataW H) → Nat
  | [] => 0
  | d :: r => uptoBulk d + uptoBulkAll r
def uptoBulkEntries {H : Type} : List (Lit × DataW H) → Nat
  | [] => 0
  | x :: r => uptoBulkEntry x + uptoBulkEntries r
def uptoBulkEntry {H : Type} : Lit × DataW H → Nat
  | (.string bytes, d) => bytes.length + uptoBulk d + 1
  | (_, d) => uptoBulk d + 1
 end
def uptoSmall : (H : Type) → List (DataW H) → Bool := fun _ ds => decide (uptoBulkAll ds ≤ 1048576)
def OpenSpec.upto (s : _root_.Go.ChangeSpec) : _root_.Go.OpenSpec := { _root_.Go.OpenSpec.ofChange s with cond := some uptoSmall }

/-- 'sporranlaw07.TxShort', WHERE WHAT IT READS IS OF BULK AT MOST 1048576: true; the input reads as it did. -/
def txShortUptoRow : OpenClaim := { program := "ythglocpbdfcfnaa", sum := "cdc905029074f90736e169bdb4b5f86b7849df6c04cb8e159809b169e780b4d5", func := "sporran/sporranlaw07.TxShort", spec := "txShort", unfollowed := true, recurses := true, apart := false, narrowed := true }
def TxShortUptoSaid : Prop := txShortUptoRow.holds Try.pinned (OpenSpec.upto txShortSpec)

/-- 'sporranlaw07.TxOnce', WHERE WHAT IT READS IS OF BULK AT MOST 1048576: true; the input reads as it did. -/
def txOnceUptoRow : OpenClaim := { program := "ythglocpbdfcfnaa", sum := "cdc905029074f90736e169bdb4b5f86b7849df6c04cb8e159809b169e780b4d5", func := "sporran/sporranlaw07.TxOnce", spec := "txOnce", unfollowed := true, recurses := true, apart := false, narrowed := true }
def TxOnceUptoSaid : Prop := txOnceUptoRow.holds Try.pinned (OpenSpec.upto txOnceSpec)

/-- 'sporranlaw07.TxReads', WHERE WHAT IT READS IS OF BULK AT MOST 1048576: true; the input reads as it did. -/
def txReadsUptoRow : OpenClaim := { program := "ythglocpbdfcfnaa", sum := "cdc905029074f90736e169bdb4b5f86b7849df6c04cb8e159809b169e780b4d5", func := "sporran/sporranlaw07.TxReads", spec := "txReads", unfollowed := true, recurses := true, apart := false, narrowed := true }
def TxReadsUptoSaid : Prop := txReadsUptoRow.holds Try.pinned (OpenSpec.upto txReadsSpec)

/-- 'sporranlaw07.TxBack', WHERE WHAT IT READS IS OF BULK AT MOST 1048576: true; the input reads as it did. -/
def txBackUptoRow : OpenClaim := { program := "ythglocpbdfcfnaa", sum := "cdc905029074f90736e169bdb4b5f86b7849df6c04cb8e159809b169e780b4d5", func := "sporran/sporranlaw07.TxBack", spec := "txBack", unfollowed := true, recurses := true, apart := false, narrowed := true }
def TxBackUptoSaid : Prop := txBackUptoRow.holds Try.pinned (OpenSpec.upto txBackSpec)

/-- 'sporranlaw08.BlockShort', WHERE WHAT IT READS IS OF BULK AT MOST 1048576: true; the input reads as it did. -/
def blockShortUptoRow : OpenClaim := { program := "ythglocpbdfcfnaa", sum := "cdc905029074f90736e169bdb4b5f86b7849df6c04cb8e159809b169e780b4d5", func := "sporran/sporranlaw08.BlockShort", spec := "blockShort", unfollowed := true, recurses := true, apart := false, narrowed := true }
def BlockShortUptoSaid : Prop := blockShortUptoRow.holds Try.pinned (OpenSpec.upto blockShortSpec)

/-- 'sporranlaw08.BlockReads', WHERE WHAT IT READS IS OF BULK AT MOST 1048576: true; the input reads as it did. -/
def blockReadsUptoRow : OpenClaim := { program := "ythglocpbdfcfnaa", sum := "cdc905029074f90736e169bdb4b5f86b7849df6c04cb8e159809b169e780b4d5", func := "sporran/sporranlaw08.BlockReads", spec := "blockReads", unfollowed := true, recurses := true, apart := false, narrowed := true }
def BlockReadsUptoSaid : Prop := blockReadsUptoRow.holds Try.pinned (OpenSpec.upto blockReadsSpec)

/-- 'sporranlaw08.BlockBack', WHERE WHAT IT READS IS OF BULK AT MOST 1048576: true; the input reads as it did. -/
def blockBackUptoRow : OpenClaim := { program := "ythglocpbdfcfnaa", sum := "cdc905029074f90736e169bdb4b5f86b7849df6c04cb8e159809b169e780b4d5", func := "sporran/sporranlaw08.BlockBack", spec := "blockBack", unfollowed := true, recurses := true, apart := false, narrowed := true }
def BlockBackUptoSaid : Prop := blockBackUptoRow.holds Try.pinned (OpenSpec.upto blockBackSpec)

end Rows
end Go.Proofs.Ythglocpbdfcfnaa
