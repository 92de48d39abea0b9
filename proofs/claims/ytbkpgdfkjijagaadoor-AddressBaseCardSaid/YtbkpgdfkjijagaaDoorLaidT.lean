/- A world for the witness in which the two tables of unicode/utf8 are laid. -/
import Derived.Test.YtbkpgdfkjijagaaDoorRows
import Derived.Lib.LaidTab
import Derived.Stop.LaidErr
namespace Go.Proofs.YtbkpgdfkjijagaaDoor
open Go Go.RowKit

def dCellsT {H : Type} : DataW H → List Value
  | .lit (.int k n) => [.int k n]
  | _ => []
def dCellsT1 {H : Type} : DataW H → List Value
  | .agg l => l.flatMap dCellsT
  | d => dCellsT d
def dCellsT2 {H : Type} : DataW H → List Value
  | .agg l => l.flatMap dCellsT1
  | d => dCellsT1 d
/-- what a variable's initialiser lays -/
def layCellsT (cs : Array Value) : Obj → Obj
  | .cells _ t frozen => .cells cs t frozen
  | o => o
/-- a world for the witness: the settled one, the variables holding what they are laid with -/
noncomputable def laidWorldT (os : Os) : World :=
  { World.holding Tryd.prog os ⟨#[], #[], []⟩ with heap := ((World.holding Tryd.prog os ⟨#[], #[], []⟩).heap.modify 1 (layCellsT (dCellsT1 Rows.laid_unicode_utf8_first).toArray)).modify 2 (layCellsT (dCellsT2 (Rows.laid_unicode_utf8_acceptRanges (H := Unit))).toArray) }
end Go.Proofs.YtbkpgdfkjijagaaDoor
