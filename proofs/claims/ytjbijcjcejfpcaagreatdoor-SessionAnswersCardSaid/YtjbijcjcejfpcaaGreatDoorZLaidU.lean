/- A world for the witness in which the two tables of unicode/utf8 are laid as well -/
import Derived.Test.YtjbijcjcejfpcaaGreatDoorZShaP
namespace Go.Proofs.YtjbijcjcejfpcaaGreatDoor
set_option linter.unusedVariables false
set_option maxRecDepth 100000
set_option maxHeartbeats 16000000
open Go Go.RowKit
def dCells {H:Type}:DataW H→List Value
 | .lit (.int k n)=>[.int k n]
 |_=>[]
def dCells1 {H:Type}:DataW H→List Value
 | .agg l=>l.flatMap dCells
 |d=>dCells d
def dCells2 {H:Type}:DataW H→List Value
 | .agg l=>l.flatMap dCells1
 |d=>dCells1 d
noncomputable def laidWorldU (os:Os):World:=
 { laidWorld os with heap:=((laidWorld os).heap.modify 2 (layCells (dCells1 Rows.laid_unicode_utf8_first).toArray)).modify 3 (layCells (dCells2 (Rows.laid_unicode_utf8_acceptRanges (H:=Unit))).toArray) }
end Go.Proofs.YtjbijcjcejfpcaaGreatDoor
