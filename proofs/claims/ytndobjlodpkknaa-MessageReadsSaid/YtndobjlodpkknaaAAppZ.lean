/- append(b, make([]byte, n)...) on bytes of one's own: noughts behind.  -/
import Derived.Test.YtndobjlodpkknaaAGA
namespace Go.Proofs.Ytndobjlodpkknaa
open Go Go.RowKit
set_option linter.unusedVariables false
set_option linter.unusedSimpArgs false
def nulls (n : Nat) : List (BitVec 8) := List.replicate n 0#8
def zs (n : Nat) : List Value := List.replicate n (Value.int .u8 0)
section
variable (w : World)
end
end Go.Proofs.Ytndobjlodpkknaa
