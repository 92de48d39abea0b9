/- sporranref07.Encode: the walk.  -/
import Derived.Deep.CutBlock
import Derived.Deep.DeepCutAuto
import Derived.Test.YtjbijcjcejfpcaaGreatDoorLGD
import Derived.Test.YtjbijcjcejfpcaaGreatDoorLGE
namespace Go.Proofs.YtjbijcjcejfpcaaGreatDoor
open Go Go.RowKit
set_option linter.unusedVariables false
theorem Wr.apart {w0 w : World} {v : Value} {ys : Bs} {g : Nat} {t : TypeId} {cs : Array Value} (h : Wr w0 w v ys) (hg : Blk w g t cs) (ht : t ≠ 5) : v.ownBlock ≠ some g := (Sfx8.of h.own).apart hg ht
end Go.Proofs.YtjbijcjcejfpcaaGreatDoor
