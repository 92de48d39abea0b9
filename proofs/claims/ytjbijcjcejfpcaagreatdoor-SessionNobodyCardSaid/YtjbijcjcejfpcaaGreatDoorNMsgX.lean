/- MessageReads: what the statement's function awake tells; the walk.  -/
import Derived.Test.YtjbijcjcejfpcaaGreatDoorNMsgN
import Derived.Test.YtjbijcjcejfpcaaGreatDoorNMsgC
import Derived.Test.YtjbijcjcejfpcaaGreatDoorNGK
import Derived.Test.YtjbijcjcejfpcaaGreatDoorNGH
import Derived.Test.YtjbijcjcejfpcaaGreatDoorNGS
import Derived.Test.YtjbijcjcejfpcaaGreatDoorNGA
namespace Go.Proofs.YtjbijcjcejfpcaaGreatDoor
open Go Go.RowKit
set_option linter.unusedVariables false
theorem MsgC.size {w : World} {m : TMsg} {cs : List Value} (h : MsgC w m cs) {Y : Array Value} (hY : Y.size = 139) : Y.size = cs.toArray.size := by rw [hY, List.size_toArray, h.len]
end Go.Proofs.YtjbijcjcejfpcaaGreatDoor
