/- MessageReads: what the statement's function awake tells; the walk.  -/
import Derived.Test.YtjbijcjcejfpcaaGreatDoorLMsgN
import Derived.Test.YtjbijcjcejfpcaaGreatDoorLMsgC
import Derived.Test.YtjbijcjcejfpcaaGreatDoorLGK
import Derived.Test.YtjbijcjcejfpcaaGreatDoorLGH
import Derived.Test.YtjbijcjcejfpcaaGreatDoorLGS
import Derived.Test.YtjbijcjcejfpcaaGreatDoorLGA
namespace Go.Proofs.YtjbijcjcejfpcaaGreatDoor
open Go Go.RowKit
set_option linter.unusedVariables false
theorem MsgC.size {w : World} {m : TMsg} {cs : List Value} (h : MsgC w m cs) {Y : Array Value} (hY : Y.size = 139) : Y.size = cs.toArray.size := by rw [hY, List.size_toArray, h.len]
end Go.Proofs.YtjbijcjcejfpcaaGreatDoor
