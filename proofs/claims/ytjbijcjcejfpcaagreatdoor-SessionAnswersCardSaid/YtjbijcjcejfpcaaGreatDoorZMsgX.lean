/- MessageReads: what the statement's function awake tells; the walk. -/
import Derived.Test.YtjbijcjcejfpcaaGreatDoorZMsgN
namespace Go.Proofs.YtjbijcjcejfpcaaGreatDoor
set_option linter.unusedVariables false
set_option maxRecDepth 100000
set_option maxHeartbeats 16000000
open Go Go.RowKit
theorem MsgC.size {w:World} {m:TMsg} {cs:List Value} (h:MsgC w m cs) {Y:Array Value} (hY:Y.size=139):Y.size=cs.toArray.size:=by rw[hY,List.size_toArray,h.len]
end Go.Proofs.YtjbijcjcejfpcaaGreatDoor
