/- MessageBack: the walk. -/
import Derived.Test.YtjbijcjcejfpcaaGreatDoorZMsgY
import Derived.Test.YtjbijcjcejfpcaaGreatDoorZMsgX
import Derived.Test.YtjbijcjcejfpcaaGreatDoorZMsgI
namespace Go.Proofs.YtjbijcjcejfpcaaGreatDoor
set_option linter.unusedVariables false
set_option maxRecDepth 100000
set_option maxHeartbeats 16000000
open Go Go.RowKit
theorem all_frm {s:ByteArray} {p:Option Addr} {n c:Nat}:(#[Value.string s,Value.slice p n c]:Array Value).all (·.oneCell')=true:=by rw[List.all_toArray];rfl
end Go.Proofs.YtjbijcjcejfpcaaGreatDoor
