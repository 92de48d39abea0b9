/- MessageBack: the walk.  -/
import Derived.Test.YtjbijcjcejfpcaaGreatDoorLMsgY
import Derived.Test.YtjbijcjcejfpcaaGreatDoorLMsgX
import Derived.Test.YtjbijcjcejfpcaaGreatDoorLGK
import Derived.Test.YtjbijcjcejfpcaaGreatDoorLMsgC
namespace Go.Proofs.YtjbijcjcejfpcaaGreatDoor
open Go Go.RowKit
set_option linter.unusedVariables false
theorem all_frm {s : ByteArray} {p : Option Addr} {n c : Nat} : (#[Value.string s, Value.slice p n c] : Array Value).all (·.oneCell') = true := by rw [List.all_toArray]; rfl
end Go.Proofs.YtjbijcjcejfpcaaGreatDoor
