/- MessageBack: the walk.  -/
import Derived.Test.YtjbijcjcejfpcaaGreatDoorNMsgY
import Derived.Test.YtjbijcjcejfpcaaGreatDoorNMsgX
import Derived.Test.YtjbijcjcejfpcaaGreatDoorNGK
import Derived.Test.YtjbijcjcejfpcaaGreatDoorNMsgC
namespace Go.Proofs.YtjbijcjcejfpcaaGreatDoor
open Go Go.RowKit
set_option linter.unusedVariables false
theorem all_frm {s : ByteArray} {p : Option Addr} {n c : Nat} : (#[Value.string s, Value.slice p n c] : Array Value).all (·.oneCell') = true := by rw [List.all_toArray]; rfl
end Go.Proofs.YtjbijcjcejfpcaaGreatDoor
