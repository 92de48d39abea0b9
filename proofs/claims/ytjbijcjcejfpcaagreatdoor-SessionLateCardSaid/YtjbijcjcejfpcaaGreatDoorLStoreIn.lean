/- A row of cells stored into the midst of a block that is known whole.  -/
import Derived.Deep.MidRow
import Derived.Test.YtjbijcjcejfpcaaGreatDoorLGB
namespace Go.Proofs.YtjbijcjcejfpcaaGreatDoor
open Go Go.RowKit
set_option linter.unusedVariables false
theorem set_midL (A C : List Value) (x y : Value) : (A ++ x :: C).toArray.setIfInBounds A.length y = (A ++ y :: C).toArray := by
  rw [List.setIfInBounds_toArray, List.set_append_right _ _ (Nat.le_refl _), Nat.sub_self]
  rfl
end Go.Proofs.YtjbijcjcejfpcaaGreatDoor
