/- Strings said as lists of bytes.  -/
import Derived.Test.YtjbijcjcejfpcaaGreatDoorLGA
namespace Go.Proofs.YtjbijcjcejfpcaaGreatDoor
open Go.RowKit
def strB (bs : List (BitVec 8)) : ByteArray := strOfNums (bs.map iv8)
theorem strB_size (bs : List (BitVec 8)) : (strB bs).size = bs.length := by unfold strB; rw [strOfNums_size]; simp
theorem strB_eq (as1 bs : List (BitVec 8)) : ((strB as1).toList == (strB bs).toList) = decide (as1 = bs) := by
  unfold strB
  rw [Lib.strOfNums_toList, Lib.strOfNums_toList]
  exact bytesOf_eq as1 bs
theorem Row8.convert {w : World} {p : Option Addr} {bs : List (BitVec 8)} (h : Row8 w p bs) (n c : Nat) (hn : bs.length = n) : (convert 26 9 (.slice p n c)).run Tryz.prog w = .ok (.string (strB bs)) w :=
  Lib.BytesIn.convert (h.bytesIn hn) (by simpa using hn) c 26 5 9 Tryz.underlying26 Tryz.underlying5 Tryz.underlying9
end Go.Proofs.YtjbijcjcejfpcaaGreatDoor
