/- Strings said as lists of bytes.  -/
import Derived.Test.YtndobjlodpkknaaBGA
namespace Go.Proofs.Ytndobjlodpkknaa
open Go.RowKit
def strB (bs : List (BitVec 8)) : ByteArray := strOfNums (bs.map iv8)
theorem strB_eq (as1 bs : List (BitVec 8)) : ((strB as1).toList == (strB bs).toList) = decide (as1 = bs) := by
  unfold strB
  rw [Lib.strOfNums_toList, Lib.strOfNums_toList]
  exact bytesOf_eq as1 bs
end Go.Proofs.Ytndobjlodpkknaa
