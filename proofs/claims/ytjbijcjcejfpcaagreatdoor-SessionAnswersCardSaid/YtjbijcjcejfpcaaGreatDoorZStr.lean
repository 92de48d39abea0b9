/- Strings said as lists of bytes. -/
import Derived.Test.YtjbijcjcejfpcaaGreatDoorZGA
namespace Go.Proofs.YtjbijcjcejfpcaaGreatDoor
set_option linter.unusedVariables false
set_option maxRecDepth 100000
set_option maxHeartbeats 16000000
open Go.RowKit
def strB (bs:List (BitVec 8)):ByteArray:=strOfNums (bs.map iv8)
theorem Zbz (bs:List (BitVec 8)):(strB bs).size=bs.length:=by unfold strB;rw[strOfNums_size];simp
theorem strB_eq (as1 bs:List (BitVec 8)):((strB as1).toList==(strB bs).toList)=decide (as1=bs):=by
 unfold strB
 rw[Lib.strOfNums_toList,Lib.strOfNums_toList]
 exact bytesOf_eq as1 bs
theorem Row8.convert {w:World} {p:Option Addr} {bs:List (BitVec 8)} (h:Row8 w p bs) (n c:Nat) (hn:bs.length=n):(convert 26 9 (.slice p n c)).run Tryz.prog w= .ok (.string (strB bs)) w:=
 Lib.BytesIn.convert (h.bytesIn hn) (by simpa using hn) c 26 5 9 Tryz.underlying26 Tryz.underlying5 Tryz.underlying9
end Go.Proofs.YtjbijcjcejfpcaaGreatDoor
