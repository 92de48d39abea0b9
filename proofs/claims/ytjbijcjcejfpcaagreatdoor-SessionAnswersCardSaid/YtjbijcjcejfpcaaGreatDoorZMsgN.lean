/- sporranref10.Decode: the walk. -/
import Derived.Test.YtjbijcjcejfpcaaGreatDoorZMsgD
namespace Go.Proofs.YtjbijcjcejfpcaaGreatDoor
set_option linter.unusedVariables false
set_option maxRecDepth 100000
set_option maxHeartbeats 16000000
open Go Go.RowKit
def cmdVals13:List Value:=(List.range 13).map fun i=>.string (strB (cmdN (i+1)))
theorem cmdVals13_at (k:Nat) (h:k<13):cmdVals13[k]? =some (.string (strB (cmdN (k+1)))):=by
 unfold cmdVals13
 rw[List.getElem?_map,List.getElem?_range h]
 rfl
theorem commands_any (w:World):Calls Tryz.prog 38 #[] w fun e w'=>∃b,e= .returned (.slice (some ⟨b,0,none⟩) 13 13)∧w.heap.size≤b∧Blk w' b 9 cmdVals13.toArray∧Below w.heap.size w w':=by
 go_enter Tryz.func38,Tryz.ntmps38
 go_wp2_with fail
 have hb:=Q1z w (.cells cmdVals13.toArray 9)
 have hB:Blk (w.alloc (.cells cmdVals13.toArray 9)) w.heap.size 9 cmdVals13.toArray:=Blk.new w _ _
 go_ret
 exact⟨_,rfl,Nat.le_refl _,hB,hb⟩
end Go.Proofs.YtjbijcjcejfpcaaGreatDoor
