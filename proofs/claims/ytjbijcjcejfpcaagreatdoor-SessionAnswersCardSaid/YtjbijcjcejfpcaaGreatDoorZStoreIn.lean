/- A row of cells stored into the midst of a block that is known whole. -/
import Derived.Test.YtjbijcjcejfpcaaGreatDoorZGB
namespace Go.Proofs.YtjbijcjcejfpcaaGreatDoor
set_option linter.unusedVariables false
set_option maxRecDepth 100000
set_option maxHeartbeats 16000000
open Go Go.RowKit
theorem grown_cellsIn (b:Nat):∀(vs:List Value) (o:Nat) (w w':World),w.grownBy w' (some b)→w.grownBy (w'.setCells b o vs) (some b)
 | [],_,_,_,h=>h
 |v ::r,o,w,w',h=>grown_cellsIn b r (o+1) w (w'.setCell ⟨b,o,none⟩ v) (XIz h o v)
theorem Xqz {P:Program} {ops:Array Oper} {rest:List Oper} {op:Oper} {a:Act} {w:World} {Q:Exit→Act→World→Prop} (hgd:op.guard=none) (ty:TypeId) (x y:Operand) (ho:op.op= .store ty x y)
 (b o:Nat) (cells:List Value) (hx:a.eval x= .pointer (some ⟨b,o,none⟩)) (hy:a.eval y= .agg cells.toArray) (t:TypeId) (old:Array Value) (hb:Blk w b t old) (hfit:o+cells.length≤old.size)
 (hi:(P.info? ty).map (·.size)=some cells.toArray.size) (h1:cells.toArray.all (·.oneCell')=true)
 (h:∀w',Hid (Blk w' b t (Z5z old o cells))→Hid (w.grownBy w' (some b))→wpList P ops Q rest (a.put op.dst undef) w'):wpList P ops Q (op ::rest) a w:=by
 have ht:w.there b o cells.toArray.size:=fun j hj=>by
  have hj':j<cells.length:=by simpa using hj
  have hc:=hb.cell (o+j)
  rw[Array.getElem?_eq_getElem (by omega)]at hc
  exact⟨by rw[hc];rfl,hb.frozen (o+j)⟩
 refine wpList_store_mid hgd ty x y ho b o cells.toArray hx hy ht hi h1 ?_
 refine h _ (Lib.hid ?_) (Lib.hid ?_)
 ·exact Blk.setCells cells o w old hb
 ·exact grown_cellsIn b cells o w w (World.grownBy.refl w _)
theorem setAll_mid:∀(Y A X C:List Value),X.length=Y.length→Z5z (A++(X++C)).toArray A.length Y=(A++(Y++C)).toArray
 | [],A,[],C,_=>rfl
 | [],A,x ::X,C,h=>by cases h
 |v ::Y,A,[],C,h=>by cases h
 |v ::Y,A,x ::X,C,h=>by
  have e:(A++(x ::X++C)).toArray.setIfInBounds A.length v=((A++[v])++(X++C)).toArray:=by
   rw[List.setIfInBounds_toArray,List.set_append_right _ _ (Nat.le_refl _),Nat.sub_self]
   simp
  have h2:=setAll_mid Y (A++[v]) X C (by simpa using h)
  rw[List.length_append]at h2
  have h3:Z5z (A++(x ::X++C)).toArray A.length (v ::Y)=Z5z ((A++(x ::X++C)).toArray.setIfInBounds A.length v) (A.length+1) Y:=rfl
  rw[h3,e]
  refine h2.trans ?_
  simp
theorem set_midL (A C:List Value) (x y:Value):(A++x ::C).toArray.setIfInBounds A.length y=(A++y ::C).toArray:=by
 rw[List.setIfInBounds_toArray,List.set_append_right _ _ (Nat.le_refl _),Nat.sub_self]
 rfl
end Go.Proofs.YtjbijcjcejfpcaaGreatDoor
