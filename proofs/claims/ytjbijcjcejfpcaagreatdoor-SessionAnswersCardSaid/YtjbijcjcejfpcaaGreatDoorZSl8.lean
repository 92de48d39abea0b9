/- append on a row of one's own that may bear the run-time's mark ('[]byte(s)'): by -/
import Derived.ArgAppend
import Derived.Laws.IdiomStrings
import Derived.Lib.AppendStr
import Derived.Test.YtjbijcjcejfpcaaGreatDoorZStr
namespace Go.Proofs.YtjbijcjcejfpcaaGreatDoor
set_option linter.unusedVariables false
set_option maxRecDepth 100000
set_option maxHeartbeats 16000000
open Go.RowKit
def Sl8 (w:World) (B:Nat) (v:Value) (bs:List (BitVec 8)):Prop:=
 ∃g cap,v= .slice (some ⟨g,0,none⟩) bs.length cap∧B≤g∧g<w.heap.size∧bs.length≤cap∧cap≤maxLen∧(∀j u,(bs.map u8)[j]? =some u→w.cell? ⟨g,j,none⟩=some u)∧
  (∀j,j<cap→(w.cell? ⟨g,j,none⟩).isSome=true)∧(∀j,j<cap→w.frozen? ⟨g,j,none⟩=false)
theorem Sl8.of {w:World} {B:Nat} {v:Value} {bs:List (BitVec 8)} (h:Own8 w B v bs) (hne:bs≠[]):Sl8 w B v bs:=by
 have hc:=fun(g:Nat) hg=>World.ownsRow.cells h (g:=g) hg
 rcases h.2 with⟨_,h0⟩|⟨g,cap,cur,rfl,hB,hg,h1,h2,hs,ht⟩
 ·exact absurd (List.eq_nil_of_length_eq_zero h0) hne
 ·have hk:Blk w g 5 cur:=hg
  refine⟨g,cap,rfl,hB,hk.lt,h1,h2,fun j u hu=>?_,fun j hj=>?_,fun j _=>hk.frozen j⟩
  ·have:=hc g rfl j u hu
   rw[Addr.add_lit,Nat.zero_add]at this
   exact this
  ·rw[hk.cell j,Array.getElem?_eq_getElem (by omega)];rfl
theorem Sl8.row {w:World} {B:Nat} {v:Value} {bs:List (BitVec 8)} (h:Sl8 w B v bs):∃p c,v= .slice p bs.length c∧bs.length≤c∧Row8 w p bs:=by
 obtain⟨g,cap,rfl,_,hg,hl,_,hc,_⟩:=h
 refine⟨_,_,rfl,hl,fun _=>⟨g,0,rfl,hg,fun i x hx=>?_⟩⟩
 rw[Nat.zero_add]
 exact hc i _ (by rw[List.getElem?_map,hx];rfl)
theorem Xlz {B g:Nat} {a:World} (hB:B≤g):∀(vs:List Value) (o:Nat) (w:World),Below B a w→Below B a (w.setCells g o vs)
 | [],_,_,h=>h
 |v ::r,o,_,h=>Xlz hB r (o+1) _ (h.setCell (p:=⟨g,o,none⟩) hB v)
theorem drew_below (B:Nat) (w:World):Below B w w.drew:=⟨rfl,rfl,rfl,Nat.le_refl _,fun _ _=>rfl⟩
theorem Sl8.room {w:World} {B g cap:Nat} {as1:List (BitVec 8)} (h:Sl8 w B (.slice (some ⟨g,0,none⟩) as1.length cap) as1) (bs:List (BitVec 8)) (hl:as1.length+bs.length≤cap):
 Sl8 (w.setCells g as1.length (bs.map u8)) B (.slice (some ⟨g,0,none⟩) (as1.length+bs.length) cap) (as1++bs):=by
 obtain⟨g',cap',e,hB,hg,h1,h2,hc,hs,hf⟩:=h
 injection e with e1 _ e3
 injection e1 with e1
 injection e1 with e1
 subst e1
 subst e3
 have hb:=Xlz (B:=B) (a:=w) hB (bs.map u8) as1.length w (Below.refl _ _)
 have hin:=World.cell?_setCells_in g (bs.map u8) as1.length w (fun j hj=>hs _ (by simp at hj;omega))
 refine⟨g,cap,by simp,hB,Nat.lt_of_lt_of_le hg hb.size,by simpa using hl,h2,fun j u hu=>?_,fun j hj=>?_,fun j hj=>?_⟩
 ·rw[List.map_append]at hu
  rcases Nat.lt_or_ge j as1.length with h|h
  ·rw[List.getElem?_append_left (by simpa using h)]at hu
   rw[World.cell?_setCells_out g _ _ _ _ (fun _ _=>.inl h)]
   exact hc j u hu
  ·rw[List.getElem?_append_right (by simpa using h),List.length_map]at hu
   obtain⟨hj,hu⟩:=List.getElem?_eq_some_iff.1 hu
   have:=hin (j-as1.length) hj
   rw[show as1.length+(j-as1.length)=j by omega]at this
   rw[this,hu]
 ·by_cases hr:as1.length≤j∧j<as1.length+bs.length
  ·have:=hin (j-as1.length) (by simp;omega)
   rw[show as1.length+(j-as1.length)=j by omega]at this
   rw[this];rfl
  ·rw[World.cell?_setCells_out g _ _ _ _ (fun _ _=>by simp;omega)]
   exact hs j hj
 ·rw[World.frozen?_setCells];exact hf j hj
theorem strCells_strB (bs:List (BitVec 8)):Lib.strCells (strB bs)=bs.map u8:=by
 unfold Lib.strCells strB
 rw[strOfNums_data]
 simp only[List.map_map]
 refine List.map_congr_left fun b _=>?_
 have:=b.isLt
 simp[iv8,u8]
theorem run_sl8 (w:World) (ty:TypeId) (B:Nat) (v:Value) (as1:List (BitVec 8)) (h:Sl8 w B v as1) (p:Option Addr) (c:Nat) (bs:List (BitVec 8)) (hr:Row8 w p bs) (hne:bs≠[])
 (hlen:as1.length+bs.length≤140737488355328) (hB:B≤w.heap.size):
 ∃v' w',(Builtin.append_ #[26,26] ty #[v,.slice p bs.length c]).run Tryz.prog w= .ok v' w'∧Sl8 w' B v' (as1++bs)∧Below B w w':=by
 obtain⟨i0,hi,hz0,hz1,hz2⟩:=info_parts u8info
 obtain⟨b,off,rfl,_,hcell⟩:=hr hne
 have hcells:∀j u,(bs.map u8)[j]? =some u→w.cell? ((⟨b,off,none⟩:Addr).add j)=some u:=by
  intro j u hu
  rw[List.getElem?_map]at hu
  cases hx:bs[j]? with
  |none=>rw[hx]at hu;cases hu
  |some x=>
   rw[hx]at hu
   injection hu with hu
   rw[Addr.add_lit,hcell j x hx,← hu]
 have h':=h
 obtain⟨g,cap,rfl,hBg,hg,h1,h2,hc,hs,hf⟩:=h
 by_cases hroom:as1.length+bs.length≤cap
 ·have hrun:=run_append_room_cells (P:=Tryz.prog) w 26 ty 5 i0 Tryz.underlying26 hi g 0 as1.length cap ⟨b,off,none⟩ bs.length c (bs.map u8) (by rw[hz1];simp) hcells (Xzz _) hroom
   (fun j hj=>hs _ (by simp[hz1]at hj ⊢;omega)) (fun j hj=>hf _ (by simp[hz1]at hj ⊢;omega))
  rw[hz1,Nat.zero_add,Nat.mul_one]at hrun
  exact⟨_,_,hrun,h'.room bs hroom,Xlz hBg _ _ _ (Below.refl _ _)⟩
 ·obtain⟨v',w',hrun,ho,hgr⟩:=run_append_arg_grows (P:=Tryz.prog) w 26 ty 5 i0 (.int .u8 0) 1 1 Tryz.underlying26 hi hz0 hz1 hz2 rfl (by decide) ⟨g,0,none⟩ as1.length cap (as1.map u8) (by simp)
   (fun j u hu=>by rw[Addr.add_lit,Nat.zero_add];exact hc j u hu) ⟨b,off,none⟩ bs.length c (bs.map u8) (by simp) hcells (by omega) (by simp only[maxLen];omega) (by omega)
  have hown:Own8 w' w.heap.size v' (as1++bs):=by
   unfold Own8
   rw[List.length_append,List.map_append]
   exact ho
  exact⟨v',w',hrun,Sl8.of (hown.mono hB) (by simp[hne]),(Below.refl B w).grown hgr hB (fun k hk=>by cases hk)⟩
theorem run_sl8_string (w:World) (ty:TypeId) (B:Nat) (v:Value) (as1:List (BitVec 8)) (h:Sl8 w B v as1) (bs:List (BitVec 8))
 (hlen:as1.length+bs.length≤140737488355328) (hB:B≤w.heap.size):
 ∃v' w',(Builtin.append_ #[26,9] ty #[v,.string (strB bs)]).run Tryz.prog w= .ok v' w'∧Sl8 w' B v' (as1++bs)∧Below B w w':=by
 obtain⟨i0,hi,hz0,hz1,hz2⟩:=info_parts u8info
 have h':=h
 obtain⟨g,cap,rfl,hBg,hg,h1,h2,hc,hs,hf⟩:=h
 have hsz:(strB bs).size=bs.length:=Zbz bs
 have hsc:=strCells_strB bs
 by_cases hroom:as1.length+bs.length≤cap
 ·have hfs:=Lib.run_firstCells_string (P:=Tryz.prog) w 1 (strB bs)
  rw[hsz,hsc]at hfs
  have hst:=run_storeCells_cells (P:=Tryz.prog) g as1.length (bs.map u8) 0 w (fun j hj=>hs _ (by simp at hj ⊢;omega)) (fun j hj=>hf _ (by simp at hj ⊢;omega)) (Xzz _)
  rw[Nat.add_zero]at hst
  refine⟨_,_,?_,h'.room bs hroom,Xlz hBg _ _ _ (Below.refl _ _)⟩
  simp[Builtin.append_,run_underlying Tryz.underlying26,run_underlying Tryz.underlying9,sizeOf,typeInfo,hi,hz1,Builtin.lenOf,hsz,hroom,hfs,Addr.add_lit,hst]
 ·have hrun:=Lib.run_append_grow_string (P:=Tryz.prog) w 26 9 ty 5 i0 (.int .u8 0) Tryz.underlying26 Tryz.underlying9 hi hz0 ⟨g,0,none⟩ as1.length cap (as1.map u8) (by rw[hz1];simp)
   (fun j u hu=>by rw[Addr.add_lit,Nat.zero_add];exact hc j u hu) (strB bs) (by rw[hsz];omega) (by rw[hsz];omega) (by rw[hz2,hsz];exact growslice_fits (by omega) (by omega))
  rw[hsz,hsc]at hrun
  have hge:=grownCap_ge w (as1.length+bs.length) cap 5
  have hcm2:grownCap w (as1.length+bs.length) cap 5≤maxLen:=grownCap_le_maxLen w _ cap _ (by simp only[maxLen];omega)
  refine⟨_,_,hrun,Sl8.of (B:=B) ⟨by simp,.inr ⟨w.heap.size,_,_,by simp,hB,heap_alloc_new w.drew _,by simpa using hge,hcm2,?_,?_⟩⟩ (by intro e;have h9:=congrArg List.length e;rw[List.length_append,List.length_nil]at h9;omega),?_⟩
  ·have hz:(Value.int IntKind.u8 0).cells.size=1:=rfl
   simp only[Array.size_append,List.size_toArray,size_zeroCells,hz,List.length_map]
   omega
  ·simp only[Array.toList_append,List.map_append,List.length_append,Nat.mul_one]
   exact List.take_left' (by simp)
  ·exact(drew_below B w).alloc hB _
theorem run_sl8_new (w:World) (B:Nat) (bs:List (BitVec 8)) (hlen:bs.length≤140737488355328) (hB:B≤w.heap.size):
 ∃v' w',(convert 9 26 (.string (strB bs))).run Tryz.prog w= .ok v' w'∧Sl8 w' B v' bs∧Below B w w':=by
 have hrun:=run_bytes_of_string (P:=Tryz.prog) w 9 26 5 (strB bs) Tryz.underlying9 Tryz.underlying26 Tryz.underlying5
 have hsz:(strB bs).size=bs.length:=Zbz bs
 have hge:=grownCap_ge w bs.length 0 5
 have hcm2:grownCap w bs.length 0 5≤maxLen:=grownCap_le_maxLen w _ 0 _ (by simp only[maxLen];omega)
 rw[hsz]at hrun
 generalize grownCap w bs.length 0 5=cap at*
 have hrow:(bytesRow (strB bs) cap).size=cap:=by
  unfold bytesRow
  simp only[Array.size_append,Array.size_map,Array.size_replicate,hsz]
  have:(strB bs).data.size=bs.length:=hsz
  omega
 have hnew:=heap_alloc_new w.drew (.cells (bytesRow (strB bs) cap) 5 ((bytesRow (strB bs) cap).size,(bytesRow (strB bs) cap).size+1))
 refine⟨_,_,hrun,⟨w.heap.size,cap,rfl,hB,by rw[World.size_alloc];exact Nat.lt_succ_self _,hge,hcm2,fun j u hu=>?_,fun j hj=>?_,fun j hj=>?_⟩,(drew_below B w).alloc hB _⟩
 ·have hj:j<bs.length:=by
   have:=(List.getElem?_eq_some_iff.1 hu).1
   simpa using this
  rw[←strCells_strB]at hu
  have e:(bytesRow (strB bs) cap)[j]? =some u:=by
   unfold bytesRow
   rw[←Array.getElem?_toList,Array.toList_append,List.getElem?_append_left (by simp[hsz];exact hj),Array.toList_map]
   exact hu
  simp only[World.cell?]
  erw [hnew]
  simpa using e
 ·simp only[World.cell?]
  erw [hnew]
  simp[hrow,hj]
 ·simp only[World.frozen?]
  erw [hnew]
  simp[hrow];omega
theorem wp_sl8 {ops:Array Oper} {rest:List Oper} {o:Oper} {a:Act} {Q:Exit→Act→World→Prop} {w:World} (hgd:o.guard=none) (s x:Operand)
 (ho:o.op= .call { callee:=.builtin .append,args:=#[s,x],argTypes:=#[26,26] }) (B:Nat) (v:Value) (as1:List (BitVec 8)) (hs:a.eval s=v) (hown:Sl8 w B v as1)
 (p:Option Addr) (m c:Nat) (bs:List (BitVec 8)) (hx:a.eval x= .slice p m c) (hm:bs.length=m) (hr:Row8 w p bs) (hne:bs≠[])
 (hlen:as1.length+bs.length≤140737488355328) (hB:B≤w.heap.size)
 (h:∀v' w',Sl8 w' B v' (as1++bs)→Below B w w'→wpList Tryz.prog ops Q rest (a.put o.dst v') w'):wpList Tryz.prog ops Q (o ::rest) a w:=by
 subst hm
 obtain⟨v',w',hrun,h2,h3⟩:=run_sl8 w o.type B v as1 hown p c bs hr hne hlen hB
 refine wpList_plain hgd fun K hK=>?_
 unfold Oper.wp execOp
 simp only[ho,resolve,invoke,builtin,Sem.run_bind,Sem.run_pure,Result.andThen_ok,List.map_toArray,List.map_cons,List.map_nil,hs,hx,hrun]
 exact hK _ _ (h v' w' h2 h3)
theorem wp_sl8s {ops:Array Oper} {rest:List Oper} {o:Oper} {a:Act} {Q:Exit→Act→World→Prop} {w:World} (hgd:o.guard=none) (s x:Operand)
 (ho:o.op= .call { callee:=.builtin .append,args:=#[s,x],argTypes:=#[26,9] }) (B:Nat) (v:Value) (as1:List (BitVec 8)) (hs:a.eval s=v) (hown:Sl8 w B v as1)
 (bs:List (BitVec 8)) (hx:a.eval x= .string (strB bs)) (hlen:as1.length+bs.length≤140737488355328) (hB:B≤w.heap.size)
 (h:∀v' w',Sl8 w' B v' (as1++bs)→Below B w w'→wpList Tryz.prog ops Q rest (a.put o.dst v') w'):wpList Tryz.prog ops Q (o ::rest) a w:=by
 obtain⟨v',w',hrun,h2,h3⟩:=run_sl8_string w o.type B v as1 hown bs hlen hB
 refine wpList_plain hgd fun K hK=>?_
 unfold Oper.wp execOp
 simp only[ho,resolve,invoke,builtin,Sem.run_bind,Sem.run_pure,Result.andThen_ok,List.map_toArray,List.map_cons,List.map_nil,hs,hx,hrun]
 exact hK _ _ (h v' w' h2 h3)
theorem wp_sl8n {ops:Array Oper} {rest:List Oper} {o:Oper} {a:Act} {Q:Exit→Act→World→Prop} {w:World} (hgd:o.guard=none) (x:Operand)
 (ho:o.op= .convert 9 26 x) (B:Nat) (bs:List (BitVec 8)) (hx:a.eval x= .string (strB bs)) (hlen:bs.length≤140737488355328) (hB:B≤w.heap.size)
 (h:∀v' w',Sl8 w' B v' bs→Below B w w'→wpList Tryz.prog ops Q rest (a.put o.dst v') w'):wpList Tryz.prog ops Q (o ::rest) a w:=by
 obtain⟨v',w',hrun,h2,h3⟩:=run_sl8_new w B bs hlen hB
 refine wpList_plain hgd fun K hK=>?_
 unfold Oper.wp execOp
 simp only[ho,Sem.run_bind,Sem.run_pure,Result.andThen_ok,hx,hrun]
 exact hK _ _ (h v' w' h2 h3)
end Go.Proofs.YtjbijcjcejfpcaaGreatDoor
