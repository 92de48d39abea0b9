/- A string's bytes one by one. · frame.isCommand and sporranref09.isCommand: the w -/
import Derived.Lib.BufferWrite
import Derived.ChangeMaps5
import Derived.Test.YtjbijcjcejfpcaaGreatDoorZSl8
import Derived.Test.YtjbijcjcejfpcaaGreatDoorZConcat
import Derived.Test.YtjbijcjcejfpcaaGreatDoorZGS
namespace Go.Proofs.YtjbijcjcejfpcaaGreatDoor
set_option linter.unusedVariables false
set_option maxRecDepth 100000
set_option maxHeartbeats 16000000
section
open Go.RowKit
theorem strB_data (bs:List (BitVec 8)):(strB bs).data.toList=bs.map fun b=>UInt8.ofNat (iv8 b).toNat:=by unfold strB;rw[strOfNums_data,List.map_map];rfl
theorem strB_at (bs:List (BitVec 8)) (k:Nat) (x:BitVec 8) (h:bs[k]? =some x) (hk:k<(strB bs).size):((strB bs)[k].toNat:Int)=iv8 x:=by
 have h2:(strB bs).data.toList[k]? =some (UInt8.ofNat (iv8 x).toNat):=by rw[strB_data,List.getElem?_map,h];rfl
 have h3:(strB bs).data.toList[k]? =some (strB bs)[k]:=by
  rw[Array.getElem?_toList]
  exact Array.getElem?_eq_getElem hk
 rw[h3]at h2
 injection h2 with h2
 rw[h2]
 simp[iv8]
theorem strB_index (bs:List (BitVec 8)) (k:Nat) (x:BitVec 8) (h:bs[k]? =some x) (w:World):(Instr.index 9 (.string (strB bs)) (.int .i64 (k:Int))).run Tryz.prog w= .ok (.int .u8 (iv8 x)) w:=by
 have hk:k<(strB bs).size:=by rw[Zbz];exact(List.getElem?_eq_some_iff.1 h).1
 have ha:=strB_at bs k x h hk
 rw[run_index_string w _ _ _ _ Tryz.underlying9]
 simp[hk,ha]
end
section
open Go.RowKit
def inAZ (b:BitVec 8):Bool:= !(decide (iv8 b<97)||decide (122<iv8 b))
def cmdOk (s:List (BitVec 8)):Bool:=decide (0<s.length)&&decide (s.length≤12)&&s.all inAZ
theorem all_succ (bs:List (BitVec 8)) (k:Nat) (b:BitVec 8) (h:bs[k]? =some b):(bs.take (k+1)).all inAZ=((bs.take k).all inAZ&&inAZ b):=by
 rw[List.take_add_one,h,List.all_append];simp
theorem all_not (bs:List (BitVec 8)) (k:Nat) (b:BitVec 8) (h:bs[k]? =some b) (hb:inAZ b=false):bs.all inAZ=false:=by
 rw[Bool.eq_false_iff]
 intro h2
 have:=List.all_eq_true.1 h2 b (List.mem_of_getElem? h)
 rw[hb]at this
 cases this
theorem cmdC_any (b:BitVec 8) (w:World):Calls Tryz.prog 103 #[.int .u8 (iv8 b)] w fun e w'=>e= .returned (.bool (!inAZ b))∧w'=w:=by
 have H:Hid (inAZ b= !(decide (iv8 b<97)||decide (122<iv8 b))):=Lib.hid rfl
 by_cases h1:iv8 b<97
 ·have h1':decide (iv8 b<97)=true:=decide_eq_true h1
  have HF:Hid ((!inAZ b)=true):=Lib.hid (by rw[H.out,h1'];rfl)
  go_enter Tryz.func103,Tryz.ntmps103
  go_wp2
  go_ret
  exact⟨by rw[HF.out];rfl,rfl⟩
 ·have h1':decide (iv8 b<97)=false:=decide_eq_false h1
  by_cases h2:122<iv8 b
  ·have h2':decide (122<iv8 b)=true:=decide_eq_true h2
   have HF:Hid ((!inAZ b)=true):=Lib.hid (by rw[H.out,h1',h2'];rfl)
   go_enter Tryz.func103,Tryz.ntmps103
   go_wp2
   go_ret
   exact⟨by rw[HF.out];rfl,rfl⟩
  ·have h2':decide (122<iv8 b)=false:=decide_eq_false h2
   have HF:Hid ((!inAZ b)=false):=Lib.hid (by rw[H.out,h1',h2'];rfl)
   go_enter Tryz.func103,Tryz.ntmps103
   go_wp2
   go_ret
   exact⟨by rw[HF.out];rfl,rfl⟩
def IdxPost (w:World) (bs:List (BitVec 8)) (e:Ending) (w':World):Prop:=∃r:Int,e= .returned (.int .i64 r)∧decide (0≤r)=(!bs.all inAZ)∧w'=w
theorem cmdIdx_any (p:Option Addr) (n c:Nat) (bs:List (BitVec 8)) (w:World) (hr:Row8 w p bs) (hn:bs.length=n) (hb:n≤9223372036854775807):
 Calls Tryz.prog 133 #[.slice p n c,.func (.func 103) #[] #[]] w (IdxPost w bs):=by
 have HN:=Lib.hid hn
 have HR:=Lib.hid hr
 clear hn hr
 go_enter Tryz.func133,Tryz.ntmps133
 go_wp2_with fail
 go_loop [8] (fun i=>∃k:Nat,k≤n∧i= .int .i64 k∧Hid ((bs.take k).all inAZ=true)) (fun i=>n-(intOf i).toNat)
 case atStart=>exact⟨0,by omega,rfl,Lib.hid rfl⟩
 case round=>
  obtain⟨k,hk,rfl,ha⟩:=hrel
  by_cases hkn:k<n
  ·have hkn':(k:Int)<(n:Int):=by omega
   obtain⟨bb,of,hp,hlt,hc⟩:=HR.out (by intro e;have:=HN.out;rw[e]at this;simp at this;omega)
   subst hp
   obtain⟨x,hx⟩:∃x,bs[k]? =some x:=⟨_,List.getElem?_eq_getElem (by rw[HN.out];exact hkn)⟩
   have hcell:=hc k x hx
   unfold u8 at hcell
   have hst:=Lib.hid (all_succ bs k x hx)
   have hno:=Lib.hid (all_not bs k x hx)
   clear hc hx
   go_wp2_with fail
   refine(cmdC_any x _).mono ?_
   rintro e w' ⟨rfl,rfl⟩
   cases hz:inAZ x
   ·have HF:=hno.out hz
    rw[Bool.not_false]
    have HFF:=Lib.hid HF
    clear hz HF
    go_wp2_with fail
    go_ret
    exact⟨k,rfl,by rw[HFF.out,Bool.not_false];exact decide_eq_true (by omega),rfl⟩
   ·rw[Bool.not_true]
    have HT:Hid ((bs.take (k+1)).all inAZ=true):=Lib.hid (by rw[hst.out,ha.out,hz];rfl)
    clear hz
    go_wp2_with fail
    go_round
    case rel=>exact⟨k+1,by omega,by go_num,HT⟩
    case measure=>simp[intOf];omega
  ·have hkn':¬(k:Int)<(n:Int):=by omega
   have hke:k=n:=by omega
   subst hke
   have HT:Hid (bs.all inAZ=true):=Lib.hid (by have:=ha.out;rwa [List.take_of_length_le (by rw[HN.out];exact Nat.le_refl _)]at this)
   go_wp2_with fail
   go_ret
   exact⟨-1,rfl,by rw[HT.out];rfl,rfl⟩
theorem cmdHas_any (p:Option Addr) (n c:Nat) (bs:List (BitVec 8)) (w:World) (hr:Row8 w p bs) (hn:bs.length=n) (hb:n≤9223372036854775807):
 Calls Tryz.prog 102 #[.slice p n c,.func (.func 103) #[] #[]] w fun e w'=>e= .returned (.bool (!bs.all inAZ))∧w'=w:=by
 have HN:=Lib.hid hn
 have HR:=Lib.hid hr
 clear hn hr
 go_enter Tryz.func102,Tryz.ntmps102
 go_wp2_with fail
 refine(cmdIdx_any p n c bs _ HR.out HN.out hb).mono ?_
 rintro e w' ⟨r,rfl,hrr,rfl⟩
 obtain⟨q,hq⟩:∃q,q=(!bs.all inAZ):=⟨_,rfl⟩
 rw[←hq]at hrr
 have HQ:=Lib.hid hq
 clear hq
 go_wp2_with fail
 go_ret
 exact⟨by rw[←HQ.out];rfl,rfl⟩
theorem isCommand_any (p:Option Addr) (n c:Nat) (bs:List (BitVec 8)) (w:World) (hr:Row8 w p bs) (hn:bs.length=n) (hb:n≤9223372036854775807):
 Calls Tryz.prog 74 #[.slice p n c] w fun e w'=>e= .returned (.bool (cmdOk bs))∧w'=w:=by
 have HN:=Lib.hid hn
 have HR:=Lib.hid hr
 have HC:Hid (cmdOk bs=(decide (0<n)&&decide (n≤12)&&bs.all inAZ)):=Lib.hid (by unfold cmdOk;rw[hn])
 clear hn hr
 by_cases h0:0<n
 ·have h0i:(0:Int)<(n:Int):=by omega
  by_cases h1:n≤12
  ·have h1i:(n:Int)≤12:=by omega
   go_enter Tryz.func74,Tryz.ntmps74
   go_wp2_with fail
   refine(cmdHas_any p n c bs _ HR.out HN.out hb).mono ?_
   rintro e w' ⟨rfl,rfl⟩
   have HF:Hid (cmdOk bs=bs.all inAZ):=Lib.hid (by rw[HC.out,decide_eq_true h0,decide_eq_true h1];rfl)
   obtain⟨q,hq⟩:∃q,q=bs.all inAZ:=⟨_,rfl⟩
   rw[←hq]at HF ⊢
   clear hq
   go_wp2_with fail
   go_ret
   exact⟨by rw[HF.out];rfl,rfl⟩
  ·have h1i:¬(n:Int)≤12:=by omega
   have HF:Hid (cmdOk bs=false):=Lib.hid (by rw[HC.out,decide_eq_true h0,decide_eq_false h1];rfl)
   go_enter Tryz.func74,Tryz.ntmps74
   go_wp2_with fail
   go_ret
   exact⟨by rw[HF.out];rfl,rfl⟩
 ·have h0i:¬(0:Int)<(n:Int):=by omega
  have HF:Hid (cmdOk bs=false):=Lib.hid (by rw[HC.out,decide_eq_false h0];rfl)
  go_enter Tryz.func74,Tryz.ntmps74
  go_wp2_with fail
  go_ret
  exact⟨by rw[HF.out];rfl,rfl⟩
end
section
open Go.RowKit
theorem refCommand_any (bs:List (BitVec 8)) (w:World) (hb:bs.length≤9223372036854775807):
 Calls Tryz.prog 39 #[.string (strB bs)] w fun e w'=>e= .returned (.bool (cmdOk bs))∧w'=w:=by
 obtain⟨n,hn⟩:∃n,n=bs.length:=⟨_,rfl⟩
 rw[←hn]at hb
 have HN:Hid (bs.length=n):=Lib.hid hn.symm
 have hsz:(strB bs).size=n:=(Zbz bs).trans HN.out
 obtain⟨S,hS⟩:∃S,S=strB bs:=⟨_,rfl⟩
 have HS:=Lib.hid hS
 rw[←hS]at hsz ⊢
 have HZ:=Lib.hid hsz
 have hlen:∀ty w,(Builtin.len_ #[9] ty #[.string S]).run Tryz.prog w= .ok (.int .i64 (n:Int)) w:=fun ty w=>by
  rw[run_len_string w _ _ _ Tryz.underlying9,hsz];rfl
 have HC:Hid (cmdOk bs=(decide (0<n)&&decide (n≤12)&&bs.all inAZ)):=Lib.hid (by unfold cmdOk;rw[HN.out])
 clear hn hS hsz
 go_enter Tryz.func39,Tryz.ntmps39
 go_wp2_with fail
 go_loop [3] (fun i=>∃k:Nat,k≤n∧i= .int .i64 k∧Hid ((bs.take k).all inAZ=true)) (fun i=>n-(intOf i).toNat)
 case atStart=>exact⟨0,by omega,rfl,Lib.hid rfl⟩
 case round=>
  obtain⟨k,hk,rfl,ha⟩:=hrel
  by_cases hkn:k<n
  ·have hkn':(k:Int)<(n:Int):=by omega
   obtain⟨x,hx⟩:∃x,bs[k]? =some x:=⟨_,List.getElem?_eq_getElem (by rw[HN.out];exact hkn)⟩
   have hix:=strB_index bs k x hx
   rw[←HS.out]at hix
   have hst:=Lib.hid (all_succ bs k x hx)
   have hno:=Lib.hid (all_not bs k x hx)
   have H:Hid (inAZ x= !(decide (iv8 x<97)||decide (122<iv8 x))):=Lib.hid rfl
   clear hx
   by_cases h1:iv8 x<97
   ·have h1':decide (iv8 x<97)=true:=decide_eq_true h1
    have HF:Hid (cmdOk bs=false):=Lib.hid (by rw[HC.out,hno.out (by rw[H.out,h1'];rfl)];simp)
    go_wp2_with fail
    go_ret
    exact⟨by rw[HF.out];rfl,rfl⟩
   ·have h1':decide (iv8 x<97)=false:=decide_eq_false h1
    by_cases h2:122<iv8 x
    ·have h2':decide (122<iv8 x)=true:=decide_eq_true h2
     have HF:Hid (cmdOk bs=false):=Lib.hid (by rw[HC.out,hno.out (by rw[H.out,h1',h2'];rfl)];simp)
     go_wp2_with fail
     go_ret
     exact⟨by rw[HF.out];rfl,rfl⟩
    ·have h2':decide (122<iv8 x)=false:=decide_eq_false h2
     have HT:Hid ((bs.take (k+1)).all inAZ=true):=Lib.hid (by rw[hst.out,ha.out,H.out,h1',h2'];rfl)
     go_wp2_with fail
     go_round
     case rel=>exact⟨k+1,by omega,by go_num,HT⟩
     case measure=>simp[intOf];omega
  ·have hkn':¬(k:Int)<(n:Int):=by omega
   have hke:k=n:=by omega
   subst hke
   have HT:Hid (bs.all inAZ=true):=Lib.hid (by have:=ha.out;rwa [List.take_of_length_le (by rw[HN.out];exact Nat.le_refl _)]at this)
   by_cases h0:0<k
   ·have h0i:(1:Int)≤(k:Int):=by omega
    by_cases h1:k≤12
    ·have h1i:(k:Int)≤12:=by omega
     have HF:Hid (cmdOk bs=true):=Lib.hid (by rw[HC.out,HT.out,decide_eq_true h0,decide_eq_true h1];rfl)
     go_wp2_with fail
     go_ret
     exact⟨by rw[HF.out];rfl,rfl⟩
    ·have h1i:¬(k:Int)≤12:=by omega
     have HF:Hid (cmdOk bs=false):=Lib.hid (by rw[HC.out,decide_eq_true h0,decide_eq_false h1];rfl)
     go_wp2_with fail
     go_ret
     exact⟨by rw[HF.out];rfl,rfl⟩
   ·have h0i:¬(1:Int)≤(k:Int):=by omega
    have HF:Hid (cmdOk bs=false):=Lib.hid (by rw[HC.out,decide_eq_false h0];rfl)
    go_wp2_with fail
    go_ret
    exact⟨by rw[HF.out];rfl,rfl⟩
end
section
open Go.RowKit
theorem own_bytes (w:World) (bs:List (BitVec 8)) (cs:Array Value) (hc:cs=(bs.map u8).toArray) (hm:bs.length≤1000) (n:Nat) (hn:n=bs.length):Own8 (w.alloc (.cells cs 5)) w.heap.size (.slice (some ⟨w.heap.size,0,none⟩) n n) bs:=by
 subst hc
 subst hn
 exact⟨by simp,.inr ⟨w.heap.size,bs.length,_,rfl,Nat.le_refl _,Blk.new w _ _,Nat.le_refl _,by unfold maxLen;omega,by simp,by rw[Nat.mul_one,List.take_of_length_le (by simp)]⟩⟩
theorem low_four (n:BitVec 64):low n 4=[byteN n 0,byteN n 1,byteN n 2,byteN n 3]:=by simp[low,List.range_succ]
theorem frmLow_any (n:Nat) (x:Int) (hx:x=(n:Int)) (hn:n<4294967296) (w:World):Calls Tryz.prog 92 #[.int .u32 x] w (GivesOwn w (low (BitVec.ofNat 64 n) 4)):=by
 obtain⟨N,hN⟩:∃N,N=BitVec.ofNat 64 n:=⟨_,rfl⟩
 have hiv:iv64 N=x:=by rw[hN,hx];simp[iv64];omega
 rw[←hN]
 have h0:=shrB N 0
 have h1:=shrB N 1
 have h2:=shrB N 2
 have h3:=shrB N 3
 rw[hiv]at h0 h1 h2 h3
 have hx0:0≤x:=by omega
 have hx1:x<4294967296:=by omega
 simp only[Nat.mul_zero,Int.pow_zero,Int.ediv_one,Nat.mul_one,show 8*2=16 from rfl,show 8*3=24 from rfl,show(2:Int) ^ 8=256 from rfl,show(2:Int) ^ 16=65536 from rfl,show(2:Int) ^ 24=16777216 from rfl,IntKind.wrap_u8]at h0 h1 h2 h3
 have H0:=Lib.hid h0
 have H1:=Lib.hid h1
 have H2:=Lib.hid h2
 have H3:Hid (x / 16777216=iv8 (byteN N 3)):=Lib.hid (by rw[←h3];omega)
 have HL:=Lib.hid (low_four N)
 clear hN hiv hx hn h0 h1 h2 h3
 go_enter Tryz.func92,Tryz.ntmps92
 go_wp2
 go_ret
 exact⟨_,rfl,own_bytes w _ _ (by rw[HL.out,H0.out,H1.out,H2.out,H3.out];rfl) (by rw[Qez];omega) 4 (by rw[Qez]),Q1z w _⟩
end
section
open Go.RowKit
theorem wp_copyS {w:World} {ops:Array Oper} {rest:List Oper} {o:Oper} {a:Act} {Q:Exit→Act→World→Prop} (hgd:o.guard=none) (d s:Operand)
 (ho:o.op= .call { callee:=.builtin .copy,args:=#[d,s],argTypes:=#[26,9] })
 (dLen dCap:Nat) (bs:List (BitVec 8)) (g off:Nat) (hd:a.eval d= .slice (some ⟨g,off,none⟩) dLen dCap) (hs:a.eval s= .string (strB bs)) (hle:bs.length≤dLen)
 (cur:List Value) (t:TypeId) (hg:Blk w g t cur.toArray) (hfit:off+bs.length≤cur.length) (B:Nat) (w0:World) (hb:Below B w0 w) (hB:B≤g)
 (h:∀w',Hid (Blk w' g t (splice cur off (bs.map u8)).toArray)→Below B w0 w'→w.grownBy w' (some g)→w'.heap.size=w.heap.size→wpList Tryz.prog ops Q rest (a.put o.dst (goInt (bs.length:Int))) w'):
 wpList Tryz.prog ops Q (o ::rest) a w:=by
 have hbc:Lib.byteCells (strB bs).data.toList=bs.map u8:=strCells_strB bs
 have hr:=Lib.run_copy_row_string (P:=Tryz.prog) w 26 9 o.type 5 g off dLen dCap (strB bs) cur.toArray t Tryz.underlying26 (by kernel_rfl) hg (by rw[Zbz];exact hle) (by rw[Zbz,List.size_toArray];exact hfit)
 rw[Zbz,hbc]at hr
 refine wpList_plain hgd fun K hK=>?_
 unfold Oper.wp execOp
 simp only[ho,resolve,invoke,builtin,Sem.run_bind,Sem.run_pure,Result.andThen_ok,List.map_toArray,List.map_cons,List.map_nil,hd,hs,hr]
 refine hK _ _ (h _ ?_ (below_setRow hb hB _) ?_ (size_setRow _ _ _))
 ·have hG:=setRow_heap w g cur.toArray (splice cur off (bs.map u8)).toArray t _ hg
  refine Lib.hid ?_
  have e:(cur.toArray.toList.take off++bs.map u8++cur.toArray.toList.drop (off+bs.length))=splice cur off (bs.map u8):=by
   unfold splice
   rw[List.length_map,List.append_assoc]
  rw[e]
  exact hG
 ·exact⟨rfl,rfl,rfl,by simp,fun k _ hk=>by
   simp[World.setRow,Array.getElem?_modify];intro e;exact absurd (by rw[e]) hk⟩
theorem slice_info:(Tryz.prog.info? 26).map (fun i=>(i.zero,i.size,i.bytes))=some (some (.slice none 0 0),1,24):=by kernel_rfl
theorem own_none (w:World) (B:Nat):Own8 w B (.slice none 0 0) []:=⟨rfl,.inl ⟨rfl,rfl⟩⟩
def Sls (w:World):List Value→List (List (BitVec 8))→Prop
 | [],[]=>True
 |v ::vs,b ::bs=>Sl w v b∧Sls w vs bs
 |_,_=>False
theorem Sls.at {w:World}:∀(vs:List Value) (ls:List (List (BitVec 8))),Sls w vs ls→∀(i:Nat) (bs:List (BitVec 8)),ls[i]? =some bs→∃v,vs[i]? =some v∧Sl w v bs
 | [],[],_,_,_,h=>by cases h
 |v ::vs,b ::ls,hs,0,bs,h=>by
  injection h with h
  subst h
  exact⟨v,rfl,hs.1⟩
 |v ::vs,b ::ls,hs,i+1,bs,h=>Sls.at vs ls hs.2 i bs h
 | [],_ ::_,hs,_,_,_=>hs.elim
 |_ ::_,[],hs,_,_,_=>hs.elim
theorem rows8_lit {w:World} {g:Nat} {t:TypeId} {vs:List Value} {ls:List (List (BitVec 8))} (h:Blk w g t vs.toArray) (hs:Sls w vs ls):Rows8 w (some ⟨g,0,none⟩) ls:=fun _=>
 ⟨g,0,rfl,h.lt,fun i bs hi=>by
  obtain⟨v,hv,hsl⟩:=hs.at vs ls i bs hi
  exact⟨v,by rw[Nat.zero_add,h.cell,List.getElem?_toArray];exact hv,hsl⟩⟩
theorem Sls.fut {w w':World}:∀{vs:List Value} {ls:List (List (BitVec 8))},Sls w vs ls→Below w.heap.size w w'→Sls w' vs ls
 | [],[],_,_=>trivial
 |_ ::_,_ ::_,h,hb=>⟨h.1.fut hb,Sls.fut h.2 hb⟩
 | [],_ ::_,h,_=>h.elim
 |_ ::_,[],h,_=>h.elim
theorem Sls.cells {w:World}:∀{vs:List Value} {ls:List (List (BitVec 8))},Sls w vs ls→(∀v∈vs,v.cells=#[v])∧vs.length=ls.length
 | [],[],_=>⟨fun v hv=>(by cases hv),rfl⟩
 |v ::vs,b ::ls,h=>by
  obtain⟨p,n,c,rfl,_⟩:=h.1
  refine⟨fun x hx=>?_,by simp[(Sls.cells h.2).2]⟩
  rcases List.mem_cons.1 hx with rfl|hx
  ·rfl
  ·exact(Sls.cells h.2).1 x hx
 | [],_ ::_,h=>h.elim
 |_ ::_,[],h=>h.elim
theorem flat_one:∀(vs:List Value),(∀v∈vs,v.cells=#[v])→vs.flatMap (fun v=>v.cells.toList)=vs
 | [],_=>rfl
 |v ::vs,h=>by rw[List.flatMap_cons,h v (List.mem_cons_self ..),flat_one vs fun x hx=>h x (List.mem_cons_of_mem _ hx)];rfl
theorem wp_litS {ops:Array Oper} {rest:List Oper} {o:Oper} {a:Act} {w:World} {Q:Exit→Act→World→Prop} (hgd:o.guard=none) (len:Nat) (parts:Array (Nat × Operand)) (ho:o.op= .buildSlice 198 len parts)
 (vs:List Value) (ls:List (List (BitVec 8))) (hv:parts.toList.map (fun x=>(x.1,a.eval x.2))=(vs.zipIdx 0).map fun x=>(x.2,x.1)) (hs:Sls w vs ls) (hlen:vs.length=len) (hpos:0<len) (hsmall:len≤1000)
 (h:∀w',Below w.heap.size w w'→Rows8 w' (some ⟨w.heap.size,0,none⟩) ls→wpList Tryz.prog ops Q rest (a.put o.dst (.slice (some ⟨w.heap.size,0,none⟩) len len)) w'):wpList Tryz.prog ops Q (o ::rest) a w:=by
 obtain⟨hc,_⟩:=hs.cells
 refine wp_lit hgd 198 26 len parts ho vs hv 1 24 (.slice none 0 0) Tryz.underlying198 slice_info (by omega) (fun v hv=>by rw[hc v hv];rfl) hlen hpos (by omega) ?_
 rw[flat_one vs hc]
 exact h _ (Q1z w _) (rows8_lit (Blk.new w _ _) (hs.fut (Q1z w _)))
theorem splice_name (cmd:List (BitVec 8)):splice (Q5z (Qcz 12)) 0 (cmd.map u8)=Q5z (cmd++Qcz (12-cmd.length)):=by
 unfold splice Q5z Qcz
 rw[List.map_append,List.map_replicate,List.map_replicate,List.take_zero,List.nil_append,List.drop_replicate,List.length_map,Nat.zero_add]
def X2z (cmd pl:List (BitVec 8)):List (BitVec 8):=low (BitVec.ofNat 64 3652501241) 4++(cmd++Qcz (12-cmd.length))++low (BitVec.ofNat 64 pl.length) 4++(sha (sha pl)).take 4++pl
def frmP (cmd pl:List (BitVec 8)):List (BitVec 8) × Int:=if cmdOk cmd then(if 200000<pl.length then([],91)else(X2z cmd pl,0))else([],1)
def OutPost (w:World) (x:List (BitVec 8) × Int) (e:Ending) (w':World):Prop:=∃v,e= .returned (.tuple #[v,.int .i64 x.2])∧Own8 w' w.heap.size v x.1∧Below w.heap.size w w'
theorem OutPost.of {w w':World} {x:List (BitVec 8) × Int} {v:Value} {bs:List (BitVec 8)} {k:Int} (h:Hid (x=(bs,k))) (ho:Own8 w' w.heap.size v bs) (hb:Below w.heap.size w w'):OutPost w x (.returned (.tuple #[v,.int .i64 k])) w':=by
 have:=h.out
 subst this
 exact⟨v,rfl,ho,hb⟩
theorem cmdOk_len {s:List (BitVec 8)} (h:cmdOk s=true):s.length≤12:=by
 unfold cmdOk at h
 simp only[Bool.and_eq_true,decide_eq_true_eq]at h
 exact h.1.2
theorem zero12:∀w,(zeroValue 161).run Tryz.prog w= .ok (.agg (Q5z (Qcz 12)).toArray) w:=zero_of2 (by kernel_rfl)
theorem frmEncode_any (cmd pl:List (BitVec 8)) (p:Option Addr) (n c:Nat) (w:World) (hK:Laid w) (hcl:cmd.length≤140737488355328) (hr:Row8 w p pl) (hn:pl.length=n) (hnc:n≤c) (hcm:c≤9223372036854775807) (hp:p=none→c=0):
 Calls Tryz.prog 55 #[.agg #[.string (strB cmd),.slice p n c]] w (OutPost w (frmP cmd pl)):=by
 have HN:=Lib.hid hn
 have HK:=Lib.hid hK
 have HR:=Lib.hid hr
 have HP:=Lib.hid hp
 have hKs:=hK.size
 have HF:Hid (frmP cmd pl=if cmdOk cmd then(if 200000<n then([],91)else(X2z cmd pl,0))else([],1)):=Lib.hid (by unfold frmP;rw[hn])
 obtain⟨S,hS⟩:∃S,S=strB cmd:=⟨_,rfl⟩
 have HS:=Lib.hid hS
 rw[←hS]
 have HCL:=Lib.hid hcl
 clear hn hK hr hp hS hcl
 go_enter Tryz.func55,Tryz.ntmps55
 go_upto_region 1 with fail
 refine X9z (fun w'=>Hid (Blk w' w.heap.size 82 #[.string S,.slice p n c])∧Below w.heap.size w w') ⟨Lib.hid (Blk.new w _ _),Q1z w _⟩ ?_
 rintro w1 ⟨hf1,hb1⟩
 have c0:=hf1.out.cell 0
 have c1:=hf1.out.cell 1
 simp only[List.getElem?_toArray,List.getElem?_cons_zero,List.getElem?_cons_succ]at c0 c1
 go_wp2_with(with_reducible refine wp_sl8n (o:=⟨some 8,_,_,_,_,_⟩) ?_ (.tmp 7) ?_ w1.heap.size cmd ?_ ?_ ?_ ?_
             ·rfl
             ·rfl
             ·exact congrArg Value.string HS.out
             ·exact HCL.out
             ·exact Nat.le_refl _
             intro v2 w2 ho2 hb2
             obtain⟨p2,c2,rfl,hc2,hr2⟩:=ho2.row)
 have hmb:cmd.length≤9223372036854775807:=by have:=HCL.out;omega
 have hf2:=Lib.hid (hf1.out.fut hb2)
 clear hf1
 have hbw2:=hb1.trans (hb2.mono hb1.size)
 clear hb1 hb2 ho2 c0 c1
 refine(isCommand_any p2 cmd.length c2 cmd _ hr2 rfl hmb).mono ?_
 rintro e w3 ⟨rfl,hw3⟩
 replace hw3:=hw3.symm
 subst hw3
 cases hq:cmdOk cmd with
 |false=>
  have HF1:Hid (frmP cmd pl=([],1)):=Lib.hid (by rw[HF.out,hq];rfl)
  clear hq hr2
  go_wp2_with fail
  go_ret2
  exact OutPost.of HF1 (own_none _ _) hbw2
 |true=>
  have hm12:cmd.length≤12:=cmdOk_len hq
  have c0:=hf2.out.cell 0
  have c1:=hf2.out.cell 1
  simp only[List.getElem?_toArray,List.getElem?_cons_zero,List.getElem?_cons_succ]at c0 c1
  by_cases hl:200000<n
  ·have HF1:Hid (frmP cmd pl=([],91)):=Lib.hid (by rw[HF.out,hq,if_pos rfl,if_pos hl])
   have hli:(200000:Int)<(n:Int):=by omega
   clear hq hr2
   go_wp2_with fail
   go_ret2
   exact OutPost.of HF1 (own_none _ _) hbw2
  ·have HF1:Hid (frmP cmd pl=(X2z cmd pl,0)):=Lib.hid (by rw[HF.out,hq,if_pos rfl,if_neg hl])
   have hli:¬(200000:Int)<(n:Int):=by omega
   have hz:=zero12
   obtain⟨Z,hZ⟩:∃Z,Z=(Q5z (Qcz 12)).toArray:=⟨_,rfl⟩
   rw[←hZ]at hz
   have HZ:=Lib.hid hZ
   clear hq hr2 hZ HF
   go_upto_region 6 with fail
   refine X9z (fun w'=>Hid (Blk w' w.heap.size 82 #[.string S,.slice p n c])∧Hid (Blk w' w2.heap.size 161 (Q5z (Qcz 12)).toArray)∧w.heap.size<w2.heap.size∧Below w.heap.size w w') ⟨Lib.hid (hf2.out.alloc _),Lib.hid (by rw[←HZ.out];exact Blk.new w2 _ _),hf2.out.lt,hbw2.alloc hbw2.size _⟩ ?_
   clear hbw2 hf2 c0 c1
   obtain⟨g4,hg4⟩:∃g,g=w2.heap.size:=⟨_,rfl⟩
   rw[←hg4]
   rintro w3 ⟨hf3,hz3,hgg,hb3⟩
   have HG4:=Lib.hid hg4
   clear hg4
   have c0:∀k,(w3.drewN k).cell? ⟨w.heap.size,0,none⟩=some (.string S):=fun k=>by have:=hf3.out.cell 0;simpa using this
   refine QZz 3 (by kernel_rfl) (by kernel_rfl) ?_
   simp only[List.take_succ_cons,List.take_zero,List.drop_succ_cons,List.drop_zero]
   iterate 3 (go_big_quiet_step (fail))
   refine wpQuiet_nil ?_
   rintro _ ⟨nq,rfl⟩
   have hz4:=Lib.hid (hz3.out.fut (Q0z w3 nq))
   have hb4:=Q3z hb3 (Q0z w3 nq) (Nat.le_refl _)
   go_wp2_with(with_reducible refine wp_copyS (o:=⟨some 18,_,_,_,_,_⟩) ?_ (.tmp 15) (.tmp 17) ?_ 12 12 cmd g4 0 ?_ ?_ ?_ (Q5z (Qcz 12)) 161 ?_ ?_ w.heap.size w ?_ ?_ ?_
               ·rfl
               ·rfl
               ·rfl
               ·exact congrArg Value.string HS.out
               ·exact hm12
               ·exact hz4.out
               ·rw[Q5z,List.length_map,QDz];omega
               ·exact hb4
               ·omega
               intro w4 hz5 hb5 hg5 hs5
               have hf4:=(hf3.out.fut (Q0z w3 nq)).kept hg5 (Nat.ne_of_lt hgg)
               have c1:=hf4.cell 1
               simp only[List.getElem?_toArray,List.getElem?_cons_zero,List.getElem?_cons_succ]at c1)
   have hf5:=Lib.hid ((hf3.out.fut (Q0z w3 nq)).kept hg5 (Nat.ne_of_lt hgg))
   have hz6:Hid (Blk w4 g4 161 (Q5z (cmd++Qcz (12-cmd.length))).toArray):=Lib.hid (by rw[←splice_name];exact hz5.out)
   clear hz5 hg5 hs5 hz4 hb4 hf3 hz3 hb3 c0
   have hK5:=HK.out.below hb5 hKs
   have hR5:=HR.out.fut hb5
   refine(shaDouble_any p n c pl w4 hK5 hR5 HN.out hnc hcm (by omega)).mono ?_
   obtain⟨R,hRe⟩:∃R,R=sha (sha pl):=⟨_,rfl⟩
   have hRl:R.length=32:=by rw[hRe,Z2z]
   rw[←hRe]
   have HRe:=Lib.hid hRe
   have HRl:=Lib.hid hRl
   clear hRe hRl hK5 hR5
   rintro e w5 ⟨rfl,hb6⟩
   have hf6:=Lib.hid (hf5.out.fut hb6)
   have hz7:=Lib.hid (hz6.out.fut hb6)
   clear hf5 hz6
   have hbw6:=Q3z hb5 hb6 (Nat.le_refl _)
   clear hb5 hb6
   have hz32:=zero32
   obtain⟨Y,hY⟩:∃Y,Y=((Qcz 32).map u8).toArray:=⟨_,rfl⟩
   rw[←hY]at hz32
   have hYl:Hid (Y.size=32):=Lib.hid (by rw[hY];rfl)
   clear hY
   go_upto_region 8 with(first
    |(with_reducible refine Q4z (o:=⟨none,_,_,_,_,_⟩) ?_ 32 (.tmp 5) (.tmp 21) ?_ (w5.heap.size) 32 (Y) ((Q5z (R)).toArray) ?_ ?_ (Blk.new w5 _ _) ?_ ?_ ?_ (w5.heap.size) (w5) ?_ ?_ ?_
      ·rfl
      ·rfl
      ·rfl
      ·rfl
      ·exact(Qsz (HRl.out))
      ·exact((hYl.out).trans (Xsz (HRl.out)).symm)
      ·exact(Qzz _)
      ·exact(Q1z w5 _)
      ·exact(Nat.le_refl _)
      intro w6 hR6 hb7 hg7 hs7))
   obtain⟨g5,hg5⟩:∃g,g=w5.heap.size:=⟨_,rfl⟩
   rw[←hg5]at hR6 ⊢
   have hf8:=Lib.hid (hf6.out.fut hb7)
   have hz8:=Lib.hid (hz7.out.fut hb7)
   clear hf6 hz7
   have hbw8:=Q3z hbw6 hb7 (Nat.le_refl _)
   clear hbw6 hb7 hg7 hs7 hg5
   have hr8:=Lib.hid (HR.out.fut hbw8)
   refine QAz [qq 1,qq 2,qq 3,qq 4,qq 5,qq 7,qq 8,qq 9,oo 0,oo 6,oo 10,oo 11,qq 12,qq 13] (fun W=>Below w6.heap.size w6 W) (by kernel_rfl) (by kernel_rfl) (Below.refl _ _).drew ?_
   refine' Q9z (s:=34) (A1:=_) [1,2,3,4,5,7,8,9] [_,_,_,_,_,_,_,_] _ rfl rfl rfl (fun W hW=>?hq1) _ (Below.refl _ _).drew (fun _=>?hr1)
   case hq1=>
    have c1:∀k,(W.drewN k).cell? ⟨w.heap.size,1,none⟩=some (.slice p n c):=fun k=>by have:=(hf8.out.fut hW).cell 1;simpa using this
    simp only[List.getElem_toArray,List.getElem_cons_zero,List.getElem_cons_succ,Qpz]
    iterate 8 (go_big_quiet_step (fail))
    refine wpQuiet_nil ?_
    rfl
   case hr1=>
   refine Qbz rfl fun k1=>?_
   go_wp2_with fail
   refine(frmLow_any 3652501241 _ rfl (by omega) _).mono ?_
   rintro e w7 ⟨v7,rfl,ho7,hb7⟩
   have hF7:Below w6.heap.size w6 w7:=Q3z (Q0z w6 _) hb7 (Nat.le_refl _)
   clear hb7
   go_wp2_with fail
   refine Q2z (And.intro hF7 ?_)
   refine Qbz rfl fun k2=>?_
   go_wp2_with fail
   refine(frmLow_any n _ ?_ (by omega) _).mono ?_
   ·go_num
   rintro e w8 ⟨v8,rfl,ho8,hb8⟩
   have ho9:=(ho7.fut (Q0z w7 k2)).fut hb8
   have hF8:Below w6.heap.size w6 w8:=Q3z (Q3z hF7 (Q0z w7 k2) (Nat.le_refl _)) hb8 (Nat.le_refl _)
   clear hb8 ho7 hF7
   go_wp2_with fail
   refine Q2z (And.intro hF8 ?_)
   refine Qbz rfl fun k3=>?_
   generalize hw9:w8.drewN k3=w9
   have hb9:=Q0z w8 k3
   rw[hw9]at hb9
   have hs7:=(ho9.fut hb9).sl
   have hs8:=(ho8.fut hb9).sl
   have hF9:Below w6.heap.size w6 w9:=Q3z hF8 hb9 (Nat.le_refl _)
   have hsn:Sl w9 (.slice (some ⟨g4,0,none⟩) 12 12) (cmd++Qcz (12-cmd.length)):=⟨_,_,_,rfl,by rw[List.length_append,QDz];omega,by omega,by unfold maxLen;omega,QOz (hz8.out.fut hF9),fun h=>by cases h⟩
   have hsr:Sl w9 (.slice (some ⟨g5,0,none⟩) 4 32) (R.take 4):=⟨_,_,_,rfl,by rw[List.length_take,HRl.out];rfl,by omega,by unfold maxLen;omega,(QOz (hR6.out.fut hF9)).take 4,fun h=>by cases h⟩
   have hsp:Sl w9 (.slice p n c) pl:=⟨_,_,_,rfl,HN.out,hnc,by unfold maxLen;omega,hr8.out.fut hF9,HP.out⟩
   have hsl:Hid (Sls w9 [v7,.slice (some ⟨g4,0,none⟩) 12 12,v8,.slice (some ⟨g5,0,none⟩) 4 32,.slice p n c] [low (BitVec.ofNat 64 3652501241) 4,cmd++Qcz (12-cmd.length),low (BitVec.ofNat 64 n) 4,R.take 4,pl]):=Lib.hid ⟨hs7,hsn,hs8,hsr,hsp,trivial⟩
   obtain⟨ls,hls⟩:∃ls,ls=[low (BitVec.ofNat 64 3652501241) 4,cmd++Qcz (12-cmd.length),low (BitVec.ofNat 64 n) 4,R.take 4,pl]:=⟨_,rfl⟩
   rw[←hls]at hsl
   have HLS:=Lib.hid hls
   clear hs7 hs8 hsn hsr hsp hw9 hb9 ho8 ho9 hF8 hls
   refine wp_litS (o:=⟨some 32,_,_,_,_,_⟩) rfl 5 _ rfl _ ls rfl hsl.out rfl (by omega) (by omega) ?_
   intro w10 hb10 hro10
   have hF10:Below w6.heap.size w6 w10:=Q3z hF9 hb10 (Nat.le_refl _)
   refine Q2z (And.intro hF10 ?_)
   simp only[X4z,List.setIfInBounds_toArray,List.set_cons_succ,List.set_cons_zero]
   have hlen:XGz ls≤140737488355000:=by
    rw[←flatten_lens,HLS.out]
    simp only[List.flatten_cons,List.flatten_nil,List.length_append,List.length_nil,Qez,QDz,List.length_take,HRl.out,HN.out]
    omega
   have HFL:Hid (ls.flatten=X2z cmd pl):=Lib.hid (by
    rw[HLS.out]
    unfold X2z
    rw[HN.out,← HRe.out]
    simp only[List.flatten_cons,List.flatten_nil,List.append_nil,List.append_assoc])
   refine Qbz rfl fun k4=>?_
   go_wp2_with fail
   refine(concat_any _ 5 5 ls _ (hro10.below (Q0z w10 k4) (Nat.le_refl _)) (by rw[HLS.out];rfl) (by omega) hlen).mono ?_
   rw[HFL.out]
   rintro e w11 ⟨v11,rfl,ho11,hb11⟩
   have hF11:Below w6.heap.size w6 w11:=Q3z (Q3z hF10 (Q0z w10 k4) (Nat.le_refl _)) hb11 (Nat.le_refl _)
   have ho12:Own8 w11 w.heap.size v11 (X2z cmd pl):=ho11.mono (Nat.le_trans hbw8.size (Nat.le_trans hF10.size (Q0z w10 k4).size))
   clear hb11 ho11 hro10 hlen hF10
   go_wp2_with fail
   refine Q2z (And.intro hF11 ?_)
   refine' Q9z (s:=34) (A1:=_) (r:=[]) [12,13] [_,_] _ rfl rfl rfl (fun W hW=>?hq2) _ hF11 (fun _=>?hr2)
   case hq2=>
    simp only[List.getElem_toArray,List.getElem_cons_zero,List.getElem_cons_succ]
    iterate 2 (go_big_quiet_step (fail))
    refine wpQuiet_nil ?_
    rfl
   case hr2=>
   refine Qnz fun k9=>NoPanic.normal ?_
   generalize hw12:w11.drewN k9=w12
   have ho13:Own8 w12 w.heap.size v11 (X2z cmd pl):=by rw[←hw12];exact ho12.fut (Q0z w11 k9)
   have hF12:Below w.heap.size w w12:=by rw[←hw12];exact Q3z (hbw8.trans (hF11.mono hbw8.size)) (Q0z w11 k9) (Nat.le_refl _)
   clear ho12 hF11 hw12
   go_wp2
   go_ret2
   exact OutPost.of HF1 ho13 hF12
end
section
open Go.RowKit
theorem Sl8.fut {w w':World} {B:Nat} {v:Value} {bs:List (BitVec 8)} (h:Sl8 w B v bs) (hb:Below w.heap.size w w'):Sl8 w' B v bs:=by
 obtain⟨g,cap,rfl,hB,hg,h1,h2,hc,hs,hf⟩:=h
 exact⟨g,cap,rfl,hB,Nat.lt_of_lt_of_le hg hb.size,h1,h2,fun j u hu=>(hb.cell (p:=⟨g,j,none⟩) hg).trans (hc j u hu),fun j hj=>by rw[hb.cell (p:=⟨g,j,none⟩) hg];exact hs j hj,fun j hj=>by rw[hb.frozen (p:=⟨g,j,none⟩) hg];exact hf j hj⟩
theorem run_sl8e (w:World) (ty:TypeId) (B:Nat) (v:Value) (as1:List (BitVec 8)) (h:Sl8 w B v as1) (p:Option Addr) (c:Nat) (bs:List (BitVec 8)) (hr:Row8 w p bs)
 (hlen:as1.length+bs.length≤140737488355328) (hB:B≤w.heap.size):
 ∃v' w',(Builtin.append_ #[26,26] ty #[v,.slice p bs.length c]).run Tryz.prog w= .ok v' w'∧Sl8 w' B v' (as1++bs)∧Below B w w':=by
 by_cases hne:bs=[]
 ·subst hne
  obtain⟨i0,hi,hz0,hz1,hz2⟩:=info_parts u8info
  refine⟨v,w,?_,by simpa using h,Below.refl _ _⟩
  obtain⟨g,cap,rfl,hBg,hg,h1,h2,hc,hs,hf⟩:=h
  cases p<;>simp[Builtin.append_,run_underlying Tryz.underlying26,sizeOf,typeInfo,hi,Builtin.lenOf,Builtin.firstCells,h1,storeCells,loadCells,loadCellsFrom]
 ·exact run_sl8 w ty B v as1 h p c bs hr hne hlen hB
theorem wp_sl8e {ops:Array Oper} {rest:List Oper} {o:Oper} {a:Act} {Q:Exit→Act→World→Prop} {w:World} (hgd:o.guard=none) (s x:Operand)
 (ho:o.op= .call { callee:=.builtin .append,args:=#[s,x],argTypes:=#[26,26] }) (B:Nat) (v:Value) (as1:List (BitVec 8)) (hs:a.eval s=v) (hown:Sl8 w B v as1)
 (p:Option Addr) (m c:Nat) (bs:List (BitVec 8)) (hx:a.eval x= .slice p m c) (hm:bs.length=m) (hr:Row8 w p bs)
 (hlen:as1.length+bs.length≤140737488355328) (hB:B≤w.heap.size)
 (h:∀v' w',Sl8 w' B v' (as1++bs)→Below B w w'→wpList Tryz.prog ops Q rest (a.put o.dst v') w'):wpList Tryz.prog ops Q (o ::rest) a w:=by
 subst hm
 obtain⟨v',w',hrun,h2,h3⟩:=run_sl8e w o.type B v as1 hown p c bs hr hlen hB
 refine wpList_plain hgd fun K hK=>?_
 unfold Oper.wp execOp
 simp only[ho,resolve,invoke,builtin,Sem.run_bind,Sem.run_pure,Result.andThen_ok,List.map_toArray,List.map_cons,List.map_nil,hs,hx,hrun]
 exact hK _ _ (h v' w' h2 h3)
theorem grown_setCells {w:World} {H:Nat}:∀(vs:List Value) (o:Nat) (w':World),w.grownBy w' (some H)→w.grownBy (w'.setCells H o vs) (some H)
 | [],_,_,h=>h
 |v ::r,o,_,h=>grown_setCells r (o+1) _ (XIz h o v)
theorem run_sl8g (w:World) (ty:TypeId) (B:Nat) (v:Value) (as1:List (BitVec 8)) (h:Sl8 w B v as1) (p:Option Addr) (c:Nat) (bs:List (BitVec 8)) (hr:Row8 w p bs) (hne:bs≠[])
 (hlen:as1.length+bs.length≤140737488355328) (hB:B≤w.heap.size):
 ∃v' w',(Builtin.append_ #[26,26] ty #[v,.slice p bs.length c]).run Tryz.prog w= .ok v' w'∧Sl8 w' B v' (as1++bs)∧Below B w w'∧w.grownBy w' v.ownBlock:=by
 obtain⟨i0,hi,hz0,hz1,hz2⟩:=info_parts u8info
 obtain⟨b,off,rfl,_,hcell⟩:=hr hne
 have hcells:∀j u,(bs.map u8)[j]? =some u→w.cell? ((⟨b,off,none⟩:Addr).add j)=some u:=by
  intro j u hu
  rw[List.getElem?_map]at hu
  cases hx:bs[j]? with
  |none=>rw[hx]at hu;cases hu
  |some x=>
   rw[hx]at hu
   injection hu with hu
   rw[Addr.add_lit,hcell j x hx,← hu]
 have h':=h
 obtain⟨g,cap,rfl,hBg,hg,h1,h2,hc,hs,hf⟩:=h
 by_cases hroom:as1.length+bs.length≤cap
 ·have hrun:=run_append_room_cells (P:=Tryz.prog) w 26 ty 5 i0 Tryz.underlying26 hi g 0 as1.length cap ⟨b,off,none⟩ bs.length c (bs.map u8) (by rw[hz1];simp) hcells (Xzz _) hroom
   (fun j hj=>hs _ (by simp[hz1]at hj ⊢;omega)) (fun j hj=>hf _ (by simp[hz1]at hj ⊢;omega))
  rw[hz1,Nat.zero_add,Nat.mul_one]at hrun
  exact⟨_,_,hrun,h'.room bs hroom,Xlz hBg _ _ _ (Below.refl _ _),grown_setCells _ _ _ (World.grownBy.refl w _)⟩
 ·obtain⟨v',w',hrun,ho,hgr⟩:=run_append_arg_grows (P:=Tryz.prog) w 26 ty 5 i0 (.int .u8 0) 1 1 Tryz.underlying26 hi hz0 hz1 hz2 rfl (by decide) ⟨g,0,none⟩ as1.length cap (as1.map u8) (by simp)
   (fun j u hu=>by rw[Addr.add_lit,Nat.zero_add];exact hc j u hu) ⟨b,off,none⟩ bs.length c (bs.map u8) (by simp) hcells (by omega) (by simp only[maxLen];omega) (by omega)
  have hown:Own8 w' w.heap.size v' (as1++bs):=by
   unfold Own8
   rw[List.length_append,List.map_append]
   exact ho
  exact⟨v',w',hrun,Sl8.of (hown.mono hB) (by simp[hne]),(Below.refl B w).grown hgr hB (fun k hk=>by cases hk),⟨hgr.os,hgr.tape,hgr.output,hgr.size,fun k hk _=>hgr.block k hk (by simp)⟩⟩
theorem wp_sl8g {ops:Array Oper} {rest:List Oper} {o:Oper} {a:Act} {Q:Exit→Act→World→Prop} {w:World} (hgd:o.guard=none) (s x:Operand)
 (ho:o.op= .call { callee:=.builtin .append,args:=#[s,x],argTypes:=#[26,26] }) (B:Nat) (v:Value) (as1:List (BitVec 8)) (hs:a.eval s=v) (hown:Sl8 w B v as1)
 (p:Option Addr) (m c:Nat) (bs:List (BitVec 8)) (hx:a.eval x= .slice p m c) (hm:bs.length=m) (hr:Row8 w p bs) (hne:bs≠[])
 (hlen:as1.length+bs.length≤140737488355328) (hB:B≤w.heap.size)
 (h:∀v' w',Sl8 w' B v' (as1++bs)→Below B w w'→w.grownBy w' v.ownBlock→wpList Tryz.prog ops Q rest (a.put o.dst v') w'):wpList Tryz.prog ops Q (o ::rest) a w:=by
 subst hm
 obtain⟨v',w',hrun,h2,h3,h4⟩:=run_sl8g w o.type B v as1 hown p c bs hr hne hlen hB
 refine wpList_plain hgd fun K hK=>?_
 unfold Oper.wp execOp
 simp only[ho,resolve,invoke,builtin,Sem.run_bind,Sem.run_pure,Result.andThen_ok,List.map_toArray,List.map_cons,List.map_nil,hs,hx,hrun]
 exact hK _ _ (h v' w' h2 h3 h4)
def OutRow (w:World) (x:List (BitVec 8) × Int) (e:Ending) (w':World):Prop:=∃p n c,e= .returned (.tuple #[.slice p n c,.int .i64 x.2])∧Hid (x.1.length=n)∧n≤c∧c≤9223372036854775807∧Row8 w' p x.1∧Below w.heap.size w w'
theorem OutRow.nil {w w':World} {x:List (BitVec 8) × Int} {k:Int} (h:Hid (x=([],k))) (hb:Below w.heap.size w w'):OutRow w x (.returned (.tuple #[.slice none 0 0,.int .i64 k])) w':=by
 have:=h.out
 subst this
 exact⟨none,0,0,rfl,Lib.hid rfl,by omega,by omega,Row8.nil _ _,hb⟩
theorem OutRow.of {w w':World} {x:List (BitVec 8) × Int} {v:Value} {B:Nat} {bs:List (BitVec 8)} {k:Int} (h:Hid (x=(bs,k))) (ho:Sl8 w' B v bs) (hb:Below w.heap.size w w'):OutRow w x (.returned (.tuple #[v,.int .i64 k])) w':=by
 have:=h.out
 subst this
 obtain⟨p,c,rfl,h1,h2⟩:=ho.row
 obtain⟨g,cap,e,_,_,_,hm,_⟩:=ho
 injection e with _ _ e
 subst e
 exact⟨p,_,c,rfl,Lib.hid rfl,h1,hm,h2,hb⟩
def OutSl (w:World) (x:List (BitVec 8) × Int) (e:Ending) (w':World):Prop:=∃v,e= .returned (.tuple #[v,.int .i64 x.2])∧(Sl8 w' w.heap.size v x.1∨(v= .slice none 0 0∧x.1=[]))∧Below w.heap.size w w'
theorem Sl8.mono {w:World} {B B':Nat} {v:Value} {bs:List (BitVec 8)} (h:Sl8 w B v bs) (hB:B'≤B):Sl8 w B' v bs:=by
 obtain⟨g,cap,h1,h2,h3⟩:=h
 exact⟨g,cap,h1,Nat.le_trans hB h2,h3⟩
theorem OutSl.nil {w w':World} {x:List (BitVec 8) × Int} {k:Int} (h:Hid (x=([],k))) (hb:Below w.heap.size w w'):OutSl w x (.returned (.tuple #[.slice none 0 0,.int .i64 k])) w':=by
 have:=h.out
 subst this
 exact⟨_,rfl,.inr ⟨rfl,rfl⟩,hb⟩
theorem OutSl.of {w w':World} {x:List (BitVec 8) × Int} {v:Value} {B:Nat} {bs:List (BitVec 8)} {k:Int} (h:Hid (x=(bs,k))) (ho:Sl8 w' B v bs) (hB:w.heap.size≤B) (hb:Below w.heap.size w w'):OutSl w x (.returned (.tuple #[v,.int .i64 k])) w':=by
 have:=h.out
 subst this
 exact⟨_,rfl,.inl (ho.mono hB),hb⟩
theorem OutSl.row {w w':World} {x:List (BitVec 8) × Int} {e:Ending} (h:OutSl w x e w'):OutRow w x e w':=by
 obtain⟨v,he,h,hb⟩:=h
 rcases h with h|⟨rfl,h⟩
 ·obtain⟨y,k⟩:=x
  rw[he]
  exact OutRow.of (Lib.hid rfl) h hb
 ·rw[he]
  obtain⟨y,k⟩:=x
  replace h:y=[]:=h
  rw[h]
  exact OutRow.nil (Lib.hid rfl) hb
theorem low_magic:low (BitVec.ofNat 64 3652501241) 4≠[]:=by intro e;have:=congrArg List.length e;rw[Qez]at this;cases this
theorem low4_ne (n:BitVec 64):low n 4≠[]:=by intro e;have:=congrArg List.length e;rw[Qez]at this;cases this
theorem refFrmS_any (cmd pl:List (BitVec 8)) (p:Option Addr) (n c:Nat) (w:World) (hcl:cmd.length≤140737488355328) (hr:Row8 w p pl) (hn:pl.length=n):
 Calls Tryz.prog 21 #[.agg #[.string (strB cmd),.slice p n c]] w (OutSl w (frmP cmd pl)):=by
 have HN:=Lib.hid hn
 have HR:=Lib.hid hr
 have HF:Hid (frmP cmd pl=if cmdOk cmd then(if 200000<n then([],91)else(X2z cmd pl,0))else([],1)):=Lib.hid (by unfold frmP;rw[hn])
 have hcl2:cmd.length≤9223372036854775807:=by omega
 clear hn hr
 have hci:=fun W=>refCommand_any cmd W hcl2
 obtain⟨S,hS⟩:∃S,S=strB cmd:=⟨_,rfl⟩
 rw[←hS]at hci ⊢
 have HS:=Lib.hid hS
 have HCL:=Lib.hid hcl
 clear hcl hS hcl2
 go_enter Tryz.func21,Tryz.ntmps21
 go_upto_region 1 with fail
 refine X9z (fun w'=>Hid (Blk w' w.heap.size 82 #[.string S,.slice p n c])∧Below w.heap.size w w') ⟨Lib.hid (Blk.new w _ _),Q1z w _⟩ ?_
 rintro w1 ⟨hf1,hb1⟩
 have c0:=hf1.out.cell 0
 have c1:=hf1.out.cell 1
 simp only[List.getElem?_toArray,List.getElem?_cons_zero,List.getElem?_cons_succ]at c0 c1
 go_wp2_with fail
 refine(hci w1).mono ?_
 rintro e w2 ⟨rfl,hw2⟩
 replace hw2:=hw2.symm
 subst hw2
 cases hq:cmdOk cmd with
 |false=>
  have HF1:Hid (frmP cmd pl=([],1)):=Lib.hid (by rw[HF.out,hq];rfl)
  clear hq
  go_wp2_with fail
  go_ret2
  exact OutSl.nil HF1 hb1
 |true=>
  have hm12:cmd.length≤12:=cmdOk_len hq
  by_cases hl:200000<n
  ·have HF1:Hid (frmP cmd pl=([],91)):=Lib.hid (by rw[HF.out,hq,if_pos rfl,if_pos hl])
   have hli:(200000:Int)<(n:Int):=by omega
   clear hq
   go_wp2_with fail
   go_ret2
   exact OutSl.nil HF1 hb1
  ·have HF1:Hid (frmP cmd pl=(X2z cmd pl,0)):=Lib.hid (by rw[HF.out,hq,if_pos rfl,if_neg hl])
   have hli:¬(200000:Int)<(n:Int):=by omega
   clear hq HF
   go_upto_region 5 with fail
   clear c0 c1
   refine QAz [qq 1,qq 2,oo 0,oo 3,qq 4] (fun W=>Below w1.heap.size w1 W) (by kernel_rfl) (by kernel_rfl) (Below.refl _ _).drew ?_
   refine' Q9z (s:=40) (A1:=_) [1,2] [_,_] _ rfl rfl rfl (fun W hW=>?hq1) _ (Below.refl _ _).drew (fun _=>?hr1)
   case hq1=>
    have c0:∀k,(W.drewN k).cell? ⟨w.heap.size,0,none⟩=some (.string S):=fun k=>by have:=(hf1.out.fut hW).cell 0;simpa using this
    simp only[List.getElem_toArray,List.getElem_cons_zero,List.getElem_cons_succ]
    iterate 2 (go_big_quiet_step (fail))
    refine wpQuiet_nil ?_
    rfl
   case hr1=>
   refine Qbz rfl fun k1=>?_
   go_wp2_with fail
   have hlm:=QFz (BitVec.ofNat 64 3652501241) 4 (by omega) (w1.drewN (1+k1))
   rw[show iv64 (BitVec.ofNat 64 3652501241)=3652501241 by decide]at hlm
   refine hlm.mono ?_
   rintro e w2 ⟨v2,rfl,ho2,hb2⟩
   have hF2:Below w1.heap.size w1 w2:=Q3z (Q0z w1 _) hb2 (Nat.le_refl _)
   have hs2:=(Sl8.of ho2 low_magic)
   clear hb2 hlm ho2
   go_wp2_with fail
   refine Q2z (And.intro hF2 ?_)
   refine Qbz rfl fun k2=>?_
   have hs2':=hs2.fut (Q0z w2 k2)
   have hF2':=Q3z hF2 (Q0z w2 k2) (Nat.le_refl _)
   refine wp_sl8s (o:=⟨some 17,_,_,_,_,_⟩) rfl (.tmp 14) (.tmp 16) rfl w1.heap.size v2 _ rfl hs2' cmd (congrArg Value.string HS.out) (by rw[Qez];omega) hF2'.size ?_
   intro v3 w3 hs3 hb3
   have hF3:Below w1.heap.size w1 w3:=hF2'.trans hb3
   clear hb3 hs2' hF2' hs2 hF2
   refine Q2z (And.intro hF3 ?_)
   simp only[X4z,List.setIfInBounds_toArray,List.set_cons_succ,List.set_cons_zero]
   refine' Q9z (s:=40) (A1:=_) (r:=[]) [4] [_] _ rfl rfl rfl (fun W hW=>?hq2) _ hF3 (fun _=>?hr2)
   case hq2=>
    simp only[List.getElem_toArray,List.getElem_cons_zero,List.getElem_cons_succ]
    iterate 1 (go_big_quiet_step (fail))
    refine wpQuiet_nil ?_
    rfl
   case hr2=>
   refine Qnz fun k9=>NoPanic.normal ?_
   generalize hw4:w3.drewN k9=w4
   have hs4:Sl8 w4 w1.heap.size v3 (low (BitVec.ofNat 64 3652501241) 4++cmd):=by rw[←hw4];exact hs3.fut (Q0z w3 k9)
   have hF4:Below w1.heap.size w1 w4:=by rw[←hw4];exact Q3z hF3 (Q0z w3 k9) (Nat.le_refl _)
   clear hs3 hF3 hw4
   obtain⟨P,hP⟩:∃P,P=low (BitVec.ofNat 64 3652501241) 4++cmd:=⟨_,rfl⟩
   rw[←hP]at hs4
   have HPL:Hid (P.length=4+cmd.length):=Lib.hid (by rw[hP,List.length_append,Qez])
   have HP:=Lib.hid hP
   clear hP
   go_wp2_with fail
   go_loopw[4] (fun v wr=>∃k:Nat,k+cmd.length≤12∧Sl8 wr w1.heap.size v (P++Qcz k)∧Below w1.heap.size w1 wr) (fun v _=>16-lenS v)
   case atStart=>exact⟨0,by omega,by simpa[Qcz]using hs4,hF4⟩
   case round=>
    obtain⟨k,hk,hs5,hF5⟩:=hrel
    clear hs4 hF4
    have hl5:(P++Qcz k).length=4+cmd.length+k:=by rw[List.length_append,HPL.out];simp[Qcz]
    have hs5':=hs5
    obtain⟨g5,cap5,e5,_,hlt,hcap5,hcm5,_⟩:=hs5'
    rw[hl5]at e5 hcap5
    subst e5
    by_cases hkz:k+cmd.length<12
    ·have hli2:((4+cmd.length+k:Nat):Int)<16:=by omega
     have hb6:Below wr.heap.size wr (wr.alloc (.cells #[.int .u8 0] 5)):=Q1z _ _
     have hrow6:Row8 (wr.alloc (.cells #[.int .u8 0] 5)) (some ⟨wr.heap.size,0,none⟩) [0#8]:=new_oneS wr 0#8
     have hs6:=hs5.fut hb6
     have hF6:=Q3z hF5 hb6 (Nat.le_refl _)
     have hsz6:=hF6.size
     clear hs5 hF5
     go_wp2_with(with_reducible refine wp_sl8 (o:=⟨some 23,_,_,_,_,_⟩) ?_ (.tmp 21) (.tmp 22) ?_ w1.heap.size _ (P++Qcz k) ?_ hs6 (some ⟨wr.heap.size,0,none⟩) 1 1 [0#8] ?_ rfl hrow6 ?_ ?_ hsz6 ?_
                 ·rfl
                 ·rfl
                 ·rfl
                 ·rfl
                 ·simp
                 ·rw[hl5];simp only[List.length_cons,List.length_nil];omega
                 intro v7 w7 hs7 hb7)
     have hF7:=hF6.trans hb7
     have hs8:Sl8 w7 w1.heap.size v7 (P++Qcz (k+1)):=by rw[noughts_succ,← List.append_assoc];exact hs7
     have hl8:(P++Qcz (k+1)).length=4+cmd.length+(k+1):=by rw[List.length_append,HPL.out];simp[Qcz]
     have hs8':=hs8
     obtain⟨g8,cap8,e8,_⟩:=hs8'
     rw[hl8]at e8
     subst e8
     go_roundw
     case rel=>exact⟨k+1,by omega,hs8,hF7⟩
     case measure=>simp only[lenS];omega
    ·have hli2:¬((4+cmd.length+k:Nat):Int)<16:=by omega
     have hke:k=12-cmd.length:=by omega
     obtain⟨M,hM⟩:∃M,M=P++Qcz k:=⟨_,rfl⟩
     rw[←hM]at hs5 hl5
     have HM:Hid (M=low (BitVec.ofNat 64 3652501241) 4++(cmd++Qcz (12-cmd.length))):=Lib.hid (by rw[hM,HP.out,hke,List.append_assoc])
     have HML:Hid (M.length=16):=Lib.hid (by rw[hl5];omega)
     clear hM hkz hl5 HPL HP
     have hfr:=Lib.hid (hf1.out.fut hF5)
     have c1:=hfr.out.cell 1
     simp only[List.getElem?_toArray,List.getElem?_cons_zero,List.getElem?_cons_succ]at c1
     have hle:w.heap.size≤w1.heap.size:=hb1.size
     have hbwr:Below w.heap.size w wr:=hb1.trans (hF5.mono hle)
     go_wp2_with fail
     refine(refDouble_any p n c pl wr (HR.out.fut hbwr) HN.out (by omega)).mono ?_
     obtain⟨R,hRe⟩:∃R,R=sha (sha pl):=⟨_,rfl⟩
     have hRl:R.length=32:=by rw[hRe,Z2z]
     rw[←hRe]
     have HRe:=Lib.hid hRe
     have HRl:=Lib.hid hRl
     clear hRe hRl c1
     rintro e w5 ⟨rfl,hb5⟩
     have hz32:=zero32
     obtain⟨Y,hY⟩:∃Y,Y=((Qcz 32).map u8).toArray:=⟨_,rfl⟩
     rw[←hY]at hz32
     have hYl:Hid (Y.size=32):=Lib.hid (by rw[hY];rfl)
     clear hY
     go_upto_region 9 with(first
      |(with_reducible refine Q4z (o:=⟨none,_,_,_,_,_⟩) ?_ 32 (.tmp 5) (.tmp 26) ?_ (w5.heap.size) 32 (Y) ((Q5z (R)).toArray) ?_ ?_ (Blk.new w5 _ _) ?_ ?_ ?_ (w5.heap.size) (w5) ?_ ?_ ?_
        ·rfl
        ·rfl
        ·rfl
        ·rfl
        ·exact(Qsz (HRl.out))
        ·exact((hYl.out).trans (Xsz (HRl.out)).symm)
        ·exact(Qzz _)
        ·exact(Q1z w5 _)
        ·exact(Nat.le_refl _)
        intro w6 hR6 hb7 hg7 hs7))
     obtain⟨g5',hg5⟩:∃g,g=w5.heap.size:=⟨_,rfl⟩
     rw[←hg5]at hR6 ⊢
     have hb57:Below wr.heap.size wr w6:=Q3z hb5 hb7 (Nat.le_refl _)
     have hfr6:=Lib.hid (hfr.out.fut hb57)
     clear hfr
     have hs6:=hs5.fut hb57
     have hF6:=Q3z hF5 hb57 (Nat.le_refl _)
     have hbw6:=Q3z hbwr hb57 (Nat.le_refl _)
     have hlt5:g5<g5':=by rw[hg5];exact Nat.lt_of_lt_of_le hlt hb5.size
     clear hb57 hb5 hb7 hs5 hF5 hbwr hg5 hs7 hg7
     rw[hke]at hs6
     simp only[Qpz]
     refine QAz [qq 0,qq 1,qq 2,qq 3,qq 4,qq 7,oo 5,oo 6,oo 8,qq 9] (fun W=>Below w1.heap.size w1 W) (by kernel_rfl) (by kernel_rfl) hF6.drew ?_
     refine' Q9z (s:=40) (A1:=_) [0,1,2,3,4,7] [_,_,_,_,_,_] _ rfl rfl rfl (fun W hW=>?hq1) _ hF6.drew (fun _=>?hr1)
     case hq1=>
      have c1:∀k,(W.drewN k).cell? ⟨w.heap.size,1,none⟩=some (.slice p n c):=fun k=>by have:=(hf1.out.fut hW).cell 1;simpa using this
      simp only[List.getElem_toArray,List.getElem_cons_zero,List.getElem_cons_succ]
      iterate 6 (go_big_quiet_step (fail))
      refine wpQuiet_nil ?_
      rfl
     case hr1=>
     refine Qbz rfl fun k1=>?_
     go_wp2_with fail
     have hlm:=QFz (BitVec.ofNat 64 n) 4 (by omega) (w6.drewN (1+k1))
     rw[show iv64 (BitVec.ofNat 64 n)=(n:Int) by simp[iv64];omega]at hlm
     refine hlm.mono ?_
     rintro e w7 ⟨v7,rfl,ho7,hb7⟩
     have hb67:Below w6.heap.size w6 w7:=Q3z (Q0z w6 (1+k1)) hb7 (Nat.le_refl _)
     have hF7:Below w1.heap.size w1 w7:=Q3z hF6 hb67 (Nat.le_refl _)
     have hs7:=hs6.fut hb67
     have hR7:=Lib.hid (hR6.out.fut hb67)
     clear hb67 hb7 hlm hs6 hF6 hR6
     go_wp2_with fail
     refine Q2z (And.intro hF7 ?_)
     refine Qbz rfl fun k2=>?_
     have hs7':=hs7.fut (Q0z w7 k2)
     have hF7':=Q3z hF7 (Q0z w7 k2) (Nat.le_refl _)
     have hR7':=Lib.hid (hR7.out.fut (Q0z w7 k2))
     obtain⟨q7,d7,rfl,_,_,hr7⟩:=(ho7.fut (Q0z w7 k2)).row
     refine wp_sl8g (o:=⟨some 33,_,_,_,_,_⟩) rfl (.tmp 27) (.tmp 32) rfl w1.heap.size _ M rfl hs7' q7 _ d7 (low (BitVec.ofNat 64 n) 4) rfl rfl hr7 (low4_ne _) (by rw[HML.out,Qez];omega) hF7'.size ?_
     intro v8 w8 hs8 hb8 hg8
     have hF8:Below w1.heap.size w1 w8:=hF7'.trans hb8
     have hR8:=Lib.hid (hR7'.out.kept hg8 (Nat.ne_of_gt hlt5))
     clear hb8 hg8 hs7 hs7' hF7 hF7' hR7 hR7' hr7 ho7
     refine Q2z (And.intro hF8 ?_)
     simp only[X4z,List.setIfInBounds_toArray,List.set_cons_succ,List.set_cons_zero]
     refine Qbz rfl fun k3=>?_
     have hF8':=Q3z hF8 (Q0z w8 k3) (Nat.le_refl _)
     have hr8:=(QOz (hR8.out.fut (Q0z w8 k3))).take 4
     have hl8:(M++low (BitVec.ofNat 64 n) 4).length=20:=by rw[List.length_append,HML.out,Qez]
     have hRt:(R.take 4).length=4:=by rw[List.length_take,HRl.out];rfl
     refine wp_sl8 (o:=⟨some 35,_,_,_,_,_⟩) rfl (.tmp 33) (.tmp 34) rfl w1.heap.size v8 _ rfl (hs8.fut (Q0z w8 k3)) _ 4 32 (R.take 4) rfl hRt hr8 (by intro e;rw[e]at hRt;cases hRt) (by rw[hl8,hRt];omega) hF8'.size ?_
     intro v9 w9 hs9 hb9
     have hF9:Below w1.heap.size w1 w9:=hF8'.trans hb9
     clear hb9 hs8 hF8 hF8' hR8 hr8
     refine Q2z (And.intro hF9 ?_)
     simp only[X4z,List.setIfInBounds_toArray,List.set_cons_succ,List.set_cons_zero]
     refine' Q9z (s:=40) (A1:=_) (r:=[]) [9] [_] _ rfl rfl rfl (fun W hW=>?hq2) _ hF9 (fun _=>?hr2)
     case hq2=>
      simp only[List.getElem_toArray,List.getElem_cons_zero,List.getElem_cons_succ]
      iterate 1 (go_big_quiet_step (fail))
      refine wpQuiet_nil ?_
      rfl
     case hr2=>
     refine Qnz fun k9=>NoPanic.normal ?_
     generalize hw10:w9.drewN k9=w10
     have hs10:=hs9.fut (Q0z w9 k9)
     have hF10:=Q3z hF9 (Q0z w9 k9) (Nat.le_refl _)
     rw[hw10]at hs10 hF10
     clear hs9 hF9 hw10
     obtain⟨N,hN⟩:∃N,N=M++low (BitVec.ofNat 64 n) 4++R.take 4:=⟨_,rfl⟩
     rw[←hN]at hs10
     have HNl:Hid (N.length=24):=Lib.hid (by rw[hN,List.length_append,hl8,hRt])
     have HFO:Hid (N++pl=X2z cmd pl):=Lib.hid (by rw[hN,HM.out,HRe.out];unfold X2z;rw[HN.out])
     have hbw10:Below w.heap.size w w10:=hb1.trans (hF10.mono hle)
     have hr10:=HR.out.fut hbw10
     have c1:=(hf1.out.fut hF10).cell 1
     simp only[List.getElem?_toArray,List.getElem?_cons_zero,List.getElem?_cons_succ]at c1
     have hsz10:=hF10.size
     clear hN hl8 hRt HM HRe
     go_wp2_with(with_reducible refine wp_sl8e (o:=⟨some 39,_,_,_,_,_⟩) ?_ (.tmp 36) (.tmp 38) ?_ w1.heap.size _ N ?_ hs10 p n c pl ?_ HN.out hr10 ?_ hsz10 ?_
                 ·rfl
                 ·rfl
                 ·rfl
                 ·rfl
                 ·rw[HNl.out,HN.out];omega
                 intro v11 w11 hs11 hb11)
     rw[HFO.out]at hs11
     go_ret2
     exact OutSl.of HF1 hs11 (by first|exact hle|exact Nat.le_refl _) (hbw10.trans (hb11.mono hle))
end
section
def trimN (s:List (BitVec 8)):Nat→Nat
 |0=>0
 |n+1=>if s[n]? =some 0#8 then trimN s n else n+1
def trim0 (s:List (BitVec 8)):List (BitVec 8):=s.take (trimN s s.length)
theorem trimN_le (s:List (BitVec 8)) (n:Nat):trimN s n≤n:=by
 induction n with
 |zero=>exact Nat.le_refl _
 |succ n ih=>rw[trimN];split<;>omega
inductive FrmStep where
 |wait
 |fault (e:Int)
 |frame (cmd pl rest:List (BitVec 8))
def frmName (s:List (BitVec 8)):List (BitVec 8):=trim0 ((s.drop 4).take 12)
def frmLen (s:List (BitVec 8)):Nat:=(num32 (s.drop 16)).toNat
def QYz (s:List (BitVec 8)):List (BitVec 8) × Nat × Int:=
 if num32 s=3652501241#32∧cmdOk (frmName s)=true then(if 200000<frmLen s then([],0,91)else(frmName s,24+frmLen s,0))else([],0,90)
def QQz (s:List (BitVec 8)):FrmStep:=
 if s.length<24 then .wait
 else if(QYz s).2.2=0 then
  (if s.length<(QYz s).2.1 then .wait
   else if(sha (sha ((s.take (QYz s).2.1).drop 24))).take 4=(s.drop 20).take 4 then .frame (QYz s).1 ((s.take (QYz s).2.1).drop 24) (s.drop (QYz s).2.1)
   else .fault 92)
 else .fault (QYz s).2.2
def Zoz:Nat→List (BitVec 8)→List (List (BitVec 8) × List (BitVec 8)) × List (BitVec 8) × Int
 |0,s=>([],s,0)
 |f+1,s=>match QQz s with
  | .wait=>([],s,0)
  | .fault e=>([],[],e)
  | .frame c p r=>((c,p) ::(Zoz f r).1,(Zoz f r).2.1,(Zoz f r).2.2)
def X7z (s:List (BitVec 8)):=Zoz s.length s
theorem frmHead_ok {s:List (BitVec 8)} (h:(QYz s).2.2=0):QYz s=(frmName s,24+frmLen s,0)∧frmLen s≤200000∧cmdOk (frmName s)=true∧num32 s=3652501241#32:=by
 unfold QYz at*
 split at h
 ·rename_i h1
  rw[if_pos h1]
  split at h
  ·cases h
  ·rename_i h2
   rw[if_neg h2]
   exact⟨rfl,by omega,h1.2,h1.1⟩
 ·cases h
theorem frmStep_rest {s c p r:List (BitVec 8)} (h:QQz s= .frame c p r):r.length+24≤s.length:=by
 unfold QQz at h
 split at h
 ·cases h
 ·split at h
  ·rename_i h1
   split at h
   ·cases h
   ·split at h
    ·injection h with _ _ h3
     obtain⟨h4,_⟩:=frmHead_ok h1
     rw[←h3,List.length_drop]
     rename_i h5 _
     rw[h4]at*
     simp only at*
     omega
    ·cases h
  ·cases h
theorem frmRun_more (f:Nat):∀s:List (BitVec 8),s.length≤f→Zoz f s=X7z s:=by
 have key:∀n,∀f g,∀s:List (BitVec 8),s.length≤n→s.length≤f→s.length≤g→Zoz f s=Zoz g s:=by
  intro n
  induction n with
  |zero=>
   intro f g s hn hf hg
   have h0:s=[]:=List.eq_nil_of_length_eq_zero (by omega)
   subst h0
   have hw:QQz []= .wait:=rfl
   cases f<;>cases g<;>simp[Zoz,hw]
  |succ n ih=>
   intro f g s hn hf hg
   cases hs:QQz s with
   |wait=>
    cases f<;>cases g<;>simp[Zoz,hs]
   |fault e=>
    have h24:0<s.length:=by
     cases s with
     |nil=>cases hs
     |cons=>simp
    cases f with
    |zero=>omega
    |succ f=>cases g with
     |zero=>omega
     |succ g=>simp[Zoz,hs]
   |frame c p r=>
    have hr:=frmStep_rest hs
    cases f with
    |zero=>omega
    |succ f=>cases g with
     |zero=>omega
     |succ g=>
      have:=ih f g r (by omega) (by omega) (by omega)
      simp only[Zoz,hs,this]
 intro s h
 exact key s.length f s.length s (Nat.le_refl _) h (Nat.le_refl _)
theorem frmAll_wait {s:List (BitVec 8)} (h:QQz s= .wait):X7z s=([],s,0):=by
 unfold X7z
 cases hs:s.length with
 |zero=>rfl
 |succ n=>simp only[Zoz,h]
theorem frmAll_fault {s:List (BitVec 8)} {e:Int} (h:QQz s= .fault e):X7z s=([],[],e):=by
 unfold X7z
 cases hs:s.length with
 |zero=>
  have h0:s=[]:=List.eq_nil_of_length_eq_zero hs
  subst h0
  cases h
 |succ n=>simp only[Zoz,h]
theorem frmAll_frame {s c p r:List (BitVec 8)} (h:QQz s= .frame c p r):X7z s=((c,p) ::(X7z r).1,(X7z r).2.1,(X7z r).2.2):=by
 have hr:=frmStep_rest h
 unfold X7z
 cases hs:s.length with
 |zero=>omega
 |succ n=>
  simp only[Zoz,h]
  rw[frmRun_more n r (by omega)]
  rfl
end
section
open Go.RowKit
theorem frmNum_any (p:Option Addr) (n c:Nat) (bs:List (BitVec 8)) (w:World) (hr:Row8 w p bs) (hn:bs.length=n) (h4:4≤n):
 Calls Tryz.prog 73 #[.slice p n c] w fun e w'=>e= .returned (.int .u32 (iv32 (num32 bs)))∧∃k,w'=w.drewN k:=by
 obtain⟨bb,of,rfl,_,hrow⟩:=hr (fun e=>by rw[e]at hn;simp at hn;omega)
 have key:∀i,i<4→∃x,bs[i]? =some x∧w.cell? ⟨bb,of+i,none⟩=some (.int .u8 (iv8 x)):=fun i hi=>by
  refine⟨bs[i]'(by omega),List.getElem?_eq_getElem _,?_⟩
  exact hrow _ _ (List.getElem?_eq_getElem _)
 obtain⟨x0,y0,c0⟩:=key 0 (by omega)
 obtain⟨x1,y1,c1⟩:=key 1 (by omega)
 obtain⟨x2,y2,c2⟩:=key 2 (by omega)
 obtain⟨x3,y3,c3⟩:=key 3 (by omega)
 have hnum:Hid (num32 bs=((x0.setWidth 32 ||| x1.setWidth 32 <<< 8) ||| x2.setWidth 32 <<< 16) ||| x3.setWidth 32 <<< 24):=Lib.hid (by
  rw[num_or,num32_four bs x0 x1 x2 x3 y0 y1 y2 y3])
 have s1:=shl32 (x1.setWidth 32) 8 256 (by rfl)
 have s2:=shl32 (x2.setWidth 32) 16 65536 (by rfl)
 have s3:=shl32 (x3.setWidth 32) 24 16777216 (by rfl)
 have w0:=XRz x0
 have w1:=XRz x1
 have w2:=XRz x2
 have w3:=XRz x3
 have o1:=or32 (x0.setWidth 32) (x1.setWidth 32 <<< 8)
 have o2:=or32 (x0.setWidth 32 ||| x1.setWidth 32 <<< 8) (x2.setWidth 32 <<< 16)
 have o3:=or32 ((x0.setWidth 32 ||| x1.setWidth 32 <<< 8) ||| x2.setWidth 32 <<< 16) (x3.setWidth 32 <<< 24)
 rw[Nat.add_zero]at c0
 have b0:0<n:=by omega
 have b1:(1:Int)<(n:Int):=by omega
 have b2:(2:Int)<(n:Int):=by omega
 have b3:(3:Int)<(n:Int):=by omega
 clear key hrow hr y0 y1 y2 y3 hn h4
 go_enter Tryz.func73,Tryz.ntmps73
 go_wp2_with fail
 go_quiet (fail)
 go_wp2
 go_ret
 refine⟨ret_int ?_,_,rfl⟩
 rw[hnum.out]
theorem trimByte_any (p:Option Addr) (n c:Nat) (bs:List (BitVec 8)) (w:World) (hr:Row8 w p bs) (hn:bs.length=n) (hnc:n≤c) (hc:c≤9223372036854775807):
 Calls Tryz.prog 98 #[.slice p n c,.int .u8 0] w fun e w'=>e= .returned (.slice p (trimN bs n) c)∧w'=w:=by
 have HN:=Lib.hid hn
 have HR:=Lib.hid hr
 have HT:Hid (∃t,t=trimN bs n∧t≤n):=Lib.hid ⟨_,rfl,trimN_le bs n⟩
 obtain⟨t,ht,htn⟩:=HT.out
 rw[←ht]
 have HTT:=Lib.hid ht
 clear hn hr ht HT
 go_enter Tryz.func98,Tryz.ntmps98
 go_wp2_with fail
 go_loop [0] (fun s=>∃k:Nat,k≤n∧s= .slice p k c∧Hid (t=trimN bs k)) (fun s=>match s with| .slice _ k _=>k|_=>0)
 case atStart=>exact⟨n,Nat.le_refl _,rfl,HTT⟩
 case round=>
  obtain⟨k,hk,rfl,hkt⟩:=hrel
  by_cases h0:k=0
  ·subst h0
   have HE:Hid (t=0):=Lib.hid (by rw[hkt.out];rfl)
   go_wp2_with fail
   go_ret
   exact⟨by rw[HE.out];rfl,rfl⟩
  ·have hkp:0<k:=by omega
   have hkp':(0:Int)<(k:Int):=by omega
   obtain⟨j,hj⟩:∃j,k=j+1:=⟨k-1,by omega⟩
   subst hj
   obtain⟨bb,of,hp,hlt,hcell⟩:=HR.out (by intro e;have:=HN.out;rw[e]at this;simp at this;omega)
   subst hp
   obtain⟨x,hx⟩:∃x,bs[j]? =some x:=⟨_,List.getElem?_eq_getElem (by rw[HN.out];omega)⟩
   have hc1:w.cell? ⟨bb,of+j,none⟩=some (.int .u8 (iv8 x)):=hcell j x hx
   have hj0:(0:Int)≤(j:Int):=by omega
   have hjn:(j:Int)<(j:Int)+1:=by omega
   have hjb:(j:Int)+1≤9223372036854775807:=by omega
   by_cases hz:x=0#8
   ·have hz0:(iv8 x==0)=true:=by rw[hz];rfl
    have HE:Hid (t=trimN bs j):=Lib.hid (by rw[hkt.out,trimN,if_pos (by rw[hx,hz])])
    clear hcell hx hz
    go_wp2_with fail
    go_round
    case rel=>exact⟨j,by omega,by simp,HE⟩
    case measure=>simp
   ·have hz0:(iv8 x==0)=false:=by
     rw[beq_eq_false_iff_ne]
     intro e
     exact hz (iv8_inj.1 (e.trans (by rfl)))
    have HE:Hid (t=j+1):=Lib.hid (by rw[hkt.out,trimN,if_neg (by rw[hx];intro e;injection e with e;exact hz e)])
    clear hcell hx hz
    go_wp2_with fail
    go_ret
    exact⟨by rw[HE.out];rfl,rfl⟩
theorem trimRight_any (p:Option Addr) (n c:Nat) (bs:List (BitVec 8)) (w:World) (hr:Row8 w p bs) (hn:bs.length=n) (hnc:n≤c) (hc:c≤9223372036854775807) (h0:0<n):
 Calls Tryz.prog 72 #[.slice p n c,.string ⟨#[0]⟩] w fun e w'=>e= .returned (.slice p (trimN bs n) c)∧w'=w:=by
 have HN:=Lib.hid hn
 have HR:=Lib.hid hr
 have h0i:(0:Int)<(n:Int):=by omega
 have h0n:n≠0:=by omega
 have ht:=trimByte_any p n c bs w hr hn hnc hc
 generalize trimN bs n=t at ht ⊢
 clear hn hr
 go_enter Tryz.func72,Tryz.ntmps72
 go_wp2_with fail
 refine ht.mono ?_
 rintro e w' ⟨rfl,rfl⟩
 go_wp2_with fail
 go_ret
 exact⟨rfl,rfl⟩
def headV (x:List (BitVec 8) × Nat × Int):Value:=.tuple #[.string (strB x.1),.int .i64 (x.2.1:Int),.int .i64 x.2.2]
theorem head_any (g:Nat) (p:Option Addr) (n c:Nat) (m x:Value) (bs:List (BitVec 8)) (w:World) (hB:Blk w g 113 #[.slice p n c,m,x]) (hr:Row8 w p bs) (hn:bs.length=n) (hnc:n≤c) (hc:c≤9223372036854775807) (h24:24≤n):
 Calls Tryz.prog 43 #[.pointer (some ⟨g,0,none⟩)] w fun e w'=>e= .returned (headV (QYz bs))∧∃k,w'=w.drewN k:=by
 obtain⟨bb,of,rfl,hlt,hrow⟩:=hr (fun e=>by rw[e]at hn;simp at hn;omega)
 have HR:Hid (Row8 w (some ⟨bb,of,none⟩) bs):=Lib.hid (fun _=>⟨bb,of,rfl,hlt,hrow⟩)
 have HN:=Lib.hid hn
 have c0:=hB.cell 0
 simp only[List.getElem?_toArray,List.getElem?_cons_zero]at c0
 have r4:Row8 w (some ⟨bb,of+4,none⟩) ((bs.drop 4).take 12):=(HR.out.frm 4).take 12
 have l4:((bs.drop 4).take 12).length=12:=by simp;omega
 have b4:(16:Int)≤(c:Int):=by omega
 have b5:(16:Int)≤(n:Int):=by omega
 have b6:¬(c=4):=by omega
 have b7:¬(c=16):=by omega
 have h1:=trimRight_any (some ⟨bb,of+4,none⟩) 12 (c-4) _ w r4 l4 (by omega) (by omega) (by omega)
 obtain⟨t,ht⟩:∃t,t=trimN ((bs.drop 4).take 12) 12:=⟨_,rfl⟩
 rw[←ht]at h1
 have HT:=Lib.hid ht
 clear hn hr hrow hB ht
 go_enter Tryz.func43,Tryz.ntmps43
 go_wp2_with fail
 refine h1.mono ?_
 rintro e w' ⟨rfl,hw⟩
 replace hw:=hw.symm
 subst hw
 go_wp2_with fail
 refine(frmNum_any _ _ _ (bs.drop 16) _ (HR.out.frm 16) (by rw[List.length_drop,HN.out]) (by omega)).mono ?_
 rintro e w' ⟨rfl,k1,rfl⟩
 have hNb:=iv32_hi (num32 (bs.drop 16))
 have hNl:=iv32_lo (num32 (bs.drop 16))
 have HH:Hid (QYz bs=if num32 bs=3652501241#32∧cmdOk (((bs.drop 4).take 12).take t)=true then(if 200000<(num32 (bs.drop 16)).toNat then([],0,91)else(((bs.drop 4).take 12).take t,24+(num32 (bs.drop 16)).toNat,0))else([],0,90)):=Lib.hid (by
  unfold QYz frmName frmLen trim0
  rw[l4,HT.out])
 have HI:Hid (iv32 (num32 (bs.drop 16))=((num32 (bs.drop 16)).toNat:Int)):=Lib.hid rfl
 obtain⟨N,hN⟩:∃N,N=iv32 (num32 (bs.drop 16)):=⟨_,rfl⟩
 obtain⟨N',hN'⟩:∃N,N=(num32 (bs.drop 16)).toNat:=⟨_,rfl⟩
 have ht12:t≤12:=by rw[HT.out];exact trimN_le _ _
 obtain⟨nm,hnm⟩:∃nm,nm=((bs.drop 4).take 12).take t:=⟨_,rfl⟩
 have hnml:nm.length=t:=by rw[hnm,List.length_take,l4];omega
 have r5:Row8 w (some ⟨bb,of+4,none⟩) nm:=by rw[hnm];exact r4.take t
 rw[←hN]at hNb hNl HI ⊢
 rw[←hN']at HI HH
 rw[←hnm]at HH
 have R5:=Lib.hid r5
 have HL5:=Lib.hid hnml
 clear hN hN' hnm HT r4 l4 h1 r5 hnml
 go_wp2_with fail
 refine(frmNum_any _ _ _ bs _ (HR.out.fut (Q0z w k1)) HN.out (by omega)).mono ?_
 rintro e w' ⟨rfl,k2,rfl⟩
 by_cases hm:num32 bs=3652501241#32
 ·have hm1:(iv32 (num32 bs)==3652501241)=true:=by rw[hm];rfl
  have hm2:(iv32 (num32 bs) != 3652501241)=false:=by rw[hm];rfl
  have HM:=Lib.hid hm
  generalize iv32 (num32 bs)=M at hm1 hm2 ⊢
  clear hm
  go_wp2_with fail
  refine(isCommand_any _ _ _ nm _ (R5.out.fut (Q0z w (k1+k2))) HL5.out (by omega)).mono ?_
  rintro e w' ⟨rfl,hw⟩
  replace hw:=hw.symm
  subst hw
  cases hq:cmdOk nm with
  |false=>
   have HE:Hid (QYz bs=([],0,90)):=Lib.hid (by rw[HH.out,if_neg (by rw[hq];simp)])
   clear hq
   go_wp2_with fail
   go_ret3
   exact⟨by rw[HE.out];rfl,k1+k2,rfl⟩
  |true=>
   by_cases hg:200000<N'
   ·have HE:Hid (QYz bs=([],0,91)):=Lib.hid (by rw[HH.out,if_pos ⟨HM.out,hq⟩,if_pos hg])
    have hg1:(200000:Int)<N:=by rw[HI.out];omega
    clear hq
    go_wp2_with fail
    go_ret3
    exact⟨by rw[HE.out];rfl,k1+k2,rfl⟩
   ·have HE:Hid (QYz bs=(nm,24+N',0)):=Lib.hid (by rw[HH.out,if_pos ⟨HM.out,hq⟩,if_neg hg])
    have hg1:¬(200000:Int)<N:=by rw[HI.out];omega
    have hg2:N≤200000:=by omega
    have hcv:=(R5.out.fut (Q0z w (k1+k2))).convert t (c-4) HL5.out
    clear hq
    go_wp2_with fail
    go_ret3
    exact⟨by rw[HE.out];unfold headV;simp only[HI.out];rfl,k1+k2,rfl⟩
 ·have hm1:(iv32 (num32 bs)==3652501241)=false:=by rw[beq_eq_false_iff_ne];intro e;exact hm (iv32_inj.1 (e.trans (by rfl)))
  have hm2:(iv32 (num32 bs) != 3652501241)=true:=by rw[bne,hm1];rfl
  have HE:Hid (QYz bs=([],0,90)):=Lib.hid (by rw[HH.out,if_neg (fun h=>hm h.1)])
  generalize iv32 (num32 bs)=M at hm1 hm2 ⊢
  clear hm
  go_wp2_with fail
  go_ret3
  exact⟨by rw[HE.out];rfl,k1+k2,rfl⟩
def TakePost (w:World) (g:Nat) (v m x:Value) (bs:List (BitVec 8)) (e:Ending) (w':World):Prop:=
 ∃v',e= .returned v'∧Own8 w' w.heap.size v' bs∧Blk w' g 113 #[v,m,x]∧Stays (·=g) w w'
theorem take_any (g:Nat) (p:Option Addr) (n c k:Nat) (m x:Value) (bs:List (BitVec 8)) (w:World) (hB:Blk w g 113 #[.slice p n c,m,x]) (hr:Row8 w p bs) (hn:bs.length=n) (hnc:n≤c) (hc:c≤9223372036854775807) (hp:p=none→c=0) (hk:k≤n) (hk2:k≤140737488355328):
 Calls Tryz.prog 45 #[.pointer (some ⟨g,0,none⟩),.int .i64 (k:Int)] w (TakePost w g (.slice (cut8 p c k) (n-k) (c-k)) m x (bs.take k)):=by
 have HN:=Lib.hid hn
 have HR:=Lib.hid hr
 have HB:=Lib.hid hB
 have HP:=Lib.hid hp
 have c0:=hB.cell 0
 simp only[List.getElem?_toArray,List.getElem?_cons_zero]at c0
 have hk1:(k:Int)≤(c:Int):=by omega
 have hcut:=fun w=>slice_cut8 w p n c k hk
 generalize cut8 p c k=q,n-k=nk,c-k=ck at hcut ⊢
 clear hn hr hB hp
 go_enter Tryz.func45,Tryz.ntmps45
 go_wp2_with fail
 refine(clone_any p k c (bs.take k) _ (HR.out.take k) (by rw[List.length_take,HN.out];omega) hk2 (fun h=>by have:=HP.out h;omega)).mono ?_
 rintro e w1 ⟨v1,rfl,ho1,hb1⟩
 have HB1:=Lib.hid (HB.out.fut hb1)
 have c1:=HB1.out.cell 0
 have f1:=HB1.out.frozen 0
 simp only[List.getElem?_toArray,List.getElem?_cons_zero]at c1
 have HO1:=Lib.hid ho1
 clear ho1
 go_wp2_with fail
 go_ret
 exact⟨v1,rfl,HO1.out.setFar (a:=⟨g,0,none⟩) (fun e=>by have:=(World.ownsRow.lt HO1.out g e).1;have:=HB.out.lt;omega) _,HB1.out.set 0 _,Stays.setCell (S:=(·=g)) (a:=⟨g,0,none⟩) (Stays.of_below hb1 (Nat.le_refl _) _) (fun _=>rfl) _⟩
theorem built_reader1:Tryz.prog.built 113 [(1,.bool true)]=some #[.slice none 0 0,.bool true,.int .i64 0]:=by kernel_rfl
theorem new_any09 (w:World):Calls Tryz.prog 36 #[] w fun e w'=>e= .returned (.pointer (some ⟨w.heap.size,0,none⟩))∧Blk w' w.heap.size 113 #[.slice none 0 0,.bool true,.int .i64 0]∧Below w.heap.size w w':=by
 have hbt:=built_reader1
 go_enter Tryz.func36,Tryz.ntmps36
 go_wp2_with((with_reducible refine Qjz (o:=⟨some 1,_,_,_,_,_⟩) ?_ 113 #[(1,.const (.bool true))] ?_ [(1,.bool true)] ?_ #[.slice none 0 0,.bool true,.int .i64 0] hbt ?_
              ·rfl
              ·rfl
              ·rfl))
 go_ret
 exact⟨rfl,Blk.new w _ _,Q1z w _⟩
end
section
open Go.RowKit
theorem frm_info:(Tryz.prog.info? 82).map (fun i=>(i.zero,i.size,i.bytes))=some (some (.agg #[.string ⟨#[]⟩,.slice none 0 0]),2,40):=by kernel_rfl
theorem built_frm (s:ByteArray) (p:Option Addr) (n c:Nat):Tryz.prog.built 82 [(0,.string s),(1,.slice p n c)]=some #[.string s,.slice p n c]:=by kernel_rfl
theorem zero32Y:∃Y:Array Value,Hid (Y.size=32)∧∀w,(zeroValue 32).run Tryz.prog w= .ok (.agg Y) w:=⟨((Qcz 32).map u8).toArray,Lib.hid rfl,zero32⟩
def XXz (fs:List (List (BitVec 8) × List (BitVec 8))) (vs:List Value):List Value:=(fs.zip vs).flatMap fun x=>[.string (strB x.1.1),x.2]
theorem frmCells_snoc (fs:List (List (BitVec 8) × List (BitVec 8))) (vs:List Value) (f:List (BitVec 8) × List (BitVec 8)) (v:Value) (h:fs.length=vs.length):XXz (fs++[f]) (vs++[v])=XXz fs vs++[.string (strB f.1),v]:=by
 unfold XXz
 rw[List.zip_append h,List.flatMap_append]
 rfl
theorem frmCells_at:∀(fs:List (List (BitVec 8) × List (BitVec 8))) (vs:List Value) (i:Nat) (f:List (BitVec 8) × List (BitVec 8)) (v:Value),fs[i]? =some f→vs[i]? =some v→(XXz fs vs)[2*i]? =some (.string (strB f.1))∧(XXz fs vs)[2*i+1]? =some v
 | [],_,_,_,_,h,_=>by cases h
 |_ ::_,[],_,_,_,_,h=>by cases h
 |f' ::fs,v' ::vs,0,f,v,h,h2=>by
  injection h with h;injection h2 with h2;subst h h2
  exact⟨rfl,rfl⟩
 |f' ::fs,v' ::vs,i+1,f,v,h,h2=>by
  have:=frmCells_at fs vs i f v h h2
  rw[show 2*(i+1)=2*i+2 by omega]
  exact this
def FrmRows (w:World) (B:Nat) (v:Value) (fs:List (List (BitVec 8) × List (BitVec 8))):Prop:=
 ∃vs:List Value,vs.length=fs.length∧w.ownsRow B 82 2 v fs.length (XXz fs vs)∧∀(i:Nat) (f:List (BitVec 8) × List (BitVec 8)) (u:Value),fs[i]? =some f→vs[i]? =some u→Sl w u f.2∧∀k,u.ownBlock=some k→B≤k∧k<w.heap.size∧v.ownBlock≠some k
theorem FrmRows.nil (w:World) (B:Nat):FrmRows w B (.slice none 0 0) []:=⟨[],rfl,World.ownsRow_nil w B _ 2,fun _ _ _ h=>by cases h⟩
theorem Sl.stays {S:Nat→Prop} {w w':World} {v:Value} {bs:List (BitVec 8)} (h:Sl w v bs) (hs:Stays S w w') (hn:∀k,v.ownBlock=some k→¬S k):Sl w' v bs:=by
 obtain⟨p,n,c,rfl,h2,h3,h4,h5,h6⟩:=h
 exact⟨p,n,c,rfl,h2,h3,h4,h5.stays hs (fun _ a ha=>hn _ (by rw[ha];rfl)),h6⟩
theorem FrmRows.stays {S:Nat→Prop} {w w':World} {B:Nat} {v:Value} {fs:List (List (BitVec 8) × List (BitVec 8))} (h:FrmRows w B v fs) (hs:Stays S w w') (hn:∀k,B≤k→¬S k):FrmRows w' B v fs:=by
 obtain⟨vs,h1,h2,h3⟩:=h
 exact⟨vs,h1,ownsRow_stays h2 hs (fun k hk=>hn k (World.ownsRow.lt h2 k hk).1),fun i f u hf hu=>⟨(h3 i f u hf hu).1.stays hs (fun k hk=>hn k ((h3 i f u hf hu).2 k hk).1),fun k hk=>⟨((h3 i f u hf hu).2 k hk).1,Nat.lt_of_lt_of_le ((h3 i f u hf hu).2 k hk).2.1 hs.size,((h3 i f u hf hu).2 k hk).2.2⟩⟩⟩
theorem FrmRows.fut {w w':World} {B:Nat} {v:Value} {fs:List (List (BitVec 8) × List (BitVec 8))} (h:FrmRows w B v fs) (hb:Below w.heap.size w w'):FrmRows w' B v fs:=
 h.stays (Stays.of_below hb (Nat.le_refl _) (fun _=>False)) (fun _ _ h=>h)
def lenAt (w:World) (g:Nat):Nat:=match w.cell? ⟨g,0,none⟩with|some (.slice _ n _)=>n|_=>0
theorem lenAt_blk {w:World} {g:Nat} {p:Option Addr} {n c:Nat} {m x:Value} {t:TypeId} (h:Blk w g t #[.slice p n c,m,x]):lenAt w g=n:=by
 have:=h.cell 0
 simp only[List.getElem?_toArray,List.getElem?_cons_zero]at this
 unfold lenAt
 rw[this]
def Rd (w:World) (g:Nat) (v:Value) (e:Int):Prop:=Blk w g 113 #[v,.bool true,.int .i64 e]
def FeedPost (w:World) (g B:Nat) (v:Value) (x:List (List (BitVec 8) × List (BitVec 8)) × List (BitVec 8) × Int) (e:Ending) (w':World):Prop:=
 ∃l v' H,e= .returned (.tuple #[l,.int .i64 x.2.2])∧w.heap.size≤H∧FrmRows w' H l x.1∧Rd w' g v' x.2.2∧Sfx8 w' B v' x.2.1∧Stays (fun k=>k=g∨v.ownBlock=some k) w w'∧(∀k,v'.ownBlock=some k→v.ownBlock=some k∨(w.heap.size≤k∧k<H))
theorem feed_fault (g:Nat) (v u:Value) (e:Int) (w:World) (hB:Rd w g v e) (he:(e==0)=false):
 Calls Tryz.prog 24 #[.pointer (some ⟨g,0,none⟩),u] w fun e' w'=>e'= .returned (.tuple #[.slice none 0 0,.int .i64 e])∧∃k,w'=w.drewN k:=by
 have c1:=hB.cell 1
 have c2:=hB.cell 2
 have he2:(e != 0)=true:=by rw[bne,he];rfl
 simp only[List.getElem?_toArray,List.getElem?_cons_zero,List.getElem?_cons_succ]at c1 c2
 clear hB
 go_enter Tryz.func24,Tryz.ntmps24
 go_wp2_with fail
 go_quiet (fail)
 go_wp2
 go_ret2
 exact⟨rfl,_,rfl⟩
structure FeedInv (w:World) (g B H:Nat) (v:Value) (tot:List (BitVec 8)) (l:Value) (wr:World) (fs:List (List (BitVec 8) × List (BitVec 8))) (cur:List (BitVec 8)) (u:Value):Prop where
 big:w.heap.size≤H
 rows:FrmRows wr H l fs
 rd:Rd wr g u 0
 sfx:Sfx8 wr B u cur
 stays:Stays (fun k=>k=g∨v.ownBlock=some k) w wr
 own:∀k,u.ownBlock=some k→v.ownBlock=some k∨(w.heap.size≤k∧k<H)
 all:X7z tot=(fs++(X7z cur).1,(X7z cur).2)
 len:fs.length*24+cur.length≤tot.length
section
variable {w:World} {g B H:Nat} {v:Value} {tot:List (BitVec 8)} {l:Value} {wr w':World} {fs:List (List (BitVec 8) × List (BitVec 8))} {cur:List (BitVec 8)} {u:Value}
theorem FeedInv.fut (h:FeedInv w g B H v tot l wr fs cur u) (hb:Below wr.heap.size wr w'):FeedInv w g B H v tot l w' fs cur u:=
 ⟨h.big,h.rows.fut hb,Blk.fut h.rd hb,h.sfx.fut hb,h.stays.trans (Stays.of_below hb (Nat.le_refl _) (fun _=>False)) (fun _ _ h=>h.elim),h.own,h.all,h.len⟩
theorem FeedInv.wait (h:FeedInv w g B H v tot l wr fs cur u) (hs:QQz cur= .wait):FeedPost w g B v (X7z tot) (.returned (.tuple #[l,.int .i64 0])) wr:=by
 have e:=h.all
 rw[frmAll_wait hs,List.append_nil]at e
 rw[e]
 exact⟨l,u,H,rfl,h.big,h.rows,h.rd,h.sfx,h.stays,h.own⟩
theorem FeedInv.fault {er:Int} (h:FeedInv w g B H v tot l wr fs cur u) (hg:g<w.heap.size) (hs:QQz cur= .fault er):FeedPost w g B v (X7z tot) (.returned (.tuple #[l,.int .i64 er])) ((wr.setCell ⟨g,2,none⟩ (.int .i64 er)).setCell ⟨g,0,none⟩ (.slice none 0 0)):=by
 have e:=h.all
 rw[frmAll_fault hs,List.append_nil]at e
 rw[e]
 have h1:Stays (·=g) wr ((wr.setCell ⟨g,2,none⟩ (.int .i64 er)).setCell ⟨g,0,none⟩ (.slice none 0 0)):=
  Stays.setCell (S:=(·=g)) (a:=⟨g,0,none⟩) (Stays.setCell (S:=(·=g)) (a:=⟨g,2,none⟩) (Stays.refl _ _) (fun _=>rfl) _) (fun _=>rfl) _
 have hbig:=h.big
 refine⟨l,_,H,rfl,h.big,h.rows.stays h1 (fun k hk e=>by omega),?_,Sfx8.nil _ _,h.stays.trans h1 (fun k _ h=>.inl h),fun k h=>by cases h⟩
 exact(Blk.set h.rd 2 _).set 0 _
theorem FrmRows.snoc {w7 w8:World} {B':Nat} {l l' q:Value} {fs:List (List (BitVec 8) × List (BitVec 8))} {cm pl:List (BitVec 8)} {o:Obj} (h:FrmRows w7 B' l fs) (vs:List Value) (hvl:vs.length=fs.length)
 (hvs:∀(i:Nat) (f:List (BitVec 8) × List (BitVec 8)) (u:Value),fs[i]? =some f→vs[i]? =some u→Sl w7 u f.2∧∀k,u.ownBlock=some k→B'≤k∧k<w7.heap.size∧l.ownBlock≠some k)
 (hq:Sl w7 q pl) (hqo:∀k,q.ownBlock=some k→B'≤k∧k<w7.heap.size∧l.ownBlock≠some k)
 (ho:w8.ownsRow B' 82 2 l' (fs.length+1) (XXz fs vs++[.string (strB cm),q])) (hg:(w7.alloc o).grownBy w8 l.ownBlock) (hl:l'.ownBlock=l.ownBlock∨l'.ownBlock=some (w7.alloc o).heap.size):
 FrmRows w8 B' l' (fs++[(cm,pl)]):=by
 have hst:Stays (fun k=>l.ownBlock=some k) w7 w8:=(Stays.of_below (Q1z w7 o) (Nat.le_refl _) (fun k=>l.ownBlock=some k)).trans (Stays.of_grown hg (fun k hk=>hk)) (fun k _ h=>h)
 have hsz:w7.heap.size<(w7.alloc o).heap.size:=by rw[World.size_alloc];omega
 have hsz8:=hst.size
 have key:∀k,k<w7.heap.size∧l.ownBlock≠some k→k<w8.heap.size∧l'.ownBlock≠some k:=fun k h=>⟨by omega,by
  rcases hl with e|e
  ·rw[e];exact h.2
  ·rw[e];intro e;injection e with e;omega⟩
 refine⟨vs++[q],by simp[hvl],by rw[frmCells_snoc _ _ _ _ hvl.symm,List.length_append];exact ho,fun i f u hf hu=>?_⟩
 rcases Nat.lt_or_ge i fs.length with hi|hi
 ·rw[List.getElem?_append_left hi]at hf
  rw[List.getElem?_append_left (by omega)]at hu
  obtain⟨h1,h2⟩:=hvs i f u hf hu
  exact⟨h1.stays hst (fun k hk=>(h2 k hk).2.2),fun k hk=>⟨(h2 k hk).1,key k (h2 k hk).2⟩⟩
 ·rw[List.getElem?_append_right hi]at hf
  rw[List.getElem?_append_right (by omega),hvl]at hu
  have h0:i-fs.length=0:=by have:=(List.getElem?_eq_some_iff.1 hf).1;simp at this;omega
  rw[h0]at hf hu
  simp only[List.getElem?_cons_zero,Option.some.injEq]at hf hu
  subst hf hu
  exact⟨hq.stays hst (fun k hk=>(hqo k hk).2.2),fun k hk=>⟨(hqo k hk).1,key k (hqo k hk).2⟩⟩
theorem FeedInv.step {w7 w8:World} {u' l' q:Value} {cm pl r:List (BitVec 8)} {o:Obj} (h:FeedInv w g B H v tot l wr fs cur u) (hg:g<w.heap.size) (hs:QQz cur= .frame cm pl r)
 (hst:Stays (·=g) wr w7) (hrd:Rd w7 g u' 0) (hsf:Sfx8 w7 B u' r) (hub:u'.ownBlock=u.ownBlock) (hq:Sl w7 q pl) (hH:H≤wr.heap.size) (hqo:∀k,q.ownBlock=some k→wr.heap.size≤k∧k<w7.heap.size)
 (vs:List Value) (hvl:vs.length=fs.length) (hown:w7.ownsRow H 82 2 l fs.length (XXz fs vs))
 (hvs:∀(i:Nat) (f:List (BitVec 8) × List (BitVec 8)) (u:Value),fs[i]? =some f→vs[i]? =some u→Sl w7 u f.2∧∀k,u.ownBlock=some k→H≤k∧k<w7.heap.size∧l.ownBlock≠some k)
 (ho:w8.ownsRow H 82 2 l' (fs.length+1) (XXz fs vs++[.string (strB cm),q])) (hgr:(w7.alloc o).grownBy w8 l.ownBlock) (hl:l'.ownBlock=l.ownBlock∨l'.ownBlock=some (w7.alloc o).heap.size):
 FeedInv w g B H v tot l' w8 (fs++[(cm,pl)]) r u':=by
 have hst8:Stays (fun k=>l.ownBlock=some k) w7 w8:=(Stays.of_below (Q1z w7 o) (Nat.le_refl _) (fun k=>l.ownBlock=some k)).trans (Stays.of_grown hgr (fun k hk=>hk)) (fun k _ h=>h)
 have hbig:=h.big
 have hlb:∀k,l.ownBlock=some k→H≤k∧k<wr.heap.size:=by
  obtain⟨vs',h1,h2,_⟩:=h.rows
  exact World.ownsRow.lt h2
 have hla:∀k,l.ownBlock=some k→∃cs,Blk w7 k 82 cs:=fun k hk=>by
  rcases hown.2 with⟨e,_⟩|⟨g',cap,cur',e,_,hh,_⟩
  ·rw[e]at hk;cases hk
  ·rw[e]at hk;injection hk with hk;subst hk;exact⟨cur',hh⟩
 have hr24:=frmStep_rest hs
 have hlen:=h.len
 refine⟨h.big,FrmRows.snoc ⟨vs,hvl,hown,hvs⟩ vs hvl hvs hq (fun k hk=>⟨?_,(hqo k hk).2,fun e=>?_⟩) ho hgr hl,?_,?_,?_,?_,?_,?_⟩
 ·exact Nat.le_trans hH (hqo k hk).1
 ·have:=hlb k e
  have:=(hqo k hk).1
  omega
 ·exact Blk.stays hrd hst8 (fun e=>by have:=(hlb g e).1;omega)
 ·refine hsf.stays hst8 (fun k hk e=>?_)
  obtain⟨cs,hcs⟩:=hla k e
  exact hsf.apart hcs (by decide) hk
 ·refine(h.stays.trans hst (fun k _ h=>.inl h)).trans hst8 (fun k hk h'=>?_)
  have:=(hlb k h').1
  omega
 ·intro k hk
  exact h.own k (by rw[←hub];exact hk)
 ·rw[h.all,frmAll_frame hs,List.append_assoc]
  rfl
 ·rw[List.length_append,List.length_singleton]
  omega
theorem FeedPost.drewN {x:List (List (BitVec 8) × List (BitVec 8)) × List (BitVec 8) × Int} {e:Ending} (h:FeedPost w g B v x e w') (k:Nat):FeedPost w g B v x e (w'.drewN k):=by
 obtain⟨l,v',H',h1,h1',h2,h3,h4,h5,h6⟩:=h
 exact⟨l,v',H',h1,h1',h2.fut (Q0z _ _),h3,h4.fut (Q0z _ _),h5.drewN k,h6⟩
end
theorem feed_any (g B:Nat) (v:Value) (s bs:List (BitVec 8)) (p:Option Addr) (n c:Nat) (w:World) (hK:Laid w) (hgB:gTop≤B) (hBg:B≤g) (hB:Rd w g v 0) (hv:Sfx8 w B v s) (hr:Row8 w p bs) (hn:bs.length=n) (hlen:s.length+n≤1000000000000):
 Calls Tryz.prog 24 #[.pointer (some ⟨g,0,none⟩),.slice p n c] w (FeedPost w g B v (X7z (s++bs))):=by
 have HK:=Lib.hid hK
 have HR:=Lib.hid hr
 have HN:=Lib.hid hn
 have HB:=Lib.hid hB
 have HV:=Lib.hid hv
 have hap:Hid (v.ownBlock≠some g):=Lib.hid (hv.apart hB (by decide))
 have hvb:Hid (∀k,v.ownBlock=some k→B≤k):=Lib.hid (fun k hk=>(hv.lt k hk).1)
 have hglt:=hB.lt
 have c0:=hB.cell 0
 have c1:=hB.cell 1
 have c2:=hB.cell 2
 have hBs:B≤w.heap.size:=by omega
 simp only[List.getElem?_toArray,List.getElem?_cons_zero,List.getElem?_cons_succ]at c0 c1 c2
 obtain⟨q,m,d,rfl,_⟩:=hv.row
 obtain⟨tot,htot⟩:∃tot,tot=s++bs:=⟨_,rfl⟩
 have hsb:tot.length≤1000000000000:=by rw[htot,List.length_append,hn];exact hlen
 rw[←htot]
 have HTOT:=Lib.hid htot
 clear hK hr hn hB hv htot
 go_enter Tryz.func24,Tryz.ntmps24
 go_wp2_with(with_reducible refine wp_sfx8 (o:=⟨some 36,_,_,_,_,_⟩) ?_ (.tmp 34) (.tmp 35) ?_ B _ s ?_ HV.out p n c bs ?_ HN.out HR.out ?_ hBs ?_
             ·rfl
             ·rfl
             ·rfl
             ·rfl
             ·rw[HN.out];omega
             intro v1 w1 hv1 hg1 ho1
             have hb1:Rd w1 g _ 0:=(hg1.block g hglt (fun e=>hap.out e.symm)).trans HB.out
             have c0':=hb1.cell 0
             have f0':=hb1.frozen 0
             simp only[List.getElem?_toArray,List.getElem?_cons_zero]at c0'
             obtain⟨q1,m1,d1,rfl,_⟩:=hv1.row)
 have hinv:∃fs cur p1 n1 c1,FeedInv w g B w1.heap.size (.slice q m d) tot (.slice none 0 0) (w1.setCell ⟨g,0,none⟩ (.slice q1 m1 d1)) fs cur (.slice p1 n1 c1):=by
  have h1:Stays (·=g) w1 (w1.setCell ⟨g,0,none⟩ (.slice q1 m1 d1)):=Stays.setCell (S:=(·=g)) (a:=⟨g,0,none⟩) (Stays.refl _ _) (fun _=>rfl) _
  have hne:(Value.slice q1 m1 d1).ownBlock≠some g:=by
   rcases ho1 with e|e
   ·rw[e];exact hap.out
   ·rw[e];intro h;injection h with h;omega
  rw[HTOT.out]
  refine⟨[],s++bs,q1,m1,d1,hg1.size,FrmRows.nil _ _,Blk.set hb1 0 _,hv1.stays h1 (fun k hk e=>hne (by rw[hk,e])),?_,?_,by simp,by simp⟩
  ·exact(Stays.of_grown (S:=fun k=>k=g∨(Value.slice q m d).ownBlock=some k) hg1 (fun k hk=>.inr hk)).trans h1 (fun k _ h=>.inl h)
  ·intro k hk
   rcases ho1 with e|e
   ·exact .inl (by rw[←e];exact hk)
   ·have hlt:=(hv1.lt k hk).2
    rw[e]at hk;injection hk with hk;exact .inr (by omega)
 have hH1:w1.heap.size≤(w1.setCell ⟨g,0,none⟩ (.slice q1 m1 d1)).heap.size:=by simp[World.setCell]
 have hHw:=hg1.size
 obtain⟨H,hH⟩:∃H,H=w1.heap.size:=⟨_,rfl⟩
 rw[←hH]at hinv hHw hH1
 refine X9z (fun wr=>(∃fs cur p1 n1 c1,FeedInv w g B H (.slice q m d) tot (.slice none 0 0) wr fs cur (.slice p1 n1 c1))∧H≤wr.heap.size) ⟨hinv,hH1⟩ ?_
 clear hinv hv1 hg1 ho1 hb1 c0' f0' c0 c1 c2 HTOT HV HR HB hlen HN hH hH1
 rintro w2 ⟨hinv,hH2⟩
 go_loopw[6] (fun l wr=>∃fs cur p1 n1 c1,FeedInv w g B H (.slice q m d) tot l wr fs cur (.slice p1 n1 c1)∧H≤wr.heap.size) (fun _ wr=>lenAt wr g)
 case atStart=>
  obtain⟨a1,a2,a3,a4,a5,a6⟩:=hinv
  exact⟨a1,a2,a3,a4,a5,a6,hH2⟩
 case round=>
  clear hinv hH2
  obtain⟨fs,cur,p1,n1,d1,hI,hHr⟩:=hrel
  have HI:=Lib.hid hI
  obtain⟨p1',n1',d1',e,hcl,hnd,hd,hrc,hpn⟩:=hI.sfx.row
  injection e with e1 e2 e3
  subst e1 e2 e3
  have c0:=hI.rd.cell 0
  have c1:=hI.rd.cell 1
  have c2:=hI.rd.cell 2
  simp only[List.getElem?_toArray,List.getElem?_cons_zero,List.getElem?_cons_succ]at c0 c1 c2
  have HRC:=Lib.hid hrc
  clear hI hrc hpn
  by_cases h24:24≤n1
  ·have h24i:(24:Int)≤(n1:Int):=by omega
   go_wp2_with fail
   refine(head_any g p1 n1 d1 _ _ cur _ HI.out.rd HRC.out hcl.out hnd hd h24).mono ?_
   rintro e w3 ⟨rfl,k3,rfl⟩
   obtain⟨nm,all,er,hh⟩:∃nm all er,QYz cur=(nm,all,er):=⟨_,_,_,rfl⟩
   rw[hh]
   unfold headV
   simp only
   have HH:=Lib.hid hh
   clear hh
   have HI3:=Lib.hid (HI.out.fut (Q0z wr k3))
   by_cases her:er=0
   ·subst her
    have hho:Hid (QYz cur=(frmName cur,24+frmLen cur,0)∧frmLen cur≤200000):=Lib.hid (by
     obtain⟨h1,h2,_⟩:=frmHead_ok (s:=cur) (by rw[HH.out])
     exact⟨h1,h2⟩)
    have hal:24≤all∧all≤200024:=by
     obtain⟨h1,h2⟩:=hho.out
     rw[HH.out]at h1
     injection h1 with h1 h3
     injection h3 with h3 _
     omega
    obtain⟨hal1,hal2⟩:=hal
    by_cases hw:n1<all
    ·have hwi:(n1:Int)<(all:Int):=by omega
     have HW:Hid (QQz cur= .wait):=Lib.hid (by
      unfold QQz
      rw[if_neg (by rw[hcl.out];omega),HH.out,if_pos rfl,if_pos (by rw[hcl.out];exact hw)])
     go_wp2_with fail
     go_quiet (fail)
     go_wp2
     go_ret2
     exact(HI3.out.fut (Q0z _ _)).wait HW.out
    ·have hwi:¬(n1:Int)<(all:Int):=by omega
     have hs1:∀W,(Instr.sliceAt 26 (.slice p1 n1 d1) (some (.int .i64 24)) (some (.int .i64 (all:Int))) none).run Tryz.prog W= .ok (.slice (cut8 p1 d1 24) (all-24) (d1-24)) W:=fun W=>slice_lh8 W p1 n1 d1 24 all hal1 (by omega)
     have hs2:∀W,(Instr.sliceAt 26 (.slice p1 n1 d1) (some (.int .i64 20)) (some (.int .i64 24)) none).run Tryz.prog W= .ok (.slice (cut8 p1 d1 20) 4 (d1-20)) W:=fun W=>slice_lh8 W p1 n1 d1 20 24 (by omega) (by omega)
     have hr1:Row8 wr (cut8 p1 d1 24) ((cur.take all).drop 24):=HRC.out.lh (by rw[hcl.out];omega)
     have hr2:Row8 wr (cut8 p1 d1 20) ((cur.take 24).drop 20):=HRC.out.lh (by rw[hcl.out];omega)
     have hl1:((cur.take all).drop 24).length=all-24:=by rw[List.length_drop,List.length_take,hcl.out];omega
     have hl2:((cur.take 24).drop 20).length=4:=by rw[List.length_drop,List.length_take,hcl.out];omega
     generalize cut8 p1 d1 24=q24,cut8 p1 d1 20=q20 at hs1 hs2 hr1 hr2
     obtain⟨pl,hpl⟩:∃pl,pl=(cur.take all).drop 24:=⟨_,rfl⟩
     obtain⟨sm,hsm⟩:∃sm,sm=(cur.take 24).drop 20:=⟨_,rfl⟩
     rw[←hpl]at hr1 hl1
     rw[←hsm]at hr2 hl2
     have HR1:=Lib.hid hr1
     have HR2:=Lib.hid hr2
     have HL1:=Lib.hid hl1
     have HL2:=Lib.hid hl2
     have HPL:=Lib.hid hpl
     have HSM:Hid (sm=(cur.drop 20).take 4):=Lib.hid (by rw[hsm,List.drop_take])
     clear hr1 hr2 hl1 hl2 hpl hsm
     have hKs:gTop≤w.heap.size:=by omega
     have HKr:Hid (Laid (wr.drewN k3)):=Lib.hid (HK.out.below (HI3.out.stays.below hBs (fun k hk=>by
      rcases hk with rfl|hk
      ·exact hBg
      ·exact hvb.out k hk)) hgB)
     go_wp2_with fail
     refine(shaDouble_any q24 (all-24) (d1-24) pl _ HKr.out (HR1.out.fut (Q0z wr k3)) HL1.out (by omega) (by omega) (by omega)).mono ?_
     obtain⟨R,hRe⟩:∃R,R=sha (sha pl):=⟨_,rfl⟩
     have hRl:R.length=32:=by rw[hRe,Z2z]
     rw[←hRe]
     have HRe:=Lib.hid hRe
     have HRl:=Lib.hid hRl
     clear hRe hRl
     rintro e w5 ⟨rfl,hb5⟩
     obtain⟨Y,hYl,hz32⟩:=zero32Y
     have HI5:=Lib.hid (HI3.out.fut hb5)
     go_upto_region 12 with(first
      |(with_reducible refine Q4z (o:=⟨none,_,_,_,_,_⟩) ?_ 32 (.tmp 10) (.tmp 74) ?_ (w5.heap.size) 32 (Y) ((Q5z (R)).toArray) ?_ ?_ (Blk.new w5 _ _) ?_ ?_ ?_ (w5.heap.size) (w5) ?_ ?_ ?_
        ·rfl
        ·rfl
        ·rfl
        ·rfl
        ·exact(Qsz (HRl.out))
        ·exact((hYl.out).trans (Xsz (HRl.out)).symm)
        ·exact(Qzz _)
        ·exact(Q1z w5 _)
        ·exact(Nat.le_refl _)
        intro w6 hR6 hb6 hg6 hs6))
     have hb6':=Q3z (Q0z wr k3) (Q3z hb5 hb6 (Nat.le_refl _)) (Nat.le_refl _)
     have HI6:=Lib.hid (HI5.out.fut hb6)
     have HR6:Hid (Row8 w6 (some ⟨w5.heap.size,0,none⟩) (R.take 4)):=Lib.hid ((QOz hR6.out).take 4)
     have HR26:=Lib.hid (HR2.out.fut hb6')
     have hRt:Hid ((R.take 4).length=4):=Lib.hid (by rw[List.length_take,HRl.out];rfl)
     obtain⟨b,hb⟩:∃b,b=decide (R.take 4=sm):=⟨_,rfl⟩
     have heq:∀k,Calls Tryz.prog 11 #[.slice (some ⟨w5.heap.size,0,none⟩) 4 32,.slice q20 4 (d1-20)] (w6.drewN k) fun e w'=>e= .returned (.bool b)∧w'=w6.drewN k:=fun k=>by
      rw[hb]
      exact equal_any _ _ 4 32 4 (d1-20) (R.take 4) sm _ (HR6.out.fut (Q0z _ _)) (HR26.out.fut (Q0z _ _)) hRt.out HL2.out
     have HBB:=Lib.hid hb
     generalize w5.heap.size=g5 at heq HR6 hR6 ⊢
     have c0:=HI6.out.rd.cell 0
     simp only[List.getElem?_toArray,List.getElem?_cons_zero]at c0
     clear hb hb6 hg6 hs6 hb5 HI5 hR6 hYl HR6 HR26 HKr HI3 HR1 HR2 hz32
     simp only[Qpz]
     cases b
     ·have c2:=HI6.out.rd.cell 2
      have f0:=HI6.out.rd.frozen 0
      have f2:=HI6.out.rd.frozen 2
      simp only[List.getElem?_toArray,List.getElem?_cons_zero,List.getElem?_cons_succ]at c2
      have HF:Hid (QQz cur= .fault 92):=Lib.hid (by
       have hno:¬R.take 4=sm:=of_decide_eq_false HBB.out.symm
       unfold QQz
       rw[if_neg (by rw[hcl.out];omega),HH.out,if_pos rfl,if_neg (by rw[hcl.out];omega),if_neg (by rw[←HPL.out,← HRe.out,← HSM.out];exact hno)])
      go_quiet ((exact Calls.quiet_of_same (heq _)))
      have HI7:=Lib.hid (HI6.out.fut (Q0z w6 nq))
      clear heq
      go_wp2_with fail
      go_quiet (fail)
      go_wp2
      go_ret2
      exact(HI7.out.fault hglt HF.out).drewN _
     ·have HF:Hid (QQz cur= .frame nm pl (cur.drop all)):=Lib.hid (by
       have hyes:R.take 4=sm:=of_decide_eq_true HBB.out.symm
       unfold QQz
       rw[if_neg (by rw[hcl.out];omega),HH.out,if_pos rfl,if_neg (by rw[hcl.out];omega),if_pos (by rw[←HPL.out,← HRe.out,← HSM.out];exact hyes),← HPL.out])
      have hrow6:Hid (Row8 w6 p1 cur∧(p1=none→d1=0)):=Lib.hid (by
       obtain⟨p1',n1',d1',e,_,_,_,h1,h2⟩:=HI6.out.sfx.row
       injection e with e1 e2 e3
       subst e1 e2 e3
       exact⟨h1,h2⟩)
      go_quiet ((exact Calls.quiet_of_same (heq _)))
      clear heq
      have HI7:=Lib.hid (HI6.out.fut (Q0z w6 nq))
      have hrow7:=hrow6.out.1.fut (Q0z w6 nq)
      go_wp2_with fail
      refine(take_any g p1 n1 d1 all _ _ cur _ HI7.out.rd hrow7 hcl.out hnd hd hrow6.out.2 (by omega) (by omega)).mono ?_
      rintro e w7 ⟨v7,rfl,ho7,hrd7,hst7⟩
      obtain⟨vs,hvl,hown,hvs⟩:=HI7.out.rows.stays hst7 (fun k hk e=>by omega)
      have hbo7:=World.ownsRow.lt ho7
      obtain⟨pt,ct,rfl,hct,hctm,hrt,hbt⟩:=ho7.row'
      have htl:(cur.take all).length=all:=by rw[List.length_take,hcl.out];omega
      rw[htl]at hct hbo7 ⊢
      have hpt:pt≠none:=fun e=>by
       obtain⟨_,_,e2,_⟩:=hrt (fun e=>by rw[e]at htl;simp at htl;omega)
       rw[e]at e2;cases e2
      have hs3:∀W,(Instr.sliceAt 26 (.slice pt all ct) (some (.int .i64 24)) none none).run Tryz.prog W= .ok (.slice (cut8 pt ct 24) (all-24) (ct-24)) W:=fun W=>slice_cut8 W pt all ct 24 (by omega)
      have hq:Sl w7 (.slice (cut8 pt ct 24) (all-24) (ct-24)) pl:=⟨_,_,_,rfl,by rw[HPL.out,List.length_drop,htl],by omega,by omega,by rw[HPL.out];exact hrt.cut8 (by rw[htl];exact hct),fun e=>absurd (cut8_none e) hpt⟩
      have hqo:∀k,(Value.slice (cut8 pt ct 24) (all-24) (ct-24)).ownBlock=some k→(w6.drewN nq).heap.size≤k∧k<w7.heap.size:=fun k hk=>by
       rw[Xmz,own_cut8]at hk
       exact hbo7 k (by rw[Xmz];exact hk)
      have HQ:=Lib.hid hq
      have HQO:=Lib.hid hqo
      generalize cut8 pt ct 24=q24,ct-24=c24 at hs3 HQ HQO
      have hsf7:=(HI7.out.sfx.cut (k:=all) (by omega)).stays hst7 (fun k hk e=>by
       rw[e,Xmz,own_cut8]at hk
       exact HI7.out.sfx.apart HI7.out.rd (by decide) (by rw[Xmz];exact hk))
      have HOWN:=Lib.hid hown
      have HVS:=Lib.hid hvs
      have HST:=Lib.hid hst7
      have HSF:=Lib.hid hsf7
      have HRD:=Lib.hid hrd7
      have HVL:=Lib.hid hvl
      have hfl:Hid (fs.length≤50000000000):=Lib.hid (by have:=HI7.out.len;omega)
      have hszw:w.heap.size≤w7.heap.size:=by have:=HI7.out.stays.size;have:=hst7.size;omega
      have hszH:H≤w7.heap.size:=by have:=(hb6'.size:wr.heap.size≤w6.heap.size);have:=hst7.size;have:(w6.drewN nq).heap.size=w6.heap.size:=rfl;omega
      have hszH6:H≤(w6.drewN nq).heap.size:=by have:=(hb6'.size:wr.heap.size≤w6.heap.size);exact Nat.le_trans hHr this
      clear hq hqo hbo7 hrt hbt hpt htl ho7 hown hvs hst7 hsf7 hrd7 hvl hrow7 hct hctm
      go_wp2_with(first
       |(with_reducible refine Qjz (o:=⟨some 102,_,_,_,_,_⟩) ?_ 82 #[(0,.tmp 95),(1,.tmp 101)] ?_ [(0,.string (strB nm)),(1,.slice q24 (all-24) c24)] ?_ #[.string (strB nm),.slice q24 (all-24) c24] built_frm _ _ _ _ ?_
         ·rfl
         ·rfl
         ·rfl)
       |(with_reducible refine XYz (o:=⟨some 104,_,_,_,_,_⟩) ?_ (.tmp 94) (.tmp 103) 86 82 ?_ _ 2 40 Tryz.underlying86 frm_info ?_ ?_ ?_ H u6 fs.length (XXz fs vs) ?_ (World.ownsRow.alloc HOWN.out _) w7.heap.size 1 1 [.string (strB nm),.slice q24 (all-24) c24] ?_ (Blk.new w7 _ _) ?_ ?_ ?_ ?_ ?_
         ·rfl
         ·rfl
         ·rfl
         ·omega
         ·omega
         ·rfl
         ·rfl
         ·rfl
         ·intro u hu;simp only[List.mem_cons,List.not_mem_nil,or_false]at hu;rcases hu with rfl|rfl<;>rfl
         ·have:=hfl.out;omega
         ·rw[World.size_alloc];omega
         intro l8 w8 hl8 hg8 ho8))
      have hI8:FeedInv w g B H (.slice q m d) tot l8 w8 (fs++[(nm,pl)]) (cur.drop all) (.slice (cut8 p1 d1 all) (n1-all) (d1-all)):=
       FeedInv.step HI7.out hglt HF.out HST.out HRD.out HSF.out (by rw[Xmz,Xmz,own_cut8]) HQ.out hszH6 HQO.out vs HVL.out HOWN.out HVS.out hl8 hg8 ho8
      go_roundw
      case rel=>exact⟨_,_,_,_,_,hI8,by have:=hg8.size;rw[World.size_alloc]at this;omega⟩
      case measure=>rw[lenAt_blk hI8.rd,lenAt_blk HI.out.rd];omega
   ·have he1:(er==0)=false:=by simpa using her
    have he2:(er != 0)=true:=by rw[bne,he1];rfl
    have HF:Hid (QQz cur= .fault er):=Lib.hid (by
     unfold QQz
     rw[if_neg (by rw[hcl.out];omega),HH.out,if_neg her])
    have f0:=HI.out.rd.frozen 0
    have f2:=HI.out.rd.frozen 2
    go_wp2_with fail
    go_quiet (fail)
    go_wp2
    go_ret2
    exact(HI3.out.fault hglt HF.out).drewN _
  ·have h24i:¬(24:Int)≤(n1:Int):=by omega
   have HW:Hid (QQz cur= .wait):=Lib.hid (by unfold QQz;rw[if_pos (by rw[hcl.out];omega)])
   go_wp2_with fail
   go_quiet (fail)
   go_wp2
   go_ret2
   exact(HI.out.fut (Q0z _ _)).wait HW.out
end
section
open Go Go.RowKit
abbrev Frms:=List (List (BitVec 8) × List (BitVec 8))
def FrmAt (w:World) (p:Option Addr) (fs:Frms):Prop:=
 fs≠[]→∃b o,p=some ⟨b,o,none⟩∧b<w.heap.size∧∀i f,fs[i]? =some f→∃u,w.cell? ⟨b,o+2*i,none⟩=some (.string (strB f.1))∧w.cell? ⟨b,o+2*i+1,none⟩=some u∧Sl w u f.2
theorem FrmRows.at {w:World} {B:Nat} {v:Value} {fs:Frms} (h:FrmRows w B v fs):∃p c,v= .slice p fs.length c∧fs.length≤c∧c≤9223372036854775807∧FrmAt w p fs:=by
 obtain⟨vs,h1,h2,h3⟩:=h
 obtain⟨p,c,rfl,h4,h5,_,h6⟩:=QLz h2
 refine⟨p,c,rfl,h4,h5,fun hn=>?_⟩
 rcases h6 with h0|⟨g,rfl,_,hlt,hc⟩
 ·exact absurd (List.eq_nil_of_length_eq_zero h0) hn
 ·refine⟨g,0,rfl,hlt,fun i f hf=>?_⟩
  have hi:i<vs.length:=by rw[h1];exact(List.getElem?_eq_some_iff.1 hf).1
  have hu:=List.getElem?_eq_getElem hi
  obtain⟨k1,k2⟩:=frmCells_at fs vs i f _ hf hu
  rw[Nat.zero_add]
  exact⟨_,hc _ _ k1,hc _ _ k2,(h3 i f _ hf hu).1⟩
end
section
open Go.RowKit
theorem Own8.stays {S:Nat→Prop} {w w':World} {B:Nat} {v:Value} {bs:List (BitVec 8)} (h:Own8 w B v bs) (hs:Stays S w w') (hn:∀k,v.ownBlock=some k→¬S k):Own8 w' B v bs:=ownsRow_stays h hs hn
section
variable {w:World} {g:Nat} {tot:List (BitVec 8)} {l:Value} {wr w':World} {fs:List (List (BitVec 8) × List (BitVec 8))} {cur:List (BitVec 8)} {u:Value}
end
end
section
open Go.RowKit
theorem frmOut_len {cmd:List (BitVec 8)} (pl:List (BitVec 8)) (h:cmd.length≤12):(X2z cmd pl).length=24+pl.length:=by
 unfold X2z
 simp only[List.length_append,Qez,QDz,List.length_take,Z2z]
 omega
end
section
open Go Go.RowKit
def feedP (s:List (BitVec 8)) (er:Int) (bs:List (BitVec 8)):List (List (BitVec 8) × List (BitVec 8)) × List (BitVec 8) × Int:=if er=0 then X7z (s++bs)else([],[],er)
end
section
open Go Go.RowKit
theorem feedE_any (g B:Nat) (v:Value) (s bs:List (BitVec 8)) (er:Int) (p:Option Addr) (n c:Nat) (w:World) (hK:Laid w) (hgB:gTop≤B) (hBg:B≤g) (hB:Rd w g v er) (hv:Sfx8 w B v s) (hs:er≠0→s=[]) (hr:Row8 w p bs) (hn:bs.length=n) (hlen:s.length+n≤1000000000000):
 Calls Tryz.prog 24 #[.pointer (some ⟨g,0,none⟩),.slice p n c] w (FeedPost w g B v (feedP s er bs)):=by
 by_cases he:er=0
 ·subst he
  unfold feedP
  rw[if_pos rfl]
  exact feed_any g B v s bs p n c w hK hgB hBg hB hv hr hn hlen
 ·refine(feed_fault g v _ er w hB (by simpa using he)).mono fun e w' ⟨h1,k,h2⟩=>?_
  subst h2
  unfold feedP
  rw[if_neg he]
  rw[hs he]at hv
  exact⟨_,v,_,h1,Nat.le_refl _,FrmRows.nil _ _,hB,hv.fut (Q0z _ _),(Stays.refl _ _).drewN k,fun k h=>.inl h⟩
theorem Z9z {w:World} {B:Nat} {v:Value} {bs:List (BitVec 8)} {g:Nat} {t:TypeId} {cs:Array Value} (h:Own8 w B v bs) (hg:Blk w g t cs) (ht:t≠5):v.ownBlock≠some g:=Sfx8.apart (Sfx8.of h) hg ht
end
section
theorem trimN_noughts (cmd:List (BitVec 8)) (k:Nat) (h:cmd≠[]→cmd[cmd.length-1]? ≠some 0#8):∀j,j≤k→trimN (cmd++Qcz k) (cmd.length+j)=cmd.length
 |0,_=>by
  rw[Nat.add_zero]
  cases hc:cmd.length with
  |zero=>rfl
  |succ n=>
   have hne:cmd≠[]:=fun e=>by rw[e]at hc;cases hc
   have h1:=h hne
   rw[hc,Nat.add_sub_cancel]at h1
   rw[trimN,List.getElem?_append_left (by omega),if_neg h1]
 |j+1,hj=>by
  rw[show cmd.length+(j+1)=cmd.length+j+1 by omega,trimN,List.getElem?_append_right (by omega),show cmd.length+j-cmd.length=j by omega]
  rw[if_pos (by unfold Qcz;rw[List.getElem?_replicate,if_pos (by omega)])]
  exact trimN_noughts cmd k h j (by omega)
theorem cmdOk_last {cmd:List (BitVec 8)} (h:cmdOk cmd=true):cmd≠[]→cmd[cmd.length-1]? ≠some 0#8:=fun _ e=>by
 unfold cmdOk at h
 simp only[Bool.and_eq_true]at h
 have:=List.all_eq_true.1 h.2 _ (List.mem_of_getElem? e)
 exact absurd this (by decide)
theorem trim0_name {cmd:List (BitVec 8)} (h:cmdOk cmd=true):trim0 (cmd++Qcz (12-cmd.length))=cmd:=by
 have hl:=cmdOk_len h
 unfold trim0
 rw[List.length_append,QDz,trimN_noughts cmd _ (cmdOk_last h) _ (Nat.le_refl _),List.take_left]
theorem num32_low (n:Nat) (r:List (BitVec 8)) (h:n<4294967296):(num32 (low (BitVec.ofNat 64 n) 4++r)).toNat=n:=by
 unfold num32
 rw[numTo_low _ _ _ (by rw[BitVec.toNat_ofNat,Nat.mod_eq_of_lt (by omega)];exact h),BitVec.toNat_setWidth,BitVec.toNat_ofNat,Nat.mod_eq_of_lt (a:=n) (by omega),Nat.mod_eq_of_lt (by omega)]
theorem frmStep_out {cmd pl:List (BitVec 8)} (hc:cmdOk cmd=true) (hp:pl.length≤200000) (r:List (BitVec 8)):QQz (X2z cmd pl++r)= .frame cmd pl r:=by
 have hl:=cmdOk_len hc
 obtain⟨A,hA⟩:∃A,A=low (BitVec.ofNat 64 3652501241) 4:=⟨_,rfl⟩
 obtain⟨C,hC⟩:∃C,C=cmd++Qcz (12-cmd.length):=⟨_,rfl⟩
 obtain⟨L,hL⟩:∃L,L=low (BitVec.ofNat 64 pl.length) 4:=⟨_,rfl⟩
 obtain⟨S,hS⟩:∃S,S=(sha (sha pl)).take 4:=⟨_,rfl⟩
 have lA:A.length=4:=by rw[hA,Qez]
 have lC:C.length=12:=by rw[hC,List.length_append,QDz];omega
 have lL:L.length=4:=by rw[hL,Qez]
 have lS:S.length=4:=by rw[hS,List.length_take,Z2z];rfl
 have e:X2z cmd pl++r=A++(C++(L++(S++(pl++r)))):=by
  unfold X2z
  rw[←hA,← hC,← hL,← hS]
  simp only[List.append_assoc]
 have e4:(A++(C++(L++(S++(pl++r))))).drop 4=C++(L++(S++(pl++r))):=List.drop_left' lA
 have e16:(A++(C++(L++(S++(pl++r))))).drop 16=L++(S++(pl++r)):=by
  rw[←List.append_assoc,List.drop_left' (by rw[List.length_append];omega)]
 have e20:(A++(C++(L++(S++(pl++r))))).drop 20=S++(pl++r):=by
  rw[←List.append_assoc,← List.append_assoc,List.drop_left' (by rw[List.length_append,List.length_append];omega)]
 have e24:(A++(C++(L++(S++(pl++r))))).drop 24=pl++r:=by
  rw[←List.append_assoc,← List.append_assoc,← List.append_assoc,List.drop_left' (by rw[List.length_append,List.length_append,List.length_append];omega)]
 have hlen:(A++(C++(L++(S++(pl++r))))).length=24+pl.length+r.length:=by
  simp only[List.length_append,lA,lC,lL,lS];omega
 have hmag:num32 (A++(C++(L++(S++(pl++r)))))=3652501241#32:=by
  apply BitVec.eq_of_toNat_eq
  rw[hA,num32_low _ _ (by omega)]
  rfl
 have hnm:frmName (A++(C++(L++(S++(pl++r)))))=cmd:=by
  unfold frmName
  rw[e4,List.take_left' lC,hC,trim0_name hc]
 have hln:frmLen (A++(C++(L++(S++(pl++r)))))=pl.length:=by
  unfold frmLen
  rw[e16,hL,num32_low _ _ (by omega)]
 have hhead:QYz (A++(C++(L++(S++(pl++r)))))=(cmd,24+pl.length,0):=by
  unfold QYz
  rw[hnm,hln,if_pos ⟨hmag,hc⟩,if_neg (by omega)]
 have hpl:((A++(C++(L++(S++(pl++r))))).take (24+pl.length)).drop 24=pl:=by
  rw[List.drop_take,e24,Nat.add_sub_cancel_left,List.take_left]
 have hrest:(A++(C++(L++(S++(pl++r))))).drop (24+pl.length)=r:=by
  rw[←List.drop_drop,e24,List.drop_left]
 unfold QQz
 rw[e,if_neg (by omega),hhead,if_pos rfl,if_neg (by simp only;omega),hpl,hrest,e20,List.take_left' lS,if_pos hS.symm]
theorem frmAll_out {cmd pl:List (BitVec 8)} (hc:cmdOk cmd=true) (hp:pl.length≤200000) (r:List (BitVec 8)):X7z (X2z cmd pl++r)=((cmd,pl) ::(X7z r).1,(X7z r).2):=
 frmAll_frame (frmStep_out hc hp r)
theorem frmAll_nil:X7z []=([],[],0):=rfl
theorem frmAll_one {cmd pl:List (BitVec 8)} (hc:cmdOk cmd=true) (hp:pl.length≤200000):X7z (X2z cmd pl)=([(cmd,pl)],[],0):=by
 have:=frmAll_out hc hp []
 rwa [List.append_nil]at this
end
end Go.Proofs.YtjbijcjcejfpcaaGreatDoor
