/- A slice of slices of bytes, read as data: the lists, the cells, the bound on all -/
import Derived.Deep.RegionLaw
import Derived.ArgAppend
import Derived.Laws.IdiomCopy
import Derived.Deep.DeepAppendWide
import Derived.Great.BuildSlice
import Derived.BigFrame
import Derived.DeepKeys
import Derived.Laws.StructEq
import Derived.Test.YtjbijcjcejfpcaaGreatDoorRows
import Derived.Test.YtjbijcjcejfpcaaGreatDoorZGA
namespace Go.Proofs.YtjbijcjcejfpcaaGreatDoor
set_option linter.unusedVariables false
set_option maxRecDepth 100000
set_option maxHeartbeats 16000000
section
open Go.ChangeShapes Go.WideShapes Go.ChangeAt Go.RowKit
def Sl (w:World) (v:Value) (bs:List (BitVec 8)):Prop:=∃p n c,v= .slice p n c∧bs.length=n∧n≤c∧c≤maxLen∧Row8 w p bs∧(p=none→c=0)
def Rows8 (w:World) (p:Option Addr) (ls:List (List (BitVec 8))):Prop:=
 ls≠[]→∃b off,p=some ⟨b,off,none⟩∧b<w.heap.size∧∀i bs,ls[i]? =some bs→∃v,w.cell? ⟨b,off+i,none⟩=some v∧Sl w v bs
theorem Sl.below {w w':World} {v:Value} {bs:List (BitVec 8)} {B:Nat} (h:Sl w v bs) (hb:Below B w w') (hB:w.heap.size≤B):Sl w' v bs:=by
 obtain⟨p,n,c,h1,h2,h3,h4,h5,h6⟩:=h
 exact⟨p,n,c,h1,h2,h3,h4,h5.below hb hB,h6⟩
theorem Rows8.below {w w':World} {p:Option Addr} {ls:List (List (BitVec 8))} {B:Nat} (h:Rows8 w p ls) (hb:Below B w w') (hB:w.heap.size≤B):Rows8 w' p ls:=fun hn=>by
 obtain⟨b,off,rfl,hlt,hc⟩:=h hn
 refine⟨b,off,rfl,Nat.lt_of_lt_of_le hlt hb.size,fun i bs hi=>?_⟩
 obtain⟨v,hv,hs⟩:=hc i bs hi
 exact⟨v,(hb.cell (p:=⟨b,off+i,none⟩) (Nat.lt_of_lt_of_le hlt hB)).trans hv,hs.below hb hB⟩
def XGz:List (List (BitVec 8))→Nat
 | []=>0
 |b ::r=>b.length+XGz r
theorem lensSum_append (a b:List (List (BitVec 8))):XGz (a++b)=XGz a+XGz b:=by
 induction a with
 |nil=>simp[XGz]
 |cons x a ih=>simp only[List.cons_append,XGz,ih];omega
theorem lensSum_take (ls:List (List (BitVec 8))) (k:Nat):XGz (ls.take k)≤XGz ls:=by
 have:=lensSum_append (ls.take k) (ls.drop k)
 rw[List.take_append_drop]at this
 omega
end
section
open Go.RowKit
def byteN (n:BitVec 64) (i:Nat):BitVec 8:=(n >>> (8*i)).setWidth 8
def low (n:BitVec 64) (k:Nat):List (BitVec 8):=(List.range k).map (byteN n)
theorem low_succ (n:BitVec 64) (k:Nat):low n (k+1)=low n k++[byteN n k]:=by simp[low,List.range_succ]
theorem Qez (n:BitVec 64) (k:Nat):(low n k).length=k:=by simp[low]
theorem shrB (n:BitVec 64) (i:Nat):IntKind.u8.wrap (iv64 n / 2 ^ (8*i))=iv8 (byteN n i):=by
 rw[shrp64,cut64_8];rfl
theorem new_one (w:World) (b:BitVec 8):Row8 (w.alloc (.cells #[u8 b] 5)) (some ⟨w.heap.size,0,none⟩) [b]:=fun _=>
 ⟨_,0,rfl,by simp,fun i x hx=>by
  rw[(Blk.new w _ _).cell]
  cases i with
  |zero=>simp at hx ⊢;rw[hx]
  |succ i=>simp at hx⟩
theorem QFz (n:BitVec 64) (m:Nat) (hm:m≤8) (w:World):
 Calls Tryz.prog 40 #[.int .u64 (iv64 n),.int .i64 (m:Int)] w (GivesOwn w (low n m)):=by
 go_enter Tryz.func40,Tryz.ntmps40
 go_wp2
 go_loopw[5,8] (fun v i wr=>∃k:Nat,k≤m∧i= .int .i64 k∧Own8 wr w.heap.size v (low n k)∧Below w.heap.size w wr) (fun _ i _=>m-(intOf i).toNat)
 case atStart=>exact⟨0,by omega,rfl,Own8.nil _ _,Below.refl _ _⟩
 case round=>
  obtain⟨k,hk,rfl,hown,hbel⟩:=hrel
  by_cases hkm:k<m
  ·have hlt:(k:Int)<(m:Int):=by omega
   have hsz:=hbel.size
   have hlk:=Qez n k
   have hb1:(0:Int)≤8*(k:Int):=by omega
   have hb2:8*(k:Int)≤56:=by omega
   have hsh:=shrB n k
   have hrow:=new_one wr (byteN n k)
   go_wp2_with(with_reducible refine Qaz (o:=⟨some 18,_,_,_,_,_⟩) ?_ (.tmp 11) (.tmp 17) ?_ w.heap.size _ (low n k) ?_ (hown.alloc _) (some ⟨wr.heap.size,0,none⟩) 1 1 [byteN n k] ?_ rfl ?_ ?_ ?_ w.heap.size w ?_ ?_ ?_
               ·rfl
               ·rfl
               ·rfl
               ·rfl
               ·exact hrow
               ·rw[hlk];simp only[List.length_cons,List.length_nil];omega
               ·simp only[World.size_alloc];omega
               ·exact hbel.alloc hsz _
               ·exact Nat.le_refl _
               intro v1 w1 ho1 hb1 _ _)
   rw[←low_succ]at ho1
   go_roundw
   case rel=>exact⟨k+1,by omega,by go_num,ho1,hb1⟩
   case measure=>simp[intOf];omega
  ·obtain rfl:k=m:=by omega
   go_wp2
   go_ret
   exact⟨_,rfl,hown,hbel⟩
def numTo (bs:List (BitVec 8)):Nat→BitVec 64
 |0=>0#64
 |k+1=>numTo bs k ||| ((bs[k]?.getD 0#8).setWidth 64 <<< (8*k))
theorem num_step (bs:List (BitVec 8)) (k:Nat) (b:BitVec 8) (h:bs[k]? =some b):bits .or .u64 (iv64 (numTo bs k)) (IntKind.u64.wrap (IntKind.u64.wrap (iv8 b)*2 ^ (8*k)))=iv64 (numTo bs (k+1)):=by
 rw[ext8_64,shlp64,or64,numTo,h];rfl
theorem numTo_bit (n:BitVec 64) (L:List (BitVec 8)) (k:Nat) (hL:∀i,i<k→L[i]? =some (byteN n i)) (j:Nat) (hj:j<64):(numTo L k).getLsbD j=(decide (j<8*k)&&n.getLsbD j):=by
 induction k with
 |zero=>simp[numTo]
 |succ k ih=>
  rw[numTo,hL k (by omega),BitVec.getLsbD_or,ih (fun i hi=>hL i (by omega)),BitVec.getLsbD_shiftLeft]
  simp only[Option.getD_some,byteN,BitVec.getLsbD_setWidth,BitVec.getLsbD_ushiftRight]
  by_cases h1:j<8*k
  ·simp[h1,show j<8*(k+1) by omega]
  ·by_cases h2:j<8*(k+1)
   ·simp[h1,h2,hj,show j-8*k<64 by omega,show j-8*k<8 by omega,show 8*k+(j-8*k)=j by omega]
   ·simp[h1,h2,show ¬(j-8*k<8) by omega]
theorem numTo_low (n:BitVec 64) (k:Nat) (r:List (BitVec 8)) (hn:n.toNat<2 ^ (8*k)):numTo (low n k++r) k=n:=by
 refine BitVec.eq_of_getLsbD_eq fun j hj=>?_
 rw[numTo_bit n _ k (fun i hi=>by simp[low,List.getElem?_append,hi]) j hj]
 by_cases h:j<8*k
 ·simp[h]
 ·have:n.getLsbD j=false:=by
   rw[BitVec.getLsbD,Nat.testBit_lt_two_pow]
   exact Nat.lt_of_lt_of_le hn (Nat.pow_le_pow_right (by omega) (by omega))
  simp[h,this]
end
section
open Go.RowKit
def num32 (bs:List (BitVec 8)):BitVec 32:=(numTo bs 4).setWidth 32
theorem num_or (x0 x1 x2 x3:BitVec 8):((x0.setWidth 32 ||| x1.setWidth 32 <<< 8) ||| x2.setWidth 32 <<< 16) ||| x3.setWidth 32 <<< 24=num32 [x0,x1,x2,x3]:=by
 unfold num32
 apply BitVec.eq_of_getLsbD_eq
 intro j hj
 simp only[numTo,List.getElem?_cons_succ,List.getElem?_cons_zero,Option.getD_some,BitVec.getLsbD_setWidth,BitVec.getLsbD_or,BitVec.getLsbD_shiftLeft,BitVec.getLsbD_zero]
 simp[hj,show j<64 by omega,show j-8<64 by omega,show j-16<64 by omega,show j-24<64 by omega,show j-8<32 by omega,show j-16<32 by omega,show j-24<32 by omega]
theorem num32_four (bs:List (BitVec 8)) (x0 x1 x2 x3:BitVec 8) (h0:bs[0]? =some x0) (h1:bs[1]? =some x1) (h2:bs[2]? =some x2) (h3:bs[3]? =some x3):num32 bs=num32 [x0,x1,x2,x3]:=by
 unfold num32
 simp[numTo,h0,h1,h2,h3]
theorem numTo_lt (L:List (BitVec 8)) (k:Nat) (hk:k≤8):(numTo L k).toNat<2 ^ (8*k):=by
 induction k with
 |zero=>simp[numTo]
 |succ k ih=>
  rw[numTo,BitVec.toNat_or]
  refine Nat.or_lt_two_pow (Nat.lt_of_lt_of_le (ih (by omega)) (Nat.pow_le_pow_right (by omega) (by omega))) ?_
  rw[BitVec.toNat_shiftLeft,BitVec.toNat_setWidth,Nat.shiftLeft_eq]
  generalize L[k]?.getD 0#8=x
  have:=x.isLt
  refine Nat.lt_of_le_of_lt (Nat.mod_le _ _) ?_
  refine Nat.lt_of_le_of_lt (Nat.mul_le_mul_right _ (Nat.mod_le _ _)) ?_
  rw[show 8*(k+1)=8+8*k by omega,Nat.pow_add]
  exact Nat.mul_lt_mul_of_pos_right (by omega) (Nat.pow_pos (by omega))
theorem numTo_bits (L:List (BitVec 8)) (k:Nat) (j:Nat) (hj:j<64):(numTo L k).getLsbD j=(decide (j<8*k)&&(L[j / 8]?.getD 0#8).getLsbD (j % 8)):=by
 induction k with
 |zero=>simp[numTo]
 |succ k ih=>
  rw[numTo,BitVec.getLsbD_or,ih,BitVec.getLsbD_shiftLeft,BitVec.getLsbD_setWidth]
  by_cases h1:j<8*k
  ·simp[h1,show j<8*(k+1) by omega]
  ·by_cases h2:j<8*(k+1)
   ·have e1:j / 8=k:=by omega
    have e2:j % 8=j-8*k:=by omega
    simp[h1,h2,hj,e1,e2,show j-8*k<64 by omega]
   ·have:(L[k]?.getD 0#8).getLsbD (j-8*k)=false:=BitVec.getLsbD_of_ge _ _ (by omega)
    simp[h1,h2,this]
theorem low_numTo (L:List (BitVec 8)) (k:Nat) (hk:k≤8) (h:k≤L.length):low (numTo L k) k=L.take k:=by
 apply List.ext_getElem
 ·rw[Qez,List.length_take];omega
 ·intro i h1 h2
  rw[Qez]at h1
  simp only[low,List.getElem_map,List.getElem_range,List.getElem_take]
  unfold byteN
  apply BitVec.eq_of_getLsbD_eq
  intro j hj
  have hx:L[i]? =some (L[i]'(by omega)):=List.getElem?_eq_getElem (by omega)
  simp only[BitVec.getLsbD_setWidth,BitVec.getLsbD_ushiftRight]
  rw[numTo_bits L k (8*i+j) (by omega),show(8*i+j) / 8=i by omega,show(8*i+j) % 8=j by omega,hx]
  simp[hj,show 8*i+j<8*k by omega]
end
section
open Go.RowKit
structure Stays (S:Nat→Prop) (w w':World):Prop where
 os:w'.os=w.os
 tape:w'.tape=w.tape
 output:w'.output=w.output
 size:w.heap.size≤w'.heap.size
 block:∀k,k<w.heap.size→¬S k→w'.heap[k]? =w.heap[k]?
section
variable {S S':Nat→Prop} {w w1 w2 w':World}
theorem Stays.refl (S:Nat→Prop) (w:World):Stays S w w:=⟨rfl,rfl,rfl,Nat.le_refl _,fun _ _ _=>rfl⟩
theorem Stays.trans (h:Stays S w w1) (h2:Stays S' w1 w2) (hS:∀k,k<w.heap.size→S' k→S k):Stays S w w2:=
 ⟨h2.os.trans h.os,h2.tape.trans h.tape,h2.output.trans h.output,Nat.le_trans h.size h2.size,fun k hk hn=>(h2.block k (Nat.lt_of_lt_of_le hk h.size) (fun h'=>hn (hS k hk h'))).trans (h.block k hk hn)⟩
theorem Stays.mono (h:Stays S w w') (hS:∀k,k<w.heap.size→S k→S' k):Stays S' w w':=⟨h.os,h.tape,h.output,h.size,fun k hk hn=>h.block k hk (fun h'=>hn (hS k hk h'))⟩
theorem Stays.of_below {B:Nat} (h:Below B w w') (hB:w.heap.size≤B) (S:Nat→Prop):Stays S w w':=⟨h.os,h.tape,h.output,h.size,fun k hk _=>h.block k (by omega)⟩
theorem Stays.of_grown {r:Option Nat} (h:w.grownBy w' r) (hS:∀k,r=some k→S k):Stays S w w':=⟨h.os,h.tape,h.output,h.size,fun k hk hn=>h.block k hk (fun e=>hn (hS k e.symm))⟩
theorem Stays.below {B:Nat} (h:Stays S w w') (hB:B≤w.heap.size) (hS:∀k,S k→B≤k):Below B w w':=⟨h.os,h.tape,h.output,h.size,fun k hk=>h.block k (by omega) (fun h'=>by have:=hS k h';omega)⟩
theorem Stays.setCell (h:Stays S w w') {a:Addr} (ha:a.block<w.heap.size→S a.block) (u:Value):Stays S w (w'.setCell a u):=
 ⟨h.os,h.tape,h.output,by have:=h.size;simpa[World.setCell]using this,fun k hk hn=>by
  rw[Below.heap_setCell w' a u k (fun e=>hn (by subst e;exact ha hk))];exact h.block k hk hn⟩
theorem Stays.drewN (h:Stays S w w') (n:Nat):Stays S w (w'.drewN n):=⟨h.os,h.tape,h.output,h.size,h.block⟩
theorem Stays.set (w:World) (g i:Nat) (u:Value):Stays (·=g) w (w.setCell ⟨g,i,none⟩ u):=Stays.setCell (S:=(·=g)) (a:=⟨g,i,none⟩) (Stays.refl _ _) (fun _=>rfl) _
theorem Blk.stays {g:Nat} {t:TypeId} {cs:Array Value} (h:Blk w g t cs) (hs:Stays S w w') (hg:¬S g):Blk w' g t cs:=(hs.block g h.lt hg).trans h
theorem Row8.stays {p:Option Addr} {bs:List (BitVec 8)} (h:Row8 w p bs) (hs:Stays S w w') (hp:bs≠[]→∀a,p=some a→¬S a.block):Row8 w' p bs:=fun hn=>by
 obtain⟨b,off,rfl,hlt,hc⟩:=h hn
 exact⟨b,off,rfl,Nat.lt_of_lt_of_le hlt hs.size,fun i x hx=>(World.cell?_of_block (a:=⟨b,off+i,none⟩) (hs.block b hlt (hp hn _ rfl))).trans (hc i x hx)⟩
end
theorem Blk.inj {w:World} {g:Nat} {t t':TypeId} {cs cs':Array Value} (h:Blk w g t cs) (h':Blk w g t' cs'):t=t'∧cs=cs':=by
 have:=h.symm.trans h'
 injection this with this
 injection this with h1 h2
 exact⟨h2,h1⟩
theorem Row8.frm {w:World} {b o:Nat} {bs:List (BitVec 8)} (h:Row8 w (some ⟨b,o,none⟩) bs) (k:Nat):Row8 w (some ⟨b,o+k,none⟩) (bs.drop k):=fun hn=>by
 obtain⟨b',o',e,hlt,hc⟩:=h (fun e=>hn (by rw[e];exact List.drop_nil))
 injection e with e
 injection e with e1 e2 _
 subst e1 e2
 refine⟨b,o+k,rfl,hlt,fun i x hx=>?_⟩
 rw[List.getElem?_drop]at hx
 rw[Nat.add_assoc]
 exact hc _ x hx
def Z5z (cs:Array Value):Nat→List Value→Array Value
 |_,[]=>cs
 |o,v ::r=>Z5z (cs.setIfInBounds o v) (o+1) r
theorem setAll_size:∀(vs:List Value) (o:Nat) (cs:Array Value),(Z5z cs o vs).size=cs.size
 | [],_,_=>rfl
 |_ ::r,o,cs=>by rw[Z5z,setAll_size r,Array.size_setIfInBounds]
theorem setAll_out:∀(vs:List Value) (o:Nat) (cs:Array Value) (k:Nat),(k<o∨o+vs.length≤k)→(Z5z cs o vs)[k]? =cs[k]?
 | [],_,_,_,_=>rfl
 |_ ::r,o,cs,k,h=>by
  simp only[List.length_cons]at h
  rw[Z5z,setAll_out r (o+1) _ k (by omega),Array.getElem?_setIfInBounds,if_neg (by omega)]
theorem setAll_in:∀(vs:List Value) (o:Nat) (cs:Array Value) (j:Nat) (v:Value),vs[j]? =some v→o+vs.length≤cs.size→(Z5z cs o vs)[o+j]? =some v
 | [],_,_,_,_,h,_=>by cases h
 |u ::r,o,cs,0,v,h,hl=>by
  injection h with h
  simp only[List.length_cons]at hl
  rw[Z5z,setAll_out r (o+1) _ _ (by omega),Nat.add_zero,Array.getElem?_setIfInBounds,if_pos rfl,if_pos (by omega),h]
 |u ::r,o,cs,j+1,v,h,hl=>by
  simp only[List.length_cons]at hl
  rw[Z5z,show o+(j+1)=o+1+j by omega]
  exact setAll_in r (o+1) _ j v h (by rw[Array.size_setIfInBounds];omega)
theorem Blk.setCells {g:Nat} {t:TypeId}:∀(vs:List Value) (o:Nat) (w:World) (cs:Array Value),Blk w g t cs→Blk (w.setCells g o vs) g t (Z5z cs o vs)
 | [],_,_,_,h=>h
 |v ::r,o,w,_,h=>Blk.setCells r (o+1) _ _ (h.set o v)
theorem grown_setAll {w:World} {H:Nat}:∀(vs:List Value) (o:Nat) (w':World),w.grownBy w' (some H)→w.grownBy (w'.setCells H o vs) (some H)
 | [],_,_,h=>h
 |v ::r,o,w',h=>grown_setAll r (o+1) _ ⟨h.os,h.tape,h.output,by have:=h.size;simpa[World.setCell]using this,fun k hk hne=>by
    rw[Below.heap_setCell w' ⟨H,o,none⟩ v k (by intro e;exact hne (by rw[e]))]
    exact h.block k hk hne⟩
def cut8 (p:Option Addr) (c k:Nat):Option Addr:=if c=k then p else p.map (·.add k)
def Sfx8 (w:World) (B:Nat) (v:Value) (bs:List (BitVec 8)):Prop:=
 (v= .slice none 0 0∧bs=[])∨∃g off cap cur,v= .slice (some ⟨g,off,none⟩) bs.length cap∧B≤g∧Blk w g 5 cur∧bs.length≤cap∧cap≤maxLen∧off+cap≤cur.size∧∀i x,bs[i]? =some x→cur[off+i]? =some (u8 x)
section
variable {w w':World} {B:Nat} {v:Value} {bs:List (BitVec 8)}
theorem Sfx8.nil (w:World) (B:Nat):Sfx8 w B (.slice none 0 0) []:=.inl ⟨rfl,rfl⟩
theorem Sfx8.of (h:Own8 w B v bs):Sfx8 w B v bs:=by
 rcases h.2 with⟨hv,h0⟩|⟨g,cap,cur,rfl,hB,hg,h1,h2,hs,ht⟩
 ·exact .inl ⟨hv,List.eq_nil_of_length_eq_zero h0⟩
 ·refine .inr ⟨g,0,cap,cur,rfl,hB,hg,h1,h2,by omega,fun i x hx=>?_⟩
  have hl:i<bs.length:=(List.getElem?_eq_some_iff.1 hx).1
  have:(cur.toList.take (bs.length*1))[i]? =(bs.map u8)[i]? :=by rw[ht]
  rw[List.getElem?_take,if_pos (by omega),List.getElem?_map,hx]at this
  simpa using this
theorem Sfx8.row (h:Sfx8 w B v bs):∃p n c,v= .slice p n c∧Hid (bs.length=n)∧n≤c∧c≤9223372036854775807∧Row8 w p bs∧(p=none→c=0):=by
 rcases h with⟨rfl,rfl⟩|⟨g,off,cap,cur,rfl,hB,hg,h1,h2,h3,h4⟩
 ·exact⟨_,_,_,rfl,Lib.hid rfl,by omega,by omega,Row8.nil _ _,fun _=>rfl⟩
 ·exact⟨_,_,_,rfl,Lib.hid rfl,h1,h2,fun _=>⟨g,off,rfl,hg.lt,fun i x hx=>by rw[hg.cell];exact h4 i x hx⟩,fun h=>by cases h⟩
theorem Sfx8.lt (h:Sfx8 w B v bs):∀k,v.ownBlock=some k→B≤k∧k<w.heap.size:=by
 rcases h with⟨rfl,rfl⟩|⟨g,off,cap,cur,rfl,hB,hg,_⟩
 ·intro k hk;cases hk
 ·intro k hk
  injection hk with hk
  subst hk
  exact⟨hB,hg.lt⟩
theorem Sfx8.stays {S:Nat→Prop} (h:Sfx8 w B v bs) (hs:Stays S w w') (hn:∀k,v.ownBlock=some k→¬S k):Sfx8 w' B v bs:=by
 rcases h with h|⟨g,off,cap,cur,rfl,hB,hg,h1⟩
 ·exact .inl h
 ·exact .inr ⟨g,off,cap,cur,rfl,hB,hg.stays hs (hn g rfl),h1⟩
theorem Sfx8.fut (h:Sfx8 w B v bs) (hb:Below w.heap.size w w'):Sfx8 w' B v bs:=h.stays (Stays.of_below hb (Nat.le_refl _) (fun _=>False)) (fun _ _ h=>h)
theorem Sfx8.apart {g:Nat} {t:TypeId} {cs:Array Value} (h:Sfx8 w B v bs) (hg:Blk w g t cs) (ht:t≠5):v.ownBlock≠some g:=by
 rcases h with⟨rfl,rfl⟩|⟨g',off,cap,cur,rfl,hB,hg',_⟩
 ·intro h;cases h
 ·intro h
  injection h with h
  subst h
  exact ht (hg.inj hg').1
theorem Sfx8.cut {p:Option Addr} {n c k:Nat} (h:Sfx8 w B (.slice p n c) bs) (hk:k≤n):Sfx8 w B (.slice (cut8 p c k) (n-k) (c-k)) (bs.drop k):=by
 rcases h with⟨e,rfl⟩|⟨g,off,cap,cur,e,hB,hg,h1,h2,h3,h4⟩
 ·injection e with e1 e2 e3
  subst e1 e2 e3
  obtain rfl:k=0:=by omega
  exact .inl ⟨rfl,rfl⟩
 ·injection e with e1 e2 e3
  subst e1 e2 e3
  unfold cut8
  by_cases hc:c=k
  ·subst hc
   rw[if_pos rfl,List.drop_of_length_le (by omega)]
   exact .inr ⟨g,off,0,cur,by simp;omega,hB,hg,by simp,by simp[maxLen],by omega,fun i x hx=>by cases hx⟩
  ·rw[if_neg hc]
   refine .inr ⟨g,off+k,c-k,cur,by simp[Addr.add],hB,hg,by rw[List.length_drop];omega,by omega,by omega,fun i x hx=>?_⟩
   rw[List.getElem?_drop]at hx
   rw[Nat.add_assoc]
   exact h4 _ x hx
theorem Xmz (p:Option Addr) (n c:Nat):(Value.slice p n c).ownBlock=p.map (·.block):=by cases p<;>rfl
theorem own_cut8 (p:Option Addr) (c k:Nat):(cut8 p c k).map (·.block)=p.map (·.block):=by
 unfold cut8
 split
 ·rfl
 ·cases p with
  |none=>rfl
  |some a=>
   simp only[Option.map_some]
   unfold Addr.add
   split<;>rfl
end
theorem run_sfx8 (w:World) (ty:TypeId) (B:Nat) (v:Value) (as1:List (BitVec 8)) (h:Sfx8 w B v as1) (p:Option Addr) (c:Nat) (bs:List (BitVec 8)) (hr:Row8 w p bs)
 (hlen:as1.length+bs.length≤200000000000000) (hB:B≤w.heap.size):
 ∃v' w',(Builtin.append_ #[26,26] ty #[v,.slice p bs.length c]).run Tryz.prog w= .ok v' w'∧Sfx8 w' B v' (as1++bs)∧w.grownBy w' v.ownBlock∧(v'.ownBlock=v.ownBlock∨v'.ownBlock=some w.heap.size):=by
 obtain⟨i0,hi,hz0,hz1,hz2⟩:=info_parts u8info
 by_cases hne:bs=[]
 ·subst hne
  refine⟨v,w,?_,by simpa using h,World.grownBy.refl w _,.inl rfl⟩
  rcases h with⟨rfl,rfl⟩|⟨g,off,cap,cur,rfl,hB,hg,h1,_⟩
  ·cases p<;>simp[Builtin.append_,run_underlying Tryz.underlying26,sizeOf,typeInfo,hi,Builtin.lenOf,Builtin.firstCells,loadCells,loadCellsFrom]
  ·cases p<;>simp[Builtin.append_,run_underlying Tryz.underlying26,sizeOf,typeInfo,hi,Builtin.lenOf,Builtin.firstCells,h1,storeCells,loadCells,loadCellsFrom]
 ·obtain⟨b,so,rfl,_,hcell⟩:=hr hne
  have hpos:0<bs.length:=List.length_pos_iff.2 hne
  have hcells:∀j u,(bs.map u8)[j]? =some u→w.cell? ((⟨b,so,none⟩:Addr).add j)=some u:=by
   intro j u hu
   rw[List.getElem?_map]at hu
   cases hx:bs[j]? with
   |none=>rw[hx]at hu;cases hu
   |some x=>
    rw[hx]at hu
    injection hu with hu
    rw[Addr.add_lit,hcell j x hx,← hu]
  have grown:∀(old:Nat),old<as1.length+bs.length→∀(row:Option Nat),
   Sfx8 (w.drew.alloc (.cells ((as1.map u8).toArray++(bs.map u8).toArray++Builtin.zeroCells (Value.int .u8 0).cells (grownCap w (as1.length+bs.length) old 5-(as1.length+bs.length))) 5)) B
    (.slice (some ⟨w.heap.size,0,none⟩) (as1.length+bs.length) (grownCap w (as1.length+bs.length) old 5)) (as1++bs)∧
   w.grownBy (w.drew.alloc (.cells ((as1.map u8).toArray++(bs.map u8).toArray++Builtin.zeroCells (Value.int .u8 0).cells (grownCap w (as1.length+bs.length) old 5-(as1.length+bs.length))) 5)) row:=by
   intro old ho row
   have hge:=grownCap_ge w (as1.length+bs.length) old 5
   have hcm:grownCap w (as1.length+bs.length) old 5≤maxLen:=grownCap_le_maxLen w _ old _ (by simp only[maxLen];omega)
   refine⟨.inr ⟨w.heap.size,0,_,_,by simp,hB,heap_alloc_new w.drew _,by simpa using hge,hcm,?_,fun i x hx=>?_⟩,⟨rfl,rfl,rfl,by simp,fun k hk _=>Below.heap_alloc w.drew _ k hk⟩⟩
   ·have hz:(Value.int IntKind.u8 0).cells.size=1:=rfl
    simp only[Array.size_append,List.size_toArray,size_zeroCells,hz,List.length_map]
    omega
   ·have hl:=(List.getElem?_eq_some_iff.1 hx).1
    rw[List.length_append]at hl
    rw[Nat.zero_add,Array.getElem?_append_left (by simp only[Array.size_append,List.size_toArray,List.length_map];omega),← Array.getElem?_toList,Array.toList_append,← List.map_append,List.getElem?_map,hx]
    rfl
  rcases h with⟨rfl,rfl⟩|⟨g,off,cap,cur,rfl,hBg,hg,h1,h2,h3,h4⟩
  ·have hrun:=run_append_nil (P:=Tryz.prog) w 26 ty 5 i0 (.int .u8 0) Tryz.underlying26 hi hz0 ⟨b,so,none⟩ bs.length c (bs.map u8) (by rw[hz1];simp) hcells hpos (by simp only[List.length_nil]at hlen;omega) (by rw[hz2];simp only[List.length_nil]at hlen;omega)
   have hgr:=grown 0 (by simp only[List.length_nil];omega) (Value.ownBlock (.slice none 0 0))
   simp only[List.length_nil,Nat.zero_add,List.nil_append,List.map_nil,Array.empty_append]at hgr ⊢
   exact⟨_,_,hrun,hgr.1,hgr.2,.inr rfl⟩
  ·by_cases hroom:as1.length+bs.length≤cap
   ·have hrun:=run_append_room_cells (P:=Tryz.prog) w 26 ty 5 i0 Tryz.underlying26 hi g off as1.length cap ⟨b,so,none⟩ bs.length c (bs.map u8) (by rw[hz1];simp) hcells (Xzz _) hroom
     (fun j hj=>by
       rw[hg.cell,Array.getElem?_eq_getElem (by simp[hz1]at hj ⊢;omega)];rfl) (fun j hj=>hg.frozen _)
    rw[hz1,Nat.mul_one]at hrun
    refine⟨_,_,hrun,.inr ⟨g,off,cap,_,by simp,hBg,hg.setCells (bs.map u8) (off+as1.length),by simpa using hroom,h2,by rw[setAll_size];exact h3,fun i x hx=>?_⟩,grown_setAll _ _ _ (World.grownBy.refl w _),.inl rfl⟩
    rcases Nat.lt_or_ge i as1.length with hlt|hge
    ·rw[List.getElem?_append_left hlt]at hx
     rw[setAll_out _ _ _ _ (.inl (by omega))]
     exact h4 i x hx
    ·rw[List.getElem?_append_right hge]at hx
     have:=setAll_in (bs.map u8) (off+as1.length) cur (i-as1.length) (u8 x) (by rw[List.getElem?_map,hx];rfl) (by simp;omega)
     rwa [show off+as1.length+(i-as1.length)=off+i by omega]at this
   ·have hrun:=run_append_grow (P:=Tryz.prog) w 26 ty 5 i0 (.int .u8 0) Tryz.underlying26 hi hz0 ⟨g,off,none⟩ as1.length cap (as1.map u8) (by rw[hz1];simp)
     (fun j u hu=>by
       rw[List.getElem?_map]at hu
       cases hx:as1[j]? with
       |none=>rw[hx]at hu;cases hu
       |some x=>
        rw[hx]at hu
        injection hu with hu
        rw[Addr.add_lit,hg.cell,h4 j x hx,← hu])
     ⟨b,so,none⟩ bs.length c (bs.map u8) (by rw[hz1];simp) hcells (by omega) (by omega) (growslice_fits_wide (by omega) (by rw[hz2];omega))
    have hgr:=grown cap (by omega) (some g)
    exact⟨_,_,hrun,hgr.1,hgr.2,.inr rfl⟩
theorem wp_sfx8 {ops:Array Oper} {rest:List Oper} {o:Oper} {a:Act} {Q:Exit→Act→World→Prop} {w:World} (hgd:o.guard=none) (s x:Operand)
 (ho:o.op= .call { callee:=.builtin .append,args:=#[s,x],argTypes:=#[26,26] }) (B:Nat) (v:Value) (as1:List (BitVec 8)) (hs:a.eval s=v) (hown:Sfx8 w B v as1)
 (p:Option Addr) (m c:Nat) (bs:List (BitVec 8)) (hx:a.eval x= .slice p m c) (hm:bs.length=m) (hr:Row8 w p bs)
 (hlen:as1.length+bs.length≤200000000000000) (hB:B≤w.heap.size)
 (h:∀v' w',Sfx8 w' B v' (as1++bs)→w.grownBy w' v.ownBlock→(v'.ownBlock=v.ownBlock∨v'.ownBlock=some w.heap.size)→wpList Tryz.prog ops Q rest (a.put o.dst v') w'):wpList Tryz.prog ops Q (o ::rest) a w:=by
 subst hm
 obtain⟨v',w',hrun,h2,h3,h4⟩:=run_sfx8 w o.type B v as1 hown p c bs hr hlen hB
 refine wpList_plain hgd fun K hK=>?_
 unfold Oper.wp execOp
 simp only[ho,resolve,invoke,builtin,Sem.run_bind,Sem.run_pure,Result.andThen_ok,List.map_toArray,List.map_cons,List.map_nil,hs,hx,hrun]
 exact hK _ _ (h v' w' h2 h3 h4)
theorem slice_cut8 (w:World) (p:Option Addr) (m c k:Nat) (h:k≤m):
 (Instr.sliceAt 26 (.slice p m c) (some (.int .i64 (k:Int))) none none).run Tryz.prog w= .ok (.slice (cut8 p c k) (m-k) (c-k)) w:=by
 have hs:(sizeOf (Tryz.prog.elem 26)).run Tryz.prog w= .ok 1 w:=by kernel_rfl
 have hu:Tryz.prog.underlying 26=some (.slice (Tryz.prog.elem 26)):=by kernel_rfl
 rw[run_sliceAt_slice w _ _ _ _ _ hu,run_slice_l w _ _ _ _ hu _ _ (by omega) (by omega),hs]
 simp[Result.andThen,sliced,cut8]
theorem slice_lh8 (w:World) (p:Option Addr) (m c l k:Nat) (h1:l≤k) (h2:k≤c):
 (Instr.sliceAt 26 (.slice p m c) (some (.int .i64 (l:Int))) (some (.int .i64 (k:Int))) none).run Tryz.prog w= .ok (.slice (cut8 p c l) (k-l) (c-l)) w:=by
 have hs:(sizeOf (Tryz.prog.elem 26)).run Tryz.prog w= .ok 1 w:=by kernel_rfl
 have hu:Tryz.prog.underlying 26=some (.slice (Tryz.prog.elem 26)):=by kernel_rfl
 rw[run_sliceAt_slice w _ _ _ _ _ hu,run_slice_lh w _ _ _ _ hu _ _ _ _ (by omega) (by omega) (by omega),hs]
 simp[Result.andThen,sliced,cut8]
theorem Row8.lh {w:World} {p:Option Addr} {bs:List (BitVec 8)} (h:Row8 w p bs) {k l c:Nat} (hc:bs.length≤c):Row8 w (cut8 p c l) ((bs.take k).drop l):=Row8.drop (h.take k) (by rw[List.length_take];omega)
theorem Row8.cut8 {w:World} {p:Option Addr} {bs:List (BitVec 8)} (h:Row8 w p bs) {k c:Nat} (hc:bs.length≤c):Row8 w (cut8 p c k) (bs.drop k):=Row8.drop h hc
theorem cut8_none {p:Option Addr} {c k:Nat} (h:cut8 p c k=none):p=none:=by
 unfold cut8 at h
 split at h
 ·exact h
 ·cases p with
  |none=>rfl
  |some a=>cases h
end
section
open Go.RowKit
theorem ownsRow_stays {S:Nat→Prop} {w w':World} {B:Nat} {e:TypeId} {N:Nat} {v:Value} {n:Nat} {xs:List Value} (h:w.ownsRow B e N v n xs) (hs:Stays S w w') (hn:∀k,v.ownBlock=some k→¬S k):w'.ownsRow B e N v n xs:=by
 refine⟨h.1,?_⟩
 rcases h.2 with h0|⟨g,cap,cur,rfl,hg,hh,hr⟩
 ·exact .inl h0
 ·exact .inr ⟨g,cap,cur,rfl,hg,Blk.stays (t:=e) (cs:=cur) hh hs (hn g rfl),hr⟩
theorem Qmz {w:World} {B B':Nat} {e:TypeId} {N:Nat} {v:Value} {n:Nat} {xs:List Value} (h:w.ownsRow B e N v n xs) (hB:B'≤B):w.ownsRow B' e N v n xs:=by
 refine⟨h.1,?_⟩
 rcases h.2 with h0|⟨g,cap,cur,rfl,hg,hr⟩
 ·exact .inl h0
 ·exact .inr ⟨g,cap,cur,rfl,Nat.le_trans hB hg,hr⟩
theorem QLz {w:World} {B:Nat} {e:TypeId} {N:Nat} {v:Value} {n:Nat} {xs:List Value} (h:w.ownsRow B e N v n xs):∃p c,v= .slice p n c∧n≤c∧c≤9223372036854775807∧(p=none→c=0)∧
 (n=0∨∃g,p=some ⟨g,0,none⟩∧B≤g∧g<w.heap.size∧∀j u,xs[j]? =some u→w.cell? ⟨g,j,none⟩=some u):=by
 have hc:=fun(g:Nat) hg=>World.ownsRow.cells h (g:=g) hg
 rcases h.2 with⟨rfl,rfl⟩|⟨g,cap,cur,rfl,hg,hh,h1,h2,h3⟩
 ·exact⟨none,0,rfl,Nat.le_refl _,by omega,fun _=>rfl,.inl rfl⟩
 ·refine⟨_,cap,rfl,h1,h2,(fun h=>by cases h),.inr ⟨g,rfl,hg,Blk.lt (t:=e) (cs:=cur) hh,fun j u hu=>?_⟩⟩
  have:=hc g rfl j u hu
  rwa [Addr.add_lit,Nat.zero_add]at this
theorem XYz {P:Program} {ops:Array Oper} {rest:List Oper} {o:Oper} {a:Act} {Q:Exit→Act→World→Prop} {w:World} (hgd:o.guard=none) (s x:Operand) (t e:TypeId)
 (ho:o.op= .call { callee:=.builtin .append,args:=#[s,x],argTypes:=#[t,t] }) (z:Value) (N bytes:Nat) (ht:P.underlying t=some (.slice e)) (hinfo:(P.info? e).map (fun i=>(i.zero,i.size,i.bytes))=some (some z,N,bytes))
 (hzs:z.cells.size=N) (hN:0<N) (hby:bytes≤1000) (B:Nat) (v:Value) (n:Nat) (xs:List Value) (hs:a.eval s=v) (hown:w.ownsRow B e N v n xs)
 (g m c:Nat) (cs:List Value) (hx:a.eval x= .slice (some ⟨g,0,none⟩) m c) (hg:Blk w g e cs.toArray) (hm:cs.length=m*N) (h1:∀u∈cs,u.oneCell'=true)
 (hn:n+m≤100000000000) (hB:B≤w.heap.size)
 (h:∀v' w',w'.ownsRow B e N v' (n+m) (xs++cs)→w.grownBy w' v.ownBlock→(v'.ownBlock=v.ownBlock∨v'.ownBlock=some w.heap.size)→wpList P ops Q rest (a.put o.dst v') w'):wpList P ops Q (o ::rest) a w:=by
 obtain⟨i0,hi,hz0,hz1,hz2⟩:=info_parts hinfo
 refine wpList_append_own_at (P:=P) (w:=w) hgd s x t ho B e i0 z N bytes ht hi hz0 hz1 hz2 hzs hN v n xs hs hown ⟨g,0,none⟩ m c cs hx hm (fun j u hu=>?_) h1 (by simp only[maxLen];omega) ?_ hB (fun v' w' h2 h3 _ h4=>h v' w' h2 h3 h4)
 ·rw[Addr.add_lit,Nat.zero_add,hg.cell,List.getElem?_toArray];exact hu
 ·have:=Nat.mul_le_mul hn hby
  omega
end
section
open Go.RowKit
theorem Qoz {fn:Func} {p u:Tmp} {ty:TypeId} (h:fn.results=#[.cell p ty,.tmp u]) (tmps:Array Value) (P:Program) (w:World) (g:Nat) (t:TypeId) (cs:List Value) (d:TypeDesc)
 (hp:tmps.getD p undef= .pointer (some ⟨g,0,none⟩)) (hg:Blk w g t cs.toArray) (hu:P.underlying ty=some d) (hd:d.isRow=true) (hi:(P.info? ty).map (·.size)=some cs.length):
 (results fn tmps).run P w= .ok (.tuple #[.agg cs.toArray,tmps.getD u undef]) w:=by
 have hp':tmps[p]?.getD undef= .pointer (some ⟨g,0,none⟩):=by simpa using hp
 have hr:w.rangeAt g 0 cs:=fun j v hj=>by rw[Nat.zero_add,hg.cell,List.getElem?_toArray];exact hj
 simp[results,h,hp',asAddr,run_loadVar_mid w g 0 ty cs d hr hu hd hi]
end
section
open Go Go.RowKit
theorem row_cells {w:World} {p:Addr} {bs:List (BitVec 8)} (hr:Row8 w (some p) bs):∀j u,(bs.map u8)[j]? =some u→w.cell? (p.add j)=some u:=fun j u hu=>by
 rw[List.getElem?_map]at hu
 cases hx:bs[j]? with
 |none=>rw[hx]at hu;cases hu
 |some x=>
  rw[hx]at hu
  injection hu with hu
  obtain⟨b,so,e,_,hc⟩:=hr (fun e=>by rw[e]at hx;cases hx)
  injection e with e
  subst e
  rw[Addr.add_lit,hc j x hx,← hu]
theorem run_grow8 (w:World) (ty:TypeId) (g n0 cap:Nat) (as1:List (BitVec 8)) (ha:as1.length=n0) (hra:Row8 w (some ⟨g,0,none⟩) as1) (q:Addr) (c:Nat) (bs:List (BitVec 8)) (hr:Row8 w (some q) bs) (hcap:cap<n0+bs.length) (hlen:n0+bs.length≤200000000000000):
 ∃v' w',(Builtin.append_ #[26,26] ty #[.slice (some ⟨g,0,none⟩) n0 cap,.slice (some q) bs.length c]).run Tryz.prog w= .ok v' w'∧Own8 w' w.heap.size v' (as1++bs)∧Below w.heap.size w w':=by
 obtain⟨i0,hi,hz0,hz1,hz2⟩:=info_parts u8info
 have hrun:=run_append_grow (P:=Tryz.prog) w 26 ty 5 i0 (.int .u8 0) Tryz.underlying26 hi hz0 ⟨g,0,none⟩ n0 cap (as1.map u8) (by rw[hz1];simp[ha]) (row_cells hra) q bs.length c (bs.map u8) (by rw[hz1];simp) (row_cells hr) hcap (by omega) (growslice_fits_wide hcap (by rw[hz2];omega))
 have hge:=grownCap_ge w (n0+bs.length) cap 5
 have hcm:grownCap w (n0+bs.length) cap 5≤maxLen:=grownCap_le_maxLen w _ cap _ (by simp only[maxLen];omega)
 refine⟨_,_,hrun,⟨by simp,.inr ⟨w.heap.size,grownCap w (n0+bs.length) cap 5,_,by simp[ha],Nat.le_refl _,heap_alloc_new w.drew _,by simp[ha];omega,hcm,?_,?_⟩⟩,(Q7z (Below.refl _ _) 1).alloc (Nat.le_refl _) _⟩
 ·have hz:(Value.int IntKind.u8 0).cells.size=1:=rfl
  simp only[Array.size_append,List.size_toArray,size_zeroCells,hz,List.length_map]
  omega
 ·rw[List.length_append,Nat.mul_one,Array.toList_append,Array.toList_append,List.take_append_of_le_length (by simp),List.take_of_length_le (by simp),List.map_append]
theorem wp_runapp {ops:Array Oper} {rest:List Oper} {o:Oper} {a:Act} {Q:Exit→Act→World→Prop} {w:World} (hgd:o.guard=none) (s x:Operand)
 (ho:o.op= .call { callee:=.builtin .append,args:=#[s,x],argTypes:=#[26,26] }) (v y v':Value) (w':World) (hs:a.eval s=v) (hx:a.eval x=y)
 (hrun:(Builtin.append_ #[26,26] o.type #[v,y]).run Tryz.prog w= .ok v' w') (h:wpList Tryz.prog ops Q rest (a.put o.dst v') w'):wpList Tryz.prog ops Q (o ::rest) a w:=by
 refine wpList_plain hgd fun K hK=>?_
 unfold Oper.wp execOp
 simp only[ho,resolve,invoke,builtin,Sem.run_bind,Sem.run_pure,Result.andThen_ok,List.map_toArray,List.map_cons,List.map_nil,hs,hx,hrun]
 exact hK _ _ h
theorem X8z (p:Option Addr) (n c:Nat) (bs:List (BitVec 8)) (w:World) (hr:Row8 w p bs) (hn:bs.length=n) (hbig:n≤200000000000000) (hp:p=none→n=0):
 Calls Tryz.prog 76 #[.slice p n c] w (GivesOwn w bs):=by
 cases p with
 |none=>exact clone_any none n c bs w hr hn (by have:=hp rfl;omega) hp
 |some a=>
  by_cases h0:n≤140737488355328
  ·exact clone_any (some a) n c bs w hr hn h0 hp
  ·have hb1:=Q1z w (.cells #[] 5)
   obtain⟨v',w',hrun,hown,hb⟩:=run_grow8 (w.alloc (.cells #[] 5)) 26 w.heap.size 0 0 [] rfl (Row8.nil _ _) a c bs (hr.fut hb1) (by omega) (by omega)
   rw[hn]at hrun
   have HO:=Lib.hid (hown.mono (B':=w.heap.size) (by rw[World.size_alloc];omega))
   have HB:=Lib.hid (Q3z hb1 hb (Nat.le_refl _))
   have he:(binOp .eql 26 (.slice (some a) n c) (.slice none 0 0)).run Tryz.prog w= .ok (.bool false) w:=by kernel_rfl
   clear hr hn h0 hown hb hb1 hbig hp
   go_enter Tryz.func76,Tryz.ntmps76
   have HRUN:=Lib.hid hrun
   clear hrun
   go_wp2_with(with_reducible refine wp_runapp (o:=⟨some 7,_,_,_,_,_⟩) ?_ (.tmp 5) (.tmp 6) ?_ (.slice (some ⟨w.heap.size,0,none⟩) 0 0) (.slice (some a) n c) v' w' ?_ ?_ HRUN.out ?_
               ·rfl
               ·rfl
               ·rfl
               ·rfl)
   go_ret
   exact⟨_,rfl,HO.out,HB.out⟩
end
section
open Go.RowKit
theorem Own8.sl {w:World} {B:Nat} {v:Value} {bs:List (BitVec 8)} (h:Own8 w B v bs):Sl w v bs:=by
 obtain⟨p,c,rfl,h1,h2,h3⟩:=h.row
 refine⟨p,_,c,rfl,rfl,h1,h2,h3,fun hp=>?_⟩
 subst hp
 rcases h.2 with⟨e,_⟩|⟨g,cap,cur,e,_⟩
 ·injection e
 ·injection e with e;cases e
theorem Sl.fut {w w':World} {v:Value} {bs:List (BitVec 8)} (h:Sl w v bs) (hb:Below w.heap.size w w'):Sl w' v bs:=h.below hb (Nat.le_refl _)
end
section
open Go.RowKit
theorem wp_copy8g {P:Program} {w:World} {ops:Array Oper} {rest:List Oper} {o:Oper} {a:Act} {Q:Exit→Act→World→Prop} (hgd:o.guard=none) (d s:Operand) (dT sT:TypeId)
 (ho:o.op= .call { callee:=.builtin .copy,args:=#[d,s],argTypes:=#[dT,sT] }) (elem:TypeId) (hu:P.underlying dT=some (.slice elem)) (hsz:(P.info? elem).map (·.size)=some 1)
 (dLen dCap m sCap:Nat) (sp:Option Addr) (bs:List (BitVec 8)) (g off:Nat) (hd:a.eval d= .slice (some ⟨g,off,none⟩) dLen dCap) (hs:a.eval s= .slice sp m sCap) (hm:bs.length=m)
 (hr:Row8 w sp bs) (cur:List Value) (t:TypeId) (hg:Blk w g t cur.toArray) (n:Nat) (hn:n=min m dLen) (hfit:off+n≤cur.length)
 (h:∀w',Hid (Blk w' g t (splice cur off ((bs.take dLen).map u8)).toArray)→w.grownBy w' (some g)→w'.heap.size=w.heap.size→wpList P ops Q rest (a.put o.dst (goInt (n:Int))) w'):
 wpList P ops Q (o ::rest) a w:=by
 subst hm
 have hl:((bs.take dLen).map u8).length=n:=by simp[hn,Nat.min_comm]
 by_cases h0:((bs.take dLen).map u8).length=0
 ·have he:(bs.take dLen).map u8=[]:=List.eq_nil_of_length_eq_zero h0
  refine wpList_copy_nothing hgd d s dT sT ho elem hu hsz _ sp dLen dCap bs.length sCap hd hs (by rw[←h0,hl,hn]) ?_
  have:=h w (by rw[he];show _=_;simpa[splice,Blk]using hg) (World.grownBy.refl w _) rfl
  rw[←hl,h0]at this
  exact this
 ·have hne:bs≠[]:=fun e=>h0 (by rw[e];simp)
  obtain⟨b,of,rfl,hlt,hc⟩:=hr hne
  refine wpList_copy_own hgd d s dT sT ho elem hu hsz g off dLen dCap ⟨b,of,none⟩ bs.length sCap hd hs cur.toArray t hg ((bs.take dLen).map u8) (by rw[hl,hn]) ?_ (by rw[hl];simpa using hfit) (Xzz _) ?_
  ·intro j v hj
   rw[List.getElem?_map,List.getElem?_take]at hj
   split at hj
   ·cases hx:bs[j]? with
    |none=>rw[hx]at hj;simp at hj
    |some x=>
     rw[hx]at hj
     simp at hj
     subst hj
     rw[Addr.add_lit]
     exact hc j x hx
   ·simp at hj
  ·have hG:=setRow_heap w g cur.toArray (splice cur off ((bs.take dLen).map u8)).toArray t _ hg
   have:=h _ hG ⟨rfl,rfl,rfl,by simp,fun k _ hk=>by
    simp[World.setRow,Array.getElem?_modify];intro e;exact absurd (by rw[e]) hk⟩ (size_setRow _ _ _)
   rw[←hl]at this
   exact this
end
section
open Go.ChangeShapes Go.WideShapes Go.ChangeAt Go.RowKit
def RowsN (n:Nat) (w:World) (p:Option Addr) (ls:List (List Value)):Prop:=
 ls≠[]→∃b off,p=some ⟨b,off,none⟩∧b<w.heap.size∧∀i cs,ls[i]? =some cs→cs.length=n∧w.rangeAt b (off+i*n) cs
theorem rangeAt_below {w w':World} {b o B:Nat} {cs:List Value} (h:w.rangeAt b o cs) (hb:Below B w w') (hB:b<B):w'.rangeAt b o cs:=fun j v hj=>by
 rw[hb.cell (p:=⟨b,o+j,none⟩) hB];exact h j v hj
theorem RowsN.below {n:Nat} {w w':World} {p:Option Addr} {ls:List (List Value)} {B:Nat} (h:RowsN n w p ls) (hb:Below B w w') (hB:w.heap.size≤B):RowsN n w' p ls:=fun hn=>by
 obtain⟨b,off,rfl,hlt,hc⟩:=h hn
 exact⟨b,off,rfl,Nat.lt_of_lt_of_le hlt hb.size,fun i cs hi=>⟨(hc i cs hi).1,rangeAt_below (hc i cs hi).2 hb (by omega)⟩⟩
theorem open_rows {H:Type} {enc:TypeId × Value→H} {W:World} {t e:TypeId} {n:Nat} {α:Type} (cells:α→List Value) (ok:α→Prop) (hlen:∀x,ok x→(cells x).length=n) (hn0:0<n)
 (ht:Tryz.prog.underlying t=some (.slice e)) (hc:Tryz.prog.cellsOf e=n)
 (hel:∀(fuel:Nat) (cs:List Value) (x:DataW H × List MemPlace),DataW.trod enc Tryz.prog W 0 (fun _=>true) true fuel e cs=some x→∃y,ok y∧cs=cells y)
 {a0:Option Addr} {len cap:Nat} {d0:DataW H} {p:List MemPlace} (h0:DataW.Trod enc Tryz.prog W 0 (fun _=>true) true t (.slice a0 len cap) d0 p):
 ∃ys:List α,ys.length=len∧(∀y∈ys,ok y)∧len≤cap∧cap≤maxLen∧RowsN n W a0 (ys.map cells)∧(a0=none→cap=0)∧(cap=0∨∃els sp,d0= .slice els sp∧els.length+sp.length=cap):=by
 obtain⟨fuel,hf⟩:=h0
 rcases Go.Deep.open_slice ht hf with⟨hcs,hx⟩|⟨a,l,c,m,k,D,Pl,hcs,hb,hl,hm,hmm,hx,hi⟩
 ·simp[Value.cells]at hcs
  obtain⟨rfl,rfl,rfl⟩:=hcs
  exact⟨[],rfl,(fun y hy=>by cases hy),Nat.le_refl _,by unfold maxLen;omega,fun h=>absurd rfl h,fun _=>rfl,.inl rfl⟩
 ·simp[Value.cells]at hcs
  obtain⟨rfl,rfl,rfl⟩:=hcs
  simp only[if_true]at hmm
  subst hmm
  simp only[Prod.mk.injEq]at hx
  obtain⟨rfl,_⟩:=hx
  rw[hc]at hi
  have key:∀k,k<len→∃y:α,ok y∧∀j,j<n→W.cell? ((a.add (k*n)).add j)=(cells y)[j]? :=by
   intro k hk
   obtain⟨cs,hcs,ht⟩:=hi k (by omega)
   obtain⟨_,hcl,hat⟩:=World.cells?_some hcs
   obtain⟨y,hy,rfl⟩:=hel _ _ _ ht
   exact⟨y,hy,hat⟩
  have hsome:∀f:Nat→α,(∀k,k<len→ok (f k)∧∀j,j<n→W.cell? ((a.add (k*n)).add j)=(cells (f k))[j]?)→RowsN n W (some a) (((List.range len).map f).map cells):=by
   intro f hf hne
   have hpos:0<len:=by
    rcases Nat.eq_zero_or_pos len with h|h
    ·subst h;simp at hne
    ·exact h
   obtain⟨b,off,spot⟩:=a
   have h00:=(hf 0 hpos).2 0 hn0
   rw[List.getElem?_eq_getElem (by rw[hlen _ (hf 0 hpos).1];exact hn0)]at h00
   have hspot:spot=none:=by
    have:=World.cell?_spot h00
    simpa[Addr.add]using this
   subst hspot
   refine⟨b,off,rfl,by simpa[Addr.add]using block_lt_of_cell h00,fun i cs hic=>?_⟩
   have hil:i<len:=by
    rcases Nat.lt_or_ge i len with h|h
    ·exact h
    ·rw[List.getElem?_eq_none (by simpa using h)]at hic;cases hic
   rw[List.getElem?_map,List.getElem?_map,List.getElem?_range hil]at hic
   simp only[Option.map_some,Option.some.injEq]at hic
   subst hic
   refine⟨hlen _ (hf i hil).1,fun j v hj=>?_⟩
   have hjn:j<n:=by
    rcases Nat.lt_or_ge j n with h|h
    ·exact h
    ·rw[List.getElem?_eq_none (by rw[hlen _ (hf i hil).1];exact h)]at hj;cases hj
   have:=(hf i hil).2 j hjn
   rw[Addr.add_lit,Addr.add_lit]at this
   exact this.trans hj
  rcases Nat.eq_zero_or_pos len with h0|hpos
  ·subst h0
   exact⟨[],rfl,(fun y hy=>by cases hy),hl,hm,fun h=>absurd rfl h,(fun h=>by cases h),.inr ⟨_,_,rfl,by simp<;>omega⟩⟩
  ·refine⟨(List.range len).map fun k=>if h:k<len then(key k h).choose else(key 0 hpos).choose,by simp,fun y hy=>?_,hl,hm,hsome _ (fun k hk=>?_),(fun h=>by cases h),.inr ⟨_,_,rfl,by simp<;>omega⟩⟩
   ·obtain⟨k,hk,rfl⟩:=List.mem_map.1 hy
    have hk':=List.mem_range.1 hk
    simp only[dif_pos hk']
    exact(key k hk').choose_spec.1
   ·simp only[dif_pos hk]
    exact(key k hk).choose_spec
section
variable {H:Type} {enc:TypeId × Value→H} {P:Program} {w:World} {base:Nat} {spare:Nat→Bool} {held:Bool}
theorem Qgz {t:TypeId} {fs:Array Field} {fuel:Nat} {cs:List Value} {x:DataW H × List MemPlace} (ht:P.underlying t=some (.struct fs)) (h:DataW.trod enc P w base spare held fuel t cs=some x) (i:Nat) (f:Field) (hf:fs[i]? =some f) (s:Nat) (hs:P.cellsOf f.type=s):
 ∃n y,DataW.trod enc P w base spare held n f.type ((cs.drop f.offset).take s)=some y:=by
 obtain⟨xs,n,_,_,_,hxl,hi⟩:=DataW.trod_struct ht h
 have h1:=hi i f hf
 rw[hs]at h1
 have hlt:i<xs.length:=by rw[hxl];exact(Array.getElem?_eq_some_iff.1 hf).1
 exact⟨n,_,h1.trans (List.getElem?_eq_getElem hlt)⟩
end
theorem XQz:Tryz.prog.cellsOf 32=32:=by kernel_rfl
theorem XSz:Tryz.prog.cellsOf 5=1:=by kernel_rfl
end
section
open Go.RowKit
theorem Qqz {fn:Func} {p:Tmp} {ty:TypeId} (h:fn.results=#[.cell p ty]) (tmps:Array Value) (P:Program) (w:World) (g:Nat) (t:TypeId) (cs:List Value) (d:TypeDesc)
 (hp:tmps.getD p undef= .pointer (some ⟨g,0,none⟩)) (hg:Blk w g t cs.toArray) (hu:P.underlying ty=some d) (hd:d.isRow=true) (hi:(P.info? ty).map (·.size)=some cs.length):
 (results fn tmps).run P w= .ok (.agg cs.toArray) w:=by
 have hp':tmps[p]?.getD undef= .pointer (some ⟨g,0,none⟩):=by simpa using hp
 have hr:w.rangeAt g 0 cs:=fun j v hj=>by rw[Nat.zero_add,hg.cell,List.getElem?_toArray];exact hj
 simp[results,h,hp',asAddr,run_loadVar_mid w g 0 ty cs d hr hu hd hi]
end
section
open Go Go.RowKit
theorem region_planP {P:Program} {ops:Array Oper} {Q:Exit→Act→World→Prop} {id:Nat} {a:Act} {w:World} (plan:List (Bool × Nat × Option Nat)) (F:World→Prop) (hm:P.follows .mixedOrders=true)
 (hB:(Region.noSelect ops&&(planLen plan==ops.size&&planB .any ops plan (Array.replicate ops.size false)))=true) (hQ:∀c a d v w,Q (.panic c) (a.put d v) w→Q (.panic c) a w) (hF:F w.drew)
 (h:Z4z P ops Q F plan a w.drew):(Code.region id ops true).wp P Q a w:=by
 simp only[Bool.and_eq_true,beq_iff_eq]at hB
 obtain⟨hsel,hlen,hB⟩:=hB
 refine wp_region_any hm ?_
 have:=wpAny_of_D _ _ _ _ 0 (plan_D hsel hQ plan _ a w.drew hB hF h)
 rw[hlen]at this
 exact this
theorem region_treeP {P:Program} {ops:Array Oper} {Q:Exit→Act→World→Prop} {id:Nat} {a:Act} {w:World} (t:PTree) (F:World→Prop) (hm:P.follows .mixedOrders=true)
 (hB:(Region.noSelect ops&&(XCz t==ops.size&&treeB .any ops t (Array.replicate ops.size false)))=true) (hQ:∀c a d v w,Q (.panic c) (a.put d v) w→Q (.panic c) a w) (hF:F w.drew)
 (h:XJz P ops Q t F a w.drew):(Code.region id ops true).wp P Q a w:=by
 simp only[Bool.and_eq_true,beq_iff_eq]at hB
 obtain⟨hsel,hlen,hB⟩:=hB
 refine wp_region_any hm ?_
 have:=wpAny_of_E _ _ _ _ _ 0 (tree_D hsel hQ t F _ a w.drew hB hF h)
 rw[hlen]at this
 exact this
end
section
open Go.RowKit
def Q5z (l:List (BitVec 8)):List Value:=l.map u8
theorem Qzz (l:List (BitVec 8)):(Q5z l).toArray.all (·.oneCell')=true:=by
 rw[List.all_toArray,Q5z];simp[Value.oneCell']
theorem QOz {w:World} {g:Nat} {t:TypeId} {l:List (BitVec 8)} (h:Blk w g t (Q5z l).toArray):Row8 w (some ⟨g,0,none⟩) l:=fun _=>
 ⟨g,0,rfl,h.lt,fun i x hx=>by rw[Nat.zero_add,h.cell,List.getElem?_toArray,Q5z,List.getElem?_map,hx];rfl⟩
end
section
open Go Go.RowKit
theorem Qjz {P:Program} {ops:Array Oper} {rest:List Oper} {o:Oper} {a:Act} {w:World} {Q:Exit→Act→World→Prop} (hgd:o.guard=none) (t:TypeId) (parts:Array (Nat × Operand)) (ho:o.op= .build t parts) (vals:List (Nat × Value)) (hv:parts.toList.map (fun x=>(x.1,a.eval x.2))=vals) (cells:Array Value)
 (hf:P.built t vals=some cells) (h:wpList P ops Q rest (a.put o.dst (.agg cells)) w):wpList P ops Q (o ::rest) a w:=by
 subst hv
 replace hf:P.built t (parts.map fun(i,x)=>(i,a.eval x)).toList=some cells:=by rw[Array.toList_map];exact hf
 refine wpList_plain hgd fun K hK=>?_
 unfold Oper.wp execOp
 simp only[ho,Sem.run_bind,run_build w t _ cells hf,Result.andThen_ok]
 exact hK _ _ h
end
section
open Go Go.RowKit
theorem wp_lit {P:Program} {ops:Array Oper} {rest:List Oper} {o:Oper} {a:Act} {w:World} {Q:Exit→Act→World→Prop} (hgd:o.guard=none) (t e:TypeId) (len:Nat) (parts:Array (Nat × Operand)) (ho:o.op= .buildSlice t len parts)
 (vs:List Value) (hv:parts.toList.map (fun x=>(x.1,a.eval x.2))=(vs.zipIdx 0).map fun x=>(x.2,x.1)) (N bytes:Nat) (z:Value) (ht:P.underlying t=some (.slice e)) (hinfo:(P.info? e).map (fun i=>(i.zero,i.size,i.bytes))=some (some z,N,bytes))
 (hN:0<N) (hs:∀v∈vs,v.cells.size=N) (hlen:vs.length=len) (hpos:0<len) (hsmall:len*N≤16777216)
 (h:wpList P ops Q rest (a.put o.dst (.slice (some ⟨w.heap.size,0,none⟩) len len)) (w.alloc (.cells (vs.flatMap fun v=>v.cells.toList).toArray e))):wpList P ops Q (o ::rest) a w:=by
 cases hi:P.info? e with
 |none=>rw[hi]at hinfo;cases hinfo
 |some i0=>
  rw[hi]at hinfo
  simp only[Option.map_some,Option.some.injEq,Prod.mk.injEq]at hinfo
  obtain⟨hz,hsz,_⟩:=hinfo
  refine wpList_buildSlice hgd t e len parts ho _ i0 z ht hi hz (by rw[hsz];omega) (by rw[hsz];have:=Nat.mul_pos hpos hN;omega) ?_ h
  rw[Array.toList_map,hsz]
  have:List.map (fun x:Nat × Operand=>(x.1,a.eval x.2)) parts.toList=(vs.zipIdx 0).map fun x=>(x.2,x.1):=hv
  refine(congrArg _ this).trans ?_
  exact Great.fill_whole hN vs _ hs (by rw[hlen];simp)
theorem Xsz {l:List (BitVec 8)} (h:l.length=32):(Q5z l).toArray.size=32:=by rw[List.size_toArray,Q5z,List.length_map,h]
end
section
open Go.RowKit
theorem Qlz {P:Program} {ops:Array Oper} {rest:List Oper} {op:Oper} {a:Act} {w:World} {Q:Exit→Act→World→Prop} (hw:Region.wanted op (yielded ops a.tmps)=true) (ty:TypeId) (x:Operand) (ho:op.op= .load ty x)
 (b o:Nat) (hx:a.eval x= .pointer (some ⟨b,o,none⟩)) (cs:List Value) (d:TypeDesc) (hc:w.rangeAt b o cs) (hu:P.underlying ty=some d) (hd:d.isRow=true) (hi:(P.info? ty).map (·.size)=some cs.length)
 (h:wpList P ops Q rest (a.put op.dst (.agg cs.toArray)) w):wpList P ops Q (op ::rest) a w:=by
 unfold wpList
 rw[if_pos hw]
 exact .inl (wp_load_mid ty x ho b o hx cs d hc hu hd hi h)
end
section
open Go.RowKit
theorem Blk.kept {w w':World} {g H:Nat} {t:TypeId} {cs:Array Value} (h:Blk w g t cs) (hg:w.grownBy w' (some H)) (hne:g≠H):Blk w' g t cs:=
 (hg.block g h.lt (by intro e;injection e with e;exact hne e)).trans h
theorem XIz {w w':World} {H:Nat} (h:w.grownBy w' (some H)) (i:Nat) (v:Value):w.grownBy (w'.setCell ⟨H,i,none⟩ v) (some H):=
 ⟨h.os,h.tape,h.output,by have:=h.size;simpa[World.setCell]using this,fun k hk hne=>by
  rw[Below.heap_setCell w' ⟨H,i,none⟩ v k (by intro e;exact hne (by rw[e]))]
  exact h.block k hk hne⟩
theorem grown_drewN {w w':World} {r:Option Nat} (h:w.grownBy w' r) (n:Nat):w.grownBy (w'.drewN n) r:=⟨h.os,h.tape,h.output,h.size,h.block⟩
theorem grown_below {w w':World} {B:Nat} {r:Option Nat} (h:Below B w w') (hB:w.heap.size≤B):w.grownBy w' r:=⟨h.os,h.tape,h.output,h.size,fun k hk _=>h.block k (by omega)⟩
theorem grown_trans {w w1 w2:World} {r:Option Nat} (h:w.grownBy w1 r) (h2:w1.grownBy w2 r):w.grownBy w2 r:=
 ⟨h2.os.trans h.os,h2.tape.trans h.tape,h2.output.trans h.output,Nat.le_trans h.size h2.size,fun k hk hn=>(h2.block k (Nat.lt_of_lt_of_le hk h.size) hn).trans (h.block k hk hn)⟩
def Far (p:Option Addr) (H:Nat):Prop:=∀a,p=some a→a.block≠H
theorem Row8.kept {w w':World} {p:Option Addr} {bs:List (BitVec 8)} {H:Nat} (h:Row8 w p bs) (hg:w.grownBy w' (some H)) (hne:bs≠[]→Far p H):Row8 w' p bs:=fun hn=>by
 obtain⟨b,off,rfl,hlt,hc⟩:=h hn
 exact⟨b,off,rfl,Nat.lt_of_lt_of_le hlt hg.size,fun i x hx=>(World.cell?_of_block (a:=⟨b,off+i,none⟩) (hg.block b hlt (by intro e;injection e with e;exact hne hn _ rfl e))).trans (hc i x hx)⟩
theorem Row8.far {w:World} {p:Option Addr} {bs:List (BitVec 8)} {H:Nat} (h:Row8 w p bs) (hH:w.heap.size≤H):bs≠[]→Far p H:=fun hn a ha=>by
 obtain⟨b,off,rfl,hlt,hc⟩:=h hn
 injection ha with ha
 subst ha
 show b≠H
 omega
theorem Far.drop {p:Option Addr} {H k c:Nat} (h:Far p H):Far (if c=k then p else p.map (·.add k)) H:=by
 split
 ·exact h
 ·intro a ha
  cases p with
  |none=>cases ha
  |some b=>injection ha with ha;subst ha;have:=h b rfl;unfold Addr.add;split<;>simpa using this
def cutAt (p:Option Addr) (c k:Nat):Option Addr:=if c=k then p else p.map (·.add k)
theorem slice_from8 (w:World) (p:Option Addr) (m c k:Nat) (h:k≤m):
 (Instr.sliceAt 26 (.slice p m c) (some (.int .i64 (k:Int))) none none).run Tryz.prog w= .ok (.slice (cutAt p c k) (m-k) (c-k)) w:=by
 have hs:(sizeOf (Tryz.prog.elem 26)).run Tryz.prog w= .ok 1 w:=by kernel_rfl
 have hu:Tryz.prog.underlying 26=some (.slice (Tryz.prog.elem 26)):=by kernel_rfl
 rw[run_sliceAt_slice w _ _ _ _ _ hu,run_slice_l w _ _ _ _ hu _ _ (by omega) (by omega),hs]
 simp[Result.andThen,sliced,cutAt]
theorem Far.cut {p:Option Addr} {H k c:Nat} (h:Far p H):Far (cutAt p c k) H:=h.drop
theorem Row8.cut {w:World} {p:Option Addr} {bs:List (BitVec 8)} (h:Row8 w p bs) {k c:Nat} (hc:bs.length≤c):Row8 w (cutAt p c k) (bs.drop k):=h.drop hc
end
end Go.Proofs.YtjbijcjcejfpcaaGreatDoor
