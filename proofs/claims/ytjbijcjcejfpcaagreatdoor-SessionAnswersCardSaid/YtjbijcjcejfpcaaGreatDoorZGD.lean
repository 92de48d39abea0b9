/- The reader of transactions: take, num, must, text. · The reader of transactions: -/
import Derived.WalkSmall
import Derived.Defers
import Derived.Recover
import Derived.Test.YtjbijcjcejfpcaaGreatDoorZGT
namespace Go.Proofs.YtjbijcjcejfpcaaGreatDoor
set_option linter.unusedVariables false
set_option maxRecDepth 100000
set_option maxHeartbeats 16000000
section
open Go Go.RowKit
theorem addr_add0 (a:Addr):a.add 0=a:=by
 obtain⟨b,o,i⟩:=a
 unfold Addr.add
 split<;>simp_all
theorem slice_hm8 (w:World) (p:Option Addr) (m c k:Nat) (h:k≤m) (h2:m≤c):
 (Instr.sliceAt 26 (.slice p m c) none (some (.int .i64 (k:Int))) (some (.int .i64 (k:Int)))).run Tryz.prog w= .ok (.slice p k k) w:=by
 have hu:Tryz.prog.underlying 26=some (.slice (Tryz.prog.elem 26)):=by kernel_rfl
 have hs:(sizeOf (Tryz.prog.elem 26)).run Tryz.prog w= .ok 1 w:=by kernel_rfl
 rw[run_sliceAt_slice w _ _ _ _ _ hu,run_slice_hm w _ _ _ _ hu _ _ _ _ (by omega) (by omega) (by omega)]
 rw[hs]
 have e:p.map (fun x=>x.add 0)=p:=by
  cases p with
  |none=>rfl
  |some a=>rw[Option.map_some,addr_add0]
 simp[Result.andThen,sliced,e]
theorem Dat.open {B g:Nat} {w:World} {v:Value} {s:Bs} (h:Dat B g w v s):∃p n c,v= .slice p n c∧s.length=n∧n≤c∧c≤9223372036854775807∧Row8 w p s∧(p=none→c=0):=by
 obtain⟨⟨p,n,c,rfl,h1,h2,h3,h4,h5⟩,_⟩:=h
 exact⟨p,n,c,rfl,h1,h2,by unfold maxLen at h3;omega,h4,h5⟩
theorem Dat.take {B g:Nat} {w:World} {p:Option Addr} {n c k:Nat} {s:Bs} (h:Dat B g w (.slice p n c) s) (hk:k≤n) (hp:p=none→c=0):Dat B g w (.slice p k k) (s.take k):=by
 obtain⟨⟨p',n',c',e,h1,h2,h3,h4,h5⟩,h6⟩:=h
 injection e with e1 e2 e3
 subst e1 e2 e3
 exact⟨⟨p,k,k,rfl,by rw[List.length_take];omega,Nat.le_refl _,by omega,h4.take k,fun e=>by have:=h5 e;omega⟩,fun h0 j hj=>h6 (fun e=>h0 (by rw[e,List.take_nil])) j (by rw[Xmz]at hj ⊢;exact hj)⟩
theorem Dat.cut {B g:Nat} {w:World} {p:Option Addr} {n c k:Nat} {s:Bs} (h:Dat B g w (.slice p n c) s) (hk:k≤n):Dat B g w (.slice (cut8 p c k) (n-k) (c-k)) (s.drop k):=by
 obtain⟨⟨p',n',c',e,h1,h2,h3,h4,h5⟩,h6⟩:=h
 injection e with e1 e2 e3
 subst e1 e2 e3
 refine⟨⟨_,_,_,rfl,by rw[List.length_drop];omega,by omega,by omega,?_,fun e=>?_⟩,fun h0 j hj=>h6 (fun e=>h0 (by rw[e,List.drop_nil])) j ?_⟩
 ·exact h4.drop (by omega)
 ·unfold cut8 at e
  split at e
  ·omega
  ·cases p with
   |none=>have:=h5 rfl;omega
   |some a=>cases e
 ·rw[Xmz]at hj ⊢
  rw[own_cut8]at hj
  exact hj
theorem Dat.own {B g:Nat} {w:World} {v:Value} {s:Bs} (h:Own8 w B v s) (hg:g<B):Dat B g w v s:=by
 refine⟨h.sl,fun _ k hk=>?_⟩
 rcases h.2 with⟨rfl,_⟩|⟨q,cap,cur,rfl,hB,hh,_⟩
 ·cases hk
 ·injection hk with hk
  subst hk
  exact⟨by have:B≤q:=hB;simp only;omega,.inr ⟨cur,hh⟩⟩
theorem RdAt.move {B g:Nat} {w:World} {v v':Value} {s':Bs} (h:Blk w g 230 #[v]) (hd:Dat B g w v' s') (hl:s'.length≤200000000000000) (hg:g<B) (hB:B≤w.heap.size):RdAt B g (w.setCell ⟨g,0,none⟩ v') s':=by
 refine⟨v',?_,hd.stays (Stays.set w g 0 v') (fun k hk=>.inl hk),hl,hg,by simpa using hB⟩
 have:=h.set 0 v'
 simpa using this
theorem rdTake_any (B g k:Nat) (hk:k≤9223372036854775807) (w:World) (s:Bs) (h:RdAt B g w s):
 Calls Tryz.prog 158 #[.pointer (some ⟨g,0,none⟩),.int .i64 (k:Int)] w (RdP B g w (takeZ k) s fun w' a v=>Dat B g w' v a∧a.length=k):=by
 obtain⟨v,h1,h2,h3,h4,h5⟩:=h
 obtain⟨p,n,c,rfl,hn,hnc,hcm,hr,hp⟩:=h2.open
 have HD:=Lib.hid h2
 have H1:=Lib.hid h1
 have c0:=h1.cell 0
 have f0:=h1.frozen 0
 simp only[List.getElem?_toArray,List.getElem?_cons_zero]at c0
 by_cases hkn:n<k
 ·have hz:takeZ k s= .error 50:=takeZ_short (by omega)
  have HZ:=Lib.hid hz
  have hlt:(n:Int)<(k:Int):=by omega
  clear hz h2 hr hp h1
  go_enter Tryz.func158,Tryz.ntmps158
  go_wp2
  exact⟨rfl,RdP.bad HZ.out (Stays.refl _ _)⟩
 ·have hz:takeZ k s= .ok (s.take k,s.drop k):=by unfold takeZ;rw[if_neg (by omega)]
  have HZ:=Lib.hid hz
  have hlt:¬(n:Int)<(k:Int):=by omega
  have s1:=slice_hm8 w p n c k (by omega) hnc
  have s2:=slice_cut8 w p n c k (by omega)
  have HT:=Lib.hid (h2.take (k:=k) (by omega) hp)
  have HC:=Lib.hid (h2.cut (k:=k) (by omega))
  have HL:Hid (s.length=n):=Lib.hid hn
  clear hz h2 hr hp h1 hn
  go_enter Tryz.func158,Tryz.ntmps158
  go_wp2
  go_ret
  refine RdP.ok HZ.out ⟨HT.out.stays (Stays.set w g 0 _) (fun k hk=>.inl hk),by rw[List.length_take];have:=HL.out;omega⟩ (RdAt.move H1.out HC.out (by rw[List.length_drop];omega) h4 h5) (Stays.set w g 0 _)
theorem XDz (B g k:Nat) (hk:k≤8) (w:World) (s:Bs) (h:RdAt B g w s):
 Calls Tryz.prog 157 #[.pointer (some ⟨g,0,none⟩),.int .i64 (k:Int)] w (RdP B g w (numZ k) s fun w' a v=>v= .int .u64 (iv64 a)):=by
 have hcall:=rdTake_any B g k (by omega) w s h
 cases hz:takeZ k s with
 |error e=>
  have HZ:Hid (numZ k s= .error e):=Lib.hid (Pz.bind_err hz)
  unfold RdP at hcall
  rw[hz]at hcall
  clear hz
  go_enter Tryz.func157,Tryz.ntmps157
  go_wp2_with fail
  refine hcall.mono ?_
  rintro e w1 ⟨rfl,hs1⟩
  go_wp2_with fail
  exact⟨rfl,RdP.bad HZ.out hs1⟩
 |ok x=>
  obtain⟨a,r⟩:=x
  have HZ:Hid (numZ k s= .ok (numTo a k,r)):=Lib.hid (Pz.bind_ok hz)
  unfold RdP at hcall
  rw[hz]at hcall
  clear hz
  go_enter Tryz.func157,Tryz.ntmps157
  go_wp2_with fail
  refine hcall.mono ?_
  rintro e w1 ⟨v,rfl,⟨hd,hl⟩,hr1,hs1⟩
  obtain⟨p,n,c,rfl,hn,hnc,hcm,hr,hp⟩:=hd.open
  obtain rfl:n=k:=by omega
  have HR:=Lib.hid hr1
  have HS:=Lib.hid hs1
  have HN:=Lib.hid hn
  clear hd hr1 hs1 hn hl hcall h
  go_wp2_with fail
  go_loopw[5,12] (fun s i wr=>∃k:Nat,k≤n∧i= .int .i64 k∧s= .int .u64 (iv64 (numTo a k))∧wr=w1) (fun _ i _=>n-(intOf i).toNat)
  case atStart=>exact⟨0,by omega,rfl,rfl,rfl⟩
  case round=>
   obtain⟨k,hk2,rfl,rfl,hwr⟩:=hrel
   replace hwr:=hwr.symm
   subst hwr
   by_cases hkn:k<n
   ·obtain⟨bb,of,rfl,_,hcell⟩:=hr (fun e=>by have:=HN.out;rw[e]at this;simp at this;omega)
    obtain⟨b,hb⟩:∃b,a[k]? =some b:=⟨a[k]'(by rw[HN.out];exact hkn),List.getElem?_eq_getElem _⟩
    have hx:w1.cell? ⟨bb,of+k,none⟩=some (.int .u8 (iv8 b)):=hcell k b hb
    have hlt:(k:Int)<(n:Int):=by omega
    have hb2:8*(k:Int)≤56:=by omega
    have hb1:(0:Int)≤8*(k:Int):=by omega
    have hst:=num_step a k b hb
    clear hcell hr
    go_wp2
    go_roundw
    case rel=>exact⟨k+1,by omega,by go_num,rfl,trivial⟩
    case measure=>simp[intOf];omega
   ·obtain rfl:k=n:=by omega
    go_wp2
    go_ret
    exact RdP.ok HZ.out rfl HR.out HS.out
def MustP (k:Int) (w:World) (e:Ending) (w':World):Prop:=w'=w∧e=if k=0 then .returned (.tuple #[])else .panicked [{ v:=.iface 27 (.int .i64 k),recovered:=false }]
theorem XFz (k:Int) (w:World):Calls Tryz.prog 176 #[.int .i64 k] w (MustP k w):=by
 by_cases hk:k=0
 ·subst hk
  go_enter Tryz.func176,Tryz.ntmps176
  go_wp2
  first|go_end0|refine bodyPost_ret (results_none rfl _ _ _) rfl ?_
  exact⟨rfl,rfl⟩
 ·have hb:(k==0)=false:=by rw[beq_eq_false_iff_ne];exact hk
  have HK:=Lib.hid hk
  clear hk
  go_enter Tryz.func176,Tryz.ntmps176
  go_wp2
  exact⟨rfl,rfl,by rw[if_neg HK.out]⟩
theorem rdText_any (B g:Nat) (w:World) (s:Bs) (h:RdAt B g w s):
 Calls Tryz.prog 164 #[.pointer (some ⟨g,0,none⟩)] w (RdP B g w textZ s fun w' a v=>Own8 w' B v a):=by
 obtain⟨v,h1,h2,h3,h4,h5⟩:=h
 obtain⟨p,n,c,rfl,hn,hnc,hcm,hr,hp⟩:=h2.open
 have H1:=Lib.hid h1
 have c0:=h1.cell 0
 simp only[List.getElem?_toArray,List.getElem?_cons_zero]at c0
 have hcall:=readText_any p n c s 10000 w hr hn hnc hcm (by omega) (by omega) (by omega)
 have hz:=textZ_eq s
 have hle:(textP s 10000).2.1.length≤s.length:=by
  have:=Xgz s
  unfold textP
  split
  ·simp
  ·split
   ·simp
   ·split
    ·simp
    ·simp;omega
 obtain⟨x,hx⟩:∃x,x=textP s 10000:=⟨_,rfl⟩
 rw[←hx]at hcall hz hle
 obtain⟨a,r,k⟩:=x
 simp only at hz hle
 unfold ReadPost at hcall
 simp only at hcall
 have HZ:=Lib.hid hz
 have HLE:=Lib.hid hle
 clear hx hz hle h1 h2 hr hn hp
 by_cases hk:k=0
 ·subst hk
  go_enter Tryz.func164,Tryz.ntmps164
  go_wp2_with fail
  refine hcall.mono ?_
  rintro e w1 ⟨v1,v2,rfl,ho1,ho2,hb1⟩
  have HB:=Lib.hid hb1
  have hg1:=H1.out.fut hb1
  have f1:=hg1.frozen 0
  have d1:=hg1.cell 0
  simp only[List.getElem?_toArray,List.getElem?_cons_zero]at d1
  have hm:=XFz 0 w1
  unfold MustP at hm
  rw[if_pos rfl]at hm
  have HG1:=Lib.hid hg1
  have HO1:=Lib.hid (Qmz ho1 h5)
  obtain⟨q2,m2,c2,rfl,_⟩:=Own8.open ho2
  have HO2:Hid (Own8 w1 B (.slice q2 m2 c2) r):=Lib.hid (Qmz ho2 h5)
  clear hb1 hg1 ho1 ho2 hcall
  go_wp2_with fail
  refine hm.mono ?_
  rintro e w2 ⟨hw2,rfl⟩
  replace hw2:=hw2.symm
  subst hw2
  go_wp2_with fail
  go_ret
  have hd:Dat B g w1 (.slice q2 m2 c2) r:=Dat.own HO2.out h4
  have hsz:=HB.out.size
  refine RdP.ok (by rw[HZ.out,if_pos trivial]) (Own8.sep HO1.out (Stays.set w1 g 0 _) (Sep.low fun k hk=>by have:k=g:=hk;omega)) (RdAt.move HG1.out hd (by have:=HLE.out;omega) h4 (by omega)) ?_
  exact(Stays.of_below HB.out (Nat.le_refl _) _).trans (Stays.set w1 g 0 _) fun k _ hk=>hk
 ·have HK:=Lib.hid hk
  clear hk
  go_enter Tryz.func164,Tryz.ntmps164
  go_wp2_with fail
  refine hcall.mono ?_
  rintro e w1 ⟨v1,v2,rfl,ho1,ho2,hb1⟩
  have HB:=Lib.hid hb1
  have hm:=XFz k w1
  unfold MustP at hm
  rw[if_neg HK.out]at hm
  clear hb1 ho1 ho2 hcall
  go_wp2_with fail
  refine hm.mono ?_
  rintro e w2 ⟨hw2,rfl⟩
  replace hw2:=hw2.symm
  subst hw2
  go_wp2_with fail
  exact⟨rfl,RdP.bad (by rw[HZ.out,if_neg HK.out]) (Stays.of_below HB.out (Nat.le_refl _) _)⟩
end
section
open Go Go.RowKit
theorem own_rw {B g:Nat} {w:World} {T N:Nat} {v:Value} {n:Nat} {xs:List Value} (h:w.ownsRow B T N v n xs) (hT:T≠5):Rw B g w (fun k=>v.ownBlock=some k):=fun k hk=>by
 rcases h.2 with⟨rfl,_⟩|⟨q,cap,cur,rfl,hB,hh,_⟩
 ·cases hk
 ·injection hk with hk
  subst hk
  exact .inr ⟨hB,T,cur,hh,hT⟩
theorem own_ge {B:Nat} {w:World} {T N:Nat} {v:Value} {n:Nat} {xs:List Value} (h:w.ownsRow B T N v n xs):∀k,v.ownBlock=some k→B≤k∧k<w.heap.size:=fun k hk=>by
 rcases h.2 with⟨rfl,_⟩|⟨q,cap,cur,rfl,hB,hh,_⟩
 ·cases hk
 ·injection hk with hk
  subst hk
  exact⟨hB,Blk.lt (t:=T) (cs:=cur) hh⟩
theorem in_info:(Tryz.prog.info? 209).map (fun i=>(i.zero,i.size,i.bytes))=some (some (.agg (List.replicate 32 (Value.int .u8 0)++[Value.int .u32 0,Value.slice none 0 0,Value.int .u32 0,Value.slice none 0 0]).toArray),36,96):=by kernel_rfl
theorem out_info:(Tryz.prog.info? 204).map (fun i=>(i.zero,i.size,i.bytes))=some (some (.agg #[.int .i64 0,.slice none 0 0]),2,32):=by kernel_rfl
theorem txt_info:(Tryz.prog.info? 26).map (fun i=>(i.zero,i.size,i.bytes))=some (some (.slice none 0 0),1,24):=by kernel_rfl
theorem InO.len {B:Nat} {w:World} {x:TIn} {cs:List Value} (h:InO B w x cs):cs.length=36:=h.c.len
theorem OutO.len {B:Nat} {w:World} {x:TOut} {cs:List Value} (h:OutO B w x cs):cs.length=2:=h.c.len
theorem TextO.len {B:Nat} {w:World} {x:Bs} {cs:List Value} (h:TextO B w x cs):cs.length=1:=by obtain⟨v,rfl,_⟩:=h;rfl
theorem InO.one {B:Nat} {w:World} {x:TIn} {cs:List Value} (h:InO B w x cs):cs.toArray.all (·.oneCell')=true:=h.c.one
theorem OutO.one {B:Nat} {w:World} {x:TOut} {cs:List Value} (h:OutO B w x cs):cs.toArray.all (·.oneCell')=true:=h.c.one
theorem one_all {cs:List Value} (h:cs.toArray.all (·.oneCell')=true):∀u∈cs,u.oneCell'=true:=fun u hu=>by
 rw[List.all_toArray,List.all_eq_true]at h
 exact h u hu
theorem TextO.one {B:Nat} {w:World} {x:Bs} {cs:List Value} (h:TextO B w x cs):cs.toArray.all (·.oneCell')=true:=by
 obtain⟨v,rfl,h1⟩:=h
 rw[List.all_toArray]
 simp[h1.sl.one]
def CellV (v:Value) (cs:List Value):Prop:=v.cells=cs.toArray
theorem partsIns_any (p:Pz TIn) (gf:Nat) (eg:∀args w,(callFunc gf args).run Tryz.prog w= .ok (.enter gf args) w) (B g most:Nat) (hmost:most≤2000)
 (hp:∀(W:World) (s':Bs),RdAt B g W s'→Calls Tryz.prog gf #[.pointer (some ⟨g,0,none⟩)] W (RdP B g W p s' fun w' a v=>∃cs,CellV v cs∧InO B w' a cs)) (w:World) (s:Bs) (h:RdAt B g w s):
 Calls Tryz.prog 159 #[.pointer (some ⟨g,0,none⟩),.int .u64 (most:Int),.func (.func gf) #[] #[]] w (RdP B g w (X1z most p) s fun w' a v=>RowO (InO B) 209 36 B w' v a∧∀j,v.ownBlock=some j→w.heap.size≤j):=by
 have hp':=Lib.hid hp
 have HR0:=Lib.hid h
 obtain⟨v,h1,h2,h3,h4,h5⟩:=h
 obtain⟨q,n,c,rfl,hn,hnc,hcm,hr,hp0⟩:=h2.open
 have H1:=Lib.hid h1
 have c0:=h1.cell 0
 simp only[List.getElem?_toArray,List.getElem?_cons_zero]at c0
 have hcall:=decode_any q n c s w hr hn hnc hcm (by omega)
 have hle:=Xgz s
 have hz:∀x:BitVec 64 × Bs × Int,x=cutP s→cntZ most s=if x.2.2≠0 then .error x.2.2 else if most<x.1.toNat then .error 4 else .ok (x.1.toNat,x.2.1):=fun x hx=>by rw[hx];rfl
 obtain⟨x,hx⟩:∃x,x=cutP s:=⟨_,rfl⟩
 rw[←hx]at hcall hle
 replace hz:=hz x hx
 obtain⟨cn,r,k⟩:=x
 simp only at hz hle
 unfold DecPost at hcall
 simp only at hcall
 have HZ:=Lib.hid hz
 have HLE:=Lib.hid hle
 have hcn:iv64 cn=(cn.toNat:Int):=rfl
 rw[hcn]at hcall
 have hc64:=cn.isLt
 obtain⟨m,hm⟩:∃m,m=cn.toNat:=⟨_,rfl⟩
 rw[←hm]at hcall hc64 HZ
 clear hx hz hle h1 h2 hr hn hp0 hp hcn hm
 by_cases hk:k=0
 case neg=>
  have HK:=Lib.hid hk
  clear hk
  go_enter Tryz.func159,Tryz.ntmps159
  go_wp2_with fail
  refine hcall.mono ?_
  rintro e w1 ⟨v2,rfl,ho2,hb1⟩
  have HB:=Lib.hid hb1
  have hm:=XFz k w1
  unfold MustP at hm
  rw[if_neg HK.out]at hm
  clear hb1 ho2 hcall
  go_wp2_with fail
  refine hm.mono ?_
  rintro e w2 ⟨hw2,rfl⟩
  replace hw2:=hw2.symm
  subst hw2
  go_wp2_with fail
  exact⟨rfl,RdP.bad (Pz.bind_err (by rw[HZ.out,if_pos HK.out])) (Stays.of_below HB.out (Nat.le_refl _) _)⟩
 case pos=>
 subst hk
 by_cases hbig:most<m
 case pos=>
  have hlt:(most:Int)<(m:Int):=by omega
  go_enter Tryz.func159,Tryz.ntmps159
  go_wp2_with fail
  refine hcall.mono ?_
  rintro e w1 ⟨v2,rfl,ho2,hb1⟩
  have HB:=Lib.hid hb1
  have hm:=XFz 0 w1
  unfold MustP at hm
  rw[if_pos rfl]at hm
  clear hb1 ho2 hcall
  go_wp2_with fail
  refine hm.mono ?_
  rintro e w2 ⟨hw2,rfl⟩
  replace hw2:=hw2.symm
  subst hw2
  go_wp2_with fail
  exact⟨rfl,RdP.bad (Pz.bind_err (by rw[HZ.out,if_neg (by decide),if_pos hbig])) (Stays.of_below HB.out (Nat.le_refl _) _)⟩
 case neg=>
 have hlt:¬(most:Int)<(m:Int):=by omega
 have HC:Hid (X1z most p s=manyZ p m r):=Lib.hid (Pz.bind_ok (by rw[HZ.out,if_neg (by decide),if_neg hbig]))
 obtain⟨R,hR⟩:∃R,R=manyZ p m r:=⟨_,rfl⟩
 rw[←hR]at HC
 have HR:=Lib.hid hR
 have hm2:m≤2000:=by omega
 clear HZ hR hbig
 go_enter Tryz.func159,Tryz.ntmps159
 go_wp2_with fail
 refine hcall.mono ?_
 rintro e w1 ⟨v2,rfl,ho2,hb1⟩
 have HB:=Lib.hid hb1
 have hmu:=XFz 0 w1
 unfold MustP at hmu
 rw[if_pos rfl]at hmu
 have hg1:=H1.out.fut hb1
 have f1:=hg1.frozen 0
 have d1:=hg1.cell 0
 simp only[List.getElem?_toArray,List.getElem?_cons_zero]at d1
 have HG1:=Lib.hid hg1
 obtain⟨q2,m2,c2,rfl,_⟩:=Own8.open ho2
 have HO2:Hid (Own8 w1 B (.slice q2 m2 c2) r):=Lib.hid (Qmz ho2 h5)
 clear hb1 ho2 hcall hg1
 go_wp2_with fail
 refine hmu.mono ?_
 rintro e w2 ⟨hw2,rfl⟩
 replace hw2:=hw2.symm
 subst hw2
 have hsz:=HB.out.size
 go_upto_region 8 with fail
 have HR2:Hid (RdAt B g (w1.setCell ⟨g,0,none⟩ (.slice q2 m2 c2)) r):=Lib.hid (RdAt.move HG1.out (Dat.own HO2.out h4) (by have:=HLE.out;omega) h4 (by omega))
 have HS2:Hid (Stays (·=g) w (w1.setCell ⟨g,0,none⟩ (.slice q2 m2 c2))):=Lib.hid ((Stays.of_below HB.out (Nat.le_refl _) _).trans (Stays.set w1 g 0 _) fun k _ hk=>hk)
 generalize w1.setCell ⟨g,0,none⟩ (.slice q2 m2 c2)=w3 at*
 clear hmu f1 d1 HG1 HO2 HB hsz hlt
 have hdd:decide (most<m)=false:=decide_eq_false (by assumption)
 simp only[hdd]
 go_loopw[10,31] (fun u i wr=>∃(k:Nat) (xs:List TIn) (sr:Bs),k≤m∧i= .int .u64 k∧xs.length=k∧Hid (contM xs p (m-k) sr=R)∧Hid (RdAt B g wr sr)∧Hid (RowO (InO B) 209 36 B wr u xs)∧Hid (∀j,u.ownBlock=some j→w.heap.size≤j)∧Hid (Stays (·=g) w wr)) (fun _ i _=>m-(intOf i).toNat)
 case atStart=>exact⟨0,[],r,by omega,rfl,rfl,Lib.hid (by rw[HR.out,Nat.sub_zero,Zgz p m r]),HR2,Lib.hid (RowO.nil _ _ _ _ _),Lib.hid (fun j hj=>by cases hj),HS2⟩
 case round=>
  obtain⟨k,xs,sr,hkm,rfl,hxl,HM,HRk,HRow,HOk,HSk⟩:=hrel
  by_cases hkn:k<m
  ·have hlk:(k:Int)<(m:Int):=by omega
   have hcall:=hp'.out wr sr HRk.out
   cases hz:p sr with
   |error e0=>
    have HE:Hid (X1z most p s= .error e0):=Lib.hid (by
     rw[HC.out,← HM.out,show m-k=(m-k-1)+1 by omega]
     exact contM_bad hz)
    unfold RdP at hcall
    rw[hz]at hcall
    clear hz
    go_wp2_with(go_at_fn gf;refine hcall.mono ?_;rintro e w5 ⟨rfl,hs5⟩)
    exact⟨rfl,RdP.bad HE.out (HSk.out.trans hs5 fun k _ hk=>hk)⟩
   |ok y=>
    obtain⟨a,sr'⟩:=y
    have HM':Hid (contM (xs++[a]) p (m-(k+1)) sr'=R):=Lib.hid (by
     rw[←HM.out,show m-k=(m-(k+1))+1 by omega]
     exact(contM_ok hz).symm)
    unfold RdP at hcall
    rw[hz]at hcall
    have hgB:g<B:=HRk.out.elim fun v h=>h.2.2.2.1
    have hBw:B≤w.heap.size:=h5
    clear hz
    go_wp2_with fail
    go_at_fn gf
    refine hcall.mono ?_
    rintro e w5 ⟨v5,rfl,⟨cs,hcv,hE5⟩,hr5,hs5⟩
    have hrow:=HRow.out.sep (Qwz B) hs5 (Sep.low fun k hk=>by have:k=g:=hk;omega)
    obtain⟨css,hcl,hown,hcs⟩:=hrow
    replace hcv:v5.cells=cs.toArray:=hcv
    have hl5:=hE5.len
    have ho5:=hE5.one
    have hsz5:=HSk.out.size
    have hsz6:=hs5.size
    have HE5:=Lib.hid hE5
    have HR5:=Lib.hid hr5
    have HS5:=Lib.hid (HSk.out.trans hs5 fun k _ hk=>hk)
    have HCS:=Lib.hid hcs
    have HOW:=Lib.hid hown
    have HCL:=Lib.hid hcl
    have hxl':xs.length≤2000:=by omega
    clear hE5 hr5 hs5 hcs hown hcl hcall
    go_wp2_with(first
     |(with_reducible refine wp_lit (o:=⟨some 37,_,_,_,_,_⟩) ?_ 168 209 1 #[(0,.tmp 36)] ?_ [v5] ?_ 36 96 _ Tryz.underlying168 in_info ?_ ?_ ?_ ?_ ?_ ?_
       ·rfl
       ·rfl
       ·rfl
       ·omega
       ·exact(fun v hv=>by rw[List.mem_singleton.1 hv,hcv,List.size_toArray];exact hl5)
       ·rfl
       ·omega
       ·omega
       simp only[List.flatMap_cons,List.flatMap_nil,List.append_nil,hcv])
     |(with_reducible refine XYz (o:=⟨some 38,_,_,_,_,_⟩) ?_ (.tmp 33) (.tmp 37) 168 209 ?_ _ 36 96 Tryz.underlying168 in_info ?_ ?_ ?_ B _ xs.length css.flatten ?_ (World.ownsRow.alloc HOW.out _) w5.heap.size 1 1 cs ?_ (Blk.new w5 _ _) ?_ ?_ ?_ ?_ ?_
       ·rfl
       ·rfl
       ·rfl
       ·omega
       ·omega
       ·rfl
       ·rfl
       ·omega
       ·exact one_all ho5
       ·omega
       ·rw[World.size_alloc];omega
       intro v8 w8 hl8 hg8 ho8))
    have hnew:=Q1z w5 (.cells cs.toArray 209)
    have hst:Stays (fun _=>False) w5 (w5.alloc (.cells cs.toArray 209)):=Stays.of_below hnew (Nat.le_refl _) _
    have HROW:Hid (RowO (InO B) 209 36 B w8 v8 (xs++[a])):=Lib.hid (RowO.app HCL.out (World.ownsRow.alloc HOW.out _) (fun i y hy=>by
     obtain⟨cs',h6,h7,h8⟩:=HCS.out i y hy
     exact⟨cs',h6,Qwz B _ _ _ _ _ h7 hst (fun _ h=>h.elim),h8⟩) (Qwz B) (by decide) (Qwz B _ _ _ _ _ HE5.out hst (fun _ h=>h.elim)) hl5 hl8 hg8)
    have hS8:=Stays.of_grown (S:=fun k=>Value.ownBlock _=some k) hg8 (fun k h=>h)
    have HR8:Hid (RdAt B g w8 sr'):=Lib.hid ((HR5.out.fut hnew).stays hS8 (own_rw (World.ownsRow.alloc HOW.out _) (by decide)) (fun h=>by have:=(own_ge HOW.out _ h).1;omega))
    have HO8:Hid (∀j,v8.ownBlock=some j→w.heap.size≤j):=Lib.hid (fun j hj=>by
     rcases ho8 with h|h
     ·rw[h]at hj;exact HOk.out j hj
     ·rw[h]at hj;injection hj with hj;rw[←hj,World.size_alloc];omega)
    have HS8:Hid (Stays (·=g) w w8):=Lib.hid ((HS5.out.trans (hst.mono fun _ _ h=>h.elim) (fun k _ hk=>hk)).trans hS8 (fun k hk h=>by have:=HOk.out k h;omega))
    clear hl8 hg8 ho8 hS8 hst hnew hl5 ho5 hcv
    go_roundw
    case rel=>exact⟨k+1,xs++[a],sr',by omega,by go_num,by simp[hxl],HM',HR8,HROW,HO8,HS8⟩
    case measure=>simp[intOf];omega
  ·obtain rfl:k=m:=by omega
   have HE:Hid (X1z most p s= .ok (xs,sr)):=Lib.hid (by
    rw[HC.out,← HM.out,Nat.sub_self]
    exact contM_end xs p sr)
   go_wp2_with fail
   go_ret
   exact RdP.ok HE.out ⟨HRow.out,HOk.out⟩ HRk.out HSk.out
theorem partsOuts_any (p:Pz TOut) (gf:Nat) (eg:∀args w,(callFunc gf args).run Tryz.prog w= .ok (.enter gf args) w) (B g most:Nat) (hmost:most≤2000)
 (hp:∀(W:World) (s':Bs),RdAt B g W s'→Calls Tryz.prog gf #[.pointer (some ⟨g,0,none⟩)] W (RdP B g W p s' fun w' a v=>∃cs,CellV v cs∧OutO B w' a cs)) (w:World) (s:Bs) (h:RdAt B g w s):
 Calls Tryz.prog 161 #[.pointer (some ⟨g,0,none⟩),.int .u64 (most:Int),.func (.func gf) #[] #[]] w (RdP B g w (X1z most p) s fun w' a v=>RowO (OutO B) 204 2 B w' v a∧∀j,v.ownBlock=some j→w.heap.size≤j):=by
 have hp':=Lib.hid hp
 have HR0:=Lib.hid h
 obtain⟨v,h1,h2,h3,h4,h5⟩:=h
 obtain⟨q,n,c,rfl,hn,hnc,hcm,hr,hp0⟩:=h2.open
 have H1:=Lib.hid h1
 have c0:=h1.cell 0
 simp only[List.getElem?_toArray,List.getElem?_cons_zero]at c0
 have hcall:=decode_any q n c s w hr hn hnc hcm (by omega)
 have hle:=Xgz s
 have hz:∀x:BitVec 64 × Bs × Int,x=cutP s→cntZ most s=if x.2.2≠0 then .error x.2.2 else if most<x.1.toNat then .error 4 else .ok (x.1.toNat,x.2.1):=fun x hx=>by rw[hx];rfl
 obtain⟨x,hx⟩:∃x,x=cutP s:=⟨_,rfl⟩
 rw[←hx]at hcall hle
 replace hz:=hz x hx
 obtain⟨cn,r,k⟩:=x
 simp only at hz hle
 unfold DecPost at hcall
 simp only at hcall
 have HZ:=Lib.hid hz
 have HLE:=Lib.hid hle
 have hcn:iv64 cn=(cn.toNat:Int):=rfl
 rw[hcn]at hcall
 have hc64:=cn.isLt
 obtain⟨m,hm⟩:∃m,m=cn.toNat:=⟨_,rfl⟩
 rw[←hm]at hcall hc64 HZ
 clear hx hz hle h1 h2 hr hn hp0 hp hcn hm
 by_cases hk:k=0
 case neg=>
  have HK:=Lib.hid hk
  clear hk
  go_enter Tryz.func161,Tryz.ntmps161
  go_wp2_with fail
  refine hcall.mono ?_
  rintro e w1 ⟨v2,rfl,ho2,hb1⟩
  have HB:=Lib.hid hb1
  have hm:=XFz k w1
  unfold MustP at hm
  rw[if_neg HK.out]at hm
  clear hb1 ho2 hcall
  go_wp2_with fail
  refine hm.mono ?_
  rintro e w2 ⟨hw2,rfl⟩
  replace hw2:=hw2.symm
  subst hw2
  go_wp2_with fail
  exact⟨rfl,RdP.bad (Pz.bind_err (by rw[HZ.out,if_pos HK.out])) (Stays.of_below HB.out (Nat.le_refl _) _)⟩
 case pos=>
 subst hk
 by_cases hbig:most<m
 case pos=>
  have hlt:(most:Int)<(m:Int):=by omega
  go_enter Tryz.func161,Tryz.ntmps161
  go_wp2_with fail
  refine hcall.mono ?_
  rintro e w1 ⟨v2,rfl,ho2,hb1⟩
  have HB:=Lib.hid hb1
  have hm:=XFz 0 w1
  unfold MustP at hm
  rw[if_pos rfl]at hm
  clear hb1 ho2 hcall
  go_wp2_with fail
  refine hm.mono ?_
  rintro e w2 ⟨hw2,rfl⟩
  replace hw2:=hw2.symm
  subst hw2
  go_wp2_with fail
  exact⟨rfl,RdP.bad (Pz.bind_err (by rw[HZ.out,if_neg (by decide),if_pos hbig])) (Stays.of_below HB.out (Nat.le_refl _) _)⟩
 case neg=>
 have hlt:¬(most:Int)<(m:Int):=by omega
 have HC:Hid (X1z most p s=manyZ p m r):=Lib.hid (Pz.bind_ok (by rw[HZ.out,if_neg (by decide),if_neg hbig]))
 obtain⟨R,hR⟩:∃R,R=manyZ p m r:=⟨_,rfl⟩
 rw[←hR]at HC
 have HR:=Lib.hid hR
 have hm2:m≤2000:=by omega
 clear HZ hR hbig
 go_enter Tryz.func161,Tryz.ntmps161
 go_wp2_with fail
 refine hcall.mono ?_
 rintro e w1 ⟨v2,rfl,ho2,hb1⟩
 have HB:=Lib.hid hb1
 have hmu:=XFz 0 w1
 unfold MustP at hmu
 rw[if_pos rfl]at hmu
 have hg1:=H1.out.fut hb1
 have f1:=hg1.frozen 0
 have d1:=hg1.cell 0
 simp only[List.getElem?_toArray,List.getElem?_cons_zero]at d1
 have HG1:=Lib.hid hg1
 obtain⟨q2,m2,c2,rfl,_⟩:=Own8.open ho2
 have HO2:Hid (Own8 w1 B (.slice q2 m2 c2) r):=Lib.hid (Qmz ho2 h5)
 clear hb1 ho2 hcall hg1
 go_wp2_with fail
 refine hmu.mono ?_
 rintro e w2 ⟨hw2,rfl⟩
 replace hw2:=hw2.symm
 subst hw2
 have hsz:=HB.out.size
 go_upto_region 8 with fail
 have HR2:Hid (RdAt B g (w1.setCell ⟨g,0,none⟩ (.slice q2 m2 c2)) r):=Lib.hid (RdAt.move HG1.out (Dat.own HO2.out h4) (by have:=HLE.out;omega) h4 (by omega))
 have HS2:Hid (Stays (·=g) w (w1.setCell ⟨g,0,none⟩ (.slice q2 m2 c2))):=Lib.hid ((Stays.of_below HB.out (Nat.le_refl _) _).trans (Stays.set w1 g 0 _) fun k _ hk=>hk)
 generalize w1.setCell ⟨g,0,none⟩ (.slice q2 m2 c2)=w3 at*
 clear hmu f1 d1 HG1 HO2 HB hsz hlt
 have hdd:decide (most<m)=false:=decide_eq_false (by assumption)
 simp only[hdd]
 go_loopw[10,31] (fun u i wr=>∃(k:Nat) (xs:List TOut) (sr:Bs),k≤m∧i= .int .u64 k∧xs.length=k∧Hid (contM xs p (m-k) sr=R)∧Hid (RdAt B g wr sr)∧Hid (RowO (OutO B) 204 2 B wr u xs)∧Hid (∀j,u.ownBlock=some j→w.heap.size≤j)∧Hid (Stays (·=g) w wr)) (fun _ i _=>m-(intOf i).toNat)
 case atStart=>exact⟨0,[],r,by omega,rfl,rfl,Lib.hid (by rw[HR.out,Nat.sub_zero,Zgz p m r]),HR2,Lib.hid (RowO.nil _ _ _ _ _),Lib.hid (fun j hj=>by cases hj),HS2⟩
 case round=>
  obtain⟨k,xs,sr,hkm,rfl,hxl,HM,HRk,HRow,HOk,HSk⟩:=hrel
  by_cases hkn:k<m
  ·have hlk:(k:Int)<(m:Int):=by omega
   have hcall:=hp'.out wr sr HRk.out
   cases hz:p sr with
   |error e0=>
    have HE:Hid (X1z most p s= .error e0):=Lib.hid (by
     rw[HC.out,← HM.out,show m-k=(m-k-1)+1 by omega]
     exact contM_bad hz)
    unfold RdP at hcall
    rw[hz]at hcall
    clear hz
    go_wp2_with(go_at_fn gf;refine hcall.mono ?_;rintro e w5 ⟨rfl,hs5⟩)
    exact⟨rfl,RdP.bad HE.out (HSk.out.trans hs5 fun k _ hk=>hk)⟩
   |ok y=>
    obtain⟨a,sr'⟩:=y
    have HM':Hid (contM (xs++[a]) p (m-(k+1)) sr'=R):=Lib.hid (by
     rw[←HM.out,show m-k=(m-(k+1))+1 by omega]
     exact(contM_ok hz).symm)
    unfold RdP at hcall
    rw[hz]at hcall
    have hgB:g<B:=HRk.out.elim fun v h=>h.2.2.2.1
    have hBw:B≤w.heap.size:=h5
    clear hz
    go_wp2_with fail
    go_at_fn gf
    refine hcall.mono ?_
    rintro e w5 ⟨v5,rfl,⟨cs,hcv,hE5⟩,hr5,hs5⟩
    have hrow:=HRow.out.sep (Qyz B) hs5 (Sep.low fun k hk=>by have:k=g:=hk;omega)
    obtain⟨css,hcl,hown,hcs⟩:=hrow
    replace hcv:v5.cells=cs.toArray:=hcv
    have hl5:=hE5.len
    have ho5:=hE5.one
    have hsz5:=HSk.out.size
    have hsz6:=hs5.size
    have HE5:=Lib.hid hE5
    have HR5:=Lib.hid hr5
    have HS5:=Lib.hid (HSk.out.trans hs5 fun k _ hk=>hk)
    have HCS:=Lib.hid hcs
    have HOW:=Lib.hid hown
    have HCL:=Lib.hid hcl
    have hxl':xs.length≤2000:=by omega
    clear hE5 hr5 hs5 hcs hown hcl hcall
    go_wp2_with(first
     |(with_reducible refine wp_lit (o:=⟨some 37,_,_,_,_,_⟩) ?_ 169 204 1 #[(0,.tmp 36)] ?_ [v5] ?_ 2 32 _ Tryz.underlying169 out_info ?_ ?_ ?_ ?_ ?_ ?_
       ·rfl
       ·rfl
       ·rfl
       ·omega
       ·exact(fun v hv=>by rw[List.mem_singleton.1 hv,hcv,List.size_toArray];exact hl5)
       ·rfl
       ·omega
       ·omega
       simp only[List.flatMap_cons,List.flatMap_nil,List.append_nil,hcv])
     |(with_reducible refine XYz (o:=⟨some 38,_,_,_,_,_⟩) ?_ (.tmp 33) (.tmp 37) 169 204 ?_ _ 2 32 Tryz.underlying169 out_info ?_ ?_ ?_ B _ xs.length css.flatten ?_ (World.ownsRow.alloc HOW.out _) w5.heap.size 1 1 cs ?_ (Blk.new w5 _ _) ?_ ?_ ?_ ?_ ?_
       ·rfl
       ·rfl
       ·rfl
       ·omega
       ·omega
       ·rfl
       ·rfl
       ·omega
       ·exact one_all ho5
       ·omega
       ·rw[World.size_alloc];omega
       intro v8 w8 hl8 hg8 ho8))
    have hnew:=Q1z w5 (.cells cs.toArray 204)
    have hst:Stays (fun _=>False) w5 (w5.alloc (.cells cs.toArray 204)):=Stays.of_below hnew (Nat.le_refl _) _
    have HROW:Hid (RowO (OutO B) 204 2 B w8 v8 (xs++[a])):=Lib.hid (RowO.app HCL.out (World.ownsRow.alloc HOW.out _) (fun i y hy=>by
     obtain⟨cs',h6,h7,h8⟩:=HCS.out i y hy
     exact⟨cs',h6,Qyz B _ _ _ _ _ h7 hst (fun _ h=>h.elim),h8⟩) (Qyz B) (by decide) (Qyz B _ _ _ _ _ HE5.out hst (fun _ h=>h.elim)) hl5 hl8 hg8)
    have hS8:=Stays.of_grown (S:=fun k=>Value.ownBlock _=some k) hg8 (fun k h=>h)
    have HR8:Hid (RdAt B g w8 sr'):=Lib.hid ((HR5.out.fut hnew).stays hS8 (own_rw (World.ownsRow.alloc HOW.out _) (by decide)) (fun h=>by have:=(own_ge HOW.out _ h).1;omega))
    have HO8:Hid (∀j,v8.ownBlock=some j→w.heap.size≤j):=Lib.hid (fun j hj=>by
     rcases ho8 with h|h
     ·rw[h]at hj;exact HOk.out j hj
     ·rw[h]at hj;injection hj with hj;rw[←hj,World.size_alloc];omega)
    have HS8:Hid (Stays (·=g) w w8):=Lib.hid ((HS5.out.trans (hst.mono fun _ _ h=>h.elim) (fun k _ hk=>hk)).trans hS8 (fun k hk h=>by have:=HOk.out k h;omega))
    clear hl8 hg8 ho8 hS8 hst hnew hl5 ho5 hcv
    go_roundw
    case rel=>exact⟨k+1,xs++[a],sr',by omega,by go_num,by simp[hxl],HM',HR8,HROW,HO8,HS8⟩
    case measure=>simp[intOf];omega
  ·obtain rfl:k=m:=by omega
   have HE:Hid (X1z most p s= .ok (xs,sr)):=Lib.hid (by
    rw[HC.out,← HM.out,Nat.sub_self]
    exact contM_end xs p sr)
   go_wp2_with fail
   go_ret
   exact RdP.ok HE.out ⟨HRow.out,HOk.out⟩ HRk.out HSk.out
theorem partsTexts_any (p:Pz Bs) (gf:Nat) (eg:∀args w,(callFunc gf args).run Tryz.prog w= .ok (.enter gf args) w) (B g most:Nat) (hmost:most≤2000)
 (hp:∀(W:World) (s':Bs),RdAt B g W s'→Calls Tryz.prog gf #[.pointer (some ⟨g,0,none⟩)] W (RdP B g W p s' fun w' a v=>∃cs,CellV v cs∧TextO B w' a cs)) (w:World) (s:Bs) (h:RdAt B g w s):
 Calls Tryz.prog 163 #[.pointer (some ⟨g,0,none⟩),.int .u64 (most:Int),.func (.func gf) #[] #[]] w (RdP B g w (X1z most p) s fun w' a v=>RowO (TextO B) 26 1 B w' v a∧∀j,v.ownBlock=some j→w.heap.size≤j):=by
 have hp':=Lib.hid hp
 have HR0:=Lib.hid h
 obtain⟨v,h1,h2,h3,h4,h5⟩:=h
 obtain⟨q,n,c,rfl,hn,hnc,hcm,hr,hp0⟩:=h2.open
 have H1:=Lib.hid h1
 have c0:=h1.cell 0
 simp only[List.getElem?_toArray,List.getElem?_cons_zero]at c0
 have hcall:=decode_any q n c s w hr hn hnc hcm (by omega)
 have hle:=Xgz s
 have hz:∀x:BitVec 64 × Bs × Int,x=cutP s→cntZ most s=if x.2.2≠0 then .error x.2.2 else if most<x.1.toNat then .error 4 else .ok (x.1.toNat,x.2.1):=fun x hx=>by rw[hx];rfl
 obtain⟨x,hx⟩:∃x,x=cutP s:=⟨_,rfl⟩
 rw[←hx]at hcall hle
 replace hz:=hz x hx
 obtain⟨cn,r,k⟩:=x
 simp only at hz hle
 unfold DecPost at hcall
 simp only at hcall
 have HZ:=Lib.hid hz
 have HLE:=Lib.hid hle
 have hcn:iv64 cn=(cn.toNat:Int):=rfl
 rw[hcn]at hcall
 have hc64:=cn.isLt
 obtain⟨m,hm⟩:∃m,m=cn.toNat:=⟨_,rfl⟩
 rw[←hm]at hcall hc64 HZ
 clear hx hz hle h1 h2 hr hn hp0 hp hcn hm
 by_cases hk:k=0
 case neg=>
  have HK:=Lib.hid hk
  clear hk
  go_enter Tryz.func163,Tryz.ntmps163
  go_wp2_with fail
  refine hcall.mono ?_
  rintro e w1 ⟨v2,rfl,ho2,hb1⟩
  have HB:=Lib.hid hb1
  have hm:=XFz k w1
  unfold MustP at hm
  rw[if_neg HK.out]at hm
  clear hb1 ho2 hcall
  go_wp2_with fail
  refine hm.mono ?_
  rintro e w2 ⟨hw2,rfl⟩
  replace hw2:=hw2.symm
  subst hw2
  go_wp2_with fail
  exact⟨rfl,RdP.bad (Pz.bind_err (by rw[HZ.out,if_pos HK.out])) (Stays.of_below HB.out (Nat.le_refl _) _)⟩
 case pos=>
 subst hk
 by_cases hbig:most<m
 case pos=>
  have hlt:(most:Int)<(m:Int):=by omega
  go_enter Tryz.func163,Tryz.ntmps163
  go_wp2_with fail
  refine hcall.mono ?_
  rintro e w1 ⟨v2,rfl,ho2,hb1⟩
  have HB:=Lib.hid hb1
  have hm:=XFz 0 w1
  unfold MustP at hm
  rw[if_pos rfl]at hm
  clear hb1 ho2 hcall
  go_wp2_with fail
  refine hm.mono ?_
  rintro e w2 ⟨hw2,rfl⟩
  replace hw2:=hw2.symm
  subst hw2
  go_wp2_with fail
  exact⟨rfl,RdP.bad (Pz.bind_err (by rw[HZ.out,if_neg (by decide),if_pos hbig])) (Stays.of_below HB.out (Nat.le_refl _) _)⟩
 case neg=>
 have hlt:¬(most:Int)<(m:Int):=by omega
 have HC:Hid (X1z most p s=manyZ p m r):=Lib.hid (Pz.bind_ok (by rw[HZ.out,if_neg (by decide),if_neg hbig]))
 obtain⟨R,hR⟩:∃R,R=manyZ p m r:=⟨_,rfl⟩
 rw[←hR]at HC
 have HR:=Lib.hid hR
 have hm2:m≤2000:=by omega
 clear HZ hR hbig
 go_enter Tryz.func163,Tryz.ntmps163
 go_wp2_with fail
 refine hcall.mono ?_
 rintro e w1 ⟨v2,rfl,ho2,hb1⟩
 have HB:=Lib.hid hb1
 have hmu:=XFz 0 w1
 unfold MustP at hmu
 rw[if_pos rfl]at hmu
 have hg1:=H1.out.fut hb1
 have f1:=hg1.frozen 0
 have d1:=hg1.cell 0
 simp only[List.getElem?_toArray,List.getElem?_cons_zero]at d1
 have HG1:=Lib.hid hg1
 obtain⟨q2,m2,c2,rfl,_⟩:=Own8.open ho2
 have HO2:Hid (Own8 w1 B (.slice q2 m2 c2) r):=Lib.hid (Qmz ho2 h5)
 clear hb1 ho2 hcall hg1
 go_wp2_with fail
 refine hmu.mono ?_
 rintro e w2 ⟨hw2,rfl⟩
 replace hw2:=hw2.symm
 subst hw2
 have hsz:=HB.out.size
 go_upto_region 8 with fail
 have HR2:Hid (RdAt B g (w1.setCell ⟨g,0,none⟩ (.slice q2 m2 c2)) r):=Lib.hid (RdAt.move HG1.out (Dat.own HO2.out h4) (by have:=HLE.out;omega) h4 (by omega))
 have HS2:Hid (Stays (·=g) w (w1.setCell ⟨g,0,none⟩ (.slice q2 m2 c2))):=Lib.hid ((Stays.of_below HB.out (Nat.le_refl _) _).trans (Stays.set w1 g 0 _) fun k _ hk=>hk)
 generalize w1.setCell ⟨g,0,none⟩ (.slice q2 m2 c2)=w3 at*
 clear hmu f1 d1 HG1 HO2 HB hsz hlt
 have hdd:decide (most<m)=false:=decide_eq_false (by assumption)
 simp only[hdd]
 go_loopw[10,31] (fun u i wr=>∃(k:Nat) (xs:List Bs) (sr:Bs),k≤m∧i= .int .u64 k∧xs.length=k∧Hid (contM xs p (m-k) sr=R)∧Hid (RdAt B g wr sr)∧Hid (RowO (TextO B) 26 1 B wr u xs)∧Hid (∀j,u.ownBlock=some j→w.heap.size≤j)∧Hid (Stays (·=g) w wr)) (fun _ i _=>m-(intOf i).toNat)
 case atStart=>exact⟨0,[],r,by omega,rfl,rfl,Lib.hid (by rw[HR.out,Nat.sub_zero,Zgz p m r]),HR2,Lib.hid (RowO.nil _ _ _ _ _),Lib.hid (fun j hj=>by cases hj),HS2⟩
 case round=>
  obtain⟨k,xs,sr,hkm,rfl,hxl,HM,HRk,HRow,HOk,HSk⟩:=hrel
  by_cases hkn:k<m
  ·have hlk:(k:Int)<(m:Int):=by omega
   have hcall:=hp'.out wr sr HRk.out
   cases hz:p sr with
   |error e0=>
    have HE:Hid (X1z most p s= .error e0):=Lib.hid (by
     rw[HC.out,← HM.out,show m-k=(m-k-1)+1 by omega]
     exact contM_bad hz)
    unfold RdP at hcall
    rw[hz]at hcall
    clear hz
    go_wp2_with(go_at_fn gf;refine hcall.mono ?_;rintro e w5 ⟨rfl,hs5⟩)
    exact⟨rfl,RdP.bad HE.out (HSk.out.trans hs5 fun k _ hk=>hk)⟩
   |ok y=>
    obtain⟨a,sr'⟩:=y
    have HM':Hid (contM (xs++[a]) p (m-(k+1)) sr'=R):=Lib.hid (by
     rw[←HM.out,show m-k=(m-(k+1))+1 by omega]
     exact(contM_ok hz).symm)
    unfold RdP at hcall
    rw[hz]at hcall
    have hgB:g<B:=HRk.out.elim fun v h=>h.2.2.2.1
    have hBw:B≤w.heap.size:=h5
    clear hz
    go_wp2_with fail
    go_at_fn gf
    refine hcall.mono ?_
    rintro e w5 ⟨v5,rfl,⟨cs,hcv,hE5⟩,hr5,hs5⟩
    have hrow:=HRow.out.sep (XKz B) hs5 (Sep.low fun k hk=>by have:k=g:=hk;omega)
    obtain⟨css,hcl,hown,hcs⟩:=hrow
    replace hcv:v5.cells=cs.toArray:=hcv
    have hl5:=hE5.len
    have ho5:=hE5.one
    have hsz5:=HSk.out.size
    have hsz6:=hs5.size
    have HE5:=Lib.hid hE5
    have HR5:=Lib.hid hr5
    have HS5:=Lib.hid (HSk.out.trans hs5 fun k _ hk=>hk)
    have HCS:=Lib.hid hcs
    have HOW:=Lib.hid hown
    have HCL:=Lib.hid hcl
    have hxl':xs.length≤2000:=by omega
    clear hE5 hr5 hs5 hcs hown hcl hcall
    go_wp2_with(first
     |(with_reducible refine wp_lit (o:=⟨some 37,_,_,_,_,_⟩) ?_ 198 26 1 #[(0,.tmp 36)] ?_ [v5] ?_ 1 24 _ Tryz.underlying198 txt_info ?_ ?_ ?_ ?_ ?_ ?_
       ·rfl
       ·rfl
       ·rfl
       ·omega
       ·exact(fun v hv=>by rw[List.mem_singleton.1 hv,hcv,List.size_toArray];exact hl5)
       ·rfl
       ·omega
       ·omega
       simp only[List.flatMap_cons,List.flatMap_nil,List.append_nil,hcv])
     |(with_reducible refine XYz (o:=⟨some 38,_,_,_,_,_⟩) ?_ (.tmp 33) (.tmp 37) 198 26 ?_ _ 1 24 Tryz.underlying198 txt_info ?_ ?_ ?_ B _ xs.length css.flatten ?_ (World.ownsRow.alloc HOW.out _) w5.heap.size 1 1 cs ?_ (Blk.new w5 _ _) ?_ ?_ ?_ ?_ ?_
       ·rfl
       ·rfl
       ·rfl
       ·omega
       ·omega
       ·rfl
       ·rfl
       ·omega
       ·exact one_all ho5
       ·omega
       ·rw[World.size_alloc];omega
       intro v8 w8 hl8 hg8 ho8))
    have hnew:=Q1z w5 (.cells cs.toArray 26)
    have hst:Stays (fun _=>False) w5 (w5.alloc (.cells cs.toArray 26)):=Stays.of_below hnew (Nat.le_refl _) _
    have HROW:Hid (RowO (TextO B) 26 1 B w8 v8 (xs++[a])):=Lib.hid (RowO.app HCL.out (World.ownsRow.alloc HOW.out _) (fun i y hy=>by
     obtain⟨cs',h6,h7,h8⟩:=HCS.out i y hy
     exact⟨cs',h6,XKz B _ _ _ _ _ h7 hst (fun _ h=>h.elim),h8⟩) (XKz B) (by decide) (XKz B _ _ _ _ _ HE5.out hst (fun _ h=>h.elim)) hl5 hl8 hg8)
    have hS8:=Stays.of_grown (S:=fun k=>Value.ownBlock _=some k) hg8 (fun k h=>h)
    have HR8:Hid (RdAt B g w8 sr'):=Lib.hid ((HR5.out.fut hnew).stays hS8 (own_rw (World.ownsRow.alloc HOW.out _) (by decide)) (fun h=>by have:=(own_ge HOW.out _ h).1;omega))
    have HO8:Hid (∀j,v8.ownBlock=some j→w.heap.size≤j):=Lib.hid (fun j hj=>by
     rcases ho8 with h|h
     ·rw[h]at hj;exact HOk.out j hj
     ·rw[h]at hj;injection hj with hj;rw[←hj,World.size_alloc];omega)
    have HS8:Hid (Stays (·=g) w w8):=Lib.hid ((HS5.out.trans (hst.mono fun _ _ h=>h.elim) (fun k _ hk=>hk)).trans hS8 (fun k hk h=>by have:=HOk.out k h;omega))
    clear hl8 hg8 ho8 hS8 hst hnew hl5 ho5 hcv
    go_roundw
    case rel=>exact⟨k+1,xs++[a],sr',by omega,by go_num,by simp[hxl],HM',HR8,HROW,HO8,HS8⟩
    case measure=>simp[intOf];omega
  ·obtain rfl:k=m:=by omega
   have HE:Hid (X1z most p s= .ok (xs,sr)):=Lib.hid (by
    rw[HC.out,← HM.out,Nat.sub_self]
    exact contM_end xs p sr)
   go_wp2_with fail
   go_ret
   exact RdP.ok HE.out ⟨HRow.out,HOk.out⟩ HRk.out HSk.out
end
section
open Go Go.RowKit
theorem RdP.cases {α:Type} {B g:Nat} {w:World} {p:Pz α} {s:Bs} {V:World→α→Value→Prop} {e:Ending} {w':World} (h:RdP B g w p s V e w'):
 (∃a r,Hid (p s= .ok (a,r))∧∃v,e= .returned v∧V w' a v∧Hid (RdAt B g w' r)∧Hid (Stays (·=g) w w'))∨(∃k,Hid (p s= .error k)∧e= .panicked [{ v:=.iface 27 (.int .i64 k),recovered:=false }]∧Hid (Stays (·=g) w w')):=by
 unfold RdP at h
 cases hz:p s with
 |error k=>rw[hz]at h;exact .inr ⟨k,Lib.hid rfl,h.1,Lib.hid h.2⟩
 |ok x=>
  obtain⟨a,r⟩:=x
  rw[hz]at h
  obtain⟨v,h1,h2,h3,h4⟩:=h
  exact .inl ⟨a,r,Lib.hid rfl,v,h1,h2,Lib.hid h3,Lib.hid h4⟩
theorem asFn {α:Type} (p:List α) (n:Nat) (h:p.length=n):∃x:Fin n→α,p=List.ofFn x:=by
 subst h
 exact⟨fun i=>p[i],List.ofFn_getElem.symm⟩
def ZIn:Array Value:=(List.replicate 32 (Value.int .u8 0)++[Value.int .u32 0,Value.slice none 0 0,Value.int .u32 0,Value.slice none 0 0]).toArray
theorem ZIn_size:ZIn.size=36:=by rfl
theorem zIn (w:World):(zeroValue 209).run Tryz.prog w= .ok (.agg ZIn) w:=zero_of (by kernel_rfl) w
theorem zOut (w:World):(zeroValue 204).run Tryz.prog w= .ok (.agg #[.int .i64 0,.slice none 0 0]) w:=zero_of (by kernel_rfl) w
def QBz (id:Bs) (ix:BitVec 32) (sc sq wi:Value):List Value:=Q5z id++[u32 ix,sc,sq,wi]
theorem inCells_len {id:Bs} (h:id.length=32) (ix:BitVec 32) (sc sq wi:Value):(QBz id ix sc sq wi).length=36:=by simp[QBz,Q5z,h]
theorem built_pt (id:Bs) (h:id.length=32) (ix:BitVec 32):Tryz.prog.built 207 [(0,.agg (Q5z id).toArray),(1,u32 ix)]=some (Q5z id++[u32 ix]).toArray:=by
 obtain⟨x,rfl⟩:=asFn id 32 h
 kernel_rfl
theorem built_in (id:Bs) (h:id.length=32) (ix:BitVec 32):Tryz.prog.built 209 [(0,.agg (Q5z id++[u32 ix]).toArray)]=some (QBz id ix (.slice none 0 0) (.int .u32 0) (.slice none 0 0)).toArray:=by
 obtain⟨x,rfl⟩:=asFn id 32 h
 kernel_rfl
theorem inCells_one {id:Bs} {ix:BitVec 32} {sc sq wi:Value} (h1:sc.oneCell'=true) (h2:sq.oneCell'=true) (h3:wi.oneCell'=true):(QBz id ix sc sq wi).toArray.all (·.oneCell')=true:=by
 rw[List.all_toArray,QBz,Q5z,List.all_eq_true]
 intro v hv
 rcases List.mem_append.1 hv with hv|hv
 ·obtain⟨b,_,rfl⟩:=List.mem_map.1 hv
  rfl
 ·simp only[List.mem_cons,List.not_mem_nil,or_false]at hv
  rcases hv with rfl|rfl|rfl|rfl
  ·rfl
  ·exact h1
  ·exact h2
  ·exact h3
theorem inCells_at {id:Bs} (h:id.length=32) (ix:BitVec 32) (sc sq wi:Value) (j:Nat):(QBz id ix sc sq wi)[32+j]? =[u32 ix,sc,sq,wi][j]? :=by
 unfold QBz
 have hl:(Q5z id).length=32:=by simp[Q5z,h]
 rw[List.getElem?_append_right (by omega),hl,Nat.add_sub_cancel_left]
theorem inCells_set (id:Bs) (h:id.length=32) (ix:BitVec 32) (sc sq wi v:Value):((QBz id ix sc sq wi).toArray.setIfInBounds 33 v=(QBz id ix v sq wi).toArray)∧((QBz id ix sc sq wi).toArray.setIfInBounds 34 v=(QBz id ix sc v wi).toArray)∧((QBz id ix sc sq wi).toArray.setIfInBounds 35 v=(QBz id ix sc sq v).toArray):=by
 have hl:(Q5z id).length=32:=by simp[Q5z,h]
 unfold QBz
 refine⟨?_,?_,?_⟩<;>rw[List.setIfInBounds_toArray,List.set_append_right _ _ (by omega),hl]<;>rfl
theorem row_range {w:World} {b o:Nat} {bs:Bs} (h:Row8 w (some ⟨b,o,none⟩) bs):w.rangeAt b o (Q5z bs):=fun j v hj=>by
 rw[Q5z,List.getElem?_map]at hj
 cases hx:bs[j]? with
 |none=>rw[hx]at hj;cases hj
 |some x=>
  rw[hx]at hj
  injection hj with hj
  obtain⟨b',o',e,_,hc⟩:=h (fun e=>by rw[e]at hx;cases hx)
  injection e with e
  injection e with e1 e2
  subst e1 e2
  rw[hc j x hx,← hj]
theorem run_arr32 (w:World) (b o c:Nat):(Instr.arrayAt 32 (.slice (some ⟨b,o,none⟩) 32 c)).run Tryz.prog w= .ok (.pointer (some ⟨b,o,none⟩)) w:=by
 simp[Instr.arrayAt,run_underlying Tryz.underlying32]
def Stable (g:Nat) (F:World→Prop):Prop:=∀W W',F W→Stays (·=g) W W'→F W'
theorem Stable.and {g:Nat} {F F':World→Prop} (h:Stable g F) (h':Stable g F'):Stable g (fun W=>F W∧F' W):=fun W W' hF hs=>⟨h W W' hF.1 hs,h' W W' hF.2 hs⟩
theorem Stable.blk {g z:Nat} {t:TypeId} {cs:Array Value} (h:z≠g):Stable g (fun W=>Blk W z t cs):=fun W W' hF hs=>hF.stays hs h
theorem Stable.dat {B g:Nat} {v:Value} {s:Bs}:Stable g (fun W=>Dat B g W v s):=fun W W' hF hs=>hF.stays hs fun k hk=>.inl hk
theorem Stable.stays {g:Nat} (w:World):Stable g (fun W=>Stays (·=g) w W):=fun W W' hF hs=>hF.trans hs fun k _ hk=>hk
theorem Stable.fut {g:Nat} {F:World→Prop} (h:Stable g F) {W W':World} (hF:F W) (hb:Below W.heap.size W W'):F W':=h W W' hF (Stays.of_below hb (Nat.le_refl _) _)
theorem Dat.range {B g:Nat} {w:World} {b o n c:Nat} {bs:Bs} (h:Dat B g w (.slice (some ⟨b,o,none⟩) n c) bs):w.rangeAt b o (Q5z bs):=by
 obtain⟨p,n',c',e,_,_,_,hr,_⟩:=h.open
 injection e with e
 subst e
 exact row_range hr
theorem Qiz {B z:Nat} {Ts:List TypeId} {T:TypeId} {cs:Array Value} {w:World} (h:Blk w z T cs) (hT:T∉Ts):Sep B Ts w (·=z):=fun k hk=>.inr ⟨T,cs,(show k=z from hk)▸h,hT⟩
theorem Xxz {B g z:Nat} {T:TypeId} {cs:Array Value} {w:World} (h:Blk w z T cs) (hB:B≤z) (hT:T≠5):Rw B g w (·=z):=fun k hk=>.inr ⟨(show k=z from hk)▸hB,T,cs,(show k=z from hk)▸h,hT⟩
def InMid (B g:Nat) (w:World) (s:Bs) (e:Exit) (a:Act) (W:World):Prop:=match e with
 | .normal=>∃id r1 ix r2 z3,Hid (takeZ 32 s= .ok (id,r1))∧Hid (numZ 4 r1= .ok (ix,r2))∧Hid (id.length=32)∧Hid (RdAt B g W r2)∧Hid (Stays (·=g) w W)∧Hid (Blk W w.heap.size 209 ZIn)∧Hid (Blk W z3 209 (QBz id (ix.setWidth 32) (.slice none 0 0) (.int .u32 0) (.slice none 0 0)).toArray)∧Hid (w.heap.size<z3)∧
    ∃u1 u4 u5 u6 u7 u8 u9 u10 u11 u12 u13 u14 u15 u16 u17 u18 u19 u20,a=⟨#[.pointer (some ⟨g,0,none⟩),u1,.pointer (some ⟨w.heap.size,0,none⟩),.pointer (some ⟨z3,0,none⟩),u4,u5,u6,u7,u8,u9,u10,u11,u12,u13,u14,u15,u16,u17,u18,u19,u20],[]⟩
 | .panic c=>∃k,Hid (inZ s= .error k)∧c=[{ v:=.iface 27 (.int .i64 k),recovered:=false }]∧Hid (Stays (·=g) w W)∧a.defers=[]
 |_=>False
theorem InMid.put {B g:Nat} {w:World} {s:Bs} (c:List PanicEntry) (a:Act) (d:Option Nat) (v:Value) (W:World) (h:InMid B g w s (.panic c) (a.put d v) W):InMid B g w s (.panic c) a W:=by
 obtain⟨k,h1,h2,h3,h4⟩:=h
 exact⟨k,h1,h2,h3,by cases a;cases d<;>exact h4⟩
theorem rdIn_any (B g:Nat) (w:World) (s:Bs) (h:RdAt B g w s):
 Calls Tryz.prog 160 #[.pointer (some ⟨g,0,none⟩)] w (RdP B g w inZ s fun w' a v=>∃cs,CellV v cs∧InO B w' a cs):=by
 have hgB:g<B:=h.elim fun v h=>h.2.2.2.1
 have hBw:B≤w.heap.size:=h.elim fun v h=>h.2.2.2.2
 have hz:=zIn
 have HR1:=Lib.hid (h.fut (Q1z w (.cells ZIn 209)))
 have HF1:Hid (Stays (·=g) w (w.alloc (.cells ZIn 209))∧Blk (w.alloc (.cells ZIn 209)) w.heap.size 209 ZIn):=Lib.hid ⟨Stays.of_below (Q1z w _) (Nat.le_refl _) _,Blk.new w 209 ZIn⟩
 have SF0:Hid (Stable g (fun W=>Stays (·=g) w W∧Blk W w.heap.size 209 ZIn)):=Lib.hid ((Stable.stays w).and (Stable.blk (by omega)))
 clear h
 go_enter Tryz.func160,Tryz.ntmps160
 go_upto_region 1 with fail
 generalize w.alloc (.cells ZIn 209)=w1 at*
 refine Code.wp_mono (Q:=InMid B g w s) ?imp ?reg
 case reg=>
  have hR:=HR1.out.fut (Q0z w1 1)
  have SF:=SF0
  have hF:=SF.out.fut HF1.out (Q0z w1 1)
  refine region_treeP (.qs [0,4] (.two 1 (.qs [2,3] (.two 5 (.qs [6,7,8] (.o 9 (.o 10 (.done)))) 9 (.o 5 (.qs [6,7,8] (.o 10 (.done)))))) 9 (.o 1 (.qs [2,3] (.o 5 (.qs [6,7,8] (.o 10 (.done)))))))) (fun W=>Stays (·=g) w W∧Blk W w.heap.size 209 ZIn) (by kernel_rfl) (by kernel_rfl) (fun c a d v W h=>InMid.put c a d v W h) hF ?_
  refine' Qxz (s:=21) (A1:=_) [0,4] [_,_] _ rfl rfl rfl (fun W hW=>?hq1) _ hF (fun _=>?hr1)
  case hq1=>
   try simp only[List.getElem_toArray,List.getElem_cons_zero,List.getElem_cons_succ]
   iterate 2 (go_big_quiet_step (fail))
   refine wpQuiet_nil ?_
   rfl
  case hr1=>
  clear HR1 HF1 SF0
  replace hR:RdAt B g w1.drew s:=hR
  replace hF:Stays (·=g) w w1.drew∧Blk w1.drew w.heap.size 209 ZIn:=hF
  generalize w1.drew=w2 at*
  refine tree_two rfl rfl (fun k1=>?gA) (fun k1=>?gB)
  case gA=>
   replace hR:=hR.fut (Q0z (w2) k1)
   replace hF:=SF.out.fut hF (Q0z (w2) k1)
   generalize World.drewN (w2) k1=W1 at hR hF ⊢
   have hc:=rdTake_any B g 32 (by omega) W1 s hR
   have HF:=Lib.hid hF
   clear hR hF
   go_wp2_with fail
   refine hc.mono ?_
   intro e W2 h
   rcases h.cases with⟨id,r1,HT1,v,rfl,⟨hd,hl⟩,HR,HS⟩|⟨kk,HT1,rfl,HS⟩
   case inr=>
    go_wp2_with fail
    exact⟨kk,Lib.hid (by unfold inZ;rw[Pz.bind_err HT1.out]),rfl,Lib.hid (SF.out _ _ HF.out HS.out).1,rfl⟩
   clear hc h
   have hF:=SF.out _ _ HF.out HS.out
   have hR:=HR.out
   have HL:=Lib.hid hl
   obtain⟨q,n,c,rfl,hn,hnc,hcm,hr,hp⟩:=hd.open
   obtain⟨bb,oo,rfl,_,_⟩:=hr (by intro e;rw[e]at hl;cases hl)
   have hn':n=32:=by omega
   subst hn'
   replace SF:=Lib.hid (SF.out.and (Stable.dat (B:=B) (g:=g) (v:=.slice (some ⟨bb,oo,none⟩) 32 c) (s:=id)))
   replace hF:=And.intro hF hd
   clear hr hp hn hl HF HS HR hd
   go_wp2_with fail
   refine Q2z (Grows.more (fun W=>(Stays (·=g) w W∧Blk W w.heap.size 209 ZIn)∧Dat B g W (.slice (some ⟨bb,oo,none⟩) 32 c) id) (fun W h=>h.1) hF ?_)
   refine' Qxz (s:=21) (A1:=_) [2,3] [_,_] _ rfl rfl rfl (fun W hW=>?hq2) _ hF (fun _=>?hr2)
   case hq2=>
    have ha:=fun w=>run_arr32 w bb oo c
    try simp only[List.getElem_toArray,List.getElem_cons_zero,List.getElem_cons_succ]
    iterate 1 (go_big_quiet_step (fail))
    refine Qtz rfl 32 (.tmp 6) rfl bb oo rfl (Q5z id) _ (fun w hw=>?_) Tryz.underlying32 rfl (by rw[Q5z,List.length_map,HL.out];kernel_rfl) ?_
    ·obtain⟨k,rfl⟩:=hw
     exact(Dat.range hW.2)
    refine wpQuiet_nil ?_
    rfl
   case hr2=>
   refine tree_two rfl rfl (fun k2=>?gAA) (fun k2=>?gAB)
   case gAA=>
    replace hR:=hR.fut (Q0z (W2) k2)
    replace hF:=SF.out.fut hF (Q0z (W2) k2)
    generalize World.drewN (W2) k2=W3 at hR hF ⊢
    have hc:=XDz B g 4 (by omega) W3 r1 hR
    have HF:=Lib.hid hF
    clear hR hF
    go_wp2_with fail
    refine hc.mono ?_
    intro e W4 h
    rcases h.cases with⟨ix,r2,HT2,v,rfl,hv,HR,HS⟩|⟨kk,HT2,rfl,HS⟩
    case inr=>
     go_wp2_with fail
     exact⟨kk,Lib.hid (by unfold inZ;rw[Pz.bind_ok HT1.out,Pz.bind_err HT2.out]),rfl,Lib.hid (SF.out _ _ HF.out HS.out).1.1,rfl⟩
    clear hc h
    subst hv
    have hF:=SF.out _ _ HF.out HS.out
    have hR:=HR.out
    clear HF HS HR
    go_wp2_with fail
    refine Q2z (Grows.same hF ?_)
    refine' Qxz (s:=21) (A1:=_) [6,7,8] [_,_,_] _ rfl rfl rfl (fun W hW=>?hq3) _ hF (fun _=>?hr3)
    case hq3=>
     have ec:=Xoz ix
     try simp only[List.getElem_toArray,List.getElem_cons_zero,List.getElem_cons_succ]
     iterate 1 (go_big_quiet_step (fail))
     refine Xbz rfl 207 #[(0,.tmp 7),(1,.tmp 10)] rfl (Q5z id++[u32 (ix.setWidth 32)]).toArray ?_ ?_
     ·simp only[List.map_toArray,List.map_cons,List.map_nil]
      exact built_pt id HL.out (ix.setWidth 32)
     refine Xbz rfl 209 #[(0,.tmp 11)] rfl (QBz id (ix.setWidth 32) (.slice none 0 0) (.int .u32 0) (.slice none 0 0)).toArray ?_ ?_
     ·simp only[List.map_toArray,List.map_cons,List.map_nil]
      exact built_in id HL.out (ix.setWidth 32)
     refine wpQuiet_nil ?_
     rfl
    case hr3=>
    refine Qvz rfl fun k3=>?_
    replace hR:=hR.fut (Q0z (W4) k3)
    replace hF:=SF.out.fut hF (Q0z (W4) k3)
    generalize World.drewN (W4) k3=W5 at hR hF ⊢
    have hzz:w.heap.size<W5.heap.size:=hF.1.2.lt
    have hA:=Blk.new W5 209 ZIn
    have hq:=Q1z W5 (.cells ZIn 209)
    replace hF:=SF.out.fut hF hq
    replace hR:=hR.fut hq
    clear hq
    go_wp2_with fail
    generalize W5.alloc (.cells ZIn 209)=W6 at*
    generalize W5.heap.size=z3 at*
    refine Q2z (Grows.same hF ?_)
    refine Qvz rfl fun k4=>?_
    replace hR:=hR.fut (Q0z (W6) k4)
    replace hF:=SF.out.fut hF (Q0z (W6) k4)
    replace hA:=hA.fut (Q0z (W6) k4)
    generalize World.drewN (W6) k4=W7 at hR hF hA ⊢
    have hone:(QBz id (ix.setWidth 32) (.slice none 0 0) (.int .u32 0) (.slice none 0 0)).toArray.all (·.oneCell')=true:=inCells_one rfl rfl rfl
    have hcl:(QBz id (ix.setWidth 32) (.slice none 0 0) (.int .u32 0) (.slice none 0 0)).length=36:=inCells_len HL.out _ _ _ _
    have HCL:=Lib.hid hcl
    have HA:=Lib.hid hA
    have HF:=Lib.hid hF
    have HR:=Lib.hid hR
    have hbr:=Below.refl z3 W7
    have hzs:=ZIn_size
    have HZS:=Lib.hid hzs
    obtain⟨cs,hcs⟩:∃cs,cs=QBz id (ix.setWidth 32) (.slice none 0 0) (.int .u32 0) (.slice none 0 0):=⟨_,rfl⟩
    have HCS:=Lib.hid hcs
    rw[←hcs]at hone HCL
    have e0:QBz id (ix.setWidth 32) (.slice none 0 0) (.int .u32 0) (.slice none 0 0)=cs:=hcs.symm
    simp only[e0]
    clear hcs hzs hcl hA hF hR e0 hz
    refine Q4z (o:=⟨none,_,_,_,_,_⟩) rfl 209 (.tmp 3) (.tmp 12) rfl z3 209 ZIn cs.toArray rfl rfl HA.out (by rw[List.size_toArray];exact QRz HCL.out) (HZS.out.trans (by rw[List.size_toArray];exact HCL.out.symm)) hone z3 W7 hbr (Nat.le_refl _) ?_
    intro W9 hB9 hb9 hg9 hs9
    have hst:=Stays.of_grown (S:=fun k=>k=z3) hg9.out (fun k h=>by injection h with h;exact h.symm)
    have hrw:Rw B g W7 (·=z3):=Xxz HA.out (by omega) (by decide)
    have hF9:(Stays (·=g) w W9∧Blk W9 w.heap.size 209 ZIn)∧Dat B g W9 (.slice (some ⟨bb,oo,none⟩) 32 c) id:=⟨⟨HF.out.1.1.trans hst fun k h1 h2=>by omega,HF.out.1.2.stays hst (by omega)⟩,HF.out.2.stays hst hrw⟩
    have hR9:=HR.out.stays hst hrw (by omega)
    have hB9':=hB9.out
    rw[HCS.out]at hB9'
    refine Q2z (Grows.same hF9 (XBz fun k9=>?_))
    exact⟨id,r1,ix,r2,z3,HT1,HT2,HL,Lib.hid (hR9.fut (Q0z _ _)),Lib.hid (hF9.1.1.drewN _),Lib.hid (hF9.1.2.drewN _),Lib.hid (hB9'.drewN _),Lib.hid hzz,_,_,_,_,_,_,_,_,_,_,_,_,_,_,_,_,_,_,rfl⟩
   case gAB=>
    replace hR:=hR.fut (Q0z (W2) k2)
    replace hF:=SF.out.fut hF (Q0z (W2) k2)
    generalize World.drewN (W2) k2=W3 at hR hF ⊢
    have hzz:w.heap.size<W3.heap.size:=hF.1.2.lt
    have hA:=Blk.new W3 209 ZIn
    have hq:=Q1z W3 (.cells ZIn 209)
    replace hF:=SF.out.fut hF hq
    replace hR:=hR.fut hq
    clear hq
    go_wp2_with fail
    generalize W3.alloc (.cells ZIn 209)=W4 at*
    generalize W3.heap.size=z3 at*
    refine Q2z (Grows.same hF ?_)
    refine Qvz rfl fun k3=>?_
    replace hR:=hR.fut (Q0z (W4) k3)
    replace hF:=SF.out.fut hF (Q0z (W4) k3)
    replace hA:=hA.fut (Q0z (W4) k3)
    generalize World.drewN (W4) k3=W5 at hR hF hA ⊢
    have hc:=XDz B g 4 (by omega) W5 r1 hR
    have HF:=Lib.hid hF
    have HA:=Lib.hid hA
    clear hR hF hA
    go_wp2_with fail
    refine hc.mono ?_
    intro e W6 h
    rcases h.cases with⟨ix,r2,HT2,v,rfl,hv,HR,HS⟩|⟨kk,HT2,rfl,HS⟩
    case inr=>
     go_wp2_with fail
     exact⟨kk,Lib.hid (by unfold inZ;rw[Pz.bind_ok HT1.out,Pz.bind_err HT2.out]),rfl,Lib.hid (SF.out _ _ HF.out HS.out).1.1,rfl⟩
    clear hc h
    subst hv
    have hF:=SF.out _ _ HF.out HS.out
    have hA:=HA.out.stays HS.out (by omega)
    have hR:=HR.out
    clear HF HS HR HA
    go_wp2_with fail
    refine Q2z (Grows.same hF ?_)
    refine' Qxz (s:=21) (A1:=_) [6,7,8] [_,_,_] _ rfl rfl rfl (fun W hW=>?hq4) _ hF (fun _=>?hr4)
    case hq4=>
     have ec:=Xoz ix
     try simp only[List.getElem_toArray,List.getElem_cons_zero,List.getElem_cons_succ]
     iterate 1 (go_big_quiet_step (fail))
     refine Xbz rfl 207 #[(0,.tmp 7),(1,.tmp 10)] rfl (Q5z id++[u32 (ix.setWidth 32)]).toArray ?_ ?_
     ·simp only[List.map_toArray,List.map_cons,List.map_nil]
      exact built_pt id HL.out (ix.setWidth 32)
     refine Xbz rfl 209 #[(0,.tmp 11)] rfl (QBz id (ix.setWidth 32) (.slice none 0 0) (.int .u32 0) (.slice none 0 0)).toArray ?_ ?_
     ·simp only[List.map_toArray,List.map_cons,List.map_nil]
      exact built_in id HL.out (ix.setWidth 32)
     refine wpQuiet_nil ?_
     rfl
    case hr4=>
    refine Qvz rfl fun k4=>?_
    replace hR:=hR.fut (Q0z (W6) k4)
    replace hF:=SF.out.fut hF (Q0z (W6) k4)
    replace hA:=hA.fut (Q0z (W6) k4)
    generalize World.drewN (W6) k4=W7 at hR hF hA ⊢
    have hone:(QBz id (ix.setWidth 32) (.slice none 0 0) (.int .u32 0) (.slice none 0 0)).toArray.all (·.oneCell')=true:=inCells_one rfl rfl rfl
    have hcl:(QBz id (ix.setWidth 32) (.slice none 0 0) (.int .u32 0) (.slice none 0 0)).length=36:=inCells_len HL.out _ _ _ _
    have HCL:=Lib.hid hcl
    have HA:=Lib.hid hA
    have HF:=Lib.hid hF
    have HR:=Lib.hid hR
    have hbr:=Below.refl z3 W7
    have hzs:=ZIn_size
    have HZS:=Lib.hid hzs
    obtain⟨cs,hcs⟩:∃cs,cs=QBz id (ix.setWidth 32) (.slice none 0 0) (.int .u32 0) (.slice none 0 0):=⟨_,rfl⟩
    have HCS:=Lib.hid hcs
    rw[←hcs]at hone HCL
    have e0:QBz id (ix.setWidth 32) (.slice none 0 0) (.int .u32 0) (.slice none 0 0)=cs:=hcs.symm
    simp only[e0]
    clear hcs hzs hcl hA hF hR e0 hz
    refine Q4z (o:=⟨none,_,_,_,_,_⟩) rfl 209 (.tmp 3) (.tmp 12) rfl z3 209 ZIn cs.toArray rfl rfl HA.out (by rw[List.size_toArray];exact QRz HCL.out) (HZS.out.trans (by rw[List.size_toArray];exact HCL.out.symm)) hone z3 W7 hbr (Nat.le_refl _) ?_
    intro W9 hB9 hb9 hg9 hs9
    have hst:=Stays.of_grown (S:=fun k=>k=z3) hg9.out (fun k h=>by injection h with h;exact h.symm)
    have hrw:Rw B g W7 (·=z3):=Xxz HA.out (by omega) (by decide)
    have hF9:(Stays (·=g) w W9∧Blk W9 w.heap.size 209 ZIn)∧Dat B g W9 (.slice (some ⟨bb,oo,none⟩) 32 c) id:=⟨⟨HF.out.1.1.trans hst fun k h1 h2=>by omega,HF.out.1.2.stays hst (by omega)⟩,HF.out.2.stays hst hrw⟩
    have hR9:=HR.out.stays hst hrw (by omega)
    have hB9':=hB9.out
    rw[HCS.out]at hB9'
    refine Q2z (Grows.same hF9 (XBz fun k9=>?_))
    exact⟨id,r1,ix,r2,z3,HT1,HT2,HL,Lib.hid (hR9.fut (Q0z _ _)),Lib.hid (hF9.1.1.drewN _),Lib.hid (hF9.1.2.drewN _),Lib.hid (hB9'.drewN _),Lib.hid hzz,_,_,_,_,_,_,_,_,_,_,_,_,_,_,_,_,_,_,rfl⟩
  case gB=>
   replace hR:=hR.fut (Q0z (w2) k1)
   replace hF:=SF.out.fut hF (Q0z (w2) k1)
   generalize World.drewN (w2) k1=W1 at hR hF ⊢
   have hzz:w.heap.size<W1.heap.size:=hF.2.lt
   have hA:=Blk.new W1 209 ZIn
   have hq:=Q1z W1 (.cells ZIn 209)
   replace hF:=SF.out.fut hF hq
   replace hR:=hR.fut hq
   clear hq
   go_wp2_with fail
   generalize W1.alloc (.cells ZIn 209)=W2 at*
   generalize W1.heap.size=z3 at*
   refine Q2z (Grows.same hF ?_)
   refine Qvz rfl fun k2=>?_
   replace hR:=hR.fut (Q0z (W2) k2)
   replace hF:=SF.out.fut hF (Q0z (W2) k2)
   replace hA:=hA.fut (Q0z (W2) k2)
   generalize World.drewN (W2) k2=W3 at hR hF hA ⊢
   have hc:=rdTake_any B g 32 (by omega) W3 s hR
   have HF:=Lib.hid hF
   have HA:=Lib.hid hA
   clear hR hF hA
   go_wp2_with fail
   refine hc.mono ?_
   intro e W4 h
   rcases h.cases with⟨id,r1,HT1,v,rfl,⟨hd,hl⟩,HR,HS⟩|⟨kk,HT1,rfl,HS⟩
   case inr=>
    go_wp2_with fail
    exact⟨kk,Lib.hid (by unfold inZ;rw[Pz.bind_err HT1.out]),rfl,Lib.hid (SF.out _ _ HF.out HS.out).1,rfl⟩
   clear hc h
   have hF:=SF.out _ _ HF.out HS.out
   have hA:=HA.out.stays HS.out (by omega)
   have hR:=HR.out
   have HL:=Lib.hid hl
   obtain⟨q,n,c,rfl,hn,hnc,hcm,hr,hp⟩:=hd.open
   obtain⟨bb,oo,rfl,_,_⟩:=hr (by intro e;rw[e]at hl;cases hl)
   have hn':n=32:=by omega
   subst hn'
   replace SF:=Lib.hid (SF.out.and (Stable.dat (B:=B) (g:=g) (v:=.slice (some ⟨bb,oo,none⟩) 32 c) (s:=id)))
   replace hF:=And.intro hF hd
   clear hr hp hn hl HF HS HR hd HA
   go_wp2_with fail
   refine Q2z (Grows.more (fun W=>(Stays (·=g) w W∧Blk W w.heap.size 209 ZIn)∧Dat B g W (.slice (some ⟨bb,oo,none⟩) 32 c) id) (fun W h=>h.1) hF ?_)
   refine' Qxz (s:=21) (A1:=_) [2,3] [_,_] _ rfl rfl rfl (fun W hW=>?hq5) _ hF (fun _=>?hr5)
   case hq5=>
    have ha:=fun w=>run_arr32 w bb oo c
    try simp only[List.getElem_toArray,List.getElem_cons_zero,List.getElem_cons_succ]
    iterate 1 (go_big_quiet_step (fail))
    refine Qtz rfl 32 (.tmp 6) rfl bb oo rfl (Q5z id) _ (fun w hw=>?_) Tryz.underlying32 rfl (by rw[Q5z,List.length_map,HL.out];kernel_rfl) ?_
    ·obtain⟨k,rfl⟩:=hw
     exact(Dat.range hW.2)
    refine wpQuiet_nil ?_
    rfl
   case hr5=>
   refine Qvz rfl fun k3=>?_
   replace hR:=hR.fut (Q0z (W4) k3)
   replace hF:=SF.out.fut hF (Q0z (W4) k3)
   replace hA:=hA.fut (Q0z (W4) k3)
   generalize World.drewN (W4) k3=W5 at hR hF hA ⊢
   have hc:=XDz B g 4 (by omega) W5 r1 hR
   have HF:=Lib.hid hF
   have HA:=Lib.hid hA
   clear hR hF hA
   go_wp2_with fail
   refine hc.mono ?_
   intro e W6 h
   rcases h.cases with⟨ix,r2,HT2,v,rfl,hv,HR,HS⟩|⟨kk,HT2,rfl,HS⟩
   case inr=>
    go_wp2_with fail
    exact⟨kk,Lib.hid (by unfold inZ;rw[Pz.bind_ok HT1.out,Pz.bind_err HT2.out]),rfl,Lib.hid (SF.out _ _ HF.out HS.out).1.1,rfl⟩
   clear hc h
   subst hv
   have hF:=SF.out _ _ HF.out HS.out
   have hA:=HA.out.stays HS.out (by omega)
   have hR:=HR.out
   clear HF HS HR HA
   go_wp2_with fail
   refine Q2z (Grows.same hF ?_)
   refine' Qxz (s:=21) (A1:=_) [6,7,8] [_,_,_] _ rfl rfl rfl (fun W hW=>?hq6) _ hF (fun _=>?hr6)
   case hq6=>
    have ec:=Xoz ix
    try simp only[List.getElem_toArray,List.getElem_cons_zero,List.getElem_cons_succ]
    iterate 1 (go_big_quiet_step (fail))
    refine Xbz rfl 207 #[(0,.tmp 7),(1,.tmp 10)] rfl (Q5z id++[u32 (ix.setWidth 32)]).toArray ?_ ?_
    ·simp only[List.map_toArray,List.map_cons,List.map_nil]
     exact built_pt id HL.out (ix.setWidth 32)
    refine Xbz rfl 209 #[(0,.tmp 11)] rfl (QBz id (ix.setWidth 32) (.slice none 0 0) (.int .u32 0) (.slice none 0 0)).toArray ?_ ?_
    ·simp only[List.map_toArray,List.map_cons,List.map_nil]
     exact built_in id HL.out (ix.setWidth 32)
    refine wpQuiet_nil ?_
    rfl
   case hr6=>
   refine Qvz rfl fun k4=>?_
   replace hR:=hR.fut (Q0z (W6) k4)
   replace hF:=SF.out.fut hF (Q0z (W6) k4)
   replace hA:=hA.fut (Q0z (W6) k4)
   generalize World.drewN (W6) k4=W7 at hR hF hA ⊢
   have hone:(QBz id (ix.setWidth 32) (.slice none 0 0) (.int .u32 0) (.slice none 0 0)).toArray.all (·.oneCell')=true:=inCells_one rfl rfl rfl
   have hcl:(QBz id (ix.setWidth 32) (.slice none 0 0) (.int .u32 0) (.slice none 0 0)).length=36:=inCells_len HL.out _ _ _ _
   have HCL:=Lib.hid hcl
   have HA:=Lib.hid hA
   have HF:=Lib.hid hF
   have HR:=Lib.hid hR
   have hbr:=Below.refl z3 W7
   have hzs:=ZIn_size
   have HZS:=Lib.hid hzs
   obtain⟨cs,hcs⟩:∃cs,cs=QBz id (ix.setWidth 32) (.slice none 0 0) (.int .u32 0) (.slice none 0 0):=⟨_,rfl⟩
   have HCS:=Lib.hid hcs
   rw[←hcs]at hone HCL
   have e0:QBz id (ix.setWidth 32) (.slice none 0 0) (.int .u32 0) (.slice none 0 0)=cs:=hcs.symm
   simp only[e0]
   clear hcs hzs hcl hA hF hR e0 hz
   refine Q4z (o:=⟨none,_,_,_,_,_⟩) rfl 209 (.tmp 3) (.tmp 12) rfl z3 209 ZIn cs.toArray rfl rfl HA.out (by rw[List.size_toArray];exact QRz HCL.out) (HZS.out.trans (by rw[List.size_toArray];exact HCL.out.symm)) hone z3 W7 hbr (Nat.le_refl _) ?_
   intro W9 hB9 hb9 hg9 hs9
   have hst:=Stays.of_grown (S:=fun k=>k=z3) hg9.out (fun k h=>by injection h with h;exact h.symm)
   have hrw:Rw B g W7 (·=z3):=Xxz HA.out (by omega) (by decide)
   have hF9:(Stays (·=g) w W9∧Blk W9 w.heap.size 209 ZIn)∧Dat B g W9 (.slice (some ⟨bb,oo,none⟩) 32 c) id:=⟨⟨HF.out.1.1.trans hst fun k h1 h2=>by omega,HF.out.1.2.stays hst (by omega)⟩,HF.out.2.stays hst hrw⟩
   have hR9:=HR.out.stays hst hrw (by omega)
   have hB9':=hB9.out
   rw[HCS.out]at hB9'
   refine Q2z (Grows.same hF9 (XBz fun k9=>?_))
   exact⟨id,r1,ix,r2,z3,HT1,HT2,HL,Lib.hid (hR9.fut (Q0z _ _)),Lib.hid (hF9.1.1.drewN _),Lib.hid (hF9.1.2.drewN _),Lib.hid (hB9'.drewN _),Lib.hid hzz,_,_,_,_,_,_,_,_,_,_,_,_,_,_,_,_,_,_,rfl⟩
 case imp=>
  intro e a W hM
  cases e with
  |normal=>
   obtain⟨id,r1,ix,r2,z3,HT1,HT2,HL,HR2,HS2,HZ2,HZ3,hzz,u1,u4,u5,u6,u7,u8,u9,u10,u11,u12,u13,u14,u15,u16,u17,u18,u19,u20,rfl⟩:=hM
   have HZZ:Hid (w.heap.size<z3):=hzz
   clear HR1 HF1 SF0
   clear hzz
   go_upto_region 2 with fail
   go_wp2_with fail
   refine(rdText_any B g W r2 HR2.out).mono ?_
   intro e W3 h
   rcases h.cases with⟨sc,r3,HT3,v3,rfl,ho3,HR3,HS3⟩|⟨kk,HT3,rfl,HS3⟩
   case inr=>
    go_wp2_with fail
    exact⟨rfl,RdP.bad (by unfold inZ;rw[Pz.bind_ok HT1.out,Pz.bind_ok HT2.out,Pz.bind_err HT3.out]) (HS2.out.trans HS3.out fun k _ hk=>hk)⟩
   obtain⟨q3,n3,c3,rfl,_⟩:=Own8.open ho3
   have hB2:=HZ2.out.stays HS3.out (by omega)
   have hB3:=HZ3.out.stays HS3.out (by have:=HZZ.out;omega)
   have f33:=hB3.frozen 33
   have c33:=hB3.cell 33
   rw[List.getElem?_toArray,inCells_at HL.out _ _ _ _ 1]at c33
   simp only[List.getElem?_cons_zero,List.getElem?_cons_succ]at c33
   have HB2:=Lib.hid hB2
   have HB3:=Lib.hid hB3
   have HO3:Hid (Own8 W3 B (.slice q3 n3 c3) sc):=Lib.hid ho3
   clear hB2 hB3 ho3
   go_upto_region 3 with fail
   have hst4:=Stays.set W3 z3 33 (.slice q3 n3 c3)
   have HB4:Hid (Blk (W3.setCell ⟨z3,33,none⟩ (.slice q3 n3 c3)) z3 209 (QBz id (ix.setWidth 32) (.slice q3 n3 c3) (.int .u32 0) (.slice none 0 0)).toArray):=Lib.hid (by
    have:=HB3.out.set 33 (.slice q3 n3 c3)
    rwa [(inCells_set id HL.out _ _ _ _ _).1]at this)
   have hsp:∀Ts:List TypeId,209∉Ts→Sep B Ts W3 (·=z3):=fun Ts hT=>Qiz HB3.out hT
   have HO4:Hid (Own8 (W3.setCell ⟨z3,33,none⟩ (.slice q3 n3 c3)) B (.slice q3 n3 c3) sc):=Lib.hid (HO3.out.sep hst4 (hsp _ (by decide)))
   have HR4:Hid (RdAt B g (W3.setCell ⟨z3,33,none⟩ (.slice q3 n3 c3)) r3):=Lib.hid (HR3.out.stays hst4 (Xxz HB3.out (by have:=HZZ.out;omega) (by decide)) (by have:=HZZ.out;omega))
   have HB24:Hid (Blk (W3.setCell ⟨z3,33,none⟩ (.slice q3 n3 c3)) w.heap.size 209 ZIn):=Lib.hid (HB2.out.stays hst4 (by have:=HZZ.out;omega))
   have HS4:Hid (Stays (·=g) w (W3.setCell ⟨z3,33,none⟩ (.slice q3 n3 c3))):=Lib.hid ((HS2.out.trans HS3.out fun k _ hk=>hk).trans hst4 fun k h1 h2=>by have:=HZZ.out;omega)
   clear hst4 hsp c33 f33 HS2 HR2 HZ2 HZ3 HR3 HS3 HB2 HB3 HO3
   generalize W3.setCell ⟨z3,33,none⟩ (.slice q3 n3 c3)=W4 at*
   go_wp2_with fail
   refine(XDz B g 4 (by omega) W4 r3 HR4.out).mono ?_
   intro e W5 h
   rcases h.cases with⟨sq,r4,HT4,v5,rfl,hv5,HR5,HS5⟩|⟨kk,HT4,rfl,HS5⟩
   case inr=>
    go_wp2_with fail
    exact⟨rfl,RdP.bad (by unfold inZ;rw[Pz.bind_ok HT1.out,Pz.bind_ok HT2.out,Pz.bind_ok HT3.out,Pz.bind_err HT4.out]) (HS4.out.trans HS5.out fun k _ hk=>hk)⟩
   subst hv5
   have ec:=Xoz sq
   have hB2:=HB24.out.stays HS5.out (by omega)
   have hB3:=HB4.out.stays HS5.out (by have:=HZZ.out;omega)
   have f34:=hB3.frozen 34
   have c34:=hB3.cell 34
   rw[List.getElem?_toArray,inCells_at HL.out _ _ _ _ 2]at c34
   simp only[List.getElem?_cons_zero,List.getElem?_cons_succ]at c34
   have HO5:Hid (Own8 W5 B (.slice q3 n3 c3) sc):=Lib.hid (HO4.out.sep HS5.out (Sep.low fun k hk=>by have:k=g:=hk;omega))
   have HB2:=Lib.hid hB2
   have HB3:=Lib.hid hB3
   clear hB2 hB3
   go_upto_region 4 with fail
   obtain⟨sqv,hsqv⟩:∃v,v=Value.int .u32 (iv32 (sq.setWidth 32)):=⟨_,rfl⟩
   rw[←hsqv]
   have HQ:=Lib.hid hsqv
   clear hsqv ec
   have hst6:=Stays.set W5 z3 34 sqv
   have HB6:Hid (Blk (W5.setCell ⟨z3,34,none⟩ sqv) z3 209 (QBz id (ix.setWidth 32) (.slice q3 n3 c3) sqv (.slice none 0 0)).toArray):=Lib.hid (by
    have:=HB3.out.set 34 sqv
    rwa [(inCells_set id HL.out _ _ _ _ _).2.1]at this)
   have HO6:Hid (Own8 (W5.setCell ⟨z3,34,none⟩ sqv) B (.slice q3 n3 c3) sc):=Lib.hid (HO5.out.sep hst6 (Qiz HB3.out (by decide)))
   have HR6:Hid (RdAt B g (W5.setCell ⟨z3,34,none⟩ sqv) r4):=Lib.hid (HR5.out.stays hst6 (Xxz HB3.out (by have:=HZZ.out;omega) (by decide)) (by have:=HZZ.out;omega))
   have HB26:Hid (Blk (W5.setCell ⟨z3,34,none⟩ sqv) w.heap.size 209 ZIn):=Lib.hid (HB2.out.stays hst6 (by have:=HZZ.out;omega))
   have HS6:Hid (Stays (·=g) w (W5.setCell ⟨z3,34,none⟩ sqv)):=Lib.hid ((HS4.out.trans HS5.out fun k _ hk=>hk).trans hst6 fun k h1 h2=>by have:=HZZ.out;omega)
   clear hst6 c34 f34 HS4 HB4 HB24 HO4 HR4 HS5 HR5 HO5 HB2 HB3
   generalize W5.setCell ⟨z3,34,none⟩ sqv=W6 at*
   have l6:=Qfz HB6.out
   have hone:(QBz id (ix.setWidth 32) (.slice q3 n3 c3) sqv (.slice none 0 0)).toArray.all (·.oneCell')=true:=inCells_one rfl (by rw[HQ.out];rfl) rfl
   obtain⟨cs,hcs⟩:∃cs,cs=QBz id (ix.setWidth 32) (.slice q3 n3 c3) sqv (.slice none 0 0):=⟨_,rfl⟩
   have hcl:cs.length=36:=by rw[hcs];exact inCells_len HL.out _ _ _ _
   rw[←hcs]at l6 hone
   have HCS:=Lib.hid hcs
   clear hcs
   have hzs:=ZIn_size
   have HZS:=Lib.hid hzs
   have HCL:=Lib.hid hcl
   have hbr:=Below.refl w.heap.size W6
   clear hzs hcl hz
   go_wp2_with(first
    |(with_reducible refine wpList_load_mid (op:=⟨some 20,_,_,_,_,_⟩) ?_ 209 (.tmp 3) ?_ (z3) (0) ?_ (cs) _ (l6) Tryz.underlying209 ?_ ?_ ?_
      ·rfl
      ·rfl
      ·rfl
      ·rfl
      ·exact((QRz HCL.out)))
    |(with_reducible refine Q4z (o:=⟨none,_,_,_,_,_⟩) ?_ 209 (.tmp 2) (.tmp 20) ?_ (w.heap.size) 209 (ZIn) (cs.toArray) ?_ ?_ (HB26.out) ?_ ?_ ?_ (w.heap.size) (W6) ?_ ?_ ?_
      ·rfl
      ·rfl
      ·rfl
      ·rfl
      ·exact(by rw[List.size_toArray];exact QRz HCL.out)
      ·exact(HZS.out.trans (by rw[List.size_toArray];exact HCL.out.symm))
      ·exact(hone)
      ·exact(hbr)
      ·exact(Nat.le_refl _)
      intro W7 hB7 hb7 hg7 hs7))
   refine bodyPost_ret (Qqz rfl _ _ _ w.heap.size _ cs _ rfl hB7.out Tryz.underlying209 rfl (QRz HCL.out)) rfl ?_
   have hst7:=Stays.of_grown (S:=fun k=>k=w.heap.size) hg7.out (fun k h=>by injection h with h;exact h.symm)
   have hsp:Sep B [5] W6 (·=w.heap.size):=Qiz HB26.out (by decide)
   refine RdP.ok (by unfold inZ;rw[Pz.bind_ok HT1.out,Pz.bind_ok HT2.out,Pz.bind_ok HT3.out,Pz.bind_ok HT4.out];rfl) ⟨cs,rfl,.slice q3 n3 c3,.slice none 0 0,?_,HL.out,HO6.out.sep hst7 hsp,RowO.nil _ _ _ _ _⟩ (HR6.out.stays hst7 (Xxz HB26.out hBw (by decide)) (by omega)) (HS6.out.trans hst7 fun k h1 h2=>by omega)
   rw[HCS.out,HQ.out]
   rfl
  |panic c=>
   obtain⟨k,hk,rfl,hs,hd⟩:=hM
   exact⟨hd,RdP.bad hk.out hs.out⟩
  |ret=>exact hM.elim
  |exit id=>exact hM.elim
  |goto l=>exact hM.elim
  |outgrown=>exact hM.elim
end
section
open Go Go.RowKit
theorem toInt_small (v:BitVec 64) (h:¬9223372036854775808≤v.toNat):v.toInt=iv64 v:=by
 have e:iv64 v=(v.toNat:Int):=rfl
 rw[e,BitVec.toInt_eq_toNat_cond,if_pos (by omega)]
theorem built_out (V sv:Value) (h1:V.cells=#[V]) (h2:sv.cells=#[sv]) (k:Int) (hV:V= .int .i64 k) (p:Option Addr) (n c:Nat) (hs:sv= .slice p n c):Tryz.prog.built 204 [(0,V),(1,sv)]=some #[V,sv]:=by
 subst hV hs
 kernel_rfl
theorem shr63 (v:BitVec 64):iv64 v / 9223372036854775808=if 9223372036854775808≤v.toNat then 1 else 0:=by
 have h:=v.isLt
 have e:iv64 v=(v.toNat:Int):=rfl
 rw[e]
 split<;>omega
theorem rdOut_any (B g:Nat) (w:World) (s:Bs) (h:RdAt B g w s):
 Calls Tryz.prog 162 #[.pointer (some ⟨g,0,none⟩)] w (RdP B g w outZ s fun w' a v=>∃cs,CellV v cs∧OutO B w' a cs):=by
 have hgB:g<B:=h.elim fun v h=>h.2.2.2.1
 have hBw:B≤w.heap.size:=h.elim fun v h=>h.2.2.2.2
 have hz:=zOut
 have HR1:=Lib.hid (h.fut (Q1z w (.cells #[.int .i64 0,.slice none 0 0] 204)))
 have HB1:=Lib.hid (Blk.new w 204 #[.int .i64 0,.slice none 0 0])
 have HS1:Hid (Stays (·=g) w (w.alloc (.cells #[.int .i64 0,.slice none 0 0] 204))):=Lib.hid (Stays.of_below (Q1z w _) (Nat.le_refl _) _)
 clear h
 go_enter Tryz.func162,Tryz.ntmps162
 go_upto_region 1 with fail
 generalize w.alloc (.cells #[.int .i64 0,.slice none 0 0] 204)=w1 at*
 go_wp2_with fail
 refine(XDz B g 8 (by omega) w1 s HR1.out).mono ?_
 intro e W2 h
 rcases h.cases with⟨n,r1,HT1,v,rfl,hv,HR2,HS2⟩|⟨kk,HT1,rfl,HS2⟩
 case inr=>
  go_wp2_with fail
  exact⟨rfl,RdP.bad (by unfold outZ;rw[Pz.bind_err HT1.out]) (HS1.out.trans HS2.out fun k _ hk=>hk)⟩
 subst hv
 go_upto_region 2 with fail
 have hsh:=shr63 n
 have HB2:=Lib.hid (HB1.out.stays HS2.out (by omega))
 have HS2':=Lib.hid (HS1.out.trans HS2.out fun k _ hk=>hk)
 clear HR1 HB1 HS1 hz HS2
 by_cases hbig:9223372036854775808≤n.toNat
 ·rw[if_pos hbig]at hsh
  have HBG:=Lib.hid hbig
  clear hbig
  go_wp2_with fail
  exact⟨rfl,RdP.bad (by unfold outZ;rw[Pz.bind_ok HT1.out,if_pos HBG.out];rfl) HS2'.out⟩
 ·rw[if_neg hbig]at hsh
  have HBG:=Lib.hid hbig
  have HW:=Lib.hid (toInt_small n hbig)
  clear hbig
  go_wp2_with fail
  refine(rdText_any B g W2 r1 HR2.out).mono ?_
  intro e W3 h
  rcases h.cases with⟨sc,r2,HT2,v3,rfl,ho3,HR3,HS3⟩|⟨kk,HT2,rfl,HS3⟩
  case inr=>
   go_wp2_with fail
   exact⟨rfl,RdP.bad (by unfold outZ;rw[Pz.bind_ok HT1.out,if_neg HBG.out,Pz.bind_err HT2.out]) (HS2'.out.trans HS3.out fun k _ hk=>hk)⟩
  obtain⟨q3,n3,c3,rfl,_⟩:=Own8.open ho3
  have HB3:=Lib.hid (HB2.out.stays HS3.out (by omega))
  have HO3:Hid (Own8 W3 B (.slice q3 n3 c3) sc):=Lib.hid ho3
  have hbt:=built_out (.int .i64 (iv64 n)) (.slice q3 n3 c3) rfl rfl (iv64 n) rfl q3 n3 c3 rfl
  have hbr:=Below.refl w.heap.size W3
  clear ho3 hsh
  go_wp2_with(with_reducible refine Qjz (o:=⟨some 14,_,_,_,_,_⟩) ?_ 204 #[(0,.tmp 11),(1,.tmp 13)] ?_ [(0,.int .i64 (iv64 n)),(1,.slice q3 n3 c3)] ?_ #[.int .i64 (iv64 n),.slice q3 n3 c3] hbt ?_
              ·rfl
              ·rfl
              ·rfl
              refine Q4z (o:=⟨none,_,_,_,_,_⟩) rfl 204 (.tmp 2) (.tmp 14) rfl w.heap.size 204 #[.int .i64 0,.slice none 0 0] #[.int .i64 (iv64 n),.slice q3 n3 c3] rfl rfl HB3.out (info_Outs (cs:=[.int .i64 (iv64 n),.slice q3 n3 c3]) rfl) rfl (by rw[List.all_toArray];rfl) w.heap.size W3 hbr (Nat.le_refl _) ?_
              intro W7 hB7 hb7 hg7 hs7)
  refine bodyPost_ret (Qqz rfl _ _ _ w.heap.size _ [.int .i64 (iv64 n),.slice q3 n3 c3] _ rfl hB7.out Tryz.underlying204 rfl (by kernel_rfl)) rfl ?_
  have hst7:=Stays.of_grown (S:=fun k=>k=w.heap.size) hg7.out (fun k h=>by injection h with h;exact h.symm)
  refine RdP.ok (by unfold outZ;rw[Pz.bind_ok HT1.out,if_neg HBG.out,Pz.bind_ok HT2.out];rfl) ⟨_,rfl,.slice q3 n3 c3,by rw[HW.out],HO3.out.sep hst7 (Qiz HB3.out (by decide))⟩ (HR3.out.stays hst7 (Xxz HB3.out hBw (by decide)) (by omega)) ((HS2'.out.trans HS3.out fun k _ hk=>hk).trans hst7 fun k h1 h2=>by omega)
theorem Xdz (s:Bs):insZ s=match X1z 2000 inZ s with
 | .ok (l,r)=>if l.length=0 then .error 51 else .ok (l,r)
 | .error e=>.error e:=by
 unfold insZ X1z
 cases hc:cntZ 2000 s with
 |error e=>rw[Pz.bind_err hc,Pz.bind_err hc]
 |ok x=>
  obtain⟨n,r⟩:=x
  rw[Pz.bind_ok hc,Pz.bind_ok hc]
  by_cases h0:n=0
  ·subst h0
   rfl
  ·rw[if_neg h0]
   cases hm:manyZ inZ n r with
   |error e=>rfl
   |ok y=>
    obtain⟨l,r'⟩:=y
    have:=(many_ok inZ_ok n _ _ _ hm).2.1
    simp only
    rw[if_neg (by omega)]
def contW (xs:List TIn) (ys:List TIn) (s:Bs):Except Int (List TIn × Bs):=match witsZ ys s with
 | .ok (l,r)=>.ok (xs++l,r)
 | .error e=>.error e
theorem contW_start (ys:List TIn) (s:Bs):witsZ ys s=contW [] ys s:=by
 unfold contW
 cases witsZ ys s with
 |error e=>rfl
 |ok x=>rfl
theorem contW_end (xs:List TIn) (s:Bs):contW xs [] s= .ok (xs,s):=by
 unfold contW witsZ Pz.ret
 simp
theorem contW_ok {xs ys:List TIn} {x:TIn} {s r:Bs} {a:List Bs} (h:X1z 100 textZ s= .ok (a,r)):contW xs (x ::ys) s=contW (xs++[{ x with wi:=a }]) ys r:=by
 unfold contW
 rw[show witsZ (x ::ys)=((X1z 100 textZ).bind fun w=>(witsZ ys).bind fun l=>Pz.ret ({ x with wi:=w } ::l))from rfl,Pz.bind_ok h]
 unfold Pz.bind
 cases witsZ ys r with
 |error e=>rfl
 |ok x=>simp[Pz.ret]
theorem contW_bad {xs ys:List TIn} {x:TIn} {s:Bs} {e:Int} (h:X1z 100 textZ s= .error e):contW xs (x ::ys) s= .error e:=by
 unfold contW
 rw[show witsZ (x ::ys)=((X1z 100 textZ).bind fun w=>(witsZ ys).bind fun l=>Pz.ret ({ x with wi:=w } ::l))from rfl,Pz.bind_err h]
theorem flat_set (N:Nat):∀(css:List (List Value)),(∀cs∈css,cs.length=N)→∀(i:Nat) (cs:List Value),css[i]? =some cs→∀j,j<N→∀u,css.flatten.set (i*N+j) u=(css.set i (cs.set j u)).flatten
 | [],_,i,cs,h,j,hj,u=>by cases h
 |c ::css,hl,i,cs,h,j,hj,u=>by
  have hc:=hl c (List.mem_cons_self ..)
  cases i with
  |zero=>
   rw[List.getElem?_cons_zero]at h
   injection h with h
   subst h
   rw[List.flatten_cons,Nat.zero_mul,Nat.zero_add,List.set_append_left _ _ (by omega),List.set_cons_zero,List.flatten_cons]
  |succ i=>
   rw[List.getElem?_cons_succ]at h
   rw[List.flatten_cons,List.set_append_right _ _ (by rw[Nat.succ_mul];omega),hc,Nat.succ_mul,show i*N+N+j-N=i*N+j by omega,List.set_cons_succ,List.flatten_cons,flat_set N css (fun cs h=>hl cs (List.mem_cons_of_mem _ h)) i cs h j hj u]
theorem RowO.poke {α:Type} {E:World→α→List Value→Prop} {T N B:Nat} {Ts:List TypeId} {w:World} {b n c k j:Nat} {xs:List α} (h:RowO E T N B w (.slice (some ⟨b,0,none⟩) n c) xs) (hE:KeepsO B Ts E) (hT:T∉Ts) {x x':α} {u:Value} (hx:xs[k]? =some x) (hj:j<N)
 (hx':∀cs,E w x cs→cs.length=N→E (w.setCell ⟨b,k*N+j,none⟩ u) x' (cs.set j u)):
 (∃cur,Blk w b T cur∧B≤b∧k*N+j<cur.size)∧RowO E T N B (w.setCell ⟨b,k*N+j,none⟩ u) (.slice (some ⟨b,0,none⟩) n c) (xs.set k x'):=by
 obtain⟨css,h1,h2,h3⟩:=h
 have hk:k<xs.length:=(List.getElem?_eq_some_iff.1 hx).1
 have hl:=css_len h1 h3
 rcases h2.2 with⟨e,_⟩|⟨g,cap,cur,e,hB,hh,hc1,hc2,hsz,htk⟩
 ·cases e
 ·injection e with e1 e2 e3
  injection e1 with e1
  injection e1 with e1
  subst e1 e2 e3
  have hb:Blk w b T cur:=hh
  have hlt:k*N+j<xs.length*N:=by
   have:=Nat.mul_le_mul_right N (show k+1≤xs.length by omega)
   rw[Nat.succ_mul]at this
   omega
  have hcN:=Nat.mul_le_mul_right N hc1
  have hst:=Stays.set w b (k*N+j) u
  have hsep:Sep B Ts w (·=b):=Qiz hb hT
  obtain⟨cs0,h40,h50,h60⟩:=h3 k x hx
  refine⟨⟨cur,hb,hB,by omega⟩,css.set k (cs0.set j u),by simp[h1],⟨?_,.inr ⟨b,c,cur.setIfInBounds (k*N+j) u,by simp,hB,hb.set _ _,?_,hc2,?_,?_⟩⟩,fun i y hy=>?_⟩
  ·rw[←flat_set N css hl k cs0 h40 j hj u,List.length_set,List.length_set]
   exact h2.1
  ·rw[List.length_set];exact hc1
  ·rw[Array.size_setIfInBounds];exact hsz
  ·rw[List.length_set,← flat_set N css hl k cs0 h40 j hj u,← htk,Array.toList_setIfInBounds,List.take_set]
  ·by_cases hik:i=k
   ·subst hik
    rw[List.getElem?_set_self hk]at hy
    injection hy with hy
    subst hy
    exact⟨cs0.set j u,by rw[List.getElem?_set_self (by omega)],hx' cs0 h50 h60,by rw[List.length_set];exact h60⟩
   ·rw[List.getElem?_set_ne (by omega)]at hy
    obtain⟨cs,h4,h5,h6⟩:=h3 i y hy
    exact⟨cs,by rw[List.getElem?_set_ne (by omega)];exact h4,hE _ _ _ _ _ h5 hst hsep,h6⟩
end
section
open Go Go.RowKit
def ZTx:List Value:=[.int .u32 0,.slice none 0 0,.slice none 0 0,.int .u32 0]
theorem zTx (w:World):(zeroValue 171).run Tryz.prog w= .ok (.agg ZTx.toArray) w:=zero_of (by kernel_rfl) w
theorem built_tx (k:Int):Tryz.prog.built 171 [(0,.int .u32 k)]=some #[.int .u32 k,.slice none 0 0,.slice none 0 0,.int .u32 0]:=by kernel_rfl
theorem rdText_cells (B g:Nat) (W:World) (s:Bs) (h:RdAt B g W s):Calls Tryz.prog 164 #[.pointer (some ⟨g,0,none⟩)] W (RdP B g W textZ s fun w' a v=>∃cs,CellV v cs∧TextO B w' a cs):=by
 refine(rdText_any B g W s h).mono ?_
 intro e w' h
 rcases h.cases with⟨a,r,H1,v,rfl,ho,H2,H3⟩|⟨k,H1,rfl,H2⟩
 ·refine RdP.ok H1.out ?_ H2.out H3.out
  obtain⟨p,n,c,rfl,_⟩:=Own8.open ho
  exact⟨[.slice p n c],rfl,_,rfl,ho⟩
 ·exact RdP.bad H1.out H2.out
theorem set_mid {α:Type} (xs ys:List α) (x x':α) (k:Nat) (hk:xs.length=k) (hx:ys[k]? =some x):(xs++ys.drop k).set k x'=(xs++[x'])++ys.drop (k+1):=by
 have hl:k<ys.length:=(List.getElem?_eq_some_iff.1 hx).1
 rw[List.drop_eq_getElem_cons hl,List.set_append_right _ _ (by omega),hk,Nat.sub_self,List.set_cons_zero,List.append_assoc]
 rfl
theorem at_mid {α:Type} (xs ys:List α) (k:Nat) (hk:xs.length=k):(xs++ys.drop k)[k]? =ys[k]? :=by
 rw[List.getElem?_append_right (by omega),hk,Nat.sub_self,List.getElem?_drop,Nat.add_zero]
theorem drop_mid {α:Type} (ys:List α) (k:Nat) (x:α) (hx:ys[k]? =some x):ys.drop k=x ::ys.drop (k+1):=by
 have hl:k<ys.length:=(List.getElem?_eq_some_iff.1 hx).1
 rw[List.drop_eq_getElem_cons hl]
 rw[List.getElem?_eq_getElem hl]at hx
 injection hx with hx
 rw[hx]
theorem RowO.blk {α:Type} {E:World→α→List Value→Prop} {T N B b n c:Nat} {w:World} {xs:List α} (h:RowO E T N B w (.slice (some ⟨b,0,none⟩) n c) xs):∃cur,Blk w b T cur∧B≤b∧cur.size=c*N∧n≤c:=by
 obtain⟨css,g1,g2,g3⟩:=h
 rcases g2.2 with⟨e',_⟩|⟨b',cap,cur',e',hBb,hh,hc1,_,hsz,_⟩
 ·cases e'
 ·injection e' with e1 e2 e3
  injection e1 with e1
  injection e1 with e1
  subst e1 e2 e3
  exact⟨cur',hh,hBb,hsz,hc1⟩
theorem inO_wit {B:Nat} {w w':World} {x:TIn} {cs:List Value} {S:Nat→Prop} {v:Value} {ws:List Bs} (h:InO B w x cs) (hs:Stays S w w') (hp:Sep B [5,26] w S) (hr:RowO (TextO B) 26 1 B w' v ws):InO B w' { x with wi:=ws } (cs.set 35 v):=by
 obtain⟨sv,wv,rfl,h1,h2,h3⟩:=h
 refine⟨sv,v,?_,h1,h2.sep hs (hp.mono (by simp)),hr⟩
 have hl:(Q5z x.id).length=32:=by simp[Q5z,h1]
 rw[List.set_append_right _ _ (by omega),hl]
 rfl
theorem rdTx_any (B g:Nat) (w:World) (s:Bs) (h:RdAt B g w s):
 Calls Tryz.prog 137 #[.pointer (some ⟨g,0,none⟩)] w (RdP B g w txZ s fun w' a v=>∃cs,v= .agg cs.toArray∧TxO B w' a cs):=by
 have hgB:g<B:=h.elim fun v h=>h.2.2.2.1
 have hBw:B≤w.heap.size:=h.elim fun v h=>h.2.2.2.2
 have hz:=zTx
 have HR1:=Lib.hid (h.fut (Q1z w (.cells ZTx.toArray 171)))
 have HB1:=Lib.hid (Blk.new w 171 ZTx.toArray)
 have HS1:Hid (Stays (·=g) w (w.alloc (.cells ZTx.toArray 171))):=Lib.hid (Stays.of_below (Q1z w _) (Nat.le_refl _) _)
 clear h
 go_enter Tryz.func137,Tryz.ntmps137
 go_upto_region 1 with fail
 generalize w.alloc (.cells ZTx.toArray 171)=w1 at*
 go_wp2_with fail
 refine(XDz B g 4 (by omega) w1 s HR1.out).mono ?_
 intro e W2 h
 rcases h.cases with⟨ve,r1,HT1,v,rfl,hv,HR2,HS2⟩|⟨kk,HT1,rfl,HS2⟩
 case inr=>
  go_wp2_with fail
  exact⟨rfl,RdP.bad (by unfold txZ;rw[Pz.bind_err HT1.out]) (HS1.out.trans HS2.out fun k _ hk=>hk)⟩
 subst hv
 have ec:=Xoz ve
 have hbt:=built_tx (iv32 (ve.setWidth 32))
 have HB2:=Lib.hid (HB1.out.stays HS2.out (by omega))
 have hbn:=Q1z W2 (.cells ZTx.toArray 171)
 have hnew:=Blk.new W2 171 ZTx.toArray
 have HS2':=Lib.hid (HS1.out.trans HS2.out fun k _ hk=>hk)
 clear HR1 HB1 HS1 HS2
 go_upto_region 2 with(first
  |(with_reducible refine Qjz (o:=⟨some 9,_,_,_,_,_⟩) ?_ 171 #[(0,.tmp 8)] ?_ [(0,.int .u32 (iv32 (ve.setWidth 32)))] ?_ #[.int .u32 (iv32 (ve.setWidth 32)),.slice none 0 0,.slice none 0 0,.int .u32 0] hbt ?_
    ·rfl
    ·rfl
    ·rfl)
  |(with_reducible refine Q4z (o:=⟨none,_,_,_,_,_⟩) ?_ 171 (.tmp 3) (.tmp 9) ?_ (W2.heap.size) 171 (ZTx.toArray) (#[.int .u32 (iv32 (ve.setWidth 32)),.slice none 0 0,.slice none 0 0,.int .u32 0]) ?_ ?_ (hnew) ?_ ?_ ?_ (W2.heap.size) (W2) ?_ ?_ ?_
    ·rfl
    ·rfl
    ·rfl
    ·rfl
    ·exact(QIz (cs:=[.int .u32 (iv32 (ve.setWidth 32)),.slice none 0 0,.slice none 0 0,.int .u32 0]) rfl)
    ·exact(rfl)
    ·exact((by rw[List.all_toArray];rfl))
    ·exact(hbn)
    ·exact(Nat.le_refl _)
    intro W3 hB3 hb3 hg3 hs3))
 have hzz:w.heap.size<W2.heap.size:=HB2.out.lt
 have HR3:=Lib.hid (HR2.out.fut hb3)
 have HB23:=Lib.hid (HB2.out.fut hb3)
 have HS3:Hid (Stays (·=g) w W3):=Lib.hid ((Stable.stays w).fut HS2'.out hb3)
 obtain⟨vv,hvv⟩:∃v,v=Value.int .u32 (iv32 (ve.setWidth 32)):=⟨_,rfl⟩
 rw[←hvv]at hB3 ⊢
 have HVV:=Lib.hid hvv
 have HB3:Hid (Blk W3 W2.heap.size 171 #[vv,.slice none 0 0,.slice none 0 0,.int .u32 0]):=hB3
 clear hvv hg3 hs3 hb3 hnew hbn hbt ec HR2 HB2 HS2' hB3 hz
 generalize W2.heap.size=z3 at*
 obtain⟨v1,q1,q2,q3,q4,q5⟩:=id HR3.out
 obtain⟨p1,n1,c1,rfl,hn1,hnc1,hcm1,hr1,hp1⟩:=q2.open
 have k0:=q1.cell 0
 simp only[List.getElem?_toArray,List.getElem?_cons_zero]at k0
 have HN1:=Lib.hid hn1
 clear q1 q2 q3 q4 q5 hn1
 by_cases h0:r1[0]? =some 0#8
 case neg=>
  have HTX:Hid (txZ s=bodyZ ve false r1):=Lib.hid (by
   unfold txZ
   rw[Pz.bind_ok HT1.out]
   exact Pz.bind_ok (by unfold markZ;rw[if_neg h0]))
  have HR5:=HR3
  by_cases hz0:n1=0
  ·subst hz0
   clear h0 hr1
   go_upto_region 5 with fail
   have hcap:Hid True:=Lib.hid trivial
   go_wp2_with fail
   refine(partsIns_any inZ 160 (enters_of Tryz.func160 (by kernel_rfl) rfl) B g 2000 (by omega) (fun W s' h=>rdIn_any B g W s' h) W3 r1 HR5.out).mono ?_
   intro e W6 h
   rcases h.cases with⟨is,r3,HT3,v6,rfl,⟨hrow6,hfr6⟩,HR6,HS6⟩|⟨kk,HT3,rfl,HS6⟩
   case inr=>
    go_wp2_with fail
    exact⟨rfl,RdP.bad (by rw[HTX.out];unfold bodyZ;rw[Pz.bind_err (by rw[Xdz,HT3.out])]) (HS3.out.trans HS6.out fun k _ hk=>hk)⟩
   obtain⟨p6,n6,c6,rfl,hn6,hnc6,hcm6,_,hp6⟩:=(hrow6.e (fun _ _ h=>h.c):ESl InC 36 W6 v6 is)
   have hB36:=HB3.out.stays HS6.out (by omega)
   have f1:=hB36.frozen 1
   have c1':=hB36.cell 1
   simp only[List.getElem?_toArray,List.getElem?_cons_zero,List.getElem?_cons_succ]at c1'
   have HB36:=Lib.hid hB36
   have HB26:=Lib.hid (HB23.out.stays HS6.out (by omega))
   have HI6:Hid (RowO (InO B) 209 36 B W6 (.slice p6 n6 c6) is):=Lib.hid hrow6
   have HFR:Hid (∀j,(Value.slice p6 n6 c6).ownBlock=some j→w.heap.size≤j):=Lib.hid (fun j hj=>by have:=hfr6 j hj;have:=HS3.out.size;omega)
   have HN6:=Lib.hid hn6
   clear hB36 hrow6 hfr6 hn6
   go_upto_region 6 with fail
   have hst:=Stays.set W6 z3 1 (.slice p6 n6 c6)
   have HB37:Hid (Blk (W6.setCell ⟨z3,1,none⟩ (.slice p6 n6 c6)) z3 171 #[vv,.slice p6 n6 c6,.slice none 0 0,.int .u32 0]):=Lib.hid (HB36.out.set 1 _)
   have HI7:=Lib.hid (HI6.out.sep (Qwz B) hst (Qiz HB36.out (by decide)))
   have HR7:=Lib.hid (HR6.out.stays hst (Xxz HB36.out (by omega) (by decide)) (by omega))
   have HB27:=Lib.hid (HB26.out.stays hst (by omega))
   have HS7:=Lib.hid ((HS3.out.trans HS6.out fun k _ hk=>hk).trans hst fun k h1 h2=>by omega)
   clear hst f1 c1' HB36 HI6 HR6 HB26 HS6 HR5 HB3 HB23 HS3
   generalize W6.setCell ⟨z3,1,none⟩ (.slice p6 n6 c6)=W7 at*
   have d1:=HB37.out.cell 1
   simp only[List.getElem?_toArray,List.getElem?_cons_zero,List.getElem?_cons_succ]at d1
   by_cases hn0:n6=0
   case pos=>
    subst hn0
    go_wp2_with fail
    exact⟨rfl,RdP.bad (by rw[HTX.out];unfold bodyZ;rw[Pz.bind_err (by rw[Xdz,HT3.out];simp only;rw[if_pos HN6.out])]) HS7.out⟩
   have HTI:Hid (insZ r1= .ok (is,r3)):=Lib.hid (by rw[Xdz,HT3.out];simp only;rw[if_neg (by rw[HN6.out];exact hn0)])
   have hn6b:n6≤2000:=by have:=(insZ_ok HTI.out).2.2.1;have:=HN6.out;omega
   have hne0:((n6:Int)==0)=false:=by rw[beq_eq_false_iff_ne];omega
   go_wp2_with fail
   refine(partsOuts_any outZ 162 (enters_of Tryz.func162 (by kernel_rfl) rfl) B g 2000 (by omega) (fun W s' h=>rdOut_any B g W s' h) W7 r3 HR7.out).mono ?_
   intro e W8 h
   rcases h.cases with⟨os,r4,HT4,v8,rfl,⟨hrow8,hfr8⟩,HR8,HS8⟩|⟨kk,HT4,rfl,HS8⟩
   case inr=>
    go_wp2_with fail
    exact⟨rfl,RdP.bad (by rw[HTX.out];unfold bodyZ;rw[Pz.bind_ok HTI.out,Pz.bind_err HT4.out]) (HS7.out.trans HS8.out fun k _ hk=>hk)⟩
   obtain⟨p8,n8,c8,rfl,_⟩:=(hrow8.e (fun _ _ h=>h.c):ESl OutC 2 W8 v8 os)
   have hB38:=HB37.out.stays HS8.out (by omega)
   have f2:=hB38.frozen 2
   have c2':=hB38.cell 2
   simp only[List.getElem?_toArray,List.getElem?_cons_zero,List.getElem?_cons_succ]at c2'
   have HB38:=Lib.hid hB38
   have HB28:=Lib.hid (HB27.out.stays HS8.out (by omega))
   have HO8:Hid (RowO (OutO B) 204 2 B W8 (.slice p8 n8 c8) os):=Lib.hid hrow8
   have HI8:=Lib.hid (HI7.out.sep (Qwz B) HS8.out (Sep.low fun k hk=>by have:k=g:=hk;omega))
   clear hB38 hrow8 hfr8 d1
   go_upto_region 9 with fail
   have hst:=Stays.set W8 z3 2 (.slice p8 n8 c8)
   have HB39:Hid (Blk (W8.setCell ⟨z3,2,none⟩ (.slice p8 n8 c8)) z3 171 #[vv,.slice p6 n6 c6,.slice p8 n8 c8,.int .u32 0]):=Lib.hid (HB38.out.set 2 _)
   have HI9:=Lib.hid (HI8.out.sep (Qwz B) hst (Qiz HB38.out (by decide)))
   have HO9:=Lib.hid (HO8.out.sep (Qyz B) hst (Qiz HB38.out (by decide)))
   have HR9:=Lib.hid (HR8.out.stays hst (Xxz HB38.out (by omega) (by decide)) (by omega))
   have HB29:=Lib.hid (HB28.out.stays hst (by omega))
   have HS9:=Lib.hid ((HS7.out.trans HS8.out fun k _ hk=>hk).trans hst fun k h1 h2=>by omega)
   clear hst f2 c2' HB38 HI8 HO8 HR8 HB28 HS8 HB37 HI7 HR7 HB27 HS7 hne0
   generalize W8.setCell ⟨z3,2,none⟩ (.slice p8 n8 c8)=W9 at*
   have HTW:Hid (witZ false is r4= .ok (is,r4)):=Lib.hid rfl
   go_wp2_with fail
   refine(XDz B g 4 (by omega) W9 r4 HR9.out).mono ?_
   intro e Wn h
   rcases h.cases with⟨lo,r5,HT5,vl,rfl,hvl,HRn,HSn⟩|⟨kk,HT5,rfl,HSn⟩
   case inr=>
    go_wp2_with fail
    exact⟨rfl,RdP.bad (by rw[HTX.out];unfold bodyZ;rw[Pz.bind_ok HTI.out,Pz.bind_ok HT4.out,Pz.bind_ok HTW.out,Pz.bind_err HT5.out]) (HS9.out.trans HSn.out fun k _ hk=>hk)⟩
   subst hvl
   have ec:=Xoz lo
   have hB3n:=HB39.out.stays HSn.out (by omega)
   have f3:=hB3n.frozen 3
   have c3':=hB3n.cell 3
   simp only[List.getElem?_toArray,List.getElem?_cons_zero,List.getElem?_cons_succ]at c3'
   have HB3n:=Lib.hid hB3n
   have HB2n:=Lib.hid (HB29.out.stays HSn.out (by omega))
   have HIn:=Lib.hid (HI9.out.sep (Qwz B) HSn.out (Sep.low fun k hk=>by have:k=g:=hk;omega))
   have HOn:=Lib.hid (HO9.out.sep (Qyz B) HSn.out (Sep.low fun k hk=>by have:k=g:=hk;omega))
   clear hB3n
   go_upto_region 18 with fail
   obtain⟨lv,hlv⟩:∃v,v=Value.int .u32 (iv32 (lo.setWidth 32)):=⟨_,rfl⟩
   rw[←hlv]
   have HLV:=Lib.hid hlv
   have hst:=Stays.set Wn z3 3 lv
   have HB3p:Hid (Blk (Wn.setCell ⟨z3,3,none⟩ lv) z3 171 #[vv,.slice p6 n6 c6,.slice p8 n8 c8,lv]):=Lib.hid (HB3n.out.set 3 _)
   have HIp:=Lib.hid (HIn.out.sep (Qwz B) hst (Qiz HB3n.out (by decide)))
   have HOp:=Lib.hid (HOn.out.sep (Qyz B) hst (Qiz HB3n.out (by decide)))
   have HRp:=Lib.hid (HRn.out.stays hst (Xxz HB3n.out (by omega) (by decide)) (by omega))
   have HB2p:=Lib.hid (HB2n.out.stays hst (by omega))
   have HSp:=Lib.hid ((HS9.out.trans HSn.out fun k _ hk=>hk).trans hst fun k h1 h2=>by omega)
   clear hst hlv f3 c3' ec HB3n HIn HOn HRn HB2n HSn HR9 HB39 HB29 HI9 HO9 HS9
   generalize Wn.setCell ⟨z3,3,none⟩ lv=Wp at*
   obtain⟨cs,hcs⟩:∃cs:List Value,cs=[vv,.slice p6 n6 c6,.slice p8 n8 c8,lv]:=⟨_,rfl⟩
   have l6:Wp.rangeAt z3 0 cs:=Qfz (by rw[hcs];exact HB3p.out)
   have hcl:cs.length=4:=by rw[hcs];rfl
   have hone:cs.toArray.all (·.oneCell')=true:=by rw[hcs,HVV.out,HLV.out,List.all_toArray];rfl
   have HCS:=Lib.hid hcs
   have HCL:=Lib.hid hcl
   have hsz:ZTx.toArray.size=cs.toArray.size:=by rw[List.size_toArray,List.size_toArray,hcl];rfl
   have hbr:=Below.refl w.heap.size Wp
   clear hcs hcl
   go_wp2_with(first
    |(with_reducible refine wpList_load_mid (op:=⟨some 68,_,_,_,_,_⟩) ?_ 171 (.tmp 3) ?_ (z3) (0) ?_ (cs) _ (l6) Tryz.underlying171 ?_ ?_ ?_
      ·rfl
      ·rfl
      ·rfl
      ·rfl
      ·exact((QIz HCL.out)))
    |(with_reducible refine Q4z (o:=⟨none,_,_,_,_,_⟩) ?_ 171 (.tmp 2) (.tmp 68) ?_ (w.heap.size) 171 (ZTx.toArray) (cs.toArray) ?_ ?_ (HB2p.out) ?_ ?_ ?_ (w.heap.size) (Wp) ?_ ?_ ?_
      ·rfl
      ·rfl
      ·rfl
      ·rfl
      ·exact(by rw[List.size_toArray];exact QIz HCL.out)
      ·exact(hsz)
      ·exact(hone)
      ·exact(hbr)
      ·exact(Nat.le_refl _)
      intro Wq hBq hbq hgq hsq))
   refine bodyPost_ret (Qqz rfl _ _ _ w.heap.size _ cs _ rfl hBq.out Tryz.underlying171 rfl (QIz HCL.out)) rfl ?_
   have hstq:=Stays.of_grown (S:=fun k=>k=w.heap.size) hgq.out (fun k h=>by injection h with h;exact h.symm)
   refine RdP.ok (a:=⟨ve.setWidth 32,is,os,lo.setWidth 32⟩) (by rw[HTX.out];unfold bodyZ;rw[Pz.bind_ok HTI.out,Pz.bind_ok HT4.out,Pz.bind_ok HTW.out,Pz.bind_ok HT5.out];rfl) ⟨cs,rfl,.slice p6 n6 c6,.slice p8 n8 c8,?_,HIp.out.sep (Qwz B) hstq (Qiz HB2p.out (by decide)),HOp.out.sep (Qyz B) hstq (Qiz HB2p.out (by decide))⟩ (HRp.out.stays hstq (Xxz HB2p.out hBw (by decide)) (by omega)) (HSp.out.trans hstq fun k h1 h2=>by omega)
   rw[HCS.out,HVV.out,HLV.out]
  ·have hlt:(0:Int)<(n1:Int):=by omega
   obtain⟨bb,of0,rfl,_,hcell⟩:=hr1 (fun e=>by have:=HN1.out;rw[e]at this;simp at this;omega)
   obtain⟨b,hb⟩:∃b,r1[0]? =some b:=⟨r1[0]'(by rw[HN1.out];omega),List.getElem?_eq_getElem _⟩
   have hx:W3.cell? ⟨bb,of0,none⟩=some (.int .u8 (iv8 b)):=hcell 0 b hb
   have hne:(iv8 b==0)=false:=by
    rw[beq_eq_false_iff_ne]
    intro e
    exact h0 (by rw[hb,iv8_inj.1 (e.trans (by rfl:(0:Int)=iv8 0#8))])
   clear h0 hr1 hcell hb
   go_upto_region 5 with fail
   clear hne hx
   have hcap:Hid True:=Lib.hid trivial
   go_wp2_with fail
   refine(partsIns_any inZ 160 (enters_of Tryz.func160 (by kernel_rfl) rfl) B g 2000 (by omega) (fun W s' h=>rdIn_any B g W s' h) W3 r1 HR5.out).mono ?_
   intro e W6 h
   rcases h.cases with⟨is,r3,HT3,v6,rfl,⟨hrow6,hfr6⟩,HR6,HS6⟩|⟨kk,HT3,rfl,HS6⟩
   case inr=>
    go_wp2_with fail
    exact⟨rfl,RdP.bad (by rw[HTX.out];unfold bodyZ;rw[Pz.bind_err (by rw[Xdz,HT3.out])]) (HS3.out.trans HS6.out fun k _ hk=>hk)⟩
   obtain⟨p6,n6,c6,rfl,hn6,hnc6,hcm6,_,hp6⟩:=(hrow6.e (fun _ _ h=>h.c):ESl InC 36 W6 v6 is)
   have hB36:=HB3.out.stays HS6.out (by omega)
   have f1:=hB36.frozen 1
   have c1':=hB36.cell 1
   simp only[List.getElem?_toArray,List.getElem?_cons_zero,List.getElem?_cons_succ]at c1'
   have HB36:=Lib.hid hB36
   have HB26:=Lib.hid (HB23.out.stays HS6.out (by omega))
   have HI6:Hid (RowO (InO B) 209 36 B W6 (.slice p6 n6 c6) is):=Lib.hid hrow6
   have HFR:Hid (∀j,(Value.slice p6 n6 c6).ownBlock=some j→w.heap.size≤j):=Lib.hid (fun j hj=>by have:=hfr6 j hj;have:=HS3.out.size;omega)
   have HN6:=Lib.hid hn6
   clear hB36 hrow6 hfr6 hn6
   go_upto_region 6 with fail
   have hst:=Stays.set W6 z3 1 (.slice p6 n6 c6)
   have HB37:Hid (Blk (W6.setCell ⟨z3,1,none⟩ (.slice p6 n6 c6)) z3 171 #[vv,.slice p6 n6 c6,.slice none 0 0,.int .u32 0]):=Lib.hid (HB36.out.set 1 _)
   have HI7:=Lib.hid (HI6.out.sep (Qwz B) hst (Qiz HB36.out (by decide)))
   have HR7:=Lib.hid (HR6.out.stays hst (Xxz HB36.out (by omega) (by decide)) (by omega))
   have HB27:=Lib.hid (HB26.out.stays hst (by omega))
   have HS7:=Lib.hid ((HS3.out.trans HS6.out fun k _ hk=>hk).trans hst fun k h1 h2=>by omega)
   clear hst f1 c1' HB36 HI6 HR6 HB26 HS6 HR5 HB3 HB23 HS3
   generalize W6.setCell ⟨z3,1,none⟩ (.slice p6 n6 c6)=W7 at*
   have d1:=HB37.out.cell 1
   simp only[List.getElem?_toArray,List.getElem?_cons_zero,List.getElem?_cons_succ]at d1
   by_cases hn0:n6=0
   case pos=>
    subst hn0
    go_wp2_with fail
    exact⟨rfl,RdP.bad (by rw[HTX.out];unfold bodyZ;rw[Pz.bind_err (by rw[Xdz,HT3.out];simp only;rw[if_pos HN6.out])]) HS7.out⟩
   have HTI:Hid (insZ r1= .ok (is,r3)):=Lib.hid (by rw[Xdz,HT3.out];simp only;rw[if_neg (by rw[HN6.out];exact hn0)])
   have hn6b:n6≤2000:=by have:=(insZ_ok HTI.out).2.2.1;have:=HN6.out;omega
   have hne0:((n6:Int)==0)=false:=by rw[beq_eq_false_iff_ne];omega
   go_wp2_with fail
   refine(partsOuts_any outZ 162 (enters_of Tryz.func162 (by kernel_rfl) rfl) B g 2000 (by omega) (fun W s' h=>rdOut_any B g W s' h) W7 r3 HR7.out).mono ?_
   intro e W8 h
   rcases h.cases with⟨os,r4,HT4,v8,rfl,⟨hrow8,hfr8⟩,HR8,HS8⟩|⟨kk,HT4,rfl,HS8⟩
   case inr=>
    go_wp2_with fail
    exact⟨rfl,RdP.bad (by rw[HTX.out];unfold bodyZ;rw[Pz.bind_ok HTI.out,Pz.bind_err HT4.out]) (HS7.out.trans HS8.out fun k _ hk=>hk)⟩
   obtain⟨p8,n8,c8,rfl,_⟩:=(hrow8.e (fun _ _ h=>h.c):ESl OutC 2 W8 v8 os)
   have hB38:=HB37.out.stays HS8.out (by omega)
   have f2:=hB38.frozen 2
   have c2':=hB38.cell 2
   simp only[List.getElem?_toArray,List.getElem?_cons_zero,List.getElem?_cons_succ]at c2'
   have HB38:=Lib.hid hB38
   have HB28:=Lib.hid (HB27.out.stays HS8.out (by omega))
   have HO8:Hid (RowO (OutO B) 204 2 B W8 (.slice p8 n8 c8) os):=Lib.hid hrow8
   have HI8:=Lib.hid (HI7.out.sep (Qwz B) HS8.out (Sep.low fun k hk=>by have:k=g:=hk;omega))
   clear hB38 hrow8 hfr8 d1
   go_upto_region 9 with fail
   have hst:=Stays.set W8 z3 2 (.slice p8 n8 c8)
   have HB39:Hid (Blk (W8.setCell ⟨z3,2,none⟩ (.slice p8 n8 c8)) z3 171 #[vv,.slice p6 n6 c6,.slice p8 n8 c8,.int .u32 0]):=Lib.hid (HB38.out.set 2 _)
   have HI9:=Lib.hid (HI8.out.sep (Qwz B) hst (Qiz HB38.out (by decide)))
   have HO9:=Lib.hid (HO8.out.sep (Qyz B) hst (Qiz HB38.out (by decide)))
   have HR9:=Lib.hid (HR8.out.stays hst (Xxz HB38.out (by omega) (by decide)) (by omega))
   have HB29:=Lib.hid (HB28.out.stays hst (by omega))
   have HS9:=Lib.hid ((HS7.out.trans HS8.out fun k _ hk=>hk).trans hst fun k h1 h2=>by omega)
   clear hst f2 c2' HB38 HI8 HO8 HR8 HB28 HS8 HB37 HI7 HR7 HB27 HS7 hne0
   generalize W8.setCell ⟨z3,2,none⟩ (.slice p8 n8 c8)=W9 at*
   have HTW:Hid (witZ false is r4= .ok (is,r4)):=Lib.hid rfl
   go_wp2_with fail
   refine(XDz B g 4 (by omega) W9 r4 HR9.out).mono ?_
   intro e Wn h
   rcases h.cases with⟨lo,r5,HT5,vl,rfl,hvl,HRn,HSn⟩|⟨kk,HT5,rfl,HSn⟩
   case inr=>
    go_wp2_with fail
    exact⟨rfl,RdP.bad (by rw[HTX.out];unfold bodyZ;rw[Pz.bind_ok HTI.out,Pz.bind_ok HT4.out,Pz.bind_ok HTW.out,Pz.bind_err HT5.out]) (HS9.out.trans HSn.out fun k _ hk=>hk)⟩
   subst hvl
   have ec:=Xoz lo
   have hB3n:=HB39.out.stays HSn.out (by omega)
   have f3:=hB3n.frozen 3
   have c3':=hB3n.cell 3
   simp only[List.getElem?_toArray,List.getElem?_cons_zero,List.getElem?_cons_succ]at c3'
   have HB3n:=Lib.hid hB3n
   have HB2n:=Lib.hid (HB29.out.stays HSn.out (by omega))
   have HIn:=Lib.hid (HI9.out.sep (Qwz B) HSn.out (Sep.low fun k hk=>by have:k=g:=hk;omega))
   have HOn:=Lib.hid (HO9.out.sep (Qyz B) HSn.out (Sep.low fun k hk=>by have:k=g:=hk;omega))
   clear hB3n
   go_upto_region 18 with fail
   obtain⟨lv,hlv⟩:∃v,v=Value.int .u32 (iv32 (lo.setWidth 32)):=⟨_,rfl⟩
   rw[←hlv]
   have HLV:=Lib.hid hlv
   have hst:=Stays.set Wn z3 3 lv
   have HB3p:Hid (Blk (Wn.setCell ⟨z3,3,none⟩ lv) z3 171 #[vv,.slice p6 n6 c6,.slice p8 n8 c8,lv]):=Lib.hid (HB3n.out.set 3 _)
   have HIp:=Lib.hid (HIn.out.sep (Qwz B) hst (Qiz HB3n.out (by decide)))
   have HOp:=Lib.hid (HOn.out.sep (Qyz B) hst (Qiz HB3n.out (by decide)))
   have HRp:=Lib.hid (HRn.out.stays hst (Xxz HB3n.out (by omega) (by decide)) (by omega))
   have HB2p:=Lib.hid (HB2n.out.stays hst (by omega))
   have HSp:=Lib.hid ((HS9.out.trans HSn.out fun k _ hk=>hk).trans hst fun k h1 h2=>by omega)
   clear hst hlv f3 c3' ec HB3n HIn HOn HRn HB2n HSn HR9 HB39 HB29 HI9 HO9 HS9
   generalize Wn.setCell ⟨z3,3,none⟩ lv=Wp at*
   obtain⟨cs,hcs⟩:∃cs:List Value,cs=[vv,.slice p6 n6 c6,.slice p8 n8 c8,lv]:=⟨_,rfl⟩
   have l6:Wp.rangeAt z3 0 cs:=Qfz (by rw[hcs];exact HB3p.out)
   have hcl:cs.length=4:=by rw[hcs];rfl
   have hone:cs.toArray.all (·.oneCell')=true:=by rw[hcs,HVV.out,HLV.out,List.all_toArray];rfl
   have HCS:=Lib.hid hcs
   have HCL:=Lib.hid hcl
   have hsz:ZTx.toArray.size=cs.toArray.size:=by rw[List.size_toArray,List.size_toArray,hcl];rfl
   have hbr:=Below.refl w.heap.size Wp
   clear hcs hcl
   go_wp2_with(first
    |(with_reducible refine wpList_load_mid (op:=⟨some 68,_,_,_,_,_⟩) ?_ 171 (.tmp 3) ?_ (z3) (0) ?_ (cs) _ (l6) Tryz.underlying171 ?_ ?_ ?_
      ·rfl
      ·rfl
      ·rfl
      ·rfl
      ·exact((QIz HCL.out)))
    |(with_reducible refine Q4z (o:=⟨none,_,_,_,_,_⟩) ?_ 171 (.tmp 2) (.tmp 68) ?_ (w.heap.size) 171 (ZTx.toArray) (cs.toArray) ?_ ?_ (HB2p.out) ?_ ?_ ?_ (w.heap.size) (Wp) ?_ ?_ ?_
      ·rfl
      ·rfl
      ·rfl
      ·rfl
      ·exact(by rw[List.size_toArray];exact QIz HCL.out)
      ·exact(hsz)
      ·exact(hone)
      ·exact(hbr)
      ·exact(Nat.le_refl _)
      intro Wq hBq hbq hgq hsq))
   refine bodyPost_ret (Qqz rfl _ _ _ w.heap.size _ cs _ rfl hBq.out Tryz.underlying171 rfl (QIz HCL.out)) rfl ?_
   have hstq:=Stays.of_grown (S:=fun k=>k=w.heap.size) hgq.out (fun k h=>by injection h with h;exact h.symm)
   refine RdP.ok (a:=⟨ve.setWidth 32,is,os,lo.setWidth 32⟩) (by rw[HTX.out];unfold bodyZ;rw[Pz.bind_ok HTI.out,Pz.bind_ok HT4.out,Pz.bind_ok HTW.out,Pz.bind_ok HT5.out];rfl) ⟨cs,rfl,.slice p6 n6 c6,.slice p8 n8 c8,?_,HIp.out.sep (Qwz B) hstq (Qiz HB2p.out (by decide)),HOp.out.sep (Qyz B) hstq (Qiz HB2p.out (by decide))⟩ (HRp.out.stays hstq (Xxz HB2p.out hBw (by decide)) (by omega)) (HSp.out.trans hstq fun k h1 h2=>by omega)
   rw[HCS.out,HVV.out,HLV.out]
 case pos=>
  have hlt:(0:Int)<(n1:Int):=by
   have:=(List.getElem?_eq_some_iff.1 h0).1
   have:=HN1.out
   omega
  obtain⟨bb,of0,rfl,_,hcell⟩:=hr1 (fun e=>by rw[e]at h0;cases h0)
  have hx:W3.cell? ⟨bb,of0,none⟩=some (.int .u8 0):=hcell 0 _ h0
  have H0:=Lib.hid h0
  clear h0 hr1 hcell
  go_upto_region 3 with fail
  clear hx
  go_wp2_with fail
  refine(rdTake_any B g 2 (by omega) W3 r1 HR3.out).mono ?_
  intro e W5 h
  rcases h.cases with⟨b2,r2,HT2,v5,rfl,⟨hd5,hl5⟩,HR5,HS5⟩|⟨kk,HT2,rfl,HS5⟩
  case inr=>
   go_wp2_with fail
   exact⟨rfl,RdP.bad (by unfold txZ;rw[Pz.bind_ok HT1.out];exact Pz.bind_err (by unfold markZ;rw[if_pos H0.out,Pz.bind_err HT2.out])) (HS3.out.trans HS5.out fun k _ hk=>hk)⟩
  obtain⟨x0,x1,rfl⟩:∃x0 x1,b2=[x0,x1]:=by
   match b2,hl5 with
   | [x,y],_=>exact⟨x,y,rfl⟩
  obtain⟨p5,n5,c5,rfl,hn5,hnc5,hcm5,hr5,hp5⟩:=hd5.open
  obtain⟨b5,o5,rfl,_,hcell5⟩:=hr5 (by simp)
  have hx5:W5.cell? ⟨b5,o5+1,none⟩=some (.int .u8 (iv8 x1)):=hcell5 1 x1 rfl
  have hn52:n5=2:=hn5.symm
  subst hn52
  have HS5':=Lib.hid (HS3.out.trans HS5.out fun k _ hk=>hk)
  have HB35:=Lib.hid (HB3.out.stays HS5.out (by omega))
  have HB25:=Lib.hid (HB23.out.stays HS5.out (by omega))
  clear HR3 HB3 HB23 HS3 hd5 hl5 hn5 hr5 hp5 hcell5
  by_cases h1:x1=1#8
  case neg=>
   have hne:(iv8 x1==1)=false:=by
    rw[beq_eq_false_iff_ne]
    intro e
    exact h1 (iv8_inj.1 (e.trans (by rfl:(1:Int)=iv8 1#8)))
   have H1:=Lib.hid h1
   clear h1
   go_wp2_with fail
   exact⟨rfl,RdP.bad (by
    unfold txZ
    rw[Pz.bind_ok HT1.out]
    refine Pz.bind_err ?_
    unfold markZ
    rw[if_pos H0.out,Pz.bind_ok HT2.out,if_neg (by simpa using H1.out)]
    rfl) HS5'.out⟩
  case pos=>
   have hx5':W5.cell? ⟨b5,o5+1,none⟩=some (.int .u8 1):=by rw[hx5,h1];rfl
   have HTX:Hid (txZ s=bodyZ ve true r2):=Lib.hid (by
    unfold txZ
    rw[Pz.bind_ok HT1.out]
    refine Pz.bind_ok ?_
    unfold markZ
    rw[if_pos H0.out,Pz.bind_ok HT2.out,if_pos (by simpa using h1)]
    rfl)
   clear hx5 h1
   go_upto_region 5 with fail
   clear hx5'
   have hcap:Hid True:=Lib.hid trivial
   go_wp2_with fail
   refine(partsIns_any inZ 160 (enters_of Tryz.func160 (by kernel_rfl) rfl) B g 2000 (by omega) (fun W s' h=>rdIn_any B g W s' h) W5 r2 HR5.out).mono ?_
   intro e W6 h
   rcases h.cases with⟨is,r3,HT3,v6,rfl,⟨hrow6,hfr6⟩,HR6,HS6⟩|⟨kk,HT3,rfl,HS6⟩
   case inr=>
    go_wp2_with fail
    exact⟨rfl,RdP.bad (by rw[HTX.out];unfold bodyZ;rw[Pz.bind_err (by rw[Xdz,HT3.out])]) (HS5'.out.trans HS6.out fun k _ hk=>hk)⟩
   obtain⟨p6,n6,c6,rfl,hn6,hnc6,hcm6,_,hp6⟩:=(hrow6.e (fun _ _ h=>h.c):ESl InC 36 W6 v6 is)
   have hB36:=HB35.out.stays HS6.out (by omega)
   have f1:=hB36.frozen 1
   have c1':=hB36.cell 1
   simp only[List.getElem?_toArray,List.getElem?_cons_zero,List.getElem?_cons_succ]at c1'
   have HB36:=Lib.hid hB36
   have HB26:=Lib.hid (HB25.out.stays HS6.out (by omega))
   have HI6:Hid (RowO (InO B) 209 36 B W6 (.slice p6 n6 c6) is):=Lib.hid hrow6
   have HFR:Hid (∀j,(Value.slice p6 n6 c6).ownBlock=some j→w.heap.size≤j):=Lib.hid (fun j hj=>by have:=hfr6 j hj;have:=HS5'.out.size;omega)
   have HN6:=Lib.hid hn6
   clear hB36 hrow6 hfr6 hn6
   go_upto_region 6 with fail
   have hst:=Stays.set W6 z3 1 (.slice p6 n6 c6)
   have HB37:Hid (Blk (W6.setCell ⟨z3,1,none⟩ (.slice p6 n6 c6)) z3 171 #[vv,.slice p6 n6 c6,.slice none 0 0,.int .u32 0]):=Lib.hid (HB36.out.set 1 _)
   have HI7:=Lib.hid (HI6.out.sep (Qwz B) hst (Qiz HB36.out (by decide)))
   have HR7:=Lib.hid (HR6.out.stays hst (Xxz HB36.out (by omega) (by decide)) (by omega))
   have HB27:=Lib.hid (HB26.out.stays hst (by omega))
   have HS7:=Lib.hid ((HS5'.out.trans HS6.out fun k _ hk=>hk).trans hst fun k h1 h2=>by omega)
   clear hst f1 c1' HB36 HI6 HR6 HB26 HS6 HR5 HB35 HB25 HS5'
   generalize W6.setCell ⟨z3,1,none⟩ (.slice p6 n6 c6)=W7 at*
   have d1:=HB37.out.cell 1
   simp only[List.getElem?_toArray,List.getElem?_cons_zero,List.getElem?_cons_succ]at d1
   by_cases hn0:n6=0
   case pos=>
    subst hn0
    go_wp2_with fail
    exact⟨rfl,RdP.bad (by rw[HTX.out];unfold bodyZ;rw[Pz.bind_err (by rw[Xdz,HT3.out];simp only;rw[if_pos HN6.out])]) HS7.out⟩
   have HTI:Hid (insZ r2= .ok (is,r3)):=Lib.hid (by rw[Xdz,HT3.out];simp only;rw[if_neg (by rw[HN6.out];exact hn0)])
   have hn6b:n6≤2000:=by have:=(insZ_ok HTI.out).2.2.1;have:=HN6.out;omega
   have hne0:((n6:Int)==0)=false:=by rw[beq_eq_false_iff_ne];omega
   go_wp2_with fail
   refine(partsOuts_any outZ 162 (enters_of Tryz.func162 (by kernel_rfl) rfl) B g 2000 (by omega) (fun W s' h=>rdOut_any B g W s' h) W7 r3 HR7.out).mono ?_
   intro e W8 h
   rcases h.cases with⟨os,r4,HT4,v8,rfl,⟨hrow8,hfr8⟩,HR8,HS8⟩|⟨kk,HT4,rfl,HS8⟩
   case inr=>
    go_wp2_with fail
    exact⟨rfl,RdP.bad (by rw[HTX.out];unfold bodyZ;rw[Pz.bind_ok HTI.out,Pz.bind_err HT4.out]) (HS7.out.trans HS8.out fun k _ hk=>hk)⟩
   obtain⟨p8,n8,c8,rfl,_⟩:=(hrow8.e (fun _ _ h=>h.c):ESl OutC 2 W8 v8 os)
   have hB38:=HB37.out.stays HS8.out (by omega)
   have f2:=hB38.frozen 2
   have c2':=hB38.cell 2
   simp only[List.getElem?_toArray,List.getElem?_cons_zero,List.getElem?_cons_succ]at c2'
   have HB38:=Lib.hid hB38
   have HB28:=Lib.hid (HB27.out.stays HS8.out (by omega))
   have HO8:Hid (RowO (OutO B) 204 2 B W8 (.slice p8 n8 c8) os):=Lib.hid hrow8
   have HI8:=Lib.hid (HI7.out.sep (Qwz B) HS8.out (Sep.low fun k hk=>by have:k=g:=hk;omega))
   clear hB38 hrow8 hfr8 d1
   go_upto_region 9 with fail
   have hst:=Stays.set W8 z3 2 (.slice p8 n8 c8)
   have HB39:Hid (Blk (W8.setCell ⟨z3,2,none⟩ (.slice p8 n8 c8)) z3 171 #[vv,.slice p6 n6 c6,.slice p8 n8 c8,.int .u32 0]):=Lib.hid (HB38.out.set 2 _)
   have HI9:=Lib.hid (HI8.out.sep (Qwz B) hst (Qiz HB38.out (by decide)))
   have HO9:=Lib.hid (HO8.out.sep (Qyz B) hst (Qiz HB38.out (by decide)))
   have HR9:=Lib.hid (HR8.out.stays hst (Xxz HB38.out (by omega) (by decide)) (by omega))
   have HB29:=Lib.hid (HB28.out.stays hst (by omega))
   have HS9:=Lib.hid ((HS7.out.trans HS8.out fun k _ hk=>hk).trans hst fun k h1 h2=>by omega)
   clear hst f2 c2' HB38 HI8 HO8 HR8 HB28 HS8 HB37 HI7 HR7 HB27 HS7 hne0
   generalize W8.setCell ⟨z3,2,none⟩ (.slice p8 n8 c8)=W9 at*
   obtain⟨R,hR⟩:∃R,R=witsZ is r4:=⟨_,rfl⟩
   have HRW:=Lib.hid hR
   have d1:=HB39.out.cell 1
   simp only[List.getElem?_toArray,List.getElem?_cons_zero,List.getElem?_cons_succ]at d1
   clear hR
   go_upto_region 11 with fail
   clear d1
   go_loopw[49] (fun i wr=>∃(k:Nat) (xs:List TIn) (sr:Bs),k≤n6∧i= .int .i64 k∧Hid (xs.length=k)∧Hid (contW xs (is.drop k) sr=R)∧Hid (RdAt B g wr sr)∧Hid (RowO (InO B) 209 36 B wr (.slice p6 n6 c6) (xs++is.drop k))∧Hid (Blk wr z3 171 #[vv,.slice p6 n6 c6,.slice p8 n8 c8,.int .u32 0])∧Hid (Blk wr w.heap.size 171 ZTx.toArray)∧Hid (RowO (OutO B) 204 2 B wr (.slice p8 n8 c8) os)∧Hid (Stays (·=g) w wr)) (fun i _=>n6-(intOf i).toNat)
   case atStart=>exact⟨0,[],r4,by omega,rfl,Lib.hid rfl,Lib.hid (by rw[HRW.out,List.drop_zero,contW_start is r4]),HR9,Lib.hid (by rw[List.drop_zero];exact HI9.out),HB39,HB29,HO9,HS9⟩
   case round=>
    obtain⟨k,xs,sr,hkn,rfl,HXL,HM,HRk,HIk,HB3k,HB2k,HOk,HSk⟩:=hrel
    by_cases hlt6:k<n6
    ·have hlk:(k:Int)<(n6:Int):=by omega
     obtain⟨x,hx⟩:∃x,is[k]? =some x:=⟨is[k]'(by rw[HN6.out];exact hlt6),List.getElem?_eq_getElem _⟩
     have HX:=Lib.hid hx
     obtain⟨b6,rfl⟩:∃b6,p6=some ⟨b6,0,none⟩:=by
      obtain⟨css,h1,h2,h3⟩:=HIk.out
      rcases h2.2 with⟨e,_⟩|⟨b6,_,_,e,_⟩
      ·injection e with _ e2 _;omega
      ·injection e with e1 _ _;exact⟨b6,e1⟩
     have hzk:z3≠b6:=fun e=>by
      obtain⟨cur,hc,_⟩:=HIk.out.blk
      rw[←e]at hc
      exact absurd (HB3k.out.inj hc).1 (by decide)
     clear hx
     go_upto_region 13 with fail
     refine region_planP [qq 0,qq 1,qq 2,qq 3,oo 4,qq 5,qq 6,oo 7] (fun W=>Blk W z3 171 #[vv,.slice (some ⟨b6,0,none⟩) n6 c6,.slice p8 n8 c8,.int .u32 0]) (by kernel_rfl) (by kernel_rfl) (by intro c a d v w h;cases a;cases d<;>exact h) (HB3k.out.fut (Q0z wr 1)) ?_
     refine' Q9z (s:=69) (A1:=_) [0,1,2,3] [_,_,_,_] _ rfl rfl rfl (fun W hW=>?hq1) _ (HB3k.out.fut (Q0z wr 1)) (fun _=>?hr1)
     case hq1=>
      have e1:∀k,(W.drewN k).cell? ⟨z3,1,none⟩=some (.slice (some ⟨b6,0,none⟩) n6 c6):=fun k=>by have:=hW.cell 1;simpa using this
      try simp only[List.getElem_toArray,List.getElem_cons_zero,List.getElem_cons_succ]
      iterate 4 (go_big_quiet_step (fail))
      refine wpQuiet_nil ?_
      rfl
     case hr1=>
     refine Qbz rfl fun k1=>?_
     have hdr:Below wr.heap.size wr (wr.drew.drewN k1):=Q7z (Below.refl _ _).drew k1
     have HRd:=Lib.hid (HRk.out.fut hdr)
     have HId:=Lib.hid (HIk.out.sep (Qwz B) (Stays.of_below hdr (Nat.le_refl _) (fun _=>False)) (fun _ h=>h.elim))
     have HOd:=Lib.hid (HOk.out.sep (Qyz B) (Stays.of_below hdr (Nat.le_refl _) (fun _=>False)) (fun _ h=>h.elim))
     have HB3d:=Lib.hid (HB3k.out.fut hdr)
     have HB2d:=Lib.hid (HB2k.out.fut hdr)
     have HSd:Hid (Stays (·=g) w (wr.drew.drewN k1)):=Lib.hid ((Stable.stays w).fut HSk.out hdr)
     clear HRk HIk HOk HB3k HB2k HSk hdr
     generalize wr.drew.drewN k1=wd at*
     go_wp2_with fail
     refine(partsTexts_any textZ 164 (enters_of Tryz.func164 (by kernel_rfl) rfl) B g 100 (by omega) (fun W s' h=>rdText_cells B g W s' h) wd sr HRd.out).mono ?_
     intro e We h
     rcases h.cases with⟨ws,sr',HTw,ve',rfl,⟨hrowe,hfre⟩,HRe,HSe⟩|⟨kk,HTw,rfl,HSe⟩
     case inr=>
      go_wp2_with fail
      refine⟨rfl,RdP.bad ?_ (HSd.out.trans HSe.out fun k _ hk=>hk)⟩
      rw[HTX.out]
      unfold bodyZ
      rw[Pz.bind_ok HTI.out,Pz.bind_ok HT4.out]
      refine Pz.bind_err ?_
      unfold witZ
      rw[if_pos rfl]
      refine Pz.bind_err ?_
      rw[←HRW.out,← HM.out,drop_mid is k x HX.out]
      exact contW_bad HTw.out
     obtain⟨pe,ne,ce,rfl,_⟩:=(hrowe.e (fun _ _ h=>h.c):ESl TextC 1 We ve' ws)
     have HMe:Hid (contW (xs++[{ x with wi:=ws }]) (is.drop (k+1)) sr'=R):=Lib.hid (by
      rw[←HM.out,drop_mid is k x HX.out]
      exact(contW_ok HTw.out).symm)
     have hI:=HId.out.sep (Qwz B) HSe.out (Sep.low fun k hk=>by have:k=g:=hk;omega)
     have hrowe':RowO (TextO B) 26 1 B We (.slice pe ne ce) ws:=hrowe
     have hpoke:=hI.poke (Ts:=[5,26]) (k:=k) (j:=35) (u:=.slice pe ne ce) (x:=x) (x':={ x with wi:=ws }) (Qwz B) (by decide) (by rw[at_mid xs is k HXL.out];exact HX.out) (by omega)
     have hbI:∃cur,Blk We b6 209 cur∧B≤b6∧k*36+35<cur.size:=by
      obtain⟨cur',hh,hBb,hsz,hc1⟩:=hI.blk
      refine⟨cur',hh,hBb,?_⟩
      have h1:=Nat.mul_le_mul_right 36 (show k+1≤c6 by omega)
      rw[Nat.succ_mul]at h1
      omega
     obtain⟨cur,hbl,hBb,hsz⟩:=hbI
     have hst:=Stays.set We b6 (k*36+35) (.slice pe ne ce)
     have hsepI:Sep B [5,26] We (·=b6):=Qiz hbl (by decide)
     obtain⟨_,hI2⟩:=hpoke (fun cs h1 h2=>inO_wit h1 hst hsepI (hrowe'.sep (XKz B) hst (hsepI.mono (by simp))))
     rw[set_mid xs is x _ k HXL.out HX.out]at hI2
     have HI2:=Lib.hid hI2
     have HO2:=Lib.hid ((HOd.out.sep (Qyz B) HSe.out (Sep.low fun k hk=>by have:k=g:=hk;omega)).sep (Qyz B) hst (Qiz hbl (by decide)))
     have hB3e:=HB3d.out.stays HSe.out (by omega)
     have HB3e:=Lib.hid hB3e
     have HB32:=Lib.hid (hB3e.stays hst hzk)
     have hwb:w.heap.size≤b6:=HFR.out b6 rfl
     have hwb2:w.heap.size≠b6:=fun e=>by
      have h2:=HB2d.out.stays HSe.out (by omega)
      rw[e]at h2
      exact absurd (h2.inj hbl).1 (by decide)
     have HB22:=Lib.hid ((HB2d.out.stays HSe.out (by omega)).stays hst hwb2)
     have HR2':=Lib.hid (HRe.out.stays hst (Xxz hbl hBb (by decide)) (by omega))
     have HS2':=Lib.hid ((HSd.out.trans HSe.out fun k _ hk=>hk).trans hst fun j h1 h2=>by omega)
     have cI:∃u,We.cell? ⟨b6,k*36+35,none⟩=some u:=⟨_,by rw[hbl.cell,Array.getElem?_eq_getElem hsz]⟩
     obtain⟨uI,cI⟩:=cI
     have fI:=hbl.frozen (k*36+35)
     clear hpoke hI hI2 hrowe hrowe' hfre hst hsepI HRd HId HOd HB3d HB2d HSd HRe HSe hbl hsz
     go_wp2_with fail
     refine Q2z (And.intro hB3e ?_)
     refine' Q9z (s:=69) (A1:=_) [5,6] [_,_] _ rfl rfl rfl (fun W hW=>?hq2) _ hB3e (fun _=>?hr2)
     case hq2=>
      try simp only[List.getElem_toArray,List.getElem_cons_zero,List.getElem_cons_succ]
      iterate 2 (go_big_quiet_step (fail))
      refine wpQuiet_nil ?_
      rfl
     case hr2=>
     refine Qbz rfl fun k2=>?_
     have cI2:(We.drewN k2).cell? ⟨b6,k*36+35,none⟩=some uI:=cI
     have fI2:(We.drewN k2).frozen? ⟨b6,k*36+35,none⟩=false:=fI
     clear hB3e
     go_wp2_with fail
     refine Q2z (And.intro (show Blk ((We.drewN k2).setCell ⟨b6,k*36+35,none⟩ (.slice pe ne ce)) z3 171 _ from HB32.out) ?_)
     refine Qnz fun k3=>?_
     have hd2:Below (We.setCell ⟨b6,k*36+35,none⟩ (.slice pe ne ce)).heap.size (We.setCell ⟨b6,k*36+35,none⟩ (.slice pe ne ce)) (((We.drewN k2).setCell ⟨b6,k*36+35,none⟩ (.slice pe ne ce)).drewN k3):=Q7z (Q7z (Below.refl _ _) k2) k3
     have HRf:=Lib.hid (HR2'.out.fut hd2)
     have HIf:=Lib.hid (HI2.out.sep (Qwz B) (Stays.of_below hd2 (Nat.le_refl _) (fun _=>False)) (fun _ h=>h.elim))
     have HOf:=Lib.hid (HO2.out.sep (Qyz B) (Stays.of_below hd2 (Nat.le_refl _) (fun _=>False)) (fun _ h=>h.elim))
     have HB3f:=Lib.hid (HB32.out.fut hd2)
     have HB2f:=Lib.hid (HB22.out.fut hd2)
     have HSf:=Lib.hid ((Stable.stays w).fut HS2'.out hd2)
     clear hd2 cI2 fI2 cI fI HR2' HI2 HO2 HB32 HB22 HS2' HB3e
     generalize((We.drewN k2).setCell ⟨b6,k*36+35,none⟩ (.slice pe ne ce)).drewN k3=wf at*
     go_wp2_with fail
     go_roundw
     case rel=>exact⟨k+1,xs++[{ x with wi:=ws }],sr',by omega,by go_num,Lib.hid (by rw[List.length_append,HXL.out];rfl),HMe,HRf,HIf,HB3f,HB2f,HOf,HSf⟩
     case measure=>simp[intOf];omega
    ·obtain rfl:k=n6:=by omega
     have hdr:is.drop k=[]:=List.drop_of_length_le (by have:=HN6.out;omega)
     rw[hdr]at HM HIk
     rw[List.append_nil]at HIk
     have HTWs:Hid (witsZ is r4= .ok (xs,sr)):=Lib.hid (by rw[←HRW.out,← HM.out,contW_end])
     obtain⟨cc,hcc⟩:∃cc:List Value,cc=[vv,.slice p6 k c6,.slice p8 n8 c8,.int .u32 0]:=⟨_,rfl⟩
     have HTC:Hid (TxC wr ⟨ve.setWidth 32,xs,os,0#32⟩ cc):=Lib.hid (by
      rw[hcc]
      exact⟨.slice p6 k c6,.slice p8 n8 c8,by rw[HVV.out];rfl,HIk.out.e fun _ _ h=>h.c,HOk.out.e fun _ _ h=>h.c⟩)
     have l3:wr.rangeAt z3 0 cc:=Qfz (by rw[hcc];exact HB3k.out)
     have hcl:cc.length=4:=by rw[hcc];rfl
     have HCL:=Lib.hid hcl
     have HCC:=Lib.hid hcc
     have hwt:=witnessed_any _ cc wr HTC.out
     simp only at hwt
     obtain⟨y,hy⟩:∃y,y=hasWs xs:=⟨_,rfl⟩
     rw[←hy]at hwt
     have HY:=Lib.hid hy
     clear hy hcc hcl hdr
     go_upto_region 15 with fail
     go_wp2_with((with_reducible refine wpList_load_mid (op:=⟨some 60,_,_,_,_,_⟩) ?_ 171 (.tmp 3) ?_ (z3) (0) ?_ (cc) _ (l3) Tryz.underlying171 ?_ ?_ ?_
                  ·rfl
                  ·rfl
                  ·rfl
                  ·rfl
                  ·exact((QIz HCL.out))))
     refine hwt.mono ?_
     rintro e Wa ⟨rfl,hba⟩
     have HRa:=Lib.hid (HRk.out.fut hba)
     have HB3a:=Lib.hid (HB3k.out.fut hba)
     have HB2a:=Lib.hid (HB2k.out.fut hba)
     have HIa:=Lib.hid (HIk.out.sep (Qwz B) (Stays.of_below hba (Nat.le_refl _) (fun _=>False)) (fun _ h=>h.elim))
     have HOa:=Lib.hid (HOk.out.sep (Qyz B) (Stays.of_below hba (Nat.le_refl _) (fun _=>False)) (fun _ h=>h.elim))
     have HSa:=Lib.hid ((Stable.stays w).fut HSk.out hba)
     clear hba l3 hwt HTC HRk HB3k HB2k HIk HOk HSk
     cases y with
     |false=>
      go_wp2_with fail
      refine⟨rfl,RdP.bad ?_ HSa.out⟩
      rw[HTX.out]
      unfold bodyZ
      rw[Pz.bind_ok HTI.out,Pz.bind_ok HT4.out]
      refine Pz.bind_err ?_
      unfold witZ
      rw[if_pos rfl,Pz.bind_ok HTWs.out,← HY.out]
      rfl
     |true=>
      have HTW:Hid (witZ true is r4= .ok (xs,sr)):=Lib.hid (by
       unfold witZ
       rw[if_pos rfl,Pz.bind_ok HTWs.out,← HY.out]
       rfl)
      go_upto_region 17 with fail
      go_wp2_with fail
      refine(XDz B g 4 (by omega) Wa sr HRa.out).mono ?_
      intro e Wn h
      rcases h.cases with⟨lo,r5,HT5,vl,rfl,hvl,HRn,HSn⟩|⟨kk,HT5,rfl,HSn⟩
      case inr=>
       go_wp2_with fail
       exact⟨rfl,RdP.bad (by rw[HTX.out];unfold bodyZ;rw[Pz.bind_ok HTI.out,Pz.bind_ok HT4.out,Pz.bind_ok HTW.out,Pz.bind_err HT5.out]) (HSa.out.trans HSn.out fun k _ hk=>hk)⟩
      subst hvl
      have ec:=Xoz lo
      have hB3n:=HB3a.out.stays HSn.out (by omega)
      have f3:=hB3n.frozen 3
      have c3':=hB3n.cell 3
      simp only[List.getElem?_toArray,List.getElem?_cons_zero,List.getElem?_cons_succ]at c3'
      have HB3n:=Lib.hid hB3n
      have HB2n:=Lib.hid (HB2a.out.stays HSn.out (by omega))
      have HIn:=Lib.hid (HIa.out.sep (Qwz B) HSn.out (Sep.low fun k hk=>by have:k=g:=hk;omega))
      have HOn:=Lib.hid (HOa.out.sep (Qyz B) HSn.out (Sep.low fun k hk=>by have:k=g:=hk;omega))
      clear hB3n
      go_upto_region 18 with fail
      obtain⟨lv,hlv⟩:∃v,v=Value.int .u32 (iv32 (lo.setWidth 32)):=⟨_,rfl⟩
      rw[←hlv]
      have HLV:=Lib.hid hlv
      have hst:=Stays.set Wn z3 3 lv
      have HB3p:Hid (Blk (Wn.setCell ⟨z3,3,none⟩ lv) z3 171 #[vv,.slice p6 k c6,.slice p8 n8 c8,lv]):=Lib.hid (HB3n.out.set 3 _)
      have HIp:=Lib.hid (HIn.out.sep (Qwz B) hst (Qiz HB3n.out (by decide)))
      have HOp:=Lib.hid (HOn.out.sep (Qyz B) hst (Qiz HB3n.out (by decide)))
      have HRp:=Lib.hid (HRn.out.stays hst (Xxz HB3n.out (by omega) (by decide)) (by omega))
      have HB2p:=Lib.hid (HB2n.out.stays hst (by omega))
      have HSp:=Lib.hid ((HSa.out.trans HSn.out fun k _ hk=>hk).trans hst fun k h1 h2=>by omega)
      clear hst hlv f3 c3' ec HB3n HIn HOn HRn HB2n HSn HRa HB3a HB2a HIa HOa HSa
      generalize Wn.setCell ⟨z3,3,none⟩ lv=Wp at*
      obtain⟨cs,hcs⟩:∃cs:List Value,cs=[vv,.slice p6 k c6,.slice p8 n8 c8,lv]:=⟨_,rfl⟩
      have l6:Wp.rangeAt z3 0 cs:=Qfz (by rw[hcs];exact HB3p.out)
      have hcl:cs.length=4:=by rw[hcs];rfl
      have hone:cs.toArray.all (·.oneCell')=true:=by rw[hcs,HVV.out,HLV.out,List.all_toArray];rfl
      have HCS:=Lib.hid hcs
      have HCL:=Lib.hid hcl
      have hsz:ZTx.toArray.size=cs.toArray.size:=by rw[List.size_toArray,List.size_toArray,hcl];rfl
      have hbr:=Below.refl w.heap.size Wp
      clear hcs hcl
      go_wp2_with(first
       |(with_reducible refine wpList_load_mid (op:=⟨some 68,_,_,_,_,_⟩) ?_ 171 (.tmp 3) ?_ (z3) (0) ?_ (cs) _ (l6) Tryz.underlying171 ?_ ?_ ?_
         ·rfl
         ·rfl
         ·rfl
         ·rfl
         ·exact((QIz HCL.out)))
       |(with_reducible refine Q4z (o:=⟨none,_,_,_,_,_⟩) ?_ 171 (.tmp 2) (.tmp 68) ?_ (w.heap.size) 171 (ZTx.toArray) (cs.toArray) ?_ ?_ (HB2p.out) ?_ ?_ ?_ (w.heap.size) (Wp) ?_ ?_ ?_
         ·rfl
         ·rfl
         ·rfl
         ·rfl
         ·exact(by rw[List.size_toArray];exact QIz HCL.out)
         ·exact(hsz)
         ·exact(hone)
         ·exact(hbr)
         ·exact(Nat.le_refl _)
         intro Wq hBq hbq hgq hsq))
      refine bodyPost_ret (Qqz rfl _ _ _ w.heap.size _ cs _ rfl hBq.out Tryz.underlying171 rfl (QIz HCL.out)) rfl ?_
      have hstq:=Stays.of_grown (S:=fun k=>k=w.heap.size) hgq.out (fun k h=>by injection h with h;exact h.symm)
      refine RdP.ok (a:=⟨ve.setWidth 32,xs,os,lo.setWidth 32⟩) (by rw[HTX.out];unfold bodyZ;rw[Pz.bind_ok HTI.out,Pz.bind_ok HT4.out,Pz.bind_ok HTW.out,Pz.bind_ok HT5.out];rfl) ⟨cs,rfl,.slice p6 k c6,.slice p8 n8 c8,?_,HIp.out.sep (Qwz B) hstq (Qiz HB2p.out (by decide)),HOp.out.sep (Qyz B) hstq (Qiz HB2p.out (by decide))⟩ (HRp.out.stays hstq (Xxz HB2p.out hBw (by decide)) (by omega)) (HSp.out.trans hstq fun k h1 h2=>by omega)
      rw[HCS.out,HVV.out,HLV.out]
end
section
open Go Go.RowKit
theorem assert_nil (w:World):(Instr.typeAssert .nilIface 20 27 true).run Tryz.prog w= .ok (.tuple #[.int .i64 0,.bool false]) w:=by
 kernel_rfl
theorem assert_errno (k:Int) (w:World):(Instr.typeAssert (.iface 27 (.int .i64 k)) 20 27 true).run Tryz.prog w= .ok (.tuple #[.int .i64 k,.bool true]) w:=by
 kernel_rfl
theorem catch_tmps (a b c:Value):#[a,b,c]++Array.replicate (Tryz.f136.ntmps- #[a,b,c].size) undef=#[a,b,c,undef,undef,undef,undef,undef,undef,undef,undef,undef,undef]:=by rfl
theorem catch_idle (z2 z3 z4:Nat) (w:World):
 CallsD Tryz.prog 136 #[.pointer (some ⟨z2,0,none⟩),.pointer (some ⟨z3,0,none⟩),.pointer (some ⟨z4,0,none⟩)] .returning w fun e u' w'=>e= .returned (.tuple #[])∧u'= .returning∧w'=w:=by
 refine callsD_of_wpS Tryz.func136 rfl fun c₀ cs hu=>?_
 have ht:=assert_nil
 have ht2:=assert_errno
 apply wpS_seq
 apply wpS_region
 show wpOpsS _ _ _ _ ⟨#[_,_,_]++Array.replicate (Tryz.f136.ntmps- #[_,_,_].size) undef,[]⟩ _ _
 rw[catch_tmps]
 simp[wpOpsS,go_sem,recoverD,hu,Exit.thenS,ht]
 refine wpS_of_wp ?_
 clear ht ht2
 go_wp2_with fail
 refine⟨rfl,.returning,?_,_,results_none rfl _ _ _,rfl,rfl,rfl⟩
 cases c₀
 simp only at hu
 rw[hu]
theorem catch_panic (z2 z3 z4:Nat) (k:Int) (w:World) (cs2:Array Value) (v3 v4:Value) (h2:Blk w z2 171 cs2) (h2s:cs2.size=4) (h3:Blk w z3 26 #[v3]) (h4:Blk w z4 27 #[v4]) (h23:z2≠z3) (h24:z2≠z4) (h34:z3≠z4):
 CallsD Tryz.prog 136 #[.pointer (some ⟨z2,0,none⟩),.pointer (some ⟨z3,0,none⟩),.pointer (some ⟨z4,0,none⟩)] (.panicking ({ v:=.iface 27 (.int .i64 k),recovered:=false } ::[])) w fun e u' w'=>
  e= .returned (.tuple #[])∧u'= .panicking ({ v:=.iface 27 (.int .i64 k),recovered:=true } ::[])∧Blk w' z2 171 ZTx.toArray∧Blk w' z3 26 #[.slice none 0 0]∧Blk w' z4 27 #[.int .i64 k]∧Stays (fun j=>j=z2∨j=z3∨j=z4) w w':=by
 refine callsD_of_wpS Tryz.func136 rfl fun c₀ cs hu=>?_
 have ht2:=assert_errno
 apply wpS_seq
 apply wpS_region
 show wpOpsS _ _ _ _ ⟨#[_,_,_]++Array.replicate (Tryz.f136.ntmps- #[_,_,_].size) undef,[]⟩ _ _
 rw[catch_tmps]
 simp[wpOpsS,go_sem,recoverD,hu,Exit.thenS,ht2]
 refine wpS_of_wp ?_
 clear ht2
 obtain⟨md,hmd⟩:∃md,md=FrameMode.panicking [{ v:=.iface 27 (.int .i64 k),recovered:=true }]:=⟨_,rfl⟩
 rw[←hmd]
 have hbt:Tryz.prog.built 171 []=some ZTx.toArray:=by kernel_rfl
 have hz1:cs2.size=ZTx.toArray.size:=h2s
 have hi:=QIz (cs:=ZTx) rfl
 have hbr:=Below.refl 0 w
 have H3:=Lib.hid h3
 have H4:=Lib.hid h4
 have HU:=Lib.hid hu
 clear hu h3 h4 hmd
 go_wp2_with(first
  |(with_reducible refine Qjz (o:=⟨some 11,_,_,_,_,_⟩) ?_ 171 #[] ?_ [] ?_ ZTx.toArray hbt ?_
    ·rfl
    ·rfl
    ·rfl)
  |(with_reducible refine Q4z (o:=⟨none,_,_,_,_,_⟩) ?_ 171 (.tmp 0) (.tmp 11) ?_ z2 171 cs2 ZTx.toArray ?_ ?_ h2 ?_ ?_ ?_ 0 w hbr (Nat.zero_le _) ?_
    ·rfl
    ·rfl
    ·rfl
    ·rfl
    ·exact hi
    ·exact hz1
    ·rw[List.all_toArray];rfl
    intro w5 hB5 hb5 hg5 hs5
    have hst5:=Stays.of_grown (S:=fun k=>k=z2) hg5.out (fun k h=>by injection h with h;exact h.symm)
    have h35:=H3.out.stays hst5 (fun h=>h23 h.symm)
    have h45:=H4.out.stays hst5 (fun h=>h24 h.symm)
    have c3:=h35.cell 0
    have f3:=h35.frozen 0
    have h456:=h45.stays (Stays.set w5 z3 0 (.slice none 0 0)) (fun h=>h34 h.symm)
    have c4:=h456.cell 0
    have f4:=h456.frozen 0
    simp only[List.getElem?_toArray,List.getElem?_cons_zero]at c3 c4))
 have hB5':=hB5.out
 refine⟨rfl,md,rfl,_,results_none rfl _ _ _,rfl,rfl,?_,?_,?_,?_⟩
 ·exact(hB5'.stays (Stays.set _ _ _ _) h23).stays (Stays.set _ _ _ _) h24
 ·exact((h35.set 0 _).stays (Stays.set _ _ _ _) h34)
 ·exact h456.set 0 _
 ·exact((hst5.mono (S':=fun j=>j=z2∨j=z3∨j=z4) fun _ _ h=>.inl h).trans (Stays.set w5 z3 0 _) (fun _ _ h=>.inr (.inl h))).trans (Stays.set _ z4 0 _) fun _ _ h=>.inr (.inr h)
theorem zTx_no8 (o:Nat) (x:BitVec 8):ZTx[o]? ≠some (u8 x):=by
 match o with
 |0=>intro h;cases h
 |1=>intro h;cases h
 |2=>intro h;cases h
 |3=>intro h;cases h
 |n+4=>intro h;cases h
theorem RowO.mono {α:Type} {E E':World→α→List Value→Prop} {T N B B':Nat} {w:World} {v:Value} {xs:List α} (h:RowO E T N B w v xs) (hE:∀x cs,E w x cs→E' w x cs) (hB:B'≤B):RowO E' T N B' w v xs:=by
 obtain⟨css,h1,h2,h3⟩:=h
 refine⟨css,h1,Qmz h2 hB,fun i x hx=>?_⟩
 obtain⟨cs,h4,h5,h6⟩:=h3 i x hx
 exact⟨cs,h4,hE _ _ h5,h6⟩
theorem TextO.mono {B B':Nat} {w:World} {x:Bs} {cs:List Value} (h:TextO B w x cs) (hB:B'≤B):TextO B' w x cs:=by obtain⟨v,h1,h2⟩:=h;exact⟨v,h1,Qmz h2 hB⟩
theorem InO.mono {B B':Nat} {w:World} {x:TIn} {cs:List Value} (h:InO B w x cs) (hB:B'≤B):InO B' w x cs:=by obtain⟨sv,wv,h1,h2,h3,h4⟩:=h;exact⟨sv,wv,h1,h2,Qmz h3 hB,h4.mono (fun _ _ h=>h.mono hB) hB⟩
theorem OutO.mono {B B':Nat} {w:World} {x:TOut} {cs:List Value} (h:OutO B w x cs) (hB:B'≤B):OutO B' w x cs:=by obtain⟨sv,h1,h2⟩:=h;exact⟨sv,h1,Qmz h2 hB⟩
theorem TxO.mono {B B':Nat} {w:World} {x:TTx} {cs:List Value} (h:TxO B w x cs) (hB:B'≤B):TxO B' w x cs:=by obtain⟨iv,ov,h1,h2,h3⟩:=h;exact⟨iv,ov,h1,h2.mono (fun _ _ h=>h.mono hB) hB,h3.mono (fun _ _ h=>h.mono hB) hB⟩
def txDecP (s:Bs):TTx × Bs × Int:=match txZ s with
 | .ok (t,r)=>(t,r,0)
 | .error k=>(⟨0#32,[],[],0#32⟩,[],k)
def DecTx (w:World) (x:TTx × Bs × Int) (e:Ending) (w':World):Prop:=∃cs v,e= .returned (.tuple #[.agg cs.toArray,v,.int .i64 x.2.2])∧TxO w.heap.size w' x.1 cs∧Own8 w' w.heap.size v x.2.1∧Below w.heap.size w w'
theorem results_cells3 {fn:Func} {p u v:Tmp} {ty tu tv:TypeId} (h:fn.results=#[.cell p ty,.cell u tu,.cell v tv]) (tmps:Array Value) (P:Program) (w:World) (g g2 g3:Nat) (t:TypeId) (cs:List Value) (x y:Value) (d:TypeDesc)
 (hp:tmps.getD p undef= .pointer (some ⟨g,0,none⟩)) (hu':tmps.getD u undef= .pointer (some ⟨g2,0,none⟩)) (hv':tmps.getD v undef= .pointer (some ⟨g3,0,none⟩)) (hg:Blk w g t cs.toArray) (hu:P.underlying ty=some d) (hd:d.isRow=true) (hi:(P.info? ty).map (·.size)=some cs.length)
 (h2:∀w',w'=w→(loadVar tu ⟨g2,0,none⟩).run P w'= .ok x w') (h3:∀w',w'=w→(loadVar tv ⟨g3,0,none⟩).run P w'= .ok y w'):
 (results fn tmps).run P w= .ok (.tuple #[.agg cs.toArray,x,y]) w:=by
 have hp':tmps[p]?.getD undef= .pointer (some ⟨g,0,none⟩):=by simpa using hp
 have hp2:tmps[u]?.getD undef= .pointer (some ⟨g2,0,none⟩):=by simpa using hu'
 have hp3:tmps[v]?.getD undef= .pointer (some ⟨g3,0,none⟩):=by simpa using hv'
 simp[results,h,hp',hp2,hp3,asAddr,run_loadVar_mid w g 0 ty cs d (Qfz hg) hu hd hi,h2 w rfl,h3 w rfl]
theorem txDecode_any (p:Option Addr) (n c:Nat) (s:Bs) (w:World) (hr:Row8 w p s) (hn:s.length=n) (hl:n≤c) (hb:c≤9223372036854775807) (hbig:n≤200000000000000) (hp:p=none→c=0):
 Calls Tryz.prog 112 #[.slice p n c] w (DecTx w (txDecP s)):=by
 have hmf:∀(fn:Fn) (first cap:Array Value) (w:World),(Instr.makeFunc fn first cap).run Tryz.prog w= .ok (.func fn first cap) w:=fun _ _ _ _=>rfl
 have hz:=zTx
 go_enter_defers Tryz.func112,Tryz.ntmps112
 go_upto_region 3 with fail
 obtain⟨z2,hz2⟩:∃z,z=w.heap.size:=⟨_,rfl⟩
 have HB2:=Lib.hid (((Blk.new w 171 ZTx.toArray).alloc (.cells #[.slice none 0 0] 26)).alloc (.cells #[.int .i64 0] 27) |>.alloc (.cells #[.slice p n c] 230))
 have HB3:=Lib.hid (((Blk.new (w.alloc (.cells ZTx.toArray 171)) 26 #[.slice none 0 0]).alloc (.cells #[.int .i64 0] 27)).alloc (.cells #[.slice p n c] 230))
 have HB4:=Lib.hid ((Blk.new ((w.alloc (.cells ZTx.toArray 171)).alloc (.cells #[.slice none 0 0] 26)) 27 #[.int .i64 0]).alloc (.cells #[.slice p n c] 230))
 have HBg:=Lib.hid (Blk.new (((w.alloc (.cells ZTx.toArray 171)).alloc (.cells #[.slice none 0 0] 26)).alloc (.cells #[.int .i64 0] 27)) 230 #[.slice p n c])
 have hbw:Below w.heap.size w ((((w.alloc (.cells ZTx.toArray 171)).alloc (.cells #[.slice none 0 0] 26)).alloc (.cells #[.int .i64 0] 27)).alloc (.cells #[.slice p n c] 230)):=
  (((Q1z w _).alloc (by simp only[World.size_alloc];omega) _).alloc (by simp only[World.size_alloc];omega) _).alloc (by simp only[World.size_alloc];omega) _
 have hsz:((((w.alloc (.cells ZTx.toArray 171)).alloc (.cells #[.slice none 0 0] 26)).alloc (.cells #[.int .i64 0] 27)).alloc (.cells #[.slice p n c] 230)).heap.size=w.heap.size+4:=by simp only[World.size_alloc]
 simp only[World.size_alloc]at HB3 HB4 HBg
 generalize(((w.alloc (.cells ZTx.toArray 171)).alloc (.cells #[.slice none 0 0] 26)).alloc (.cells #[.int .i64 0] 27)).alloc (.cells #[.slice p n c] 230)=W4 at*
 have HW:=Lib.hid hbw
 rw[←hz2]at HB2 HB3 HB4 HBg hsz ⊢
 obtain⟨z3,hz3⟩:∃z,z=z2+1:=⟨_,rfl⟩
 rw[←hz3]at HB3 HB4 HBg ⊢
 obtain⟨z4,hz4⟩:∃z,z=z3+1:=⟨_,rfl⟩
 rw[←hz4]at HB4 HBg ⊢
 obtain⟨g,hg⟩:∃z,z=z4+1:=⟨_,rfl⟩
 rw[←hg]at HBg ⊢
 obtain⟨B,hB⟩:∃B,B=z2+4:=⟨_,rfl⟩
 have HR:Hid (RdAt B g W4 s):=Lib.hid ⟨.slice p n c,HBg.out,⟨⟨p,n,c,rfl,hn,hl,by unfold maxLen;omega,hr.below hbw (Nat.le_refl _),hp⟩,fun h0 k hk=>by
  have hk2:k<w.heap.size:=by
   obtain⟨b,o,hp',hlt,_⟩:=hr h0
   rw[Xmz,hp']at hk
   injection hk with hk
   have hk':b=k:=hk
   omega
  exact⟨by omega,.inl (by omega)⟩⟩,by omega,by omega,by omega⟩
 clear HBg hbw hr hn hp
 have HZ2:=Lib.hid hz2
 have hzz:z2<z3∧z3<z4∧z4<g∧g<B:=by omega
 have hBw:w.heap.size≤B:=by omega
 clear hz3 hz4 hg hB hsz hz2
 have hcall:=rdTx_any B g W4 s HR.out
 go_wp2_with fail
 refine hcall.mono ?_
 intro e W5 h
 rcases h.cases with⟨t,r,HT,v,rfl,⟨cs,rfl,hE⟩,HR5,HS5⟩|⟨kk,HT,rfl,HS5⟩
 case inr=>
  go_wp2_with fail
  refine leaves_cons (f:=136) (args:=#[.pointer (some ⟨z2,0,none⟩),.pointer (some ⟨z3,0,none⟩),.pointer (some ⟨z4,0,none⟩)]) (by simp) (by simp[go_sem]) ?_
  refine(catch_panic z2 z3 z4 kk W5 _ _ _ (HB2.out.stays HS5.out (by omega)) rfl (HB3.out.stays HS5.out (by omega)) (HB4.out.stays HS5.out (by omega)) (by omega) (by omega) (by omega)).mono ?_
  rintro e u' w'' ⟨rfl,rfl,hb2,hb3,hb4,hst⟩
  have e3:=hb3.cell 0
  have e4:=hb4.cell 0
  simp only[List.getElem?_toArray,List.getElem?_cons_zero]at e3 e4
  refine⟨_,results_cells3 rfl _ _ _ z2 z3 z4 _ ZTx (.slice none 0 0) (.int .i64 kk) _ rfl rfl rfl hb2 Tryz.underlying171 rfl (QIz rfl) (by rintro w' rfl;simp[go_sem,e3]) (by rintro w' rfl;simp[go_sem,e4]),?_⟩
  have hP:txDecP s=(⟨0#32,[],[],0#32⟩,[],kk):=by unfold txDecP;rw[HT.out]
  rw[hP]
  refine⟨ZTx,_,rfl,⟨.slice none 0 0,.slice none 0 0,rfl,RowO.nil _ _ _ _ _,RowO.nil _ _ _ _ _⟩,own_none _ _,?_⟩
  have h1:Below w.heap.size W4 W5:=HS5.out.below HW.out.size (fun k hk=>by have:k=g:=hk;have:=HZ2.out;omega)
  have h2:Below w.heap.size W5 w'':=hst.below (by have:=HW.out.size;have:=HS5.out.size;omega) (fun k hk=>by have:=HZ2.out;rcases hk with h|h|h<;>omega)
  exact(HW.out.trans h1).trans h2
 obtain⟨vr,r1,r2,r3,_,rB⟩:=HR5.out
 obtain⟨pr,nr,cr,rfl,hnr,hncr,hcmr,hrr,hpr⟩:=r2.open
 have hB25:=HB2.out.stays HS5.out (by omega)
 have hst0:Row8 W5 pr r∧(r≠[]→∀a,pr=some a→a.block≠z2):=⟨hrr,fun h0 a ha hab=>by
  obtain⟨b,o,hp',_,hc⟩:=hrr h0
  rw[hp']at ha
  injection ha with ha
  subst ha
  have hab':b=z2:=hab
  subst hab'
  obtain⟨x,hx⟩:∃x,r[0]? =some x:=by
   cases r with
   |nil=>exact absurd rfl h0
   |cons x _=>exact⟨x,rfl⟩
  have h1:=hc 0 x hx
  rw[hB25.cell,List.getElem?_toArray]at h1
  exact zTx_no8 _ _ h1⟩
 have HROW:=Lib.hid hst0
 have HBG:=Lib.hid r1
 have HE:=Lib.hid hE
 have HB25:=Lib.hid hB25
 have HB35:=Lib.hid (HB3.out.stays HS5.out (by omega))
 have HB45:=Lib.hid (HB4.out.stays HS5.out (by omega))
 have HW5:Hid (Below w.heap.size w W5):=Lib.hid (HW.out.trans (HS5.out.below HW.out.size (fun k hk=>by have:k=g:=hk;have:=HZ2.out;omega)))
 have HNR:=Lib.hid hnr
 have HPR:=Lib.hid hpr
 have hlr:nr≤200000000000000:=by omega
 obtain⟨iv,ov,hcs,hrI,hrO⟩:=hE
 obtain⟨pi,ni,ci,rfl,_⟩:=(hrI.e (fun _ _ h=>h.c):ESl InC 36 W5 iv t.is)
 obtain⟨po,no,co,rfl,_⟩:=(hrO.e (fun _ _ h=>h.c):ESl OutC 2 W5 ov t.os)
 have hcl:cs.length=4:=by rw[hcs];rfl
 have hone:cs.toArray.all (·.oneCell')=true:=by rw[hcs,List.all_toArray];rfl
 have HCL:=Lib.hid hcl
 have hsz:ZTx.toArray.size=cs.toArray.size:=by rw[List.size_toArray,List.size_toArray,hcl];rfl
 have hbr:=Below.refl z2 W5
 clear hst0 r1 r2 r3 hrr hpr hnr hB25 hcs hrI hrO hcl HB2 HB3 HB4 HW HR HR5 HS5 h hcall
 go_upto_region 4 with((with_reducible refine Q4z (o:=⟨none,_,_,_,_,_⟩) ?_ 171 (.tmp 2) (.tmp 11) ?_ (z2) 171 (ZTx.toArray) (cs.toArray) ?_ ?_ (HB25.out) ?_ ?_ ?_ (z2) (W5) ?_ ?_ ?_
                        ·rfl
                        ·rfl
                        ·rfl
                        ·rfl
                        ·exact(by rw[List.size_toArray];exact QIz HCL.out)
                        ·exact(hsz)
                        ·exact(hone)
                        ·exact(hbr)
                        ·exact(Nat.le_refl _)
                        intro W6 hB6 hb6 hg6 hs6))
 have hst6:=Stays.of_grown (S:=fun k=>k=z2) hg6.out (fun k h=>by injection h with h;exact h.symm)
 have HR6:Hid (Row8 W6 pr r):=Lib.hid (HROW.out.1.stays hst6 (fun h0 a ha hk=>HROW.out.2 h0 a ha hk))
 have HBG6:=Lib.hid (HBG.out.stays hst6 (by omega))
 have HE6:=Lib.hid (QJz B _ _ _ _ _ HE.out hst6 (Sep.low fun k hk=>by have:k=z2:=hk;omega))
 have HB36:=Lib.hid (HB35.out.stays hst6 (by omega))
 have HB46:=Lib.hid (HB45.out.stays hst6 (by omega))
 have HW6:Hid (Below w.heap.size w W6):=Lib.hid (HW5.out.trans (hst6.below HW5.out.size (fun k hk=>by have:k=z2:=hk;have:=HZ2.out;omega)))
 have HBs:Hid (B≤W6.heap.size):=Lib.hid (Nat.le_trans rB hst6.size)
 clear HROW HBG HE HB25 HB35 HB45 HW5 hst6 hb6 hg6 hs6 hbr hsz
 simp only[Qpz]
 refine QAz [qq 1,qq 2,qq 3,qq 4,qq 0,oo 5,oo 6,oo 7,oo 8] (fun W=>Blk W z2 171 cs.toArray∧Blk W g 230 #[.slice pr nr cr]) (by kernel_rfl) (by kernel_rfl) ⟨hB6.out.fut (Q0z W6 1),HBG6.out.fut (Q0z W6 1)⟩ ?_
 refine' Q9z (s:=18) (A1:=_) [1,2,3,4,0] [_,_,_,_,_] _ rfl rfl rfl (fun W hW=>?hq1) _ ⟨hB6.out.fut (Q0z W6 1),HBG6.out.fut (Q0z W6 1)⟩ (fun _=>?hr1)
 case hq1=>
  have e1:∀k,(W.drewN k).cell? ⟨g,0,none⟩=some (.slice pr nr cr):=fun k=>by have:=hW.2.cell 0;simpa using this
  try simp only[List.getElem_toArray,List.getElem_cons_zero,List.getElem_cons_succ]
  iterate 4 (go_big_quiet_step (fail))
  refine Qtz rfl 171 (.tmp 2) rfl z2 0 rfl cs _ (fun w hw=>?_) Tryz.underlying171 rfl (QIz HCL.out) ?_
  ·obtain⟨k,rfl⟩:=hw
   exact Qfz hW.1
  refine wpQuiet_nil ?_
  rfl
 case hr1=>
 refine Qbz rfl fun k1=>?_
 have hdr:Below W6.heap.size W6 (W6.drew.drewN k1):=Q7z (Below.refl _ _).drew k1
 have HRa:=Lib.hid (HR6.out.fut hdr)
 have HBa:=Lib.hid (hB6.out.fut hdr)
 have HBGa:=Lib.hid (HBG6.out.fut hdr)
 have HEa:=Lib.hid (QJz B _ _ _ _ _ HE6.out (Stays.of_below hdr (Nat.le_refl _) (fun _=>False)) (fun _ h=>h.elim))
 have HB3a:=Lib.hid (HB36.out.fut hdr)
 have HB4a:=Lib.hid (HB46.out.fut hdr)
 have HWa:=Lib.hid (Q3z HW6.out hdr (Nat.le_refl _))
 have HBsa:=Lib.hid (Nat.le_trans HBs.out hdr.size)
 clear hB6 HR6 HBG6 HE6 HB36 HB46 HW6 HBs hdr
 generalize W6.drew.drewN k1=Wa at*
 go_wp2_with fail
 refine(X8z pr nr cr r Wa HRa.out HNR.out hlr (fun e=>by have:=HPR.out e;omega)).mono ?_
 rintro e Wb ⟨vb,rfl,hob,hbb⟩
 have HOb:=Lib.hid (Qmz hob HBsa.out:Own8 Wb B vb r)
 obtain⟨qb,nb,cb,rfl,_⟩:=Own8.open hob
 have hBb:=HBa.out.fut hbb
 have hBGb:=HBGa.out.fut hbb
 have HEb:=Lib.hid (QJz B _ _ _ _ _ HEa.out (Stays.of_below hbb (Nat.le_refl _) (fun _=>False)) (fun _ h=>h.elim))
 have HB3b:=Lib.hid (HB3a.out.fut hbb)
 have HB4b:=Lib.hid (HB4a.out.fut hbb)
 have HWb:=Lib.hid (Q3z HWa.out hbb (Nat.le_refl _))
 clear hob hbb HRa HBa HBGa HEa HB3a HB4a HWa HBsa
 go_wp2_with fail
 refine Q2z (And.intro ⟨hBb,hBGb⟩ ?_)
 refine Qbz rfl fun k2=>?_
 have hd2:=Q0z Wb k2
 have HOc:=Lib.hid (Own8.fut HOb.out hd2)
 have HBc:=Lib.hid (hBb.fut hd2)
 have HBGc:=Lib.hid (hBGb.fut hd2)
 have HEc:=Lib.hid (QJz B _ _ _ _ _ HEb.out (Stays.of_below hd2 (Nat.le_refl _) (fun _=>False)) (fun _ h=>h.elim))
 have HB3c:=Lib.hid (HB3b.out.fut hd2)
 have HB4c:=Lib.hid (HB4b.out.fut hd2)
 have HWc:=Lib.hid (Q3z HWb.out hd2 (Nat.le_refl _))
 clear HOb hBb hBGb HEb HB3b HB4b HWb hd2
 generalize Wb.drewN k2=Wc at*
 refine Q4z (o:=⟨none,_,_,_,_,_⟩) rfl 171 (.tmp 2) (.tmp 12) rfl z2 171 cs.toArray cs.toArray rfl rfl HBc.out (by rw[List.size_toArray];exact QIz HCL.out) rfl hone z2 Wc (Below.refl _ _) (Nat.le_refl _) ?_
 intro Wd hBd hbd hgd hsd
 have hst:=Stays.of_grown (S:=fun k=>k=z2) hgd.out (fun k h=>by injection h with h;exact h.symm)
 have HOd:=Lib.hid (Own8.sep HOc.out hst (Sep.low fun k hk=>by have:k=z2:=hk;omega))
 have HEd:=Lib.hid (QJz B _ _ _ _ _ HEc.out hst (Sep.low fun k hk=>by have:k=z2:=hk;omega))
 have hBGd:=HBGc.out.stays hst (by omega)
 have HB3d:=Lib.hid (HB3c.out.stays hst (by omega))
 have HB4d:=Lib.hid (HB4c.out.stays hst (by omega))
 have HWd:Hid (Below w.heap.size w Wd):=Lib.hid (HWc.out.trans (hst.below HWc.out.size (fun k hk=>by have:k=z2:=hk;have:=HZ2.out;omega)))
 clear hst HOc HBc HBGc HEc HB3c HB4c HWc hbd hgd hsd
 have hBd':=hBd.out
 refine Q2z (And.intro ⟨hBd',hBGd⟩ ?_)
 refine Qbz rfl fun k3=>?_
 have c3:(Wd.drewN k3).cell? ⟨z3,0,none⟩=some (.slice none 0 0):=by have:=HB3d.out.cell 0;simpa using this
 have f3:(Wd.drewN k3).frozen? ⟨z3,0,none⟩=false:=HB3d.out.frozen 0
 go_wp2_with fail
 have hs3:Stays (·=z3) Wd ((Wd.drewN k3).setCell ⟨z3,0,none⟩ (.slice qb nb cb)):=((Stays.refl (·=z3) Wd).drewN k3).setCell (a:=⟨z3,0,none⟩) (fun _=>rfl) _
 have HOe:=Lib.hid (Own8.sep HOd.out hs3 (Sep.low fun k hk=>by have:k=z3:=hk;omega))
 have HEe:=Lib.hid (QJz B _ _ _ _ _ HEd.out hs3 (Sep.low fun k hk=>by have:k=z3:=hk;omega))
 have hBGe:=hBGd.stays hs3 (by omega)
 have hBe:=hBd'.stays hs3 (by omega)
 have HB3e:=Lib.hid ((HB3d.out.drewN k3).set 0 (.slice qb nb cb))
 have HB4e:=Lib.hid (HB4d.out.stays hs3 (by omega))
 have HWe:Hid (Below w.heap.size w ((Wd.drewN k3).setCell ⟨z3,0,none⟩ (.slice qb nb cb))):=Lib.hid (HWd.out.trans (hs3.below HWd.out.size (fun k hk=>by have:k=z3:=hk;have:=HZ2.out;omega)))
 clear c3 f3 hs3 HOd HEd hBGd hBd' hBd HB3d HB4d HWd
 generalize(Wd.drewN k3).setCell ⟨z3,0,none⟩ (.slice qb nb cb)=We at*
 refine Q2z (And.intro ⟨hBe,hBGe⟩ ?_)
 refine Qbz rfl fun k4=>?_
 have c4:(We.drewN k4).cell? ⟨z4,0,none⟩=some (.int .i64 0):=by have:=HB4e.out.cell 0;simpa using this
 have f4:(We.drewN k4).frozen? ⟨z4,0,none⟩=false:=HB4e.out.frozen 0
 go_wp2_with fail
 have hs4:Stays (·=z4) We ((We.drewN k4).setCell ⟨z4,0,none⟩ (.int .i64 0)):=((Stays.refl (·=z4) We).drewN k4).setCell (a:=⟨z4,0,none⟩) (fun _=>rfl) _
 have HOf:=Lib.hid (Own8.sep HOe.out hs4 (Sep.low fun k hk=>by have:k=z4:=hk;omega))
 have HEf:=Lib.hid (QJz B _ _ _ _ _ HEe.out hs4 (Sep.low fun k hk=>by have:k=z4:=hk;omega))
 have hBGf:=hBGe.stays hs4 (by omega)
 have hBf:=hBe.stays hs4 (by omega)
 have HB3f:=Lib.hid (HB3e.out.stays hs4 (by omega))
 have HB4f:=Lib.hid ((HB4e.out.drewN k4).set 0 (.int .i64 0))
 have HWf:Hid (Below w.heap.size w ((We.drewN k4).setCell ⟨z4,0,none⟩ (.int .i64 0))):=Lib.hid (HWe.out.trans (hs4.below HWe.out.size (fun k hk=>by have:k=z4:=hk;have:=HZ2.out;omega)))
 clear c4 f4 hs4 HOe HEe hBGe hBe HB3e HB4e HWe
 generalize(We.drewN k4).setCell ⟨z4,0,none⟩ (.int .i64 0)=Wf at*
 refine Q2z (And.intro ⟨hBf,hBGf⟩ ?_)
 refine Qnz fun k5=>NoPanic.normal ?_
 have hd5:=Q0z Wf k5
 have HOg:=Lib.hid (Own8.fut HOf.out hd5)
 have HEg:=Lib.hid (QJz B _ _ _ _ _ HEf.out (Stays.of_below hd5 (Nat.le_refl _) (fun _=>False)) (fun _ h=>h.elim))
 have hBg:=hBf.fut hd5
 have HB3g:=Lib.hid (HB3f.out.fut hd5)
 have HB4g:=Lib.hid (HB4f.out.fut hd5)
 have HWg:=Lib.hid (Q3z HWf.out hd5 (Nat.le_refl _))
 clear hd5 HOf HEf hBf hBGf HB3f HB4f HWf
 generalize Wf.drewN k5=Wg at*
 go_wp2_with fail
 refine leaves_cons (f:=136) (args:=#[.pointer (some ⟨z2,0,none⟩),.pointer (some ⟨z3,0,none⟩),.pointer (some ⟨z4,0,none⟩)]) (by simp) (by simp[go_sem]) ?_
 refine(catch_idle z2 z3 z4 Wg).mono ?_
 rintro e u' w'' ⟨rfl,rfl,hw⟩
 replace hw:=hw.symm
 subst hw
 have e3:=HB3g.out.cell 0
 have e4:=HB4g.out.cell 0
 simp at e3 e4
 refine⟨_,results_cells3 rfl _ _ _ z2 z3 z4 _ cs (.slice qb nb cb) (.int .i64 0) _ rfl rfl rfl hBg Tryz.underlying171 rfl (QIz HCL.out) (by rintro w' rfl;simp[go_sem,e3]) (by rintro w' rfl;simp[go_sem,e4]),?_⟩
 have hP:txDecP s=(t,r,0):=by unfold txDecP;rw[HT.out]
 rw[hP]
 exact⟨cs,_,rfl,HEg.out.mono hBw,Qmz HOg.out hBw,HWg.out⟩
end
section
open Go Go.RowKit
theorem all_take {α:Type} (p:α→Bool) (xs:List α) (k:Nat) (x:α) (hx:xs[k]? =some x) (h0:(xs.take k).all p=true) (h1:p x=true):(xs.take (k+1)).all p=true:=by
 rw[List.take_add_one,hx,List.all_append,h0]
 simp[h1]
theorem all_miss {α:Type} (p:α→Bool) (xs:List α) (k:Nat) (x:α) (hx:xs[k]? =some x) (h1:p x=false):xs.all p=false:=by
 rw[List.all_eq_false]
 exact⟨x,List.mem_of_getElem? hx,by simp[h1]⟩
theorem canTx_not {t:TTx} (h:t.is.all canIn=false):canTx t=false:=by unfold canTx;rw[h];simp
theorem canTx_not2 {t:TTx} (h:t.os.all canOut=false):canTx t=false:=by unfold canTx;rw[h];simp
theorem ESl.at {α:Type} {E:World→α→List Value→Prop} {N:Nat} {w W:World} {p:Option Addr} {n c k:Nat} {xs:List α} (h:ESl E N w (.slice p n c) xs) (hb:Below w.heap.size w W) (hk:k<n):∃b off cs x,p=some ⟨b,off,none⟩∧xs[k]? =some x∧E w x cs∧W.rangeAt b (off+k*N) cs:=by
 obtain⟨p',n',c',e,h1,h2,h3,h4,h5⟩:=h
 injection e with e1 e2 e3
 subst e1 e2 e3
 have hx:=List.getElem?_eq_getElem (l:=xs) (i:=k) (by omega)
 obtain⟨b,off,rfl,hlt,hc⟩:=h4 (by intro e;subst e;simp at h1;omega)
 obtain⟨cs,h6,h7⟩:=hc k _ hx
 exact⟨b,off,cs,_,rfl,hx,h6,XEz h7 hb hlt⟩
theorem ESl.slen {α:Type} {E:World→α→List Value→Prop} {N:Nat} {w:World} {p:Option Addr} {n c:Nat} {xs:List α} (h:ESl E N w (.slice p n c) xs):xs.length=n∧n≤c∧c≤9223372036854775807:=by
 obtain⟨p',n',c',e,h1,h2,h3,h4,h5⟩:=h
 injection e with e1 e2 e3
 subst e1 e2 e3
 exact⟨h1,h2,by unfold maxLen at h3;omega⟩
theorem ESl.opens {α:Type} {E:World→α→List Value→Prop} {N:Nat} {w:World} {v:Value} {xs:List α} (h:ESl E N w v xs):∃p n c,v= .slice p n c:=by
 obtain⟨p',n',c',e,_⟩:=h
 exact⟨_,_,_,e⟩
theorem Sl.slen {w:World} {p:Option Addr} {n c:Nat} {bs:Bs} (h:Sl w (.slice p n c) bs):bs.length=n∧n≤c∧c≤9223372036854775807:=by
 obtain⟨p',n',c',e,h1,h2,h3,h4,h5⟩:=h
 injection e with e1 e2 e3
 subst e1 e2 e3
 exact⟨h1,h2,by unfold maxLen at h3;omega⟩
theorem Sl.opens {w:World} {v:Value} {bs:Bs} (h:Sl w v bs):∃p n c,v= .slice p n c:=by
 obtain⟨p',n',c',e,_⟩:=h
 exact⟨_,_,_,e⟩
theorem refCan_any (t:TTx) (cs:List Value) (w:World) (h:TxC w t cs):Calls Tryz.prog 125 #[.agg cs.toArray] w fun e w'=>e= .returned (.bool (canTx t))∧Below w.heap.size w w':=by
 obtain⟨iv,ov,rfl,hi,ho⟩:=h
 obtain⟨r,hr⟩:∃r,r=canTx t:=⟨_,rfl⟩
 rw[←hr]
 have HR:=Lib.hid hr
 obtain⟨pi,n,ci,rfl⟩:=hi.opens
 obtain⟨po,m,co,rfl⟩:=ho.opens
 have HI:=Lib.hid hi
 have HO:=Lib.hid ho
 obtain⟨hn,hnc,hcm⟩:=hi.slen
 obtain⟨hm,hmc,hcm2⟩:=ho.slen
 obtain⟨vv,hvv⟩:∃v,v=u32 t.ve:=⟨_,rfl⟩
 obtain⟨vl,hvl⟩:∃v,v=u32 t.lo:=⟨_,rfl⟩
 rw[←hvv,← hvl]
 have HN:=Lib.hid hn
 have HM:=Lib.hid hm
 have hb1:=Q1z w (.cells #[vv,.slice pi n ci,.slice po m co,vl] 171)
 have HB1:=Lib.hid (Blk.new w 171 #[vv,.slice pi n ci,.slice po m co,vl])
 clear hr hi ho hn hm hvv hvl
 go_enter Tryz.func125,Tryz.ntmps125
 go_upto_region 1 with fail
 generalize w.alloc (.cells #[vv,.slice pi n ci,.slice po m co,vl] 171)=w1 at*
 have HW1:=Lib.hid hb1
 have c1:=HB1.out.cell 1
 have c2:=HB1.out.cell 2
 simp only[List.getElem?_toArray,List.getElem?_cons_zero,List.getElem?_cons_succ]at c1 c2
 by_cases h1:n<1
 ·have hl:(n:Int)<1:=by omega
  go_wp2_with fail
  go_ret
  exact⟨by rw[HR.out];unfold canTx;rw[HN.out];simp;omega,HW1.out⟩
 have hl1:¬(n:Int)<1:=by omega
 by_cases h2:2000<n
 ·have hl2:(2000:Int)<(n:Int):=by omega
  go_wp2_with fail
  go_ret
  exact⟨by rw[HR.out];unfold canTx;rw[HN.out];simp;omega,HW1.out⟩
 have hl2:¬(2000:Int)<(n:Int):=by omega
 by_cases h3:2000<m
 ·have hl3:(2000:Int)<(m:Int):=by omega
  go_wp2_with fail
  go_ret
  exact⟨by rw[HR.out];unfold canTx;rw[HN.out,HM.out];simp;omega,HW1.out⟩
 have hl3:¬(2000:Int)<(m:Int):=by omega
 have h1':1≤n:=by omega
 have h2':n≤2000:=by omega
 have h3':m≤2000:=by omega
 go_upto_region 4 with fail
 clear hl1 hl2 hl3 h1 h2 h3 hb1
 go_loopw[28] (fun i wr=>∃k:Nat,k≤n∧i= .int .i64 k∧Hid (Below w.heap.size w wr)∧Hid (Blk wr w.heap.size 171 #[vv,.slice pi n ci,.slice po m co,vl])∧Hid ((t.is.take k).all canIn=true)) (fun i _=>n-(intOf i).toNat)
 case atStart=>exact⟨0,by omega,rfl,HW1,HB1,Lib.hid rfl⟩
 case round=>
  obtain⟨k,hk,rfl,HWk,HBk,HAk⟩:=hrel
  by_cases hkn:k<n
  ·have hlt:(k:Int)<(n:Int):=by omega
   obtain⟨b,off,cs,x,rfl,hx,hE,l2⟩:=HI.out.at HWk.out hkn
   obtain⟨sv,wv,k32,k33,k34,k35,hsv,hwv⟩:=hE.cell
   obtain⟨ps,ns,cs',rfl⟩:=hsv.opens
   obtain⟨pw,nw,cw,rfl⟩:=hwv.opens
   obtain⟨hns,hnsc,hcsm⟩:=hsv.slen
   obtain⟨hnw,hnwc,hcwm⟩:=hwv.slen
   have hcan:canIn x=(!decide (10000<ns)&&(!decide (100<nw)&&x.wi.all fun b=> !decide (10000<b.length))):=by unfold canIn;rw[hns,hnw]
   have HCAN:=Lib.hid hcan
   have HX:=Lib.hid hx
   have HWV:=Lib.hid hwv
   have HNW:=Lib.hid hnw
   have K33:=Lib.hid k33
   have K35:=Lib.hid k35
   have H3:=Lib.hid hE.len
   have H1:=Lib.hid hE.one
   obtain⟨Z,hZl,hz⟩:=zeroIn
   have HZ:=Lib.hid hZl
   have hbr:=Q1z wr (.cells Z 209)
   clear hx hE k32 k33 k34 k35 hsv hwv hns hnw hcan hZl
   go_upto_region 6 with(first
    |(with_reducible refine wpList_load_mid (op:=⟨some 31,_,_,_,_,_⟩) ?_ 209 (.tmp 30) ?_ (b) (off+k*36) ?_ (cs) _ (l2) Tryz.underlying209 ?_ ?_ ?_
      ·rfl
      ·rfl
      ·rfl
      ·rfl
      ·exact((QRz H3.out)))
    |(with_reducible refine Q4z (o:=⟨none,_,_,_,_,_⟩) ?_ 209 (.tmp 4) (.tmp 31) ?_ (wr.heap.size) 209 (Z) (cs.toArray) ?_ ?_ (Blk.new wr _ _) ?_ ?_ ?_ (wr.heap.size) (wr) ?_ ?_ ?_
      ·rfl
      ·rfl
      ·rfl
      ·rfl
      ·exact(by rw[List.size_toArray];exact QRz H3.out)
      ·exact(HZ.out.trans (by rw[List.size_toArray];exact H3.out.symm))
      ·exact(H1.out)
      ·exact(hbr)
      ·exact(Nat.le_refl _)
      intro w6 hB6 hb6 hg6 hs6))
   have HW6:=Lib.hid (Q3z HWk.out hb6 (Nat.le_refl _))
   have HB6:=Lib.hid (HBk.out.fut hb6)
   have c33:=hB6.cell 33
   have c35:=hB6.cell 35
   rw[List.getElem?_toArray,K33.out]at c33
   rw[List.getElem?_toArray,K35.out]at c35
   clear hb6 hg6 hs6 l2 hz hbr HWk HBk
   by_cases hs:10000<ns
   ·have hls:(10000:Int)<(ns:Int):=by omega
    go_wp2_with fail
    go_ret
    exact⟨by rw[HR.out,canTx_not (all_miss canIn t.is k x HX.out (by rw[HCAN.out];simp[hs]))];rfl,HW6.out⟩
   have hls:¬(10000:Int)<(ns:Int):=by omega
   by_cases hw:100<nw
   ·have hlw:(100:Int)<(nw:Int):=by omega
    go_wp2_with fail
    go_ret
    exact⟨by rw[HR.out,canTx_not (all_miss canIn t.is k x HX.out (by rw[HCAN.out];simp[hw]))];rfl,HW6.out⟩
   have hlw:¬(100:Int)<(nw:Int):=by omega
   have hw':nw≤100:=by omega
   have hs':ns≤10000:=by omega
   go_upto_region 9 with fail
   clear hls hlw hs hw c33 c35
   go_loopw[45] (fun i wr=>∃j:Nat,j≤nw∧i= .int .i64 j∧wr=w6∧Hid ((x.wi.take j).all (fun b=> !decide (10000<b.length))=true)) (fun i _=>nw-(intOf i).toNat)
   case atStart=>exact⟨0,by omega,rfl,rfl,Lib.hid rfl⟩
   case round=>
    obtain⟨j,hj,rfl,hwr,HAj⟩:=hrel
    subst hwr
    by_cases hjn:j<nw
    ·have hltj:(j:Int)<(nw:Int):=by omega
     obtain⟨b2,off2,cs2,y,rfl,hy,⟨vy,rfl,hsy⟩,l3⟩:=HWV.out.at HW6.out hjn
     obtain⟨py,ny,cy,rfl⟩:=hsy.opens
     obtain⟨hny,hnyc,hcym⟩:=hsy.slen
     have cy1:wr.cell? ⟨b2,off2+j,none⟩=some (.slice py ny cy):=by
      have:=l3 0 _ rfl
      rwa [Nat.mul_one,Nat.add_zero]at this
     have HY:=Lib.hid hy
     have HNY:=Lib.hid hny
     clear hy hsy l3 hny
     by_cases hl:10000<ny
     ·have hll:(10000:Int)<(ny:Int):=by omega
      go_wp2_with fail
      go_ret
      exact⟨by rw[HR.out,canTx_not (all_miss canIn t.is k x HX.out (by rw[HCAN.out,all_miss _ x.wi j y HY.out (by rw[HNY.out];simp[hl])];simp))];rfl,HW6.out⟩
     ·have hll:¬(10000:Int)<(ny:Int):=by omega
      have hAj:=Lib.hid (all_take (fun b:Bs=> !decide (10000<b.length)) x.wi j y HY.out HAj.out (by rw[HNY.out];simp[hl]))
      go_wp2_with fail
      go_roundw
      case rel=>exact⟨j+1,by omega,by go_num,trivial,hAj⟩
      case measure=>simp[intOf];omega
    ·obtain rfl:j=nw:=by omega
     have hall:=HAj.out
     rw[List.take_of_length_le (by have:=HNW.out;omega)]at hall
     have hAk:=Lib.hid (all_take canIn t.is k x HX.out HAk.out (by rw[HCAN.out,hall];simp;omega))
     clear hall
     go_wp2_with fail
     go_roundw
     case rel=>exact⟨k+1,by omega,by go_num,HW6,HB6,hAk⟩
     case measure=>simp[intOf];omega
  ·obtain rfl:k=n:=by omega
   have hall:=HAk.out
   rw[List.take_of_length_le (by have:=HN.out;omega)]at hall
   have HALL:=Lib.hid hall
   have d2:=HBk.out.cell 2
   simp only[List.getElem?_toArray,List.getElem?_cons_zero,List.getElem?_cons_succ]at d2
   clear hall
   go_upto_region 16 with fail
   clear d2
   go_loopw[57] (fun i wr=>∃k:Nat,k≤m∧i= .int .i64 k∧Hid (Below w.heap.size w wr)∧Hid ((t.os.take k).all canOut=true)) (fun i _=>m-(intOf i).toNat)
   case atStart=>exact⟨0,by omega,rfl,HWk,Lib.hid rfl⟩
   case round=>
    obtain⟨j,hj,rfl,HWj,HAj⟩:=hrel
    by_cases hjm:j<m
    ·have hlt:(j:Int)<(m:Int):=by omega
     obtain⟨b,off,cs,x,rfl,hx,hE,l2⟩:=HO.out.at HWj.out hjm
     have H1:=Lib.hid hE.one
     obtain⟨sv,rfl,hsv⟩:=hE
     obtain⟨ps,ns,cs',rfl⟩:=hsv.opens
     obtain⟨hns,hnsc,hcsm⟩:=hsv.slen
     have hcan:canOut x=(!decide (x.va.toInt<0)&& !decide (10000<ns)):=by unfold canOut;rw[hns]
     obtain⟨V,hV⟩:∃V,V=x.va.toInt:=⟨_,rfl⟩
     rw[←hV]at hcan l2 H1
     have HCAN:=Lib.hid hcan
     have HX:=Lib.hid hx
     obtain⟨Z,hZl,hz⟩:=zeroOut
     have HZ:=Lib.hid hZl
     have hbr:=Q1z wr (.cells Z 204)
     obtain⟨cs,hcs⟩:∃cs:List Value,cs=[.int .i64 V,.slice ps ns cs']:=⟨_,rfl⟩
     rw[←hcs]at l2 H1
     have H3:Hid (cs.length=2):=Lib.hid (by rw[hcs];rfl)
     have HCS:=Lib.hid hcs
     clear hx hns hcan hZl hV hcs hsv
     go_upto_region 18 with(first
      |(with_reducible refine wpList_load_mid (op:=⟨some 60,_,_,_,_,_⟩) ?_ 204 (.tmp 59) ?_ (b) (off+j*2) ?_ (cs) _ (l2) Tryz.underlying204 ?_ ?_ ?_
        ·rfl
        ·rfl
        ·rfl
        ·rfl
        ·exact((info_Outs H3.out)))
      |(with_reducible refine Q4z (o:=⟨none,_,_,_,_,_⟩) ?_ 204 (.tmp 8) (.tmp 60) ?_ (wr.heap.size) 204 (Z) (cs.toArray) ?_ ?_ (Blk.new wr _ _) ?_ ?_ ?_ (wr.heap.size) (wr) ?_ ?_ ?_
        ·rfl
        ·rfl
        ·rfl
        ·rfl
        ·exact(by rw[List.size_toArray];exact info_Outs H3.out)
        ·exact(HZ.out.trans (by rw[List.size_toArray];exact H3.out.symm))
        ·exact(H1.out)
        ·exact(hbr)
        ·exact(Nat.le_refl _)
        intro w6 hB6 hb6 hg6 hs6))
     have HW6:=Lib.hid (Q3z HWj.out hb6 (Nat.le_refl _))
     have d0:=hB6.cell 0
     have d1:=hB6.cell 1
     rw[List.getElem?_toArray,HCS.out]at d0 d1
     simp only[List.getElem?_cons_zero,List.getElem?_cons_succ]at d0 d1
     clear hb6 hg6 hs6 l2 hz hbr HWj
     by_cases hs:V<0
     ·go_wp2_with fail
      go_ret
      exact⟨by rw[HR.out,canTx_not2 (all_miss canOut t.os j x HX.out (by rw[HCAN.out];simp[hs]))];rfl,HW6.out⟩
     by_cases hw:10000<ns
     ·have hlw:(10000:Int)<(ns:Int):=by omega
      go_wp2_with fail
      go_ret
      exact⟨by rw[HR.out,canTx_not2 (all_miss canOut t.os j x HX.out (by rw[HCAN.out];simp[hw]))];rfl,HW6.out⟩
     have hlw:¬(10000:Int)<(ns:Int):=by omega
     have hAj:=Lib.hid (all_take canOut t.os j x HX.out HAj.out (by rw[HCAN.out];simp;omega))
     go_wp2_with fail
     go_roundw
     case rel=>exact⟨j+1,by omega,by go_num,HW6,hAj⟩
     case measure=>simp[intOf];omega
    ·obtain rfl:j=m:=by omega
     have hall:=HAj.out
     rw[List.take_of_length_le (by have:=HM.out;omega)]at hall
     have HALL2:=Lib.hid hall
     clear hall
     go_wp2_with fail
     go_ret
     exact⟨by rw[HR.out];unfold canTx;rw[HALL.out,HALL2.out,HN.out,HM.out];simp;omega,HWj.out⟩
end
section
open Go Go.RowKit
def x0:TIn:=⟨List.replicate 32 0#8,0#32,[],0#32,[]⟩
def t0:TTx:=⟨0#32,[x0],[],0#32⟩
end
section
open Go Go.ChangeShapes Go.WideShapes Go.ChangeAt Go.RowKit
theorem XOz {H:Type} {enc:TypeId × Value→H} {W:World} {t e:TypeId} {n:Nat} {α:Type} (E:World→α→List Value→Prop) (hn0:0<n)
 (ht:Tryz.prog.underlying t=some (.slice e)) (hc:Tryz.prog.cellsOf e=n)
 (hel:∀(fuel:Nat) (cs:List Value) (x:DataW H × List MemPlace),DataW.trod enc Tryz.prog W 0 (fun _=>true) true fuel e cs=some x→cs.length=n∧∃y,E W y cs)
 {a0:Option Addr} {len cap:Nat} {d0:DataW H} {p:List MemPlace} (h0:DataW.Trod enc Tryz.prog W 0 (fun _=>true) true t (.slice a0 len cap) d0 p):
 ∃ys:List α,ESl E n W (.slice a0 len cap) ys:=by
 obtain⟨css,h1,h2,h3,h4,h5,h6,_⟩:=open_rows (n:=n) (fun cs:List Value=>cs) (fun cs=>cs.length=n∧∃y,E W y cs) (fun cs h=>h.1) hn0 ht hc (fun fuel cs x h=>⟨cs,hel fuel cs x h,rfl⟩) h0
 rw[List.map_id']at h5
 have key:∀(l:List (List Value)),(∀cs∈l,cs.length=n∧∃y,E W y cs)→∃ys:List α,ys.length=l.length∧∀(i:Nat) (y:α),ys[i]? =some y→∃cs,l[i]? =some cs∧E W y cs:=by
  intro l
  induction l with
  |nil=>exact fun _=>⟨[],rfl,fun i y h=>by cases h⟩
  |cons c l ih=>
   intro h
   obtain⟨y,hy⟩:=(h c (List.mem_cons_self ..)).2
   obtain⟨ys,g1,g2⟩:=ih fun cs hm=>h cs (List.mem_cons_of_mem _ hm)
   refine⟨y ::ys,by simp[g1],fun i z hz=>?_⟩
   cases i with
   |zero=>rw[List.getElem?_cons_zero]at hz;injection hz with hz;subst hz;exact⟨c,rfl,hy⟩
   |succ i=>rw[List.getElem?_cons_succ]at hz;exact g2 i z hz
 obtain⟨ys,g1,g2⟩:=key css h2
 refine⟨ys,a0,len,cap,rfl,by omega,h3,h4,fun hn=>?_,h6⟩
 obtain⟨b,off,rfl,hlt,hc⟩:=h5 (by intro e;rw[e]at g1;exact hn (List.eq_nil_of_length_eq_zero g1))
 refine⟨b,off,rfl,hlt,fun i x hx=>?_⟩
 obtain⟨cs,g3,g4⟩:=g2 i x hx
 exact⟨cs,g4,(hc i cs g3).2⟩
theorem bytes_cell {H:Type} {enc:TypeId × Value→H} {W:World} {fuel:Nat} {cs:List Value} {x:DataW H × List MemPlace} (h:DataW.trod enc Tryz.prog W 0 (fun _=>true) true fuel 26 cs=some x):∃v bs,cs=[v]∧Sl W v bs:=by
 have hv:∃a len cap,cs=[.slice a len cap]:=by
  rcases open_ints Tryz.underlying26 Tryz.underlying5 (by kernel_rfl) h with⟨hcs,_⟩|⟨a,len',cap',zs,hcs,_⟩
  ·exact⟨_,_,_,hcs⟩
  ·exact⟨_,_,_,hcs⟩
 obtain⟨a,len,cap,rfl⟩:=hv
 obtain⟨bs,q1,q2,q3,q4,q5,_⟩:=open_bytes (enc:=enc) (W:=W) (d0:=x.1) (p:=x.2) Tryz.underlying26 Tryz.underlying5 (by kernel_rfl) ⟨fuel,h⟩
 exact⟨_,bs,rfl,a,len,cap,rfl,q1,q2,q3,q4,q5⟩
theorem XLz {H:Type} {enc:TypeId × Value→H} {W:World} {fuel:Nat} {t e:TypeId} {cs:List Value} {x:DataW H × List MemPlace} (ht:Tryz.prog.underlying t=some (.slice e)) (h:DataW.trod enc Tryz.prog W 0 (fun _=>true) true fuel t cs=some x):∃a len cap,cs=[.slice a len cap]:=by
 rcases DataW.trod_slice ht h with⟨e,_⟩|⟨a,len,cap,el,re,m,_,e,_⟩
 ·exact⟨_,_,_,e⟩
 ·exact⟨_,_,_,e⟩
theorem texts_cell {H:Type} {enc:TypeId × Value→H} {W:World} {fuel:Nat} {cs:List Value} {x:DataW H × List MemPlace} (h:DataW.trod enc Tryz.prog W 0 (fun _=>true) true fuel 198 cs=some x):∃v ls,cs=[v]∧ESl TextC 1 W v ls:=by
 obtain⟨a,len,cap,rfl⟩:=XLz Tryz.underlying198 h
 obtain⟨ys,hy⟩:=XOz (enc:=enc) (W:=W) (n:=1) (d0:=x.1) (p:=x.2) TextC (by omega) Tryz.underlying198 (by kernel_rfl) (fun fuel cs x h=>by
  obtain⟨v,bs,rfl,hs⟩:=bytes_cell h
  exact⟨rfl,bs,v,rfl,hs⟩) ⟨fuel,h⟩
 exact⟨_,ys,rfl,hy⟩
theorem trod_len {H:Type} {enc:TypeId × Value→H} {W:World} {fuel:Nat} {t:TypeId} {fs:Array Field} {cs:List Value} {x:DataW H × List MemPlace} (ht:Tryz.prog.underlying t=some (.struct fs)) (h:DataW.trod enc Tryz.prog W 0 (fun _=>true) true fuel t cs=some x):cs.length=Tryz.prog.cellsOf t:=by
 obtain⟨_,_,_,_,hl,_⟩:=DataW.trod_struct ht h
 exact hl
theorem point_cells {H:Type} {enc:TypeId × Value→H} {W:World} {fuel:Nat} {cs:List Value} {x:DataW H × List MemPlace} (h:DataW.trod enc Tryz.prog W 0 (fun _=>true) true fuel 207 cs=some x):∃(id:Bs) (ix:BitVec 32),id.length=32∧cs=Q5z id++[u32 ix]:=by
 have hl:cs.length=33:=by rw[trod_len Tryz.underlying207 h];kernel_rfl
 obtain⟨n0,y0,h0⟩:=Qgz Tryz.underlying207 h 0 _ rfl 32 (by kernel_rfl)
 obtain⟨n1,y1,h1⟩:=Qgz Tryz.underlying207 h 1 _ rfl 1 (by kernel_rfl)
 obtain⟨i1,e1,_,w1⟩:=DataW.trod_int Tryz.underlying30 h1
 obtain⟨p,hp,ep⟩:=Z8z Tryz.underlying32 Tryz.underlying5 XQz XSz h0
 obtain⟨v,rfl⟩:=of32 i1 w1
 refine⟨p,v,hp,?_⟩
 have q:=parts2 cs 32 1 (by omega)
 have a0:(cs.drop 0).take 32=p.map u8:=ep
 have a1:(cs.drop 32).take 1=[u32 v]:=e1
 rw[a0,a1]at q
 exact q
theorem in_cells {H:Type} {enc:TypeId × Value→H} {W:World} {fuel:Nat} {cs:List Value} {x:DataW H × List MemPlace} (h:DataW.trod enc Tryz.prog W 0 (fun _=>true) true fuel 209 cs=some x):cs.length=36∧∃y,InC W y cs:=by
 have hl:cs.length=36:=by rw[trod_len Tryz.underlying209 h];kernel_rfl
 obtain⟨n0,y0,h0⟩:=Qgz Tryz.underlying209 h 0 _ rfl 33 (by kernel_rfl)
 obtain⟨n1,y1,h1⟩:=Qgz Tryz.underlying209 h 1 _ rfl 1 (by kernel_rfl)
 obtain⟨n2,y2,h2⟩:=Qgz Tryz.underlying209 h 2 _ rfl 1 (by kernel_rfl)
 obtain⟨n3,y3,h3⟩:=Qgz Tryz.underlying209 h 3 _ rfl 1 (by kernel_rfl)
 obtain⟨id,ix,hid,e0⟩:=point_cells h0
 obtain⟨sv,bs,e1,hs⟩:=bytes_cell h1
 obtain⟨i2,e2,_,w2⟩:=DataW.trod_int Tryz.underlying30 h2
 obtain⟨wv,ls,e3,hw⟩:=texts_cell h3
 obtain⟨sq,rfl⟩:=of32 i2 w2
 refine⟨hl,⟨id,ix,bs,sq,ls⟩,sv,wv,?_,hid,hs,hw⟩
 have q1:=parts3 cs 33 1 2 (by omega)
 have q2:=parts2 ((cs.drop 34).take 2) 1 1 (by simp;omega)
 have a0:(cs.drop 0).take 33=Q5z id++[u32 ix]:=e0
 have a1:(cs.drop 33).take 1=[sv]:=e1
 have a2:(((cs.drop 34).take 2).drop 0).take 1=[u32 sq]:=by rw[List.drop_zero,List.take_take];exact e2
 have a3:(((cs.drop 34).take 2).drop 1).take 1=[wv]:=by rw[List.drop_take,List.drop_drop,List.take_take];exact e3
 rw[a2,a3]at q2
 rw[a0,a1,q2]at q1
 rw[q1]
 simp
theorem out_cells {H:Type} {enc:TypeId × Value→H} {W:World} {fuel:Nat} {cs:List Value} {x:DataW H × List MemPlace} (h:DataW.trod enc Tryz.prog W 0 (fun _=>true) true fuel 204 cs=some x):cs.length=2∧∃y,OutC W y cs:=by
 have hl:cs.length=2:=by rw[trod_len Tryz.underlying204 h];kernel_rfl
 obtain⟨n0,y0,h0⟩:=Qgz Tryz.underlying204 h 0 _ rfl 1 (by kernel_rfl)
 obtain⟨n1,y1,h1⟩:=Qgz Tryz.underlying204 h 1 _ rfl 1 (by kernel_rfl)
 obtain⟨i0,e0,_,w0⟩:=DataW.trod_int Tryz.underlying2 h0
 obtain⟨sv,bs,e1,hs⟩:=bytes_cell h1
 have hb: -9223372036854775808≤i0∧i0≤9223372036854775807:=by simpa[Lit.wf,IntKind.min,IntKind.max,IntKind.signed,IntKind.bits]using w0
 have hi:(BitVec.ofInt 64 i0).toInt=i0:=by rw[BitVec.toInt_ofInt,Int.bmod_eq_of_le (by simp;omega) (by simp;omega)]
 refine⟨hl,⟨BitVec.ofInt 64 i0,bs⟩,sv,?_,hs⟩
 have q:=parts2 cs 1 1 (by omega)
 have a0:(cs.drop 0).take 1=[.int .i64 i0]:=e0
 have a1:(cs.drop 1).take 1=[sv]:=e1
 rw[a0,a1]at q
 rw[q]
 simp[hi]
theorem tx_cells {H:Type} {enc:TypeId × Value→H} {W:World} {fuel:Nat} {cs:List Value} {x:DataW H × List MemPlace} (h:DataW.trod enc Tryz.prog W 0 (fun _=>true) true fuel 171 cs=some x):cs.length=4∧∃t,TxC W t cs:=by
 have hl:cs.length=4:=by rw[trod_len Tryz.underlying171 h];kernel_rfl
 obtain⟨n0,y0,h0⟩:=Qgz Tryz.underlying171 h 0 _ rfl 1 (by kernel_rfl)
 obtain⟨n1,y1,h1⟩:=Qgz Tryz.underlying171 h 1 _ rfl 1 (by kernel_rfl)
 obtain⟨n2,y2,h2⟩:=Qgz Tryz.underlying171 h 2 _ rfl 1 (by kernel_rfl)
 obtain⟨n3,y3,h3⟩:=Qgz Tryz.underlying171 h 3 _ rfl 1 (by kernel_rfl)
 obtain⟨i0,e0,_,w0⟩:=DataW.trod_int Tryz.underlying30 h0
 obtain⟨i3,e3,_,w3⟩:=DataW.trod_int Tryz.underlying30 h3
 obtain⟨a1,l1,c1,e1⟩:=XLz Tryz.underlying168 h1
 obtain⟨a2,l2,c2,e2⟩:=XLz Tryz.underlying169 h2
 obtain⟨ve,rfl⟩:=of32 i0 w0
 obtain⟨lo,rfl⟩:=of32 i3 w3
 have e1':(cs.drop 1).take 1=[.slice a1 l1 c1]:=e1
 have e2':(cs.drop 2).take 1=[.slice a2 l2 c2]:=e2
 have h1':DataW.trod enc Tryz.prog W 0 (fun _=>true) true n1 168 ((cs.drop 1).take 1)=some y1:=h1
 have h2':DataW.trod enc Tryz.prog W 0 (fun _=>true) true n2 169 ((cs.drop 2).take 1)=some y2:=h2
 rw[e1']at h1'
 rw[e2']at h2'
 obtain⟨is,hi⟩:=XOz (enc:=enc) (W:=W) (d0:=y1.1) (p:=y1.2) InC (by omega) Tryz.underlying168 (by kernel_rfl) (fun fuel cs x h=>in_cells h) ⟨n1,h1'⟩
 obtain⟨os,ho⟩:=XOz (enc:=enc) (W:=W) (d0:=y2.1) (p:=y2.2) OutC (by omega) Tryz.underlying169 (by kernel_rfl) (fun fuel cs x h=>out_cells h) ⟨n2,h2'⟩
 refine⟨hl,⟨ve,is,os,lo⟩,_,_,?_,hi,ho⟩
 have q1:=parts3 cs 1 1 2 (by omega)
 have q2:=parts2 ((cs.drop 2).take 2) 1 1 (by simp;omega)
 have a0:(cs.drop 0).take 1=[u32 ve]:=e0
 have b2:(((cs.drop 2).take 2).drop 0).take 1=[.slice a2 l2 c2]:=by rw[List.drop_zero,List.take_take];exact e2'
 have b3:(((cs.drop 2).take 2).drop 1).take 1=[u32 lo]:=by rw[List.drop_take,List.drop_drop,List.take_take];exact e3
 rw[b2,b3]at q2
 rw[a0,e1',q2]at q1
 rw[q1]
 simp
end
section
open Go Go.RowKit
theorem TxC.ok {w:World} {t:TTx} {cs:List Value} (h:TxC w t cs):okTx t:=fun x hx=>by
 obtain⟨iv,ov,_,hi,_⟩:=h
 obtain⟨cs,hc⟩:=hi.mem hx
 obtain⟨_,_,_,h1,_⟩:=hc
 exact h1
theorem TxC.one {w:World} {t:TTx} {cs:List Value} (h:TxC w t cs):cs.toArray.all (·.oneCell')=true:=by
 obtain⟨iv,ov,rfl,hi,ho⟩:=h
 rw[List.all_toArray]
 simp[Value.oneCell']
 exact⟨hi.one,ho.one⟩
theorem txB_big {t:TTx} (h:canTx t=true) {w:World} {cs:List Value} (hc:TxC w t cs) (m:Bool):(txB t m).length≤10000000000:=by
 obtain⟨iv,ov,_,hi,_⟩:=hc
 have h1:=insB_len h hi
 have h2:=outsB_len h
 obtain⟨_,hn,_,hall,_⟩:=canTx_all h
 have h3:(witsB t.is).length≤2002000000:=by
  have h1:=flat_le (fun x=>witB x.wi) 1001000 t.is (fun y hy=>by
   have hy2:=hall y hy
   have h3:=flat_le text 10009 y.wi (fun b hb=>text_le (hy2.2.2 b hb))
   have h4:=QXz y.wi.length
   unfold witB
   rw[List.length_append]
   have h5:=Nat.mul_le_mul hy2.2.1 (Nat.le_refl 10009)
   omega)
  have h3:=Nat.mul_le_mul hn (Nat.le_refl 1001000)
  unfold witsB
  omega
 unfold txB
 rw[List.length_append,List.length_append,List.length_append,List.length_append,List.length_append]
 cases m
 ·simp[QEz];omega
 ·simp[QEz];omega
end
section
open Go Go.RowKit
theorem ESl.lt {α:Type} {E:World→α→List Value→Prop} {N:Nat} {w W:World} {b off n c k:Nat} {xs:List α} (h:ESl E N w (.slice (some ⟨b,off,none⟩) n c) xs) (hb:Below w.heap.size w W) (hk:k<n):b<W.heap.size:=by
 obtain⟨p',n',c',e,h1,h2,h3,h4,h5⟩:=h
 injection e with e1 e2 e3
 subst e1 e2 e3
 obtain⟨b',off',e,hlt,_⟩:=h4 (by intro e;rw[e]at h1;simp at h1;omega)
 injection e with e
 injection e with e1 e2
 subst e1
 exact Nat.lt_of_lt_of_le hlt hb.size
end
end Go.Proofs.YtjbijcjcejfpcaaGreatDoor
