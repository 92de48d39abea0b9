/- message.Decode: the walk. -/
import Derived.Test.YtjbijcjcejfpcaaGreatDoorZMsgG
namespace Go.Proofs.YtjbijcjcejfpcaaGreatDoor
set_option linter.unusedVariables false
set_option maxRecDepth 100000
set_option maxHeartbeats 16000000
open Go Go.RowKit
def MsgDec (w:World) (x:TMsg × Bool × Int) (e:Ending) (w':World):Prop:=∃cs,e= .returned (.tuple #[.agg cs.toArray,.bool x.2.1,.int .i64 x.2.2])∧MsgO w.heap.size w' x.1 cs∧Below w.heap.size w w'
def FldsK (K:Nat):Prop:=∀(D B g z:Nat),(D≤B∧D≤z)→(g<B∧z<B)→∀(w:World) (s:Bs),MRd 122 D B g w 0 s→Blk w z 41 (msgZ K).toArray→
    Calls Tryz.prog 47 #[.pointer (some ⟨g,0,none⟩),.pointer (some ⟨z,0,none⟩)] w (Xkz D B g z w (QCz K) s)
theorem fields_any (D B g z K:Nat) (hK:1≤K∧K≤13) (hD:D≤B∧D≤z) (hB:g<B∧z<B) (w:World) (s:Bs) (hr:MRd 122 D B g w 0 s) (hm:Blk w z 41 (msgZ K).toArray):
 Calls Tryz.prog 47 #[.pointer (some ⟨g,0,none⟩),.pointer (some ⟨z,0,none⟩)] w (Xkz D B g z w (QCz K) s):=by
 have:K=1∨K=2∨K=3∨K=4∨K=5∨K=6∨K=7∨K=8∨K=9∨K=10∨K=11∨K=12∨K=13:=by omega
 rcases this with rfl|rfl|rfl|rfl|rfl|rfl|rfl|rfl|rfl|rfl|rfl|rfl|rfl
 ·exact fields_k1 D B g z hD hB w s hr hm
 ·exact fields_k2 D B g z hD hB w s hr hm
 ·exact fields_k3 D B g z hD hB w s hr hm
 ·exact fields_k4 D B g z hD hB w s hr hm
 ·exact fields_k5 D B g z hD hB w s hr hm
 ·exact fields_k6 D B g z hD hB w s hr hm
 ·exact fields_k7 D B g z hD hB w s hr hm
 ·exact fields_k8 D B g z hD hB w s hr hm
 ·exact fields_k9 D B g z hD hB w s hr hm
 ·exact fields_k10 D B g z hD hB w s hr hm
 ·exact fields_k11 D B g z hD hB w s hr hm
 ·exact fields_k12 D B g z hD hB w s hr hm
 ·exact fields_k13 D B g z hD hB w s hr hm
theorem zMsg:∀w,(zeroValue 41).run Tryz.prog w= .ok (.agg (msgZ 0).toArray) w:=zero_ofM (by kernel_rfl)
theorem built_msg0:Tryz.prog.built 41 []=some (msgZ 0).toArray:=by kernel_rfl
theorem Xcz (k:Int):(msgZ k).toArray.size=139:=QVz _ _ _ _ _ _ Q6z Q6z ZBlk_len
theorem msgZ_one:(msgZ 0).toArray.all (·.oneCell')=true:=by rw[List.all_toArray];kernel_rfl
theorem QWz {cs:List Value} (h:cs.length=139):(Tryz.prog.info? 41).map (·.size)=some cs.toArray.size:=by rw[List.size_toArray];exact Qkz h
theorem msgZ_len (k:Int):(msgZ k).length=139:=by have:=Xcz k;rwa [List.size_toArray]at this
theorem noMsg_o (B:Nat) (w:World):MsgO B w noMsg (msgZ 0):=⟨_,_,_,_,rfl,Q6z,Q6z,RowO.nil _ _ _ _ _,RowO.nil _ _ _ _ _,Own8.nil _ _,⟨.slice none 0 0,rfl,QGz,RowO.nil _ _ _ _ _⟩⟩
theorem MsgO.mono {B B':Nat} {w:World} {m:TMsg} {cs:List Value} (h:MsgO B w m cs) (hB:B'≤B):MsgO B' w m cs:=by
 obtain⟨hv,dv,bv,bc,h1,h2,h3,h4,h5,h6,h7⟩:=h
 exact⟨hv,dv,bv,bc,h1,h2,h3,h4.mono (fun _ _ h=>h) hB,h5.mono (fun _ _ h=>h) hB,Qmz h6 hB,h7.mono hB⟩
theorem MsgO.stays {B:Nat} {w w':World} {m:TMsg} {cs:List Value} {S:Nat→Prop} (h:MsgO B w m cs) (hs:Stays S w w') (hS:∀k,S k→k<B):MsgO B w' m cs:=
 msgO_keeps B w w' S m cs h hs (Sep.low hS)
theorem Dat.old {g:Nat} {w w':World} {v:Value} {s:Bs} (h:Sl w v s) (hb:Below w.heap.size w w') (hg:w.heap.size≤g):Dat w.heap.size g w' v s:=by
 refine⟨h.below hb (Nat.le_refl _),fun h0 k hk=>?_⟩
 obtain⟨p,n,c,rfl,_,_,_,hr,_⟩:=h
 obtain⟨b,o,hp',hlt,_⟩:=hr h0
 rw[Xmz,hp']at hk
 injection hk with hk
 have hk':b=k:=hk
 exact⟨by omega,.inl (by omega)⟩
theorem endM_ok {m:TMsg} {r:Bs} (h:r=[]):endM (.ok (m,r))=(m,true,0):=by unfold endM;simp only;rw[if_pos h]
theorem endM_rest {m:TMsg} {r:Bs} (h:r≠[]):endM (.ok (m,r))=(noMsg,true,70):=by unfold endM;simp only;rw[if_neg h]
theorem endM_step {p:Pz TMsg} {s r:Bs} {m:TMsg} {er:Int} (h:Step p 0 s m er r):endM (p s)=if er=0 then(if r=[]then(m,true,0)else(noMsg,true,70))else(noMsg,true,er):=by
 unfold Step at h
 rw[if_pos rfl]at h
 cases hp:p s with
 |error k=>rw[hp]at h;rw[h.1,if_neg h.2];rfl
 |ok x=>
  obtain⟨a,t⟩:=x
  rw[hp]at h
  obtain⟨h1,h2,h3⟩:=h
  rw[if_pos h1,← h2,← h3]
  by_cases hr:r=[]
  ·rw[if_pos hr,endM_ok hr]
  ·rw[if_neg hr,endM_rest hr]
theorem msgDecode_of (cmd:List (BitVec 8)) (p:Option Addr) (n c:Nat) (s:Bs) (w:World) (hFL:kindP cmd≠0→FldsK (kindP cmd)) (hS:Sl w (.slice p n c) s) (hbig:n≤140737488355328):
 Calls Tryz.prog 25 #[.agg #[.string (strB cmd),.slice p n c]] w (MsgDec w (XPz cmd s)):=by
 have HFL:=Lib.hid hFL
 clear hFL
 obtain⟨Y0,hY0⟩:∃Y,Y=(msgZ 0).toArray:=⟨_,rfl⟩
 have hz:=zMsg
 have hbt:=built_msg0
 rw[←hY0]at hz hbt
 have HYS:Hid (Y0.size=139):=Lib.hid (by rw[hY0];exact Xcz 0)
 have HY1:Hid (Y0.all (·.oneCell')=true):=Lib.hid (by rw[hY0];exact msgZ_one)
 have HY0:=Lib.hid hY0
 have hlen:s.length=n:=by obtain⟨p',n',c',e,h1,_⟩:=hS;injection e with _ e2;rw[e2];exact h1
 have HLN:=Lib.hid hlen
 have HSL:=Lib.hid hS
 obtain⟨fr,hfr⟩:∃z,z=w.heap.size:=⟨_,rfl⟩
 obtain⟨W1,hW1⟩:∃W,W=w.alloc (.cells #[.string (strB cmd),.slice p n c] 82):=⟨_,rfl⟩
 obtain⟨W2,hW2⟩:∃W,W=W1.alloc (.cells Y0 41):=⟨_,rfl⟩
 have z1:W1.heap.size=fr+1:=by rw[hW1,World.size_alloc,hfr]
 have z2:W2.heap.size=fr+2:=by rw[hW2,World.size_alloc,z1]
 have k1:Below w.heap.size w W1:=by rw[hW1];exact Q1z w _
 have k2:Below W1.heap.size W1 W2:=by rw[hW2];exact Q1z W1 _
 have k02:=Q3z k1 k2 (Nat.le_refl _)
 have B0:Blk W2 fr 82 #[.string (strB cmd),.slice p n c]:=(show Blk W1 fr _ _ by rw[hW1,hfr];exact Blk.new w _ _).fut k2
 obtain⟨z,hzz⟩:∃z,z=fr+1:=⟨_,rfl⟩
 have B1:Blk W2 z 41 Y0:=by rw[hW2,hzz,← z1];exact Blk.new W1 _ _
 have HB0:=Lib.hid B0
 have HB1:=Lib.hid B1
 have HK02:=Lib.hid k02
 have HFR:=Lib.hid (And.intro hfr hzz)
 have c0:W2.cell? ⟨fr,0,none⟩=some (.string (strB cmd)):=by have:=B0.cell 0;simpa using this
 clear k1 k2 k02 z1 z2 B0 B1 hS hlen hY0
 go_enter Tryz.func25,Tryz.ntmps25
 go_upto_region 1 with fail
 rw[←hW1,← hW2,← hfr,← hzz]
 clear hW1 hW2 hfr hzz
 go_wp2_with fail
 refine(kindOf_any cmd W2).mono ?_
 rintro e w3 ⟨rfl,hb3⟩
 obtain⟨K,hK⟩:∃K,K=kindP cmd:=⟨_,rfl⟩
 have HK:Hid (K=kindP cmd):=Lib.hid hK
 have HK13:Hid (K≤13):=Lib.hid (by rw[hK];exact kindP_le cmd)
 rw[←hK]
 have HM3:=Lib.hid (HB1.out.fut hb3)
 have HF3:=Lib.hid (HB0.out.fut hb3)
 have HB3:=Lib.hid (Q3z HK02.out hb3 (Nat.le_refl _))
 have cz:w3.cell? ⟨z,0,none⟩=some (.int .i64 0):=by have:=HM3.out.cell 0;rw[HY0.out,List.getElem?_toArray]at this;exact this
 have fz:=HM3.out.frozen 0
 clear c0 hb3 hK HB0 HB1 HK02
 go_upto_region 2 with fail
 have HM4:Hid (Blk (w3.setCell ⟨z,0,none⟩ (.int .i64 (K:Int))) z 41 (msgZ K).toArray):=Lib.hid (by have h:=HM3.out.set 0 (.int .i64 (K:Int));rw[HY0.out]at h;exact h)
 have hst:=Stays.set w3 z 0 (.int .i64 (K:Int))
 have HF4:=Lib.hid (HF3.out.stays hst (fun e=>by have:=HFR.out;have e':fr=z:=e;omega))
 have HB4:Hid (Below w.heap.size w (w3.setCell ⟨z,0,none⟩ (.int .i64 (K:Int)))):=Lib.hid (HB3.out.setCell (show w.heap.size≤z by have:=HFR.out;omega) _)
 clear hst cz fz HM3 HF3 HB3
 generalize w3.setCell ⟨z,0,none⟩ (.int .i64 (K:Int))=w4 at*
 have cz:w4.cell? ⟨z,0,none⟩=some (.int .i64 (K:Int)):=by have:=HM4.out.cell 0;rw[List.getElem?_toArray]at this;exact this
 by_cases h0:K=0
 ·have hb0:((K:Int)==0)=true:=by rw[h0];rfl
  have HX:Hid (XPz cmd s=(noMsg,false,0)):=Lib.hid (by unfold XPz;rw[←HK.out,if_pos h0])
  have hsz:(msgZ K).toArray.size=Y0.size:=by rw[Xcz,HYS.out]
  have hbr:=Below.refl w.heap.size w4
  have hzb:w.heap.size≤z:=by have:=HFR.out;omega
  clear h0
  go_wp2_with(first
   |(with_reducible refine Qjz (o:=⟨some 13,_,_,_,_,_⟩) ?_ 41 #[] ?_ [] ?_ Y0 hbt ?_
     ·rfl
     ·rfl
     ·rfl)
   |(with_reducible refine Q4z (o:=⟨none,_,_,_,_,_⟩) ?_ 41 (.tmp 2) (.tmp 13) ?_ (z) 41 ((msgZ K).toArray) (Y0) ?_ ?_ (HM4.out) ?_ ?_ ?_ (w.heap.size) (w4) ?_ ?_ ?_
     ·rfl
     ·rfl
     ·rfl
     ·rfl
     ·exact(by rw[HYS.out];kernel_rfl)
     ·exact(hsz)
     ·exact(HY1.out)
     ·exact(hbr)
     ·exact(hzb)
     intro w5 hB5 hb5 hg5 hs5))
  have hb5z:Blk w5 z 41 (msgZ 0).toArray:=by have:=hB5.out;rwa [HY0.out]at this
  refine bodyPost_ret (X3z rfl _ _ _ z _ (msgZ 0) _ rfl hb5z Tryz.underlying41 rfl (Qkz (msgZ_len 0))) rfl ?_
  rw[HX.out]
  exact⟨msgZ 0,rfl,noMsg_o _ _,HB4.out.trans hb5⟩
 have hb0:((K:Int)==0)=false:=by rw[beq_eq_false_iff_ne];omega
 have HK0:=Lib.hid h0
 have HX:Hid (XPz cmd s=endM (QCz K s)):=Lib.hid (by unfold XPz;rw[←HK.out,if_neg h0])
 have c1:w4.cell? ⟨fr,1,none⟩=some (.slice p n c):=by have:=HF4.out.cell 1;simpa using this
 have hbt1:Tryz.prog.built 120 [(0,.slice p n c)]=some #[.slice p n c,.int .i64 0]:=by kernel_rfl
 have hbt2:Tryz.prog.built 122 [(0,.agg #[.slice p n c,.int .i64 0])]=some #[.slice p n c,.int .i64 0]:=by kernel_rfl
 clear h0
 go_upto_region 5 with(first
  |(with_reducible refine Qjz (o:=⟨some 16,_,_,_,_,_⟩) ?_ 120 #[(0,.tmp 15)] ?_ [(0,.slice p n c)] ?_ #[.slice p n c,.int .i64 0] hbt1 ?_
    ·rfl
    ·rfl
    ·rfl)
  |(with_reducible refine Qjz (o:=⟨some 17,_,_,_,_,_⟩) ?_ 122 #[(0,.tmp 16)] ?_ [(0,.agg #[.slice p n c,.int .i64 0])] ?_ #[.slice p n c,.int .i64 0] hbt2 ?_
    ·rfl
    ·rfl
    ·rfl))
 try simp only[Qpz]
 obtain⟨g,hg⟩:∃g,g=w4.heap.size:=⟨_,rfl⟩
 have hnb:=Q1z w4 (.cells #[.slice p n c,.int .i64 0] 122)
 obtain⟨w5,hw5⟩:∃W,W=w4.alloc (.cells #[.slice p n c,.int .i64 0] 122):=⟨_,rfl⟩
 have hz5:w5.heap.size=g+1:=by rw[hw5,World.size_alloc,hg]
 have HGZ:Hid (w.heap.size≤z∧z<g∧w.heap.size≤g):=Lib.hid (by have h1:=HFR.out;have h2:=HM4.out.lt;have h3:=HB4.out.size;omega)
 rw[←hw5]at hnb
 have HB5:Hid (Below w.heap.size w w5):=Lib.hid (Q3z HB4.out hnb (Nat.le_refl _))
 have HM5:=Lib.hid (HM4.out.fut hnb)
 have HR5:Hid (MRd 122 w.heap.size (g+1) g w5 0 s):=Lib.hid ⟨.slice p n c,by rw[hw5,hg];exact Blk.new w4 _ _,Dat.old HSL.out HB5.out HGZ.out.2.2,by rw[HLN.out];exact hbig,by omega,by omega⟩
 have hcall:=(show FldsK K by rw[HK.out];exact HFL.out (by rw[←HK.out];exact HK0.out)) w.heap.size (g+1) g z ⟨by have:=HGZ.out;omega,HGZ.out.1⟩ ⟨by omega,by have:=HGZ.out;omega⟩ w5 s HR5.out HM5.out
 rw[←hw5,← hg]
 clear hw5 hg hnb hz5 HM4 HF4 HB4 c1 cz hbt1 hbt2 HR5 HM5
 go_wp2_with fail
 refine hcall.mono ?_
 rintro e w6 ⟨rfl,m,cs,er,r,HR,HM,HMO,HST,HT⟩
 have HE:=Lib.hid (endM_step HT.out)
 have HB6:Hid (Below w.heap.size w w6):=Lib.hid (HB5.out.trans ((HST.out.below HB5.out.size (fun k hk=>by have:=HGZ.out;omega))))
 have HMO':Hid (MsgO w.heap.size w6 m cs):=Lib.hid (HMO.out.mono (by have:=HGZ.out;omega))
 have hcl:=HMO.out.c.len
 have HCL:=Lib.hid hcl
 have HC1:=Lib.hid HMO.out.c.one
 obtain⟨vr,x1,x2,x3,x4,x5⟩:=HR.out
 obtain⟨pr,nr,cr,rfl,hnr,_,_,_,_⟩:=x2.open
 obtain⟨d0,d1,f0,f1⟩:=cell2 x1
 have HX1:=Lib.hid x1
 have HNR:=Lib.hid hnr
 have hzb:w.heap.size≤z:=HGZ.out.1
 have hzg:z≠g:=by have:=HGZ.out;omega
 have hsz:cs.toArray.size=Y0.size:=by rw[List.size_toArray,hcl,HYS.out]
 clear x1 x2 x3 x5 hnr hcall HST HT HR HB5 hcl
 by_cases he:er=0
 case neg=>
  have hb1:(er==0)=false:=by rw[beq_eq_false_iff_ne];exact he
  have HE2:Hid (XPz cmd s=(noMsg,true,er)):=Lib.hid (by rw[HX.out,HE.out,if_neg he])
  have hbr:=Below.refl w.heap.size w6
  clear he
  go_wp2_with(first
   |(with_reducible refine Qjz (o:=⟨some 46,_,_,_,_,_⟩) ?_ 41 #[] ?_ [] ?_ Y0 hbt ?_
     ·rfl
     ·rfl
     ·rfl)
   |(with_reducible refine Q4z (o:=⟨none,_,_,_,_,_⟩) ?_ 41 (.tmp 2) (.tmp 46) ?_ (z) 41 (cs.toArray) (Y0) ?_ ?_ (HM.out) ?_ ?_ ?_ (w.heap.size) (w6) ?_ ?_ ?_
     ·rfl
     ·rfl
     ·rfl
     ·rfl
     ·exact(by rw[HYS.out];kernel_rfl)
     ·exact(hsz)
     ·exact(HY1.out)
     ·exact(hbr)
     ·exact(hzb)
     intro w7 hB7 hb7 hg7 hs7))
  have hb7z:Blk w7 z 41 (msgZ 0).toArray:=by have:=hB7.out;rwa [HY0.out]at this
  refine bodyPost_ret (X3z rfl _ _ _ z _ (msgZ 0) _ rfl hb7z Tryz.underlying41 rfl (Qkz (msgZ_len 0))) rfl ?_
  rw[HE2.out]
  exact⟨msgZ 0,rfl,noMsg_o _ _,HB6.out.trans hb7⟩
 subst he
 by_cases hr0:nr=0
 ·have hgt:¬(0:Int)<(nr:Int):=by omega
  have HE2:Hid (XPz cmd s=(m,true,0)):=Lib.hid (by rw[HX.out,HE.out,if_pos rfl,if_pos (List.eq_nil_of_length_eq_zero (by rw[HNR.out];exact hr0))])
  have hbr:=Below.refl w.heap.size w6
  have l2:=HM.out.range
  clear hr0 hsz
  go_wp2_with(first
   |(with_reducible refine wpList_load_mid (op:=⟨some 52,_,_,_,_,_⟩) ?_ 41 (.tmp 2) ?_ (z) (0) ?_ (cs) _ (l2) Tryz.underlying41 ?_ ?_ ?_
     ·rfl
     ·rfl
     ·rfl
     ·rfl
     ·exact((Qkz HCL.out)))
   |(with_reducible refine Q4z (o:=⟨none,_,_,_,_,_⟩) ?_ 41 (.tmp 2) (.tmp 52) ?_ (z) 41 (cs.toArray) (cs.toArray) ?_ ?_ (HM.out) ?_ ?_ ?_ (w.heap.size) (w6) ?_ ?_ ?_
     ·rfl
     ·rfl
     ·rfl
     ·rfl
     ·exact((QWz HCL.out))
     ·exact(rfl)
     ·exact(HC1.out)
     ·exact(hbr)
     ·exact(hzb)
     intro w7 hB7 hb7 hg7 hs7))
  refine bodyPost_ret (X3z rfl _ _ _ z _ cs _ rfl hB7.out Tryz.underlying41 rfl (Qkz HCL.out)) rfl ?_
  rw[HE2.out]
  have hst:=Stays.of_grown (S:=fun k=>k=z) hg7.out (fun k h=>by injection h with h;exact h.symm)
  exact⟨cs,rfl,msgO_keeps _ _ _ _ _ _ HMO'.out hst (Qiz HM.out (by decide)),HB6.out.trans hb7⟩
 ·have hgt:(0:Int)<(nr:Int):=by omega
  have HE2:Hid (XPz cmd s=(noMsg,true,70)):=Lib.hid (by rw[HX.out,HE.out,if_pos rfl,if_neg (fun e=>hr0 (by rw[←HNR.out,e];rfl))])
  have hst:=Stays.set w6 g 1 (.int .i64 70)
  have HM7:=Lib.hid (HM.out.stays hst hzg)
  have HB7:Hid (Below w.heap.size w (w6.setCell ⟨g,1,none⟩ (.int .i64 70))):=Lib.hid (HB6.out.setCell (show w.heap.size≤g from HGZ.out.2.2) _)
  have d1':=(cell2 (by simpa using HX1.out.set 1 (.int .i64 70):Blk (w6.setCell ⟨g,1,none⟩ (.int .i64 70)) g 122 #[.slice pr nr cr,.int .i64 70])).2.1
  clear hr0 hst
  go_upto_region 8 with fail
  clear d0 d1 f0 f1
  generalize w6.setCell ⟨g,1,none⟩ (.int .i64 70)=w7 at*
  have hbr:=Below.refl w.heap.size w7
  go_wp2_with(first
   |(with_reducible refine Qjz (o:=⟨some 46,_,_,_,_,_⟩) ?_ 41 #[] ?_ [] ?_ Y0 hbt ?_
     ·rfl
     ·rfl
     ·rfl)
   |(with_reducible refine Q4z (o:=⟨none,_,_,_,_,_⟩) ?_ 41 (.tmp 2) (.tmp 46) ?_ (z) 41 (cs.toArray) (Y0) ?_ ?_ (HM7.out) ?_ ?_ ?_ (w.heap.size) (w7) ?_ ?_ ?_
     ·rfl
     ·rfl
     ·rfl
     ·rfl
     ·exact(by rw[HYS.out];kernel_rfl)
     ·exact(hsz)
     ·exact(HY1.out)
     ·exact(hbr)
     ·exact(hzb)
     intro w8 hB8 hb8 hg8 hs8))
  have hb8z:Blk w8 z 41 (msgZ 0).toArray:=by have:=hB8.out;rwa [HY0.out]at this
  refine bodyPost_ret (X3z rfl _ _ _ z _ (msgZ 0) _ rfl hb8z Tryz.underlying41 rfl (Qkz (msgZ_len 0))) rfl ?_
  rw[HE2.out]
  exact⟨msgZ 0,rfl,noMsg_o _ _,HB7.out.trans hb8⟩
theorem msgDecode_any (cmd:List (BitVec 8)) (p:Option Addr) (n c:Nat) (s:Bs) (w:World) (hS:Sl w (.slice p n c) s) (hbig:n≤140737488355328):
 Calls Tryz.prog 25 #[.agg #[.string (strB cmd),.slice p n c]] w (MsgDec w (XPz cmd s)):=
 msgDecode_of cmd p n c s w (fun h D B g z hD hB w s hr hm=>fields_any D B g z (kindP cmd) ⟨by omega,kindP_le cmd⟩ hD hB w s hr hm) hS hbig
end Go.Proofs.YtjbijcjcejfpcaaGreatDoor
