/- message.Encode, by kinds: the walks. -/
import Derived.Test.YtjbijcjcejfpcaaGreatDoorZMsgT
import Derived.Test.YtjbijcjcejfpcaaGreatDoorZMsgD
namespace Go.Proofs.YtjbijcjcejfpcaaGreatDoor
set_option linter.unusedVariables false
set_option maxRecDepth 100000
set_option maxHeartbeats 16000000
open Go Go.RowKit
def YFrm:List Value:=[.string ⟨#[]⟩,.slice none 0 0]
theorem yFrm:∀w,(zeroValue 82).run Tryz.prog w= .ok (.agg YFrm.toArray) w:=zero_ofM (by kernel_rfl)
theorem zWriter:∀w,(zeroValue 138).run Tryz.prog w= .ok (.agg #[.slice none 0 0]) w:=zero_ofM (by kernel_rfl)
theorem XAz (s:ByteArray):Tryz.prog.built 82 [(0,.string s)]=some #[.string s,.slice none 0 0]:=by kernel_rfl
theorem Own8.mono' {w:World} {B B':Nat} {v:Value} {ys:Bs} (h:Own8 w B v ys) (hB:B'≤B):Own8 w B' v ys:=Qmz h hB
def Z1z (w:World) (x:Bs × Bs × Int) (e:Ending) (w':World):Prop:=∃v,e= .returned (.tuple #[.agg #[.string (strB x.1),v],.int .i64 x.2.2])∧Own8 w' w.heap.size v x.2.1∧Below w.heap.size w w'
theorem Z0z {c:Bs} (h:c≠[]):(strB c).toList.isEmpty=false:=by
 have e:((strB c).toList==(strB []).toList)=false:=by rw[strB_eq];exact decide_eq_false h
 have e2:(strB []).toList=[]:=by unfold strB;rw[Lib.strOfNums_toList];rfl
 rw[e2]at e
 cases hl:(strB c).toList with
 |nil=>rw[hl]at e;cases e
 |cons a b=>rfl
theorem msgP_ok (m:TMsg) (h:(payP m).2=0):msgP m=(cmdB m.k,(payP m).1,0):=by unfold msgP;rw[if_pos h]
theorem pay_good (m:TMsg) (hk:1≤m.k∧m.k≤11∨m.k=13) (ht:tooB m=false):(payP m).2=0:=by
 unfold tooB mostP at ht
 simp only[Bool.or_eq_false_iff,Bool.and_eq_false_iff,decide_eq_false_iff_not]at ht
 obtain⟨h1,h2,h3⟩:=ht
 unfold payP
 repeat' split
 all_goals (first|rfl|(exfalso;simp_all<;>omega))
theorem lim_hs (m:TMsg) (ht:tooB m=false):m.hs.length≤mostP m:=by
 unfold tooB at ht
 simp only[Bool.or_eq_false_iff,decide_eq_false_iff_not]at ht
 omega
section
variable {nu:BitVec 32} {no:BitVec 64} {pv st:Bs} {hs:List Bs} {hd:List Hdr} {tx:Bs} {bl:TBlk}
theorem pay_k5 (ht:tooB ⟨5,nu,no,pv,st,hs,hd,tx,bl⟩=false):payP ⟨5,nu,no,pv,st,hs,hd,tx,bl⟩=(le32 nu++(hshB [] hs++st),0):=by
 have h:hs.length≤101:=lim_hs _ ht
 have e:payP ⟨5,nu,no,pv,st,hs,hd,tx,bl⟩=if 101<hs.length then([],1)else(le32 nu++(hshB [] hs++st),0):=rfl
 rw[e,if_neg (by omega)]
theorem pay_k11 (ht:tooB ⟨11,nu,no,pv,st,hs,hd,tx,bl⟩=false):payP ⟨11,nu,no,pv,st,hs,hd,tx,bl⟩=(hshB wantB hs,0):=by
 have h:hs.length≤1000:=lim_hs _ ht
 have e:payP ⟨11,nu,no,pv,st,hs,hd,tx,bl⟩=if 1000<hs.length then([],1)else(hshB wantB hs,0):=rfl
 rw[e,if_neg (by omega)]
end
theorem hshB_le {a:Bs} {l:List Bs} (h32:∀x∈l,x.length=32) (ha:a.length≤4):(hshB a l).length≤9+l.length*36:=by
 unfold hshB
 have h1:=QXz l.length
 have h2:=flat_le (fun h=>a++h) 36 l fun x hx=>by have:=h32 x hx;rw[List.length_append];omega
 rw[List.length_append]
 omega
theorem Ahead.nil (g:Nat) (w:World) (v:Value):Ahead g w none [] v:=⟨Row8.nil _ _,fun h=>absurd rfl h⟩
theorem Znz {w:World} {g o:Nat} {x:Bs} (h:w.rangeAt g o (Q5z x)) (hg:g<w.heap.size):Row8 w (some ⟨g,o,none⟩) x:=fun _=>
 ⟨g,o,rfl,hg,fun i b hb=>h i (u8 b) (by unfold Q5z;rw[List.getElem?_map,hb];rfl)⟩
theorem ahead_own {g:Nat} {W W':World} {v:Value} {ys bs:Bs} {p:Option Addr} {n c:Nat} (ho:Own8 W (g+1) v ys) (hg:g<W.heap.size) (h2:Own8 W' W.heap.size (.slice p n c) bs):Ahead g W' p bs v:=by
 refine⟨(AheadB.own h2).1,fun h0 x hx=>?_⟩
 rcases h2.2 with⟨e,h1⟩|⟨q,cap,cur,e,hq,hh,_⟩
 ·exact absurd (List.eq_nil_of_length_eq_zero h1) h0
 ·injection e with e1
  rw[hx]at e1
  injection e1 with e1
  subst e1
  have hlt:=(show Blk W' q 5 cur from hh).lt
  exact⟨fun e=>by have:=(World.ownsRow.lt ho _ e).2;simp only at this;omega,hlt,by simp only;omega⟩
theorem built_frm0:Tryz.prog.built 82 []=some YFrm.toArray:=by kernel_rfl
theorem enc_k1 (nu:BitVec 32) (no:BitVec 64) (pv st:Bs) (hs:List Bs) (hd:List Hdr) (tx:Bs) (bl:TBlk) (cs:List Value) (w:World) (hc:MsgC w ⟨1,nu,no,pv,st,hs,hd,tx,bl⟩ cs) (ht:tooB ⟨1,nu,no,pv,st,hs,hd,tx,bl⟩=false):
 Calls Tryz.prog 34 #[.agg cs.toArray] w (Z1z w (msgP ⟨1,nu,no,pv,st,hs,hd,tx,bl⟩)):=by
 have hk0:cmdB (1)=cmdN 1:=rfl
 obtain⟨cmd,hcmd⟩:∃c,c=cmdN 1:=⟨_,rfl⟩
 have HCM:Hid (cmd≠[]):=Lib.hid (by rw[hcmd];decide)
 have HMP:Hid (msgP ⟨1,nu,no,pv,st,hs,hd,tx,bl⟩=(cmd,(payP ⟨1,nu,no,pv,st,hs,hd,tx,bl⟩).1,0)):=Lib.hid (by rw[hcmd];exact msgP_ok _ (pay_good _ (show(1:Int)≤1∧(1:Int)≤11∨(1:Int)=13 by omega) ht))
 have HMP:Hid (msgP ⟨1,nu,no,pv,st,hs,hd,tx,bl⟩=(cmd,low (nu.setWidth 64) 4++(nulls 68++(low no 8++low 0#64 5)),0)):=HMP
 have HC:=Lib.hid hc
 have htoo:=fun W (h:MsgC W ⟨1,nu,no,pv,st,hs,hd,tx,bl⟩ cs)=>too_any _ cs W h
 rw[ht]at htoo
 have hcc:=fun W=>X6z (1) W
 rw[hk0,← hcmd]at hcc
 obtain⟨hv,dv,bv,bc,hcs,hpv,hst,hh,hdd,hb,hbl⟩:=hc
 obtain⟨p1,n1,c1,rfl⟩:=hh.opens
 obtain⟨p2,n2,c2,rfl⟩:=hdd.opens
 obtain⟨p3,n3,c3,rfl⟩:=hb.opens
 obtain⟨zm,hzm⟩:∃z,z=w.heap.size:=⟨_,rfl⟩
 obtain⟨W1,hW1⟩:∃W,W=w.alloc (.cells cs.toArray 41):=⟨_,rfl⟩
 obtain⟨W2,hW2⟩:∃W,W=W1.alloc (.cells YFrm.toArray 82):=⟨_,rfl⟩
 have z1:W1.heap.size=zm+1:=by rw[hW1,World.size_alloc,hzm]
 have k1:Below w.heap.size w W1:=by rw[hW1];exact Q1z w _
 have k2:Below W1.heap.size W1 W2:=by rw[hW2];exact Q1z W1 _
 have k02:=Q3z k1 k2 (Nat.le_refl _)
 obtain⟨z2,hz2⟩:∃z,z=zm+1:=⟨_,rfl⟩
 have B1:Blk W2 zm 41 cs.toArray:=(show Blk W1 zm _ _ by rw[hW1,hzm];exact Blk.new w _ _).fut k2
 have B2:Blk W2 z2 82 YFrm.toArray:=by rw[hW2,hz2,← z1];exact Blk.new W1 _ _
 rw[hcs]at B1
 have HPV:=Lib.hid hpv
 have HL0:Hid (([]:Bs).length≤0):=Lib.hid (Nat.le_refl 0)
 have HN1:Hid (n1=hs.length):=Lib.hid hh.slen.1.symm
 have HN3:=Lib.hid hb.slen.1
 have HEH:=Lib.hid hh
 have HN2:Hid (hd.length=n2):=Lib.hid hdd.slen.1
 have HDH:=Lib.hid hdd
 have HOKS:Hid (∀x∈hd,Hdr.ok x):=Lib.hid HC.out.okMsg.2.2.2.1
 have HTX0:Hid (tx.length=n3∧Row8 w p3 tx):=Lib.hid (by obtain⟨p',n',c',e,h1,_,_,h4,_⟩:=hb;injection e with e1 e2 _;rw[e1,e2];exact⟨h1,h4⟩)
 have HST:=Lib.hid hst
 have a0:=(B1.msg hpv hst).c0
 have HB1:=Lib.hid B1
 have HB2:=Lib.hid B2
 have HK02:=Lib.hid k02
 have HCS:=Lib.hid hcs
 have HZZ:Hid (zm=w.heap.size∧z2=zm+1):=Lib.hid ⟨hzm,hz2⟩
 have hzf:=yFrm
 have hbt:=fun s=>XAz s
 have hzw:=zWriter
 clear k1 k2 k02 z1 B1 B2 hcs hpv hst hh hdd hb hbl hcmd hk0 ht
 go_enter Tryz.func34,Tryz.ntmps34
 go_upto_region 1 with fail
 rw[←hW1,← hW2,← hzm,← hz2]
 clear hW1 hW2 hzm hz2
 go_wp2_with fail
 refine(hcc W2).mono ?_
 rintro e w3 ⟨rfl,hb3⟩
 have HB13:=Lib.hid (HB1.out.fut hb3)
 have HB23:=Lib.hid (HB2.out.fut hb3)
 have HW3:=Lib.hid (Q3z HK02.out hb3 (Nat.le_refl _))
 have hbn:=Q1z w3 (.cells YFrm.toArray 82)
 clear hb3 a0 HB1 HB2 HK02 hcc
 go_upto_region 2 with(first
  |(with_reducible refine Qjz (o:=⟨some 13,_,_,_,_,_⟩) ?_ 82 #[(0,.tmp 12)] ?_ [(0,.string (strB cmd))] ?_ #[.string (strB cmd),.slice none 0 0] hbt (strB cmd) ?_
    ·rfl
    ·rfl
    ·rfl)
  |(with_reducible refine Q4z (o:=⟨none,_,_,_,_,_⟩) ?_ 82 (.tmp 4) (.tmp 13) ?_ (w3.heap.size) 82 (YFrm.toArray) (#[.string (strB cmd),.slice none 0 0]) ?_ ?_ (Blk.new w3 _ _) ?_ ?_ ?_ (w3.heap.size) (w3) ?_ ?_ ?_
    ·rfl
    ·rfl
    ·rfl
    ·rfl
    ·exact((by kernel_rfl))
    ·exact(rfl)
    ·exact((by rw[List.all_toArray];rfl))
    ·exact(hbn)
    ·exact(Nat.le_refl _)
    intro w4 hB4 hb4 hg4 hs4))
 try simp only[Qpz]
 have HB14:=Lib.hid (HB13.out.fut hb4)
 have HB24:=Lib.hid (HB23.out.fut hb4)
 have HW4:=Lib.hid (Q3z HW3.out hb4 (Nat.le_refl _))
 have HB44:=Lib.hid hB4.out
 obtain⟨z4,hz4⟩:∃z,z=w3.heap.size:=⟨_,rfl⟩
 rw[←hz4]at HB44 ⊢
 have HZ4L:Hid (zm<z4∧z2<z4∧w.heap.size≤z4):=Lib.hid (by rw[hz4];exact⟨HB13.out.lt,HB23.out.lt,HW3.out.size⟩)
 clear hbn hz4 hB4 hb4 hg4 hs4 HB13 HB23 HW3
 have c4:w4.cell? ⟨z4,0,none⟩=some (.string (strB cmd)):=by have:=HB44.out.cell 0;simpa using this
 have heq:(strB cmd).toList.isEmpty=false:=Z0z HCM.out
 have hcl:=HC.out.len
 have HCL:=Lib.hid hcl
 have l1:w4.rangeAt zm 0 cs:=Qfz (by rw[HCS.out];exact HB14.out)
 have hcc4:=Qhz _ _ _ _ HC.out HW4.out
 have htoo4:=htoo w4 hcc4
 clear hcl hcc4 htoo
 go_wp2_with(first
  |(with_reducible refine Qlz (op:=⟨some 18,_,_,_,_,_⟩) ?_ 41 (.tmp 1) ?_ (zm) (0) ?_ (cs) _ (l1) Tryz.underlying41 ?_ ?_ ?_
    ·rfl
    ·rfl
    ·rfl
    ·rfl
    ·exact((Qkz HCL.out))))
 refine htoo4.mono ?_
 rintro e wE ⟨rfl,hb5⟩
 have HMB:=Lib.hid (HB14.out.fut hb5)
 have HZ2:=Lib.hid (HB24.out.fut hb5)
 have HZ4:=Lib.hid (HB44.out.fut hb5)
 have HWE:=Lib.hid (Q3z HW4.out hb5 (Nat.le_refl _))
 have HMC:=Lib.hid (Qhz _ _ _ _ HC.out HWE.out)
 obtain⟨gw,hgw⟩:∃g,g=wE.heap.size:=⟨_,rfl⟩
 have HGE:Hid (wE.heap.size=gw):=Lib.hid hgw.symm
 have HLT:Hid (zm<gw∧z2<gw∧z4<gw∧w.heap.size≤z2∧w.heap.size≤z4):=Lib.hid (by rw[hgw];have h1:=HMB.out.lt;have h2:=HZ2.out.lt;have h3:=HZ4.out.lt;have h4:=HZZ.out;have h5:=HZ4L.out;omega)
 have hnb:=Q1z wE (.cells #[.slice none 0 0] 138)
 obtain⟨w6,hw6⟩:∃W,W=wE.alloc (.cells #[.slice none 0 0] 138):=⟨_,rfl⟩
 have HW6:Hid (WrM gw w6 (Value.slice none 0 0) []):=Lib.hid ⟨by rw[hw6,hgw];exact Blk.new wE _ _,Own8.nil _ _⟩
 have HB6:Hid (Below gw wE w6):=Lib.hid (by rw[hw6,hgw];exact hnb)
 have a0:=((HMB.out.below HB6.out HLT.out.1).msg HPV.out HST.out).c0
 have HE:=Lib.hid (HEH.out.fut Z3z HWE.out)
 have HTX:Hid (tx.length=n3∧Row8 wE p3 tx):=Lib.hid ⟨HTX0.out.1,HTX0.out.2.below HWE.out (Nat.le_refl _)⟩
 have HED:=Lib.hid (HDH.out.fut hdrE_c HWE.out)
 clear HEH HTX0 HDH
 clear hnb hb5 htoo4 l1 c4 HB14 HB24 HB44 HW4 HC heq hbt
 go_upto_region 5 with fail
 rw[←hw6,← hgw]
 clear hw6 hgw hzw
 obtain⟨a0,a1,a2,ap,aq,a67,a68,a69,ab⟩:=(HMB.out.below HB6.out HLT.out.1).msg HPV.out HST.out
 clear a0 a2 ap aq a67 a68 a69 ab
 have ec:=Xnz nu
 go_wp2_with fail
 clear ec
 refine(wNum_any (nu.setWidth 64) 4 (by omega) gw w6 (Value.slice none 0 0) ([]) HW6.out (by have:=HL0.out;omega)).mono ?_
 rintro e W1 ⟨rfl,v1,hw1,hb1⟩
 obtain⟨q1,m1,c1,rfl,_⟩:=hw1.own.open
 have HW1:=Lib.hid hw1
 have HB1:=Lib.hid (HB6.out.trans hb1)
 clear a0 hw1 hb1 HW6 HB6 a1
 have HL2:Hid (([]++low (nu.setWidth 64) 4).length≤4):=Lib.hid (by rw[List.length_append,Qez];have:=HL0.out;omega)
 clear HL0
 go_upto_region 8 with fail
 have cg:W1.cell? ⟨gw,0,none⟩=some (Value.slice q1 m1 c1):=by have:=HW1.out.blk.cell 0;simpa using this
 go_upto_region 9 with(
  with_reducible refine wp_appendZ (o:=⟨some 32,_,_,_,_,_⟩) ?_ (.tmp 31) (.const (.int .i64 68)) ?_ (gw+1) _ ([]++low (nu.setWidth 64) 4) ?_ HW1.out.own 68 ?_ ?_ ?_ HW1.out.lt ?_
  ·rfl
  ·rfl
  ·rfl
  ·rfl
  ·omega
  ·have:=HL2.out;omega
  intro vz wz hoz hgz hjz
  obtain⟨q3,m3,c3,rfl,_⟩:=hoz.open
  have hFz:WF gw wE (Value.slice q1 m1 c1) wz:=WF.app ⟨HW1.out.blk,HB1.out⟩ HW1.out.own hgz
  have dz:wz.cell? ⟨gw,0,none⟩=some (Value.slice q1 m1 c1):=by have:=hFz.blk.cell 0;simpa using this
  have fz:=hFz.blk.frozen 0
  have HFZ:=Lib.hid hFz
  have HOZ:=Lib.hid hoz
  clear hFz hoz hgz hjz)
 have HWz:=Lib.hid (WrM.put HFZ.out.blk HOZ.out)
 have HBz:=Lib.hid (HFZ.out.bel.trans (Xhz gw wz (Value.slice q3 m3 c3)))
 clear dz fz HFZ HOZ HW1 HB1 cg
 generalize wz.setCell ⟨gw,0,none⟩ (Value.slice q3 m3 c3)=W3 at*
 have HL4:Hid (([]++low (nu.setWidth 64) 4++nulls 68).length≤72):=Lib.hid (by rw[List.length_append,nulls_len];have:=HL2.out;omega)
 clear HL2
 obtain⟨a0,a1,a2,ap,aq,a67,a68,a69,ab⟩:=(HMB.out.below HBz.out HLT.out.1).msg HPV.out HST.out
 clear a0 a1 ap aq a67 a68 a69 ab
 go_wp2_with fail
 refine(wNum_any (no) 8 (by omega) gw W3 (Value.slice q3 m3 c3) ([]++low (nu.setWidth 64) 4++nulls 68) HWz.out (by have:=HL4.out;omega)).mono ?_
 rintro e W5 ⟨rfl,v5,hw5,hb5⟩
 obtain⟨q5,m5,c5,rfl,_⟩:=hw5.own.open
 have HW5:=Lib.hid hw5
 have HB5:=Lib.hid (HBz.out.trans hb5)
 clear hw5 hb5 HWz HBz a2
 have HL6:Hid (([]++low (nu.setWidth 64) 4++nulls 68++low no 8).length≤80):=Lib.hid (by rw[List.length_append,Qez];have:=HL4.out;omega)
 clear HL4
 obtain⟨a0,a1,a2,ap,aq,a67,a68,a69,ab⟩:=(HMB.out.below HB5.out HLT.out.1).msg HPV.out HST.out
 clear a0 a1 a2 ap aq a67 a68 a69 ab
 go_wp2_with fail
 refine(wNum_any (0#64) 5 (by omega) gw W5 (Value.slice q5 m5 c5) ([]++low (nu.setWidth 64) 4++nulls 68++low no 8) HW5.out (by have:=HL6.out;omega)).mono ?_
 rintro e W7 ⟨rfl,v7,hw7,hb7⟩
 obtain⟨q7,m7,c7,rfl,_⟩:=hw7.own.open
 have HW7:=Lib.hid hw7
 have HB7:=Lib.hid (HB5.out.trans hb7)
 clear hw7 hb7 HW5 HB5
 have HL8:Hid (([]++low (nu.setWidth 64) 4++nulls 68++low no 8++low 0#64 5).length≤85):=Lib.hid (by rw[List.length_append,Qez];have:=HL6.out;omega)
 clear HL6
 go_upto_region 43 with fail
 have H4:=Lib.hid (HZ4.out.below HB7.out HLT.out.2.2.1)
 have H2:=Lib.hid (HZ2.out.below HB7.out HLT.out.2.1)
 have cg:W7.cell? ⟨gw,0,none⟩=some (Value.slice q7 m7 c7):=by have:=HW7.out.blk.cell 0;simpa using this
 have f4:=H4.out.frozen 1
 have d4:W7.cell? ⟨z4,1,none⟩=some (.slice none 0 0):=by have:=H4.out.cell 1;simpa using this
 have HO:=Lib.hid (Own8.mono' HW7.out.own (B':=w.heap.size) (by have:=HLT.out;omega))
 have HBW:=Lib.hid (HWE.out.trans (HB7.out.mono (by have:=HLT.out;omega)))
 go_upto_region 44 with fail
 have hst4:=Stays.set W7 z4 1 (Value.slice q7 m7 c7)
 have H4b:Hid (Blk (W7.setCell ⟨z4,1,none⟩ (Value.slice q7 m7 c7)) z4 82 #[.string (strB cmd),(Value.slice q7 m7 c7)]):=Lib.hid (by have:=H4.out.set 1 (Value.slice q7 m7 c7);simpa using this)
 have H2b:=Lib.hid (H2.out.stays hst4 (by have:=HZ4L.out;omega))
 have HO4:=Lib.hid (HO.out.sep hst4 (Qiz H4.out (by decide)))
 have HB4:Hid (Below w.heap.size w (W7.setCell ⟨z4,1,none⟩ (Value.slice q7 m7 c7))):=Lib.hid (HBW.out.setCell (show w.heap.size≤z4 from HLT.out.2.2.2.2) _)
 clear hst4 cg f4 d4 H4 H2 HO HBW HW7 HB7
 generalize W7.setCell ⟨z4,1,none⟩ (Value.slice q7 m7 c7)=wF at*
 have l4:=Qfz (cs:=[.string (strB cmd),(Value.slice q7 m7 c7)]) H4b.out
 have hbr:=Below.refl w.heap.size wF
 have hz2w:w.heap.size≤z2:=HLT.out.2.2.2.1
 go_wp2_with(first
  |(with_reducible refine wpList_load_mid (op:=⟨some 146,_,_,_,_,_⟩) ?_ 82 (.tmp 4) ?_ (z4) (0) ?_ ([.string (strB cmd),(Value.slice q7 m7 c7)]) _ (l4) Tryz.underlying82 ?_ ?_ ?_
    ·rfl
    ·rfl
    ·rfl
    ·rfl
    ·exact((by kernel_rfl)))
  |(with_reducible refine Q4z (o:=⟨none,_,_,_,_,_⟩) ?_ 82 (.tmp 2) (.tmp 146) ?_ (z2) 82 (YFrm.toArray) (#[.string (strB cmd),(Value.slice q7 m7 c7)]) ?_ ?_ (H2b.out) ?_ ?_ ?_ (w.heap.size) (wF) ?_ ?_ ?_
    ·rfl
    ·rfl
    ·rfl
    ·rfl
    ·exact((by kernel_rfl))
    ·exact(rfl)
    ·exact((by rw[List.all_toArray];rfl))
    ·exact(hbr)
    ·exact(hz2w)
    intro wG hBG hbG hgG hsG))
 refine bodyPost_ret (Qoz rfl _ _ _ z2 _ [.string (strB cmd),(Value.slice q7 m7 c7)] _ rfl hBG.out Tryz.underlying82 rfl (by kernel_rfl)) rfl ?_
 have hst:=Stays.of_grown (S:=fun k=>k=z2) hgG.out (fun k h=>by injection h with h;exact h.symm)
 rw[HMP.out]
 exact⟨_,rfl,by have h:=HO4.out.sep hst (Qiz H2b.out (by decide));simpa only[List.nil_append,List.append_assoc,List.append_nil]using h,HB4.out.trans hbG⟩
theorem enc_k2 (nu:BitVec 32) (no:BitVec 64) (pv st:Bs) (hs:List Bs) (hd:List Hdr) (tx:Bs) (bl:TBlk) (cs:List Value) (w:World) (hc:MsgC w ⟨2,nu,no,pv,st,hs,hd,tx,bl⟩ cs) (ht:tooB ⟨2,nu,no,pv,st,hs,hd,tx,bl⟩=false):
 Calls Tryz.prog 34 #[.agg cs.toArray] w (Z1z w (msgP ⟨2,nu,no,pv,st,hs,hd,tx,bl⟩)):=by
 have hk0:cmdB (2)=cmdN 2:=rfl
 obtain⟨cmd,hcmd⟩:∃c,c=cmdN 2:=⟨_,rfl⟩
 have HCM:Hid (cmd≠[]):=Lib.hid (by rw[hcmd];decide)
 have HMP:Hid (msgP ⟨2,nu,no,pv,st,hs,hd,tx,bl⟩=(cmd,(payP ⟨2,nu,no,pv,st,hs,hd,tx,bl⟩).1,0)):=Lib.hid (by rw[hcmd];exact msgP_ok _ (pay_good _ (show(1:Int)≤2∧(2:Int)≤11∨(2:Int)=13 by omega) ht))
 have HMP:Hid (msgP ⟨2,nu,no,pv,st,hs,hd,tx,bl⟩=(cmd,[],0)):=HMP
 have HC:=Lib.hid hc
 have htoo:=fun W (h:MsgC W ⟨2,nu,no,pv,st,hs,hd,tx,bl⟩ cs)=>too_any _ cs W h
 rw[ht]at htoo
 have hcc:=fun W=>X6z (2) W
 rw[hk0,← hcmd]at hcc
 obtain⟨hv,dv,bv,bc,hcs,hpv,hst,hh,hdd,hb,hbl⟩:=hc
 obtain⟨p1,n1,c1,rfl⟩:=hh.opens
 obtain⟨p2,n2,c2,rfl⟩:=hdd.opens
 obtain⟨p3,n3,c3,rfl⟩:=hb.opens
 obtain⟨zm,hzm⟩:∃z,z=w.heap.size:=⟨_,rfl⟩
 obtain⟨W1,hW1⟩:∃W,W=w.alloc (.cells cs.toArray 41):=⟨_,rfl⟩
 obtain⟨W2,hW2⟩:∃W,W=W1.alloc (.cells YFrm.toArray 82):=⟨_,rfl⟩
 have z1:W1.heap.size=zm+1:=by rw[hW1,World.size_alloc,hzm]
 have k1:Below w.heap.size w W1:=by rw[hW1];exact Q1z w _
 have k2:Below W1.heap.size W1 W2:=by rw[hW2];exact Q1z W1 _
 have k02:=Q3z k1 k2 (Nat.le_refl _)
 obtain⟨z2,hz2⟩:∃z,z=zm+1:=⟨_,rfl⟩
 have B1:Blk W2 zm 41 cs.toArray:=(show Blk W1 zm _ _ by rw[hW1,hzm];exact Blk.new w _ _).fut k2
 have B2:Blk W2 z2 82 YFrm.toArray:=by rw[hW2,hz2,← z1];exact Blk.new W1 _ _
 rw[hcs]at B1
 have HPV:=Lib.hid hpv
 have HL0:Hid (([]:Bs).length≤0):=Lib.hid (Nat.le_refl 0)
 have HN1:Hid (n1=hs.length):=Lib.hid hh.slen.1.symm
 have HN3:=Lib.hid hb.slen.1
 have HEH:=Lib.hid hh
 have HN2:Hid (hd.length=n2):=Lib.hid hdd.slen.1
 have HDH:=Lib.hid hdd
 have HOKS:Hid (∀x∈hd,Hdr.ok x):=Lib.hid HC.out.okMsg.2.2.2.1
 have HTX0:Hid (tx.length=n3∧Row8 w p3 tx):=Lib.hid (by obtain⟨p',n',c',e,h1,_,_,h4,_⟩:=hb;injection e with e1 e2 _;rw[e1,e2];exact⟨h1,h4⟩)
 have HST:=Lib.hid hst
 have a0:=(B1.msg hpv hst).c0
 have HB1:=Lib.hid B1
 have HB2:=Lib.hid B2
 have HK02:=Lib.hid k02
 have HCS:=Lib.hid hcs
 have HZZ:Hid (zm=w.heap.size∧z2=zm+1):=Lib.hid ⟨hzm,hz2⟩
 have hzf:=yFrm
 have hbt:=fun s=>XAz s
 have hzw:=zWriter
 clear k1 k2 k02 z1 B1 B2 hcs hpv hst hh hdd hb hbl hcmd hk0 ht
 go_enter Tryz.func34,Tryz.ntmps34
 go_upto_region 1 with fail
 rw[←hW1,← hW2,← hzm,← hz2]
 clear hW1 hW2 hzm hz2
 go_wp2_with fail
 refine(hcc W2).mono ?_
 rintro e w3 ⟨rfl,hb3⟩
 have HB13:=Lib.hid (HB1.out.fut hb3)
 have HB23:=Lib.hid (HB2.out.fut hb3)
 have HW3:=Lib.hid (Q3z HK02.out hb3 (Nat.le_refl _))
 have hbn:=Q1z w3 (.cells YFrm.toArray 82)
 clear hb3 a0 HB1 HB2 HK02 hcc
 go_upto_region 2 with(first
  |(with_reducible refine Qjz (o:=⟨some 13,_,_,_,_,_⟩) ?_ 82 #[(0,.tmp 12)] ?_ [(0,.string (strB cmd))] ?_ #[.string (strB cmd),.slice none 0 0] hbt (strB cmd) ?_
    ·rfl
    ·rfl
    ·rfl)
  |(with_reducible refine Q4z (o:=⟨none,_,_,_,_,_⟩) ?_ 82 (.tmp 4) (.tmp 13) ?_ (w3.heap.size) 82 (YFrm.toArray) (#[.string (strB cmd),.slice none 0 0]) ?_ ?_ (Blk.new w3 _ _) ?_ ?_ ?_ (w3.heap.size) (w3) ?_ ?_ ?_
    ·rfl
    ·rfl
    ·rfl
    ·rfl
    ·exact((by kernel_rfl))
    ·exact(rfl)
    ·exact((by rw[List.all_toArray];rfl))
    ·exact(hbn)
    ·exact(Nat.le_refl _)
    intro w4 hB4 hb4 hg4 hs4))
 try simp only[Qpz]
 have HB14:=Lib.hid (HB13.out.fut hb4)
 have HB24:=Lib.hid (HB23.out.fut hb4)
 have HW4:=Lib.hid (Q3z HW3.out hb4 (Nat.le_refl _))
 have HB44:=Lib.hid hB4.out
 obtain⟨z4,hz4⟩:∃z,z=w3.heap.size:=⟨_,rfl⟩
 rw[←hz4]at HB44 ⊢
 have HZ4L:Hid (zm<z4∧z2<z4∧w.heap.size≤z4):=Lib.hid (by rw[hz4];exact⟨HB13.out.lt,HB23.out.lt,HW3.out.size⟩)
 clear hbn hz4 hB4 hb4 hg4 hs4 HB13 HB23 HW3
 have c4:w4.cell? ⟨z4,0,none⟩=some (.string (strB cmd)):=by have:=HB44.out.cell 0;simpa using this
 have heq:(strB cmd).toList.isEmpty=false:=Z0z HCM.out
 have hcl:=HC.out.len
 have HCL:=Lib.hid hcl
 have l1:w4.rangeAt zm 0 cs:=Qfz (by rw[HCS.out];exact HB14.out)
 have hcc4:=Qhz _ _ _ _ HC.out HW4.out
 have htoo4:=htoo w4 hcc4
 clear hcl hcc4 htoo
 go_wp2_with(first
  |(with_reducible refine Qlz (op:=⟨some 18,_,_,_,_,_⟩) ?_ 41 (.tmp 1) ?_ (zm) (0) ?_ (cs) _ (l1) Tryz.underlying41 ?_ ?_ ?_
    ·rfl
    ·rfl
    ·rfl
    ·rfl
    ·exact((Qkz HCL.out))))
 refine htoo4.mono ?_
 rintro e wE ⟨rfl,hb5⟩
 have HMB:=Lib.hid (HB14.out.fut hb5)
 have HZ2:=Lib.hid (HB24.out.fut hb5)
 have HZ4:=Lib.hid (HB44.out.fut hb5)
 have HWE:=Lib.hid (Q3z HW4.out hb5 (Nat.le_refl _))
 have HMC:=Lib.hid (Qhz _ _ _ _ HC.out HWE.out)
 obtain⟨gw,hgw⟩:∃g,g=wE.heap.size:=⟨_,rfl⟩
 have HGE:Hid (wE.heap.size=gw):=Lib.hid hgw.symm
 have HLT:Hid (zm<gw∧z2<gw∧z4<gw∧w.heap.size≤z2∧w.heap.size≤z4):=Lib.hid (by rw[hgw];have h1:=HMB.out.lt;have h2:=HZ2.out.lt;have h3:=HZ4.out.lt;have h4:=HZZ.out;have h5:=HZ4L.out;omega)
 have hnb:=Q1z wE (.cells #[.slice none 0 0] 138)
 obtain⟨w6,hw6⟩:∃W,W=wE.alloc (.cells #[.slice none 0 0] 138):=⟨_,rfl⟩
 have HW6:Hid (WrM gw w6 (Value.slice none 0 0) []):=Lib.hid ⟨by rw[hw6,hgw];exact Blk.new wE _ _,Own8.nil _ _⟩
 have HB6:Hid (Below gw wE w6):=Lib.hid (by rw[hw6,hgw];exact hnb)
 have a0:=((HMB.out.below HB6.out HLT.out.1).msg HPV.out HST.out).c0
 have HE:=Lib.hid (HEH.out.fut Z3z HWE.out)
 have HTX:Hid (tx.length=n3∧Row8 wE p3 tx):=Lib.hid ⟨HTX0.out.1,HTX0.out.2.below HWE.out (Nat.le_refl _)⟩
 have HED:=Lib.hid (HDH.out.fut hdrE_c HWE.out)
 clear HEH HTX0 HDH
 clear hnb hb5 htoo4 l1 c4 HB14 HB24 HB44 HW4 HC heq hbt
 go_upto_region 5 with fail
 rw[←hw6,← hgw]
 clear hw6 hgw hzw
 go_upto_region 43 with fail
 clear a0
 have H4:=Lib.hid (HZ4.out.below HB6.out HLT.out.2.2.1)
 have H2:=Lib.hid (HZ2.out.below HB6.out HLT.out.2.1)
 have cg:w6.cell? ⟨gw,0,none⟩=some (Value.slice none 0 0):=by have:=HW6.out.blk.cell 0;simpa using this
 have f4:=H4.out.frozen 1
 have d4:w6.cell? ⟨z4,1,none⟩=some (.slice none 0 0):=by have:=H4.out.cell 1;simpa using this
 have HO:=Lib.hid (Own8.mono' HW6.out.own (B':=w.heap.size) (by have:=HLT.out;omega))
 have HBW:=Lib.hid (HWE.out.trans (HB6.out.mono (by have:=HLT.out;omega)))
 go_upto_region 44 with fail
 have hst4:=Stays.set w6 z4 1 (Value.slice none 0 0)
 have H4b:Hid (Blk (w6.setCell ⟨z4,1,none⟩ (Value.slice none 0 0)) z4 82 #[.string (strB cmd),(Value.slice none 0 0)]):=Lib.hid (by have:=H4.out.set 1 (Value.slice none 0 0);simpa using this)
 have H2b:=Lib.hid (H2.out.stays hst4 (by have:=HZ4L.out;omega))
 have HO4:=Lib.hid (HO.out.sep hst4 (Qiz H4.out (by decide)))
 have HB4:Hid (Below w.heap.size w (w6.setCell ⟨z4,1,none⟩ (Value.slice none 0 0))):=Lib.hid (HBW.out.setCell (show w.heap.size≤z4 from HLT.out.2.2.2.2) _)
 clear hst4 cg f4 d4 H4 H2 HO HBW HW6 HB6
 generalize w6.setCell ⟨z4,1,none⟩ (Value.slice none 0 0)=wF at*
 have l4:=Qfz (cs:=[.string (strB cmd),(Value.slice none 0 0)]) H4b.out
 have hbr:=Below.refl w.heap.size wF
 have hz2w:w.heap.size≤z2:=HLT.out.2.2.2.1
 go_wp2_with(first
  |(with_reducible refine wpList_load_mid (op:=⟨some 146,_,_,_,_,_⟩) ?_ 82 (.tmp 4) ?_ (z4) (0) ?_ ([.string (strB cmd),(Value.slice none 0 0)]) _ (l4) Tryz.underlying82 ?_ ?_ ?_
    ·rfl
    ·rfl
    ·rfl
    ·rfl
    ·exact((by kernel_rfl)))
  |(with_reducible refine Q4z (o:=⟨none,_,_,_,_,_⟩) ?_ 82 (.tmp 2) (.tmp 146) ?_ (z2) 82 (YFrm.toArray) (#[.string (strB cmd),(Value.slice none 0 0)]) ?_ ?_ (H2b.out) ?_ ?_ ?_ (w.heap.size) (wF) ?_ ?_ ?_
    ·rfl
    ·rfl
    ·rfl
    ·rfl
    ·exact((by kernel_rfl))
    ·exact(rfl)
    ·exact((by rw[List.all_toArray];rfl))
    ·exact(hbr)
    ·exact(hz2w)
    intro wG hBG hbG hgG hsG))
 refine bodyPost_ret (Qoz rfl _ _ _ z2 _ [.string (strB cmd),(Value.slice none 0 0)] _ rfl hBG.out Tryz.underlying82 rfl (by kernel_rfl)) rfl ?_
 have hst:=Stays.of_grown (S:=fun k=>k=z2) hgG.out (fun k h=>by injection h with h;exact h.symm)
 rw[HMP.out]
 exact⟨_,rfl,by have h:=HO4.out.sep hst (Qiz H2b.out (by decide));simpa only[List.nil_append,List.append_assoc,List.append_nil]using h,HB4.out.trans hbG⟩
theorem enc_k4 (nu:BitVec 32) (no:BitVec 64) (pv st:Bs) (hs:List Bs) (hd:List Hdr) (tx:Bs) (bl:TBlk) (cs:List Value) (w:World) (hc:MsgC w ⟨4,nu,no,pv,st,hs,hd,tx,bl⟩ cs) (ht:tooB ⟨4,nu,no,pv,st,hs,hd,tx,bl⟩=false):
 Calls Tryz.prog 34 #[.agg cs.toArray] w (Z1z w (msgP ⟨4,nu,no,pv,st,hs,hd,tx,bl⟩)):=by
 have hk0:cmdB (4)=cmdN 4:=rfl
 obtain⟨cmd,hcmd⟩:∃c,c=cmdN 4:=⟨_,rfl⟩
 have HCM:Hid (cmd≠[]):=Lib.hid (by rw[hcmd];decide)
 have HMP:Hid (msgP ⟨4,nu,no,pv,st,hs,hd,tx,bl⟩=(cmd,(payP ⟨4,nu,no,pv,st,hs,hd,tx,bl⟩).1,0)):=Lib.hid (by rw[hcmd];exact msgP_ok _ (pay_good _ (show(1:Int)≤4∧(4:Int)≤11∨(4:Int)=13 by omega) ht))
 have HMP:Hid (msgP ⟨4,nu,no,pv,st,hs,hd,tx,bl⟩=(cmd,low no 8,0)):=HMP
 have HC:=Lib.hid hc
 have htoo:=fun W (h:MsgC W ⟨4,nu,no,pv,st,hs,hd,tx,bl⟩ cs)=>too_any _ cs W h
 rw[ht]at htoo
 have hcc:=fun W=>X6z (4) W
 rw[hk0,← hcmd]at hcc
 obtain⟨hv,dv,bv,bc,hcs,hpv,hst,hh,hdd,hb,hbl⟩:=hc
 obtain⟨p1,n1,c1,rfl⟩:=hh.opens
 obtain⟨p2,n2,c2,rfl⟩:=hdd.opens
 obtain⟨p3,n3,c3,rfl⟩:=hb.opens
 obtain⟨zm,hzm⟩:∃z,z=w.heap.size:=⟨_,rfl⟩
 obtain⟨W1,hW1⟩:∃W,W=w.alloc (.cells cs.toArray 41):=⟨_,rfl⟩
 obtain⟨W2,hW2⟩:∃W,W=W1.alloc (.cells YFrm.toArray 82):=⟨_,rfl⟩
 have z1:W1.heap.size=zm+1:=by rw[hW1,World.size_alloc,hzm]
 have k1:Below w.heap.size w W1:=by rw[hW1];exact Q1z w _
 have k2:Below W1.heap.size W1 W2:=by rw[hW2];exact Q1z W1 _
 have k02:=Q3z k1 k2 (Nat.le_refl _)
 obtain⟨z2,hz2⟩:∃z,z=zm+1:=⟨_,rfl⟩
 have B1:Blk W2 zm 41 cs.toArray:=(show Blk W1 zm _ _ by rw[hW1,hzm];exact Blk.new w _ _).fut k2
 have B2:Blk W2 z2 82 YFrm.toArray:=by rw[hW2,hz2,← z1];exact Blk.new W1 _ _
 rw[hcs]at B1
 have HPV:=Lib.hid hpv
 have HL0:Hid (([]:Bs).length≤0):=Lib.hid (Nat.le_refl 0)
 have HN1:Hid (n1=hs.length):=Lib.hid hh.slen.1.symm
 have HN3:=Lib.hid hb.slen.1
 have HEH:=Lib.hid hh
 have HN2:Hid (hd.length=n2):=Lib.hid hdd.slen.1
 have HDH:=Lib.hid hdd
 have HOKS:Hid (∀x∈hd,Hdr.ok x):=Lib.hid HC.out.okMsg.2.2.2.1
 have HTX0:Hid (tx.length=n3∧Row8 w p3 tx):=Lib.hid (by obtain⟨p',n',c',e,h1,_,_,h4,_⟩:=hb;injection e with e1 e2 _;rw[e1,e2];exact⟨h1,h4⟩)
 have HST:=Lib.hid hst
 have a0:=(B1.msg hpv hst).c0
 have HB1:=Lib.hid B1
 have HB2:=Lib.hid B2
 have HK02:=Lib.hid k02
 have HCS:=Lib.hid hcs
 have HZZ:Hid (zm=w.heap.size∧z2=zm+1):=Lib.hid ⟨hzm,hz2⟩
 have hzf:=yFrm
 have hbt:=fun s=>XAz s
 have hzw:=zWriter
 clear k1 k2 k02 z1 B1 B2 hcs hpv hst hh hdd hb hbl hcmd hk0 ht
 go_enter Tryz.func34,Tryz.ntmps34
 go_upto_region 1 with fail
 rw[←hW1,← hW2,← hzm,← hz2]
 clear hW1 hW2 hzm hz2
 go_wp2_with fail
 refine(hcc W2).mono ?_
 rintro e w3 ⟨rfl,hb3⟩
 have HB13:=Lib.hid (HB1.out.fut hb3)
 have HB23:=Lib.hid (HB2.out.fut hb3)
 have HW3:=Lib.hid (Q3z HK02.out hb3 (Nat.le_refl _))
 have hbn:=Q1z w3 (.cells YFrm.toArray 82)
 clear hb3 a0 HB1 HB2 HK02 hcc
 go_upto_region 2 with(first
  |(with_reducible refine Qjz (o:=⟨some 13,_,_,_,_,_⟩) ?_ 82 #[(0,.tmp 12)] ?_ [(0,.string (strB cmd))] ?_ #[.string (strB cmd),.slice none 0 0] hbt (strB cmd) ?_
    ·rfl
    ·rfl
    ·rfl)
  |(with_reducible refine Q4z (o:=⟨none,_,_,_,_,_⟩) ?_ 82 (.tmp 4) (.tmp 13) ?_ (w3.heap.size) 82 (YFrm.toArray) (#[.string (strB cmd),.slice none 0 0]) ?_ ?_ (Blk.new w3 _ _) ?_ ?_ ?_ (w3.heap.size) (w3) ?_ ?_ ?_
    ·rfl
    ·rfl
    ·rfl
    ·rfl
    ·exact((by kernel_rfl))
    ·exact(rfl)
    ·exact((by rw[List.all_toArray];rfl))
    ·exact(hbn)
    ·exact(Nat.le_refl _)
    intro w4 hB4 hb4 hg4 hs4))
 try simp only[Qpz]
 have HB14:=Lib.hid (HB13.out.fut hb4)
 have HB24:=Lib.hid (HB23.out.fut hb4)
 have HW4:=Lib.hid (Q3z HW3.out hb4 (Nat.le_refl _))
 have HB44:=Lib.hid hB4.out
 obtain⟨z4,hz4⟩:∃z,z=w3.heap.size:=⟨_,rfl⟩
 rw[←hz4]at HB44 ⊢
 have HZ4L:Hid (zm<z4∧z2<z4∧w.heap.size≤z4):=Lib.hid (by rw[hz4];exact⟨HB13.out.lt,HB23.out.lt,HW3.out.size⟩)
 clear hbn hz4 hB4 hb4 hg4 hs4 HB13 HB23 HW3
 have c4:w4.cell? ⟨z4,0,none⟩=some (.string (strB cmd)):=by have:=HB44.out.cell 0;simpa using this
 have heq:(strB cmd).toList.isEmpty=false:=Z0z HCM.out
 have hcl:=HC.out.len
 have HCL:=Lib.hid hcl
 have l1:w4.rangeAt zm 0 cs:=Qfz (by rw[HCS.out];exact HB14.out)
 have hcc4:=Qhz _ _ _ _ HC.out HW4.out
 have htoo4:=htoo w4 hcc4
 clear hcl hcc4 htoo
 go_wp2_with(first
  |(with_reducible refine Qlz (op:=⟨some 18,_,_,_,_,_⟩) ?_ 41 (.tmp 1) ?_ (zm) (0) ?_ (cs) _ (l1) Tryz.underlying41 ?_ ?_ ?_
    ·rfl
    ·rfl
    ·rfl
    ·rfl
    ·exact((Qkz HCL.out))))
 refine htoo4.mono ?_
 rintro e wE ⟨rfl,hb5⟩
 have HMB:=Lib.hid (HB14.out.fut hb5)
 have HZ2:=Lib.hid (HB24.out.fut hb5)
 have HZ4:=Lib.hid (HB44.out.fut hb5)
 have HWE:=Lib.hid (Q3z HW4.out hb5 (Nat.le_refl _))
 have HMC:=Lib.hid (Qhz _ _ _ _ HC.out HWE.out)
 obtain⟨gw,hgw⟩:∃g,g=wE.heap.size:=⟨_,rfl⟩
 have HGE:Hid (wE.heap.size=gw):=Lib.hid hgw.symm
 have HLT:Hid (zm<gw∧z2<gw∧z4<gw∧w.heap.size≤z2∧w.heap.size≤z4):=Lib.hid (by rw[hgw];have h1:=HMB.out.lt;have h2:=HZ2.out.lt;have h3:=HZ4.out.lt;have h4:=HZZ.out;have h5:=HZ4L.out;omega)
 have hnb:=Q1z wE (.cells #[.slice none 0 0] 138)
 obtain⟨w6,hw6⟩:∃W,W=wE.alloc (.cells #[.slice none 0 0] 138):=⟨_,rfl⟩
 have HW6:Hid (WrM gw w6 (Value.slice none 0 0) []):=Lib.hid ⟨by rw[hw6,hgw];exact Blk.new wE _ _,Own8.nil _ _⟩
 have HB6:Hid (Below gw wE w6):=Lib.hid (by rw[hw6,hgw];exact hnb)
 have a0:=((HMB.out.below HB6.out HLT.out.1).msg HPV.out HST.out).c0
 have HE:=Lib.hid (HEH.out.fut Z3z HWE.out)
 have HTX:Hid (tx.length=n3∧Row8 wE p3 tx):=Lib.hid ⟨HTX0.out.1,HTX0.out.2.below HWE.out (Nat.le_refl _)⟩
 have HED:=Lib.hid (HDH.out.fut hdrE_c HWE.out)
 clear HEH HTX0 HDH
 clear hnb hb5 htoo4 l1 c4 HB14 HB24 HB44 HW4 HC heq hbt
 go_upto_region 5 with fail
 rw[←hw6,← hgw]
 clear hw6 hgw hzw
 obtain⟨a0,a1,a2,ap,aq,a67,a68,a69,ab⟩:=(HMB.out.below HB6.out HLT.out.1).msg HPV.out HST.out
 clear a0 a1 ap aq a67 a68 a69 ab
 go_wp2_with fail
 refine(wNum_any (no) 8 (by omega) gw w6 (Value.slice none 0 0) ([]) HW6.out (by have:=HL0.out;omega)).mono ?_
 rintro e W14 ⟨rfl,v14,hw14,hb14⟩
 obtain⟨q14,m14,c14,rfl,_⟩:=hw14.own.open
 have HW14:=Lib.hid hw14
 have HB14:=Lib.hid (HB6.out.trans hb14)
 clear a0 hw14 hb14 HW6 HB6 a2
 have HL15:Hid (([]++low no 8).length≤8):=Lib.hid (by rw[List.length_append,Qez];have:=HL0.out;omega)
 clear HL0
 go_upto_region 43 with fail
 have H4:=Lib.hid (HZ4.out.below HB14.out HLT.out.2.2.1)
 have H2:=Lib.hid (HZ2.out.below HB14.out HLT.out.2.1)
 have cg:W14.cell? ⟨gw,0,none⟩=some (Value.slice q14 m14 c14):=by have:=HW14.out.blk.cell 0;simpa using this
 have f4:=H4.out.frozen 1
 have d4:W14.cell? ⟨z4,1,none⟩=some (.slice none 0 0):=by have:=H4.out.cell 1;simpa using this
 have HO:=Lib.hid (Own8.mono' HW14.out.own (B':=w.heap.size) (by have:=HLT.out;omega))
 have HBW:=Lib.hid (HWE.out.trans (HB14.out.mono (by have:=HLT.out;omega)))
 go_upto_region 44 with fail
 have hst4:=Stays.set W14 z4 1 (Value.slice q14 m14 c14)
 have H4b:Hid (Blk (W14.setCell ⟨z4,1,none⟩ (Value.slice q14 m14 c14)) z4 82 #[.string (strB cmd),(Value.slice q14 m14 c14)]):=Lib.hid (by have:=H4.out.set 1 (Value.slice q14 m14 c14);simpa using this)
 have H2b:=Lib.hid (H2.out.stays hst4 (by have:=HZ4L.out;omega))
 have HO4:=Lib.hid (HO.out.sep hst4 (Qiz H4.out (by decide)))
 have HB4:Hid (Below w.heap.size w (W14.setCell ⟨z4,1,none⟩ (Value.slice q14 m14 c14))):=Lib.hid (HBW.out.setCell (show w.heap.size≤z4 from HLT.out.2.2.2.2) _)
 clear hst4 cg f4 d4 H4 H2 HO HBW HW14 HB14
 generalize W14.setCell ⟨z4,1,none⟩ (Value.slice q14 m14 c14)=wF at*
 have l4:=Qfz (cs:=[.string (strB cmd),(Value.slice q14 m14 c14)]) H4b.out
 have hbr:=Below.refl w.heap.size wF
 have hz2w:w.heap.size≤z2:=HLT.out.2.2.2.1
 go_wp2_with(first
  |(with_reducible refine wpList_load_mid (op:=⟨some 146,_,_,_,_,_⟩) ?_ 82 (.tmp 4) ?_ (z4) (0) ?_ ([.string (strB cmd),(Value.slice q14 m14 c14)]) _ (l4) Tryz.underlying82 ?_ ?_ ?_
    ·rfl
    ·rfl
    ·rfl
    ·rfl
    ·exact((by kernel_rfl)))
  |(with_reducible refine Q4z (o:=⟨none,_,_,_,_,_⟩) ?_ 82 (.tmp 2) (.tmp 146) ?_ (z2) 82 (YFrm.toArray) (#[.string (strB cmd),(Value.slice q14 m14 c14)]) ?_ ?_ (H2b.out) ?_ ?_ ?_ (w.heap.size) (wF) ?_ ?_ ?_
    ·rfl
    ·rfl
    ·rfl
    ·rfl
    ·exact((by kernel_rfl))
    ·exact(rfl)
    ·exact((by rw[List.all_toArray];rfl))
    ·exact(hbr)
    ·exact(hz2w)
    intro wG hBG hbG hgG hsG))
 refine bodyPost_ret (Qoz rfl _ _ _ z2 _ [.string (strB cmd),(Value.slice q14 m14 c14)] _ rfl hBG.out Tryz.underlying82 rfl (by kernel_rfl)) rfl ?_
 have hst:=Stays.of_grown (S:=fun k=>k=z2) hgG.out (fun k h=>by injection h with h;exact h.symm)
 rw[HMP.out]
 exact⟨_,rfl,by have h:=HO4.out.sep hst (Qiz H2b.out (by decide));simpa only[List.nil_append,List.append_assoc,List.append_nil]using h,HB4.out.trans hbG⟩
theorem enc_k5 (nu:BitVec 32) (no:BitVec 64) (pv st:Bs) (hs:List Bs) (hd:List Hdr) (tx:Bs) (bl:TBlk) (cs:List Value) (w:World) (hc:MsgC w ⟨5,nu,no,pv,st,hs,hd,tx,bl⟩ cs) (ht:tooB ⟨5,nu,no,pv,st,hs,hd,tx,bl⟩=false):
 Calls Tryz.prog 34 #[.agg cs.toArray] w (Z1z w (msgP ⟨5,nu,no,pv,st,hs,hd,tx,bl⟩)):=by
 have hk0:cmdB (5)=cmdN 5:=rfl
 obtain⟨cmd,hcmd⟩:∃c,c=cmdN 5:=⟨_,rfl⟩
 have HCM:Hid (cmd≠[]):=Lib.hid (by rw[hcmd];decide)
 have HMP:Hid (msgP ⟨5,nu,no,pv,st,hs,hd,tx,bl⟩=(cmd,(payP ⟨5,nu,no,pv,st,hs,hd,tx,bl⟩).1,0)):=Lib.hid (by rw[hcmd];exact msgP_ok _ (pay_good _ (show(1:Int)≤5∧(5:Int)≤11∨(5:Int)=13 by omega) ht))
 have HMP:Hid (msgP ⟨5,nu,no,pv,st,hs,hd,tx,bl⟩=(cmd,low (nu.setWidth 64) 4++(hshB [] hs++st),0)):=Lib.hid (HMP.out.trans (by rw[pay_k5 ht];rfl))
 have hn1:hs.length≤100000:=by have h:hs.length≤101:=lim_hs _ ht;omega
 have HSL:Hid ((hshB [] hs).length≤100000):=Lib.hid (by have h:hs.length≤101:=lim_hs _ ht;have:=hshB_le (a:=[]) (l:=hs) hc.okMsg.2.2.1 (by decide);omega)
 have HC:=Lib.hid hc
 have htoo:=fun W (h:MsgC W ⟨5,nu,no,pv,st,hs,hd,tx,bl⟩ cs)=>too_any _ cs W h
 rw[ht]at htoo
 have hcc:=fun W=>X6z (5) W
 rw[hk0,← hcmd]at hcc
 obtain⟨hv,dv,bv,bc,hcs,hpv,hst,hh,hdd,hb,hbl⟩:=hc
 obtain⟨p1,n1,c1,rfl⟩:=hh.opens
 obtain⟨p2,n2,c2,rfl⟩:=hdd.opens
 obtain⟨p3,n3,c3,rfl⟩:=hb.opens
 obtain⟨zm,hzm⟩:∃z,z=w.heap.size:=⟨_,rfl⟩
 obtain⟨W1,hW1⟩:∃W,W=w.alloc (.cells cs.toArray 41):=⟨_,rfl⟩
 obtain⟨W2,hW2⟩:∃W,W=W1.alloc (.cells YFrm.toArray 82):=⟨_,rfl⟩
 have z1:W1.heap.size=zm+1:=by rw[hW1,World.size_alloc,hzm]
 have k1:Below w.heap.size w W1:=by rw[hW1];exact Q1z w _
 have k2:Below W1.heap.size W1 W2:=by rw[hW2];exact Q1z W1 _
 have k02:=Q3z k1 k2 (Nat.le_refl _)
 obtain⟨z2,hz2⟩:∃z,z=zm+1:=⟨_,rfl⟩
 have B1:Blk W2 zm 41 cs.toArray:=(show Blk W1 zm _ _ by rw[hW1,hzm];exact Blk.new w _ _).fut k2
 have B2:Blk W2 z2 82 YFrm.toArray:=by rw[hW2,hz2,← z1];exact Blk.new W1 _ _
 rw[hcs]at B1
 have HPV:=Lib.hid hpv
 have HL0:Hid (([]:Bs).length≤0):=Lib.hid (Nat.le_refl 0)
 have HN1:Hid (n1=hs.length):=Lib.hid hh.slen.1.symm
 have HN3:=Lib.hid hb.slen.1
 have HEH:=Lib.hid hh
 have HN2:Hid (hd.length=n2):=Lib.hid hdd.slen.1
 have HDH:=Lib.hid hdd
 have HOKS:Hid (∀x∈hd,Hdr.ok x):=Lib.hid HC.out.okMsg.2.2.2.1
 have HTX0:Hid (tx.length=n3∧Row8 w p3 tx):=Lib.hid (by obtain⟨p',n',c',e,h1,_,_,h4,_⟩:=hb;injection e with e1 e2 _;rw[e1,e2];exact⟨h1,h4⟩)
 have HST:=Lib.hid hst
 have a0:=(B1.msg hpv hst).c0
 have HB1:=Lib.hid B1
 have HB2:=Lib.hid B2
 have HK02:=Lib.hid k02
 have HCS:=Lib.hid hcs
 have HZZ:Hid (zm=w.heap.size∧z2=zm+1):=Lib.hid ⟨hzm,hz2⟩
 have hzf:=yFrm
 have hbt:=fun s=>XAz s
 have hzw:=zWriter
 clear k1 k2 k02 z1 B1 B2 hcs hpv hst hh hdd hb hbl hcmd hk0 ht
 go_enter Tryz.func34,Tryz.ntmps34
 go_upto_region 1 with fail
 rw[←hW1,← hW2,← hzm,← hz2]
 clear hW1 hW2 hzm hz2
 go_wp2_with fail
 refine(hcc W2).mono ?_
 rintro e w3 ⟨rfl,hb3⟩
 have HB13:=Lib.hid (HB1.out.fut hb3)
 have HB23:=Lib.hid (HB2.out.fut hb3)
 have HW3:=Lib.hid (Q3z HK02.out hb3 (Nat.le_refl _))
 have hbn:=Q1z w3 (.cells YFrm.toArray 82)
 clear hb3 a0 HB1 HB2 HK02 hcc
 go_upto_region 2 with(first
  |(with_reducible refine Qjz (o:=⟨some 13,_,_,_,_,_⟩) ?_ 82 #[(0,.tmp 12)] ?_ [(0,.string (strB cmd))] ?_ #[.string (strB cmd),.slice none 0 0] hbt (strB cmd) ?_
    ·rfl
    ·rfl
    ·rfl)
  |(with_reducible refine Q4z (o:=⟨none,_,_,_,_,_⟩) ?_ 82 (.tmp 4) (.tmp 13) ?_ (w3.heap.size) 82 (YFrm.toArray) (#[.string (strB cmd),.slice none 0 0]) ?_ ?_ (Blk.new w3 _ _) ?_ ?_ ?_ (w3.heap.size) (w3) ?_ ?_ ?_
    ·rfl
    ·rfl
    ·rfl
    ·rfl
    ·exact((by kernel_rfl))
    ·exact(rfl)
    ·exact((by rw[List.all_toArray];rfl))
    ·exact(hbn)
    ·exact(Nat.le_refl _)
    intro w4 hB4 hb4 hg4 hs4))
 try simp only[Qpz]
 have HB14:=Lib.hid (HB13.out.fut hb4)
 have HB24:=Lib.hid (HB23.out.fut hb4)
 have HW4:=Lib.hid (Q3z HW3.out hb4 (Nat.le_refl _))
 have HB44:=Lib.hid hB4.out
 obtain⟨z4,hz4⟩:∃z,z=w3.heap.size:=⟨_,rfl⟩
 rw[←hz4]at HB44 ⊢
 have HZ4L:Hid (zm<z4∧z2<z4∧w.heap.size≤z4):=Lib.hid (by rw[hz4];exact⟨HB13.out.lt,HB23.out.lt,HW3.out.size⟩)
 clear hbn hz4 hB4 hb4 hg4 hs4 HB13 HB23 HW3
 have c4:w4.cell? ⟨z4,0,none⟩=some (.string (strB cmd)):=by have:=HB44.out.cell 0;simpa using this
 have heq:(strB cmd).toList.isEmpty=false:=Z0z HCM.out
 have hcl:=HC.out.len
 have HCL:=Lib.hid hcl
 have l1:w4.rangeAt zm 0 cs:=Qfz (by rw[HCS.out];exact HB14.out)
 have hcc4:=Qhz _ _ _ _ HC.out HW4.out
 have htoo4:=htoo w4 hcc4
 clear hcl hcc4 htoo
 go_wp2_with(first
  |(with_reducible refine Qlz (op:=⟨some 18,_,_,_,_,_⟩) ?_ 41 (.tmp 1) ?_ (zm) (0) ?_ (cs) _ (l1) Tryz.underlying41 ?_ ?_ ?_
    ·rfl
    ·rfl
    ·rfl
    ·rfl
    ·exact((Qkz HCL.out))))
 refine htoo4.mono ?_
 rintro e wE ⟨rfl,hb5⟩
 have HMB:=Lib.hid (HB14.out.fut hb5)
 have HZ2:=Lib.hid (HB24.out.fut hb5)
 have HZ4:=Lib.hid (HB44.out.fut hb5)
 have HWE:=Lib.hid (Q3z HW4.out hb5 (Nat.le_refl _))
 have HMC:=Lib.hid (Qhz _ _ _ _ HC.out HWE.out)
 obtain⟨gw,hgw⟩:∃g,g=wE.heap.size:=⟨_,rfl⟩
 have HGE:Hid (wE.heap.size=gw):=Lib.hid hgw.symm
 have HLT:Hid (zm<gw∧z2<gw∧z4<gw∧w.heap.size≤z2∧w.heap.size≤z4):=Lib.hid (by rw[hgw];have h1:=HMB.out.lt;have h2:=HZ2.out.lt;have h3:=HZ4.out.lt;have h4:=HZZ.out;have h5:=HZ4L.out;omega)
 have hnb:=Q1z wE (.cells #[.slice none 0 0] 138)
 obtain⟨w6,hw6⟩:∃W,W=wE.alloc (.cells #[.slice none 0 0] 138):=⟨_,rfl⟩
 have HW6:Hid (WrM gw w6 (Value.slice none 0 0) []):=Lib.hid ⟨by rw[hw6,hgw];exact Blk.new wE _ _,Own8.nil _ _⟩
 have HB6:Hid (Below gw wE w6):=Lib.hid (by rw[hw6,hgw];exact hnb)
 have a0:=((HMB.out.below HB6.out HLT.out.1).msg HPV.out HST.out).c0
 have HE:=Lib.hid (HEH.out.fut Z3z HWE.out)
 have HTX:Hid (tx.length=n3∧Row8 wE p3 tx):=Lib.hid ⟨HTX0.out.1,HTX0.out.2.below HWE.out (Nat.le_refl _)⟩
 have HED:=Lib.hid (HDH.out.fut hdrE_c HWE.out)
 clear HEH HTX0 HDH
 clear hnb hb5 htoo4 l1 c4 HB14 HB24 HB44 HW4 HC heq hbt
 go_upto_region 5 with fail
 rw[←hw6,← hgw]
 clear hw6 hgw hzw
 obtain⟨a0,a1,a2,ap,aq,a67,a68,a69,ab⟩:=(HMB.out.below HB6.out HLT.out.1).msg HPV.out HST.out
 clear a0 a2 ap aq a67 a68 a69 ab
 have ec:=Xnz nu
 go_wp2_with fail
 clear ec
 refine(wNum_any (nu.setWidth 64) 4 (by omega) gw w6 (Value.slice none 0 0) ([]) HW6.out (by have:=HL0.out;omega)).mono ?_
 rintro e W17 ⟨rfl,v17,hw17,hb17⟩
 obtain⟨q17,m17,c17,rfl,_⟩:=hw17.own.open
 have HW17:=Lib.hid hw17
 have HB17:=Lib.hid (HB6.out.trans hb17)
 clear a0 hw17 hb17 HW6 HB6 a1
 have HL18:Hid (([]++low (nu.setWidth 64) 4).length≤4):=Lib.hid (by rw[List.length_append,Qez];have:=HL0.out;omega)
 clear HL0
 obtain⟨a0,a1,a2,ap,aq,a67,a68,a69,ab⟩:=(HMB.out.below HB17.out HLT.out.1).msg HPV.out HST.out
 clear a0 a1 a2 ap aq a68 a69 ab
 go_wp2_with fail
 refine(wList_any p1 n1 c1 hs none 0 0 [] gw W17 wE (Value.slice q17 m17 c17) ([]++low (nu.setWidth 64) 4) HW17.out (by have:=HL18.out;omega) (by have:=HN1.out;omega) (by decide) HB17.out (Nat.le_of_eq HGE.out) HE.out rfl (Ahead.nil _ _ _)).mono ?_
 rintro e W19 ⟨rfl,v19,hw19,hb19⟩
 obtain⟨q19,m19,c19,rfl,_⟩:=hw19.own.open
 have HW19:=Lib.hid hw19
 have HB19:=Lib.hid (HB17.out.trans hb19)
 clear hw19 hb19 HW17 HB17 a67
 have HL20:Hid (([]++low (nu.setWidth 64) 4++hshB [] hs).length≤100004):=Lib.hid (by rw[List.length_append];have:=HL18.out;have:=HSL.out;omega)
 clear HL18
 have HSR:Hid (Row8 wE (some ⟨zm,35,none⟩) st):=Lib.hid (Znz (HMB.out.msg HPV.out HST.out).rs HMB.out.lt)
 have HPR:Hid (Row8 wE (some ⟨zm,3,none⟩) pv):=Lib.hid (Znz (HMB.out.msg HPV.out HST.out).rp HMB.out.lt)
 go_upto_region 17 with fail
 have HFx21:Hid (WF gw wE (Value.slice q19 m19 c19) W19):=Lib.hid ⟨HW19.out.blk,HB19.out⟩
 have HOx21:=Lib.hid HW19.out.own
 clear HW19 HB19
 refine Qdz [qq 0,qq 1,qq 2,qq 3,oo 4,qq 5] 6 (fun W=>WF gw wE (Value.slice q19 m19 c19) W) (by kernel_rfl) (by kernel_rfl) (HFx21.out.fut (Q0z W19 1)) ?_
 refine' Q9z (s:=147) (A1:=_) [0,1,2,3] [_,_,_,_] _ rfl rfl rfl (fun W hW=>?hq17a) _ (HFx21.out.fut (Q0z W19 1)) (fun _=>?hr17a)
 case hq17a=>
  simp only[List.getElem_toArray,List.getElem_cons_zero,List.getElem_cons_succ]
  have c0:∀k,(W.drewN k).cell? ⟨gw,0,none⟩=some (Value.slice q19 m19 c19):=fun k=>by have:=hW.blk.cell 0;simpa using this
  iterate 4 (go_big_quiet_step (fail))
  refine wpQuiet_nil ?_
  rfl
 case hr17a=>
 refine Qbz rfl fun k22=>?_
 have hdr:Below W19.heap.size W19 (W19.drew.drewN k22):=Q7z (Below.refl _ _).drew k22
 have HFd22:=Lib.hid (HFx21.out.fut hdr)
 have HOd22:=Lib.hid (HOx21.out.fut hdr)
 clear HFx21 HOx21 hdr
 generalize W19.drew.drewN k22=Wd22 at*
 refine Qaz (o:=⟨some 57,_,_,_,_,_⟩) rfl (.tmp 54) (.tmp 56) rfl (gw+1) _ _ rfl HOd22.out (some ⟨zm,35,none⟩) 32 32 (st) rfl HST.out ((HSR.out.below HFd22.out.bel (Nat.le_of_eq HGE.out))) (by have:=HL20.out;have:=HST.out;omega) HFd22.out.size (gw+1) Wd22 (Below.refl _ _) (Nat.le_refl _) ?_
 intro vz23 W23 ho _ hg hk
 have HF23:=Lib.hid (HFd22.out.app HOd22.out hg)
 obtain⟨qz23,mz23,dz23,rfl,_⟩:=ho.open
 have HO23:=Lib.hid ho
 clear HFd22 HOd22 ho hg hk
 go_wp2_with fail
 refine Q2z (And.intro HF23.out ?_)
 refine' Q9z (s:=147) (A1:=_) (r:=[]) [5] [_] _ rfl rfl rfl (fun W hW=>?hq17b) _ HF23.out (fun _=>?hr17b)
 case hq17b=>
  simp only[List.getElem_toArray,List.getElem_cons_zero,List.getElem_cons_succ]
  iterate 1 (go_big_quiet_step (fail))
  refine wpQuiet_nil ?_
  rfl
 case hr17b=>
 refine Qnz fun k24=>HeadQ.normal ?_
 have hdr:=Q0z W23 k24
 have HFz24:=Lib.hid (HF23.out.fut hdr)
 have HOz24:=Lib.hid (HO23.out.fut hdr)
 clear HF23 HO23 hdr
 generalize W23.drewN k24=Wz24 at*
 have fz24:=HFz24.out.blk.frozen 0
 have ez24:=HFz24.out.blk.cell 0
 simp only[List.getElem?_toArray,List.getElem?_cons_zero]at ez24
 have HWS:=Lib.hid (WrM.put HFz24.out.blk HOz24.out)
 have HBS:=Lib.hid (HFz24.out.bel.trans (Xhz gw Wz24 (Value.slice qz23 mz23 dz23)))
 go_upto_region 43 with fail
 have HW25:=HWS
 have HB25:=HBS
 obtain⟨w25,hw25⟩:∃W,W=Wz24.setCell ⟨gw,0,none⟩ (Value.slice qz23 mz23 dz23):=⟨_,rfl⟩
 rw[←hw25]at HW25 HB25 ⊢
 clear HWS HBS hw25 fz24 ez24 HFz24 HOz24
 have H4:=Lib.hid (HZ4.out.below HB25.out HLT.out.2.2.1)
 have H2:=Lib.hid (HZ2.out.below HB25.out HLT.out.2.1)
 have cg:w25.cell? ⟨gw,0,none⟩=some (Value.slice qz23 mz23 dz23):=by have:=HW25.out.blk.cell 0;simpa using this
 have f4:=H4.out.frozen 1
 have d4:w25.cell? ⟨z4,1,none⟩=some (.slice none 0 0):=by have:=H4.out.cell 1;simpa using this
 have HO:=Lib.hid (Own8.mono' HW25.out.own (B':=w.heap.size) (by have:=HLT.out;omega))
 have HBW:=Lib.hid (HWE.out.trans (HB25.out.mono (by have:=HLT.out;omega)))
 go_upto_region 44 with fail
 have hst4:=Stays.set w25 z4 1 (Value.slice qz23 mz23 dz23)
 have H4b:Hid (Blk (w25.setCell ⟨z4,1,none⟩ (Value.slice qz23 mz23 dz23)) z4 82 #[.string (strB cmd),(Value.slice qz23 mz23 dz23)]):=Lib.hid (by have:=H4.out.set 1 (Value.slice qz23 mz23 dz23);simpa using this)
 have H2b:=Lib.hid (H2.out.stays hst4 (by have:=HZ4L.out;omega))
 have HO4:=Lib.hid (HO.out.sep hst4 (Qiz H4.out (by decide)))
 have HB4:Hid (Below w.heap.size w (w25.setCell ⟨z4,1,none⟩ (Value.slice qz23 mz23 dz23))):=Lib.hid (HBW.out.setCell (show w.heap.size≤z4 from HLT.out.2.2.2.2) _)
 clear hst4 cg f4 d4 H4 H2 HO HBW HW25 HB25
 generalize w25.setCell ⟨z4,1,none⟩ (Value.slice qz23 mz23 dz23)=wF at*
 have l4:=Qfz (cs:=[.string (strB cmd),(Value.slice qz23 mz23 dz23)]) H4b.out
 have hbr:=Below.refl w.heap.size wF
 have hz2w:w.heap.size≤z2:=HLT.out.2.2.2.1
 go_wp2_with(first
  |(with_reducible refine wpList_load_mid (op:=⟨some 146,_,_,_,_,_⟩) ?_ 82 (.tmp 4) ?_ (z4) (0) ?_ ([.string (strB cmd),(Value.slice qz23 mz23 dz23)]) _ (l4) Tryz.underlying82 ?_ ?_ ?_
    ·rfl
    ·rfl
    ·rfl
    ·rfl
    ·exact((by kernel_rfl)))
  |(with_reducible refine Q4z (o:=⟨none,_,_,_,_,_⟩) ?_ 82 (.tmp 2) (.tmp 146) ?_ (z2) 82 (YFrm.toArray) (#[.string (strB cmd),(Value.slice qz23 mz23 dz23)]) ?_ ?_ (H2b.out) ?_ ?_ ?_ (w.heap.size) (wF) ?_ ?_ ?_
    ·rfl
    ·rfl
    ·rfl
    ·rfl
    ·exact((by kernel_rfl))
    ·exact(rfl)
    ·exact((by rw[List.all_toArray];rfl))
    ·exact(hbr)
    ·exact(hz2w)
    intro wG hBG hbG hgG hsG))
 refine bodyPost_ret (Qoz rfl _ _ _ z2 _ [.string (strB cmd),(Value.slice qz23 mz23 dz23)] _ rfl hBG.out Tryz.underlying82 rfl (by kernel_rfl)) rfl ?_
 have hst:=Stays.of_grown (S:=fun k=>k=z2) hgG.out (fun k h=>by injection h with h;exact h.symm)
 rw[HMP.out]
 exact⟨_,rfl,by have h:=HO4.out.sep hst (Qiz H2b.out (by decide));simpa only[List.nil_append,List.append_assoc,List.append_nil]using h,HB4.out.trans hbG⟩
theorem enc_k7 (nu:BitVec 32) (no:BitVec 64) (pv st:Bs) (hs:List Bs) (hd:List Hdr) (tx:Bs) (bl:TBlk) (cs:List Value) (w:World) (hc:MsgC w ⟨7,nu,no,pv,st,hs,hd,tx,bl⟩ cs) (ht:tooB ⟨7,nu,no,pv,st,hs,hd,tx,bl⟩=false):
 Calls Tryz.prog 34 #[.agg cs.toArray] w (Z1z w (msgP ⟨7,nu,no,pv,st,hs,hd,tx,bl⟩)):=by
 have hk0:cmdB (7)=cmdN 7:=rfl
 obtain⟨cmd,hcmd⟩:∃c,c=cmdN 7:=⟨_,rfl⟩
 have HCM:Hid (cmd≠[]):=Lib.hid (by rw[hcmd];decide)
 have HMP:Hid (msgP ⟨7,nu,no,pv,st,hs,hd,tx,bl⟩=(cmd,(payP ⟨7,nu,no,pv,st,hs,hd,tx,bl⟩).1,0)):=Lib.hid (by rw[hcmd];exact msgP_ok _ (pay_good _ (show(1:Int)≤7∧(7:Int)≤11∨(7:Int)=13 by omega) ht))
 have HMP:Hid (msgP ⟨7,nu,no,pv,st,hs,hd,tx,bl⟩=(cmd,[0#8]++(low (nu.setWidth 64) 4++st),0)):=HMP
 have HC:=Lib.hid hc
 have htoo:=fun W (h:MsgC W ⟨7,nu,no,pv,st,hs,hd,tx,bl⟩ cs)=>too_any _ cs W h
 rw[ht]at htoo
 have hcc:=fun W=>X6z (7) W
 rw[hk0,← hcmd]at hcc
 obtain⟨hv,dv,bv,bc,hcs,hpv,hst,hh,hdd,hb,hbl⟩:=hc
 obtain⟨p1,n1,c1,rfl⟩:=hh.opens
 obtain⟨p2,n2,c2,rfl⟩:=hdd.opens
 obtain⟨p3,n3,c3,rfl⟩:=hb.opens
 obtain⟨zm,hzm⟩:∃z,z=w.heap.size:=⟨_,rfl⟩
 obtain⟨W1,hW1⟩:∃W,W=w.alloc (.cells cs.toArray 41):=⟨_,rfl⟩
 obtain⟨W2,hW2⟩:∃W,W=W1.alloc (.cells YFrm.toArray 82):=⟨_,rfl⟩
 have z1:W1.heap.size=zm+1:=by rw[hW1,World.size_alloc,hzm]
 have k1:Below w.heap.size w W1:=by rw[hW1];exact Q1z w _
 have k2:Below W1.heap.size W1 W2:=by rw[hW2];exact Q1z W1 _
 have k02:=Q3z k1 k2 (Nat.le_refl _)
 obtain⟨z2,hz2⟩:∃z,z=zm+1:=⟨_,rfl⟩
 have B1:Blk W2 zm 41 cs.toArray:=(show Blk W1 zm _ _ by rw[hW1,hzm];exact Blk.new w _ _).fut k2
 have B2:Blk W2 z2 82 YFrm.toArray:=by rw[hW2,hz2,← z1];exact Blk.new W1 _ _
 rw[hcs]at B1
 have HPV:=Lib.hid hpv
 have HL0:Hid (([]:Bs).length≤0):=Lib.hid (Nat.le_refl 0)
 have HN1:Hid (n1=hs.length):=Lib.hid hh.slen.1.symm
 have HN3:=Lib.hid hb.slen.1
 have HEH:=Lib.hid hh
 have HN2:Hid (hd.length=n2):=Lib.hid hdd.slen.1
 have HDH:=Lib.hid hdd
 have HOKS:Hid (∀x∈hd,Hdr.ok x):=Lib.hid HC.out.okMsg.2.2.2.1
 have HTX0:Hid (tx.length=n3∧Row8 w p3 tx):=Lib.hid (by obtain⟨p',n',c',e,h1,_,_,h4,_⟩:=hb;injection e with e1 e2 _;rw[e1,e2];exact⟨h1,h4⟩)
 have HST:=Lib.hid hst
 have a0:=(B1.msg hpv hst).c0
 have HB1:=Lib.hid B1
 have HB2:=Lib.hid B2
 have HK02:=Lib.hid k02
 have HCS:=Lib.hid hcs
 have HZZ:Hid (zm=w.heap.size∧z2=zm+1):=Lib.hid ⟨hzm,hz2⟩
 have hzf:=yFrm
 have hbt:=fun s=>XAz s
 have hzw:=zWriter
 clear k1 k2 k02 z1 B1 B2 hcs hpv hst hh hdd hb hbl hcmd hk0 ht
 go_enter Tryz.func34,Tryz.ntmps34
 go_upto_region 1 with fail
 rw[←hW1,← hW2,← hzm,← hz2]
 clear hW1 hW2 hzm hz2
 go_wp2_with fail
 refine(hcc W2).mono ?_
 rintro e w3 ⟨rfl,hb3⟩
 have HB13:=Lib.hid (HB1.out.fut hb3)
 have HB23:=Lib.hid (HB2.out.fut hb3)
 have HW3:=Lib.hid (Q3z HK02.out hb3 (Nat.le_refl _))
 have hbn:=Q1z w3 (.cells YFrm.toArray 82)
 clear hb3 a0 HB1 HB2 HK02 hcc
 go_upto_region 2 with(first
  |(with_reducible refine Qjz (o:=⟨some 13,_,_,_,_,_⟩) ?_ 82 #[(0,.tmp 12)] ?_ [(0,.string (strB cmd))] ?_ #[.string (strB cmd),.slice none 0 0] hbt (strB cmd) ?_
    ·rfl
    ·rfl
    ·rfl)
  |(with_reducible refine Q4z (o:=⟨none,_,_,_,_,_⟩) ?_ 82 (.tmp 4) (.tmp 13) ?_ (w3.heap.size) 82 (YFrm.toArray) (#[.string (strB cmd),.slice none 0 0]) ?_ ?_ (Blk.new w3 _ _) ?_ ?_ ?_ (w3.heap.size) (w3) ?_ ?_ ?_
    ·rfl
    ·rfl
    ·rfl
    ·rfl
    ·exact((by kernel_rfl))
    ·exact(rfl)
    ·exact((by rw[List.all_toArray];rfl))
    ·exact(hbn)
    ·exact(Nat.le_refl _)
    intro w4 hB4 hb4 hg4 hs4))
 try simp only[Qpz]
 have HB14:=Lib.hid (HB13.out.fut hb4)
 have HB24:=Lib.hid (HB23.out.fut hb4)
 have HW4:=Lib.hid (Q3z HW3.out hb4 (Nat.le_refl _))
 have HB44:=Lib.hid hB4.out
 obtain⟨z4,hz4⟩:∃z,z=w3.heap.size:=⟨_,rfl⟩
 rw[←hz4]at HB44 ⊢
 have HZ4L:Hid (zm<z4∧z2<z4∧w.heap.size≤z4):=Lib.hid (by rw[hz4];exact⟨HB13.out.lt,HB23.out.lt,HW3.out.size⟩)
 clear hbn hz4 hB4 hb4 hg4 hs4 HB13 HB23 HW3
 have c4:w4.cell? ⟨z4,0,none⟩=some (.string (strB cmd)):=by have:=HB44.out.cell 0;simpa using this
 have heq:(strB cmd).toList.isEmpty=false:=Z0z HCM.out
 have hcl:=HC.out.len
 have HCL:=Lib.hid hcl
 have l1:w4.rangeAt zm 0 cs:=Qfz (by rw[HCS.out];exact HB14.out)
 have hcc4:=Qhz _ _ _ _ HC.out HW4.out
 have htoo4:=htoo w4 hcc4
 clear hcl hcc4 htoo
 go_wp2_with(first
  |(with_reducible refine Qlz (op:=⟨some 18,_,_,_,_,_⟩) ?_ 41 (.tmp 1) ?_ (zm) (0) ?_ (cs) _ (l1) Tryz.underlying41 ?_ ?_ ?_
    ·rfl
    ·rfl
    ·rfl
    ·rfl
    ·exact((Qkz HCL.out))))
 refine htoo4.mono ?_
 rintro e wE ⟨rfl,hb5⟩
 have HMB:=Lib.hid (HB14.out.fut hb5)
 have HZ2:=Lib.hid (HB24.out.fut hb5)
 have HZ4:=Lib.hid (HB44.out.fut hb5)
 have HWE:=Lib.hid (Q3z HW4.out hb5 (Nat.le_refl _))
 have HMC:=Lib.hid (Qhz _ _ _ _ HC.out HWE.out)
 obtain⟨gw,hgw⟩:∃g,g=wE.heap.size:=⟨_,rfl⟩
 have HGE:Hid (wE.heap.size=gw):=Lib.hid hgw.symm
 have HLT:Hid (zm<gw∧z2<gw∧z4<gw∧w.heap.size≤z2∧w.heap.size≤z4):=Lib.hid (by rw[hgw];have h1:=HMB.out.lt;have h2:=HZ2.out.lt;have h3:=HZ4.out.lt;have h4:=HZZ.out;have h5:=HZ4L.out;omega)
 have hnb:=Q1z wE (.cells #[.slice none 0 0] 138)
 obtain⟨w6,hw6⟩:∃W,W=wE.alloc (.cells #[.slice none 0 0] 138):=⟨_,rfl⟩
 have HW6:Hid (WrM gw w6 (Value.slice none 0 0) []):=Lib.hid ⟨by rw[hw6,hgw];exact Blk.new wE _ _,Own8.nil _ _⟩
 have HB6:Hid (Below gw wE w6):=Lib.hid (by rw[hw6,hgw];exact hnb)
 have a0:=((HMB.out.below HB6.out HLT.out.1).msg HPV.out HST.out).c0
 have HE:=Lib.hid (HEH.out.fut Z3z HWE.out)
 have HTX:Hid (tx.length=n3∧Row8 wE p3 tx):=Lib.hid ⟨HTX0.out.1,HTX0.out.2.below HWE.out (Nat.le_refl _)⟩
 have HED:=Lib.hid (HDH.out.fut hdrE_c HWE.out)
 clear HEH HTX0 HDH
 clear hnb hb5 htoo4 l1 c4 HB14 HB24 HB44 HW4 HC heq hbt
 go_upto_region 5 with fail
 rw[←hw6,← hgw]
 clear hw6 hgw hzw
 go_upto_region 27 with fail
 clear a0
 have cg:w6.cell? ⟨gw,0,none⟩=some (Value.slice none 0 0):=by have:=HW6.out.blk.cell 0;simpa using this
 have fg:=HW6.out.blk.frozen 0
 have hnb:=Q1z w6 (.cells #[.int .u8 (iv8 0#8)] 5)
 have hol:=Zdz w6 (gw+1) 1 [0#8] HW6.out.lt rfl (by unfold maxLen;omega)
 obtain⟨V66,hV66⟩:∃V,V=w6.alloc (.cells #[.int .u8 (iv8 0#8)] 5):=⟨_,rfl⟩
 obtain⟨g66,hg66⟩:∃V,V=w6.heap.size:=⟨_,rfl⟩
 have HO66:Hid (Own8 V66 (gw+1) (.slice (some ⟨g66,0,none⟩) 1 1) [0#8]):=Lib.hid (by rw[hV66,hg66];exact hol)
 have HG66:Hid (Blk V66 gw 138 #[(Value.slice none 0 0)]):=Lib.hid (by rw[hV66];exact HW6.out.blk.fut hnb)
 have HC66:Hid (Below gw wE V66):=Lib.hid (by rw[hV66];exact HB6.out.trans (hnb.mono (by have:=HW6.out.lt;omega)))
 have cg2:V66.cell? ⟨gw,0,none⟩=some (Value.slice none 0 0):=by have:=HG66.out.cell 0;simpa using this
 have fg2:=HG66.out.frozen 0
 have hV2:w6.alloc (.cells #[.int .u8 0] 5)=V66:=hV66.symm
 have hg2:w6.heap.size=g66:=hg66.symm
 clear hnb hol hV66 hg66 cg fg
 go_upto_region 28 with fail
 have HW66b:=Lib.hid (WrM.put HG66.out HO66.out)
 have HB66b:=Lib.hid (HC66.out.trans (Xhz gw V66 (.slice (some ⟨g66,0,none⟩) 1 1)))
 clear cg2 fg2 hV2 hg2 HO66 HG66 HC66 HW6 HB6
 generalize V66.setCell ⟨gw,0,none⟩ (.slice (some ⟨g66,0,none⟩) 1 1)=W66 at*
 have HL1:Hid (([0#8]:Bs).length≤1):=Lib.hid (by decide)
 clear HL0
 obtain⟨a0,a1,a2,ap,aq,a67,a68,a69,ab⟩:=(HMB.out.below HB66b.out HLT.out.1).msg HPV.out HST.out
 clear a0 a2 ap aq a67 a68 a69 ab
 have ec:=Xnz nu
 go_wp2_with fail
 clear ec
 refine(wNum_any (nu.setWidth 64) 4 (by omega) gw W66 (Value.slice (some ⟨g66,0,none⟩) 1 1) ([0#8]) HW66b.out (by have:=HL1.out;omega)).mono ?_
 rintro e W67 ⟨rfl,v67,hw67,hb67⟩
 obtain⟨q67,m67,c67,rfl,_⟩:=hw67.own.open
 have HW67:=Lib.hid hw67
 have HB67:=Lib.hid (HB66b.out.trans hb67)
 clear hw67 hb67 HW66b HB66b a1
 have HL68:Hid (([0#8]++low (nu.setWidth 64) 4).length≤5):=Lib.hid (by rw[List.length_append,Qez];have:=HL1.out;omega)
 clear HL1
 have HSR:Hid (Row8 wE (some ⟨zm,35,none⟩) st):=Lib.hid (Znz (HMB.out.msg HPV.out HST.out).rs HMB.out.lt)
 have HPR:Hid (Row8 wE (some ⟨zm,3,none⟩) pv):=Lib.hid (Znz (HMB.out.msg HPV.out HST.out).rp HMB.out.lt)
 go_upto_region 29 with fail
 have HFx69:Hid (WF gw wE (Value.slice q67 m67 c67) W67):=Lib.hid ⟨HW67.out.blk,HB67.out⟩
 have HOx69:=Lib.hid HW67.out.own
 clear HW67 HB67
 refine Qdz [qq 0,qq 1,qq 2,qq 3,oo 4,qq 5] 6 (fun W=>WF gw wE (Value.slice q67 m67 c67) W) (by kernel_rfl) (by kernel_rfl) (HFx69.out.fut (Q0z W67 1)) ?_
 refine' Q9z (s:=147) (A1:=_) [0,1,2,3] [_,_,_,_] _ rfl rfl rfl (fun W hW=>?hq29a) _ (HFx69.out.fut (Q0z W67 1)) (fun _=>?hr29a)
 case hq29a=>
  simp only[List.getElem_toArray,List.getElem_cons_zero,List.getElem_cons_succ]
  have c0:∀k,(W.drewN k).cell? ⟨gw,0,none⟩=some (Value.slice q67 m67 c67):=fun k=>by have:=hW.blk.cell 0;simpa using this
  iterate 4 (go_big_quiet_step (fail))
  refine wpQuiet_nil ?_
  rfl
 case hr29a=>
 refine Qbz rfl fun k70=>?_
 have hdr:Below W67.heap.size W67 (W67.drew.drewN k70):=Q7z (Below.refl _ _).drew k70
 have HFd70:=Lib.hid (HFx69.out.fut hdr)
 have HOd70:=Lib.hid (HOx69.out.fut hdr)
 clear HFx69 HOx69 hdr
 generalize W67.drew.drewN k70=Wd70 at*
 refine Qaz (o:=⟨some 96,_,_,_,_,_⟩) rfl (.tmp 93) (.tmp 95) rfl (gw+1) _ _ rfl HOd70.out (some ⟨zm,35,none⟩) 32 32 (st) rfl HST.out ((HSR.out.below HFd70.out.bel (Nat.le_of_eq HGE.out))) (by have:=HL68.out;have:=HST.out;omega) HFd70.out.size (gw+1) Wd70 (Below.refl _ _) (Nat.le_refl _) ?_
 intro vz71 W71 ho _ hg hk
 have HF71:=Lib.hid (HFd70.out.app HOd70.out hg)
 obtain⟨qz71,mz71,dz71,rfl,_⟩:=ho.open
 have HO71:=Lib.hid ho
 clear HFd70 HOd70 ho hg hk
 go_wp2_with fail
 refine Q2z (And.intro HF71.out ?_)
 refine' Q9z (s:=147) (A1:=_) (r:=[]) [5] [_] _ rfl rfl rfl (fun W hW=>?hq29b) _ HF71.out (fun _=>?hr29b)
 case hq29b=>
  simp only[List.getElem_toArray,List.getElem_cons_zero,List.getElem_cons_succ]
  iterate 1 (go_big_quiet_step (fail))
  refine wpQuiet_nil ?_
  rfl
 case hr29b=>
 refine Qnz fun k72=>HeadQ.normal ?_
 have hdr:=Q0z W71 k72
 have HFz72:=Lib.hid (HF71.out.fut hdr)
 have HOz72:=Lib.hid (HO71.out.fut hdr)
 clear HF71 HO71 hdr
 generalize W71.drewN k72=Wz72 at*
 have fz72:=HFz72.out.blk.frozen 0
 have ez72:=HFz72.out.blk.cell 0
 simp only[List.getElem?_toArray,List.getElem?_cons_zero]at ez72
 have HWS:=Lib.hid (WrM.put HFz72.out.blk HOz72.out)
 have HBS:=Lib.hid (HFz72.out.bel.trans (Xhz gw Wz72 (Value.slice qz71 mz71 dz71)))
 go_upto_region 43 with fail
 have HW73:=HWS
 have HB73:=HBS
 obtain⟨w73,hw73⟩:∃W,W=Wz72.setCell ⟨gw,0,none⟩ (Value.slice qz71 mz71 dz71):=⟨_,rfl⟩
 rw[←hw73]at HW73 HB73 ⊢
 clear HWS HBS hw73 fz72 ez72 HFz72 HOz72
 have H4:=Lib.hid (HZ4.out.below HB73.out HLT.out.2.2.1)
 have H2:=Lib.hid (HZ2.out.below HB73.out HLT.out.2.1)
 have cg:w73.cell? ⟨gw,0,none⟩=some (Value.slice qz71 mz71 dz71):=by have:=HW73.out.blk.cell 0;simpa using this
 have f4:=H4.out.frozen 1
 have d4:w73.cell? ⟨z4,1,none⟩=some (.slice none 0 0):=by have:=H4.out.cell 1;simpa using this
 have HO:=Lib.hid (Own8.mono' HW73.out.own (B':=w.heap.size) (by have:=HLT.out;omega))
 have HBW:=Lib.hid (HWE.out.trans (HB73.out.mono (by have:=HLT.out;omega)))
 go_upto_region 44 with fail
 have hst4:=Stays.set w73 z4 1 (Value.slice qz71 mz71 dz71)
 have H4b:Hid (Blk (w73.setCell ⟨z4,1,none⟩ (Value.slice qz71 mz71 dz71)) z4 82 #[.string (strB cmd),(Value.slice qz71 mz71 dz71)]):=Lib.hid (by have:=H4.out.set 1 (Value.slice qz71 mz71 dz71);simpa using this)
 have H2b:=Lib.hid (H2.out.stays hst4 (by have:=HZ4L.out;omega))
 have HO4:=Lib.hid (HO.out.sep hst4 (Qiz H4.out (by decide)))
 have HB4:Hid (Below w.heap.size w (w73.setCell ⟨z4,1,none⟩ (Value.slice qz71 mz71 dz71))):=Lib.hid (HBW.out.setCell (show w.heap.size≤z4 from HLT.out.2.2.2.2) _)
 clear hst4 cg f4 d4 H4 H2 HO HBW HW73 HB73
 generalize w73.setCell ⟨z4,1,none⟩ (Value.slice qz71 mz71 dz71)=wF at*
 have l4:=Qfz (cs:=[.string (strB cmd),(Value.slice qz71 mz71 dz71)]) H4b.out
 have hbr:=Below.refl w.heap.size wF
 have hz2w:w.heap.size≤z2:=HLT.out.2.2.2.1
 go_wp2_with(first
  |(with_reducible refine wpList_load_mid (op:=⟨some 146,_,_,_,_,_⟩) ?_ 82 (.tmp 4) ?_ (z4) (0) ?_ ([.string (strB cmd),(Value.slice qz71 mz71 dz71)]) _ (l4) Tryz.underlying82 ?_ ?_ ?_
    ·rfl
    ·rfl
    ·rfl
    ·rfl
    ·exact((by kernel_rfl)))
  |(with_reducible refine Q4z (o:=⟨none,_,_,_,_,_⟩) ?_ 82 (.tmp 2) (.tmp 146) ?_ (z2) 82 (YFrm.toArray) (#[.string (strB cmd),(Value.slice qz71 mz71 dz71)]) ?_ ?_ (H2b.out) ?_ ?_ ?_ (w.heap.size) (wF) ?_ ?_ ?_
    ·rfl
    ·rfl
    ·rfl
    ·rfl
    ·exact((by kernel_rfl))
    ·exact(rfl)
    ·exact((by rw[List.all_toArray];rfl))
    ·exact(hbr)
    ·exact(hz2w)
    intro wG hBG hbG hgG hsG))
 refine bodyPost_ret (Qoz rfl _ _ _ z2 _ [.string (strB cmd),(Value.slice qz71 mz71 dz71)] _ rfl hBG.out Tryz.underlying82 rfl (by kernel_rfl)) rfl ?_
 have hst:=Stays.of_grown (S:=fun k=>k=z2) hgG.out (fun k h=>by injection h with h;exact h.symm)
 rw[HMP.out]
 exact⟨_,rfl,by have h:=HO4.out.sep hst (Qiz H2b.out (by decide));simpa only[List.nil_append,List.append_assoc,List.append_nil]using h,HB4.out.trans hbG⟩
theorem enc_k9 (nu:BitVec 32) (no:BitVec 64) (pv st:Bs) (hs:List Bs) (hd:List Hdr) (tx:Bs) (bl:TBlk) (cs:List Value) (w:World) (hc:MsgC w ⟨9,nu,no,pv,st,hs,hd,tx,bl⟩ cs) (ht:tooB ⟨9,nu,no,pv,st,hs,hd,tx,bl⟩=false):
 Calls Tryz.prog 34 #[.agg cs.toArray] w (Z1z w (msgP ⟨9,nu,no,pv,st,hs,hd,tx,bl⟩)):=by
 have hk0:cmdB (9)=cmdN 9:=rfl
 obtain⟨cmd,hcmd⟩:∃c,c=cmdN 9:=⟨_,rfl⟩
 have HCM:Hid (cmd≠[]):=Lib.hid (by rw[hcmd];decide)
 have HMP:Hid (msgP ⟨9,nu,no,pv,st,hs,hd,tx,bl⟩=(cmd,(payP ⟨9,nu,no,pv,st,hs,hd,tx,bl⟩).1,0)):=Lib.hid (by rw[hcmd];exact msgP_ok _ (pay_good _ (show(1:Int)≤9∧(9:Int)≤11∨(9:Int)=13 by omega) ht))
 have HMP:Hid (msgP ⟨9,nu,no,pv,st,hs,hd,tx,bl⟩=(cmd,[0#8]++(low (nu.setWidth 64) 4++st),0)):=HMP
 have HC:=Lib.hid hc
 have htoo:=fun W (h:MsgC W ⟨9,nu,no,pv,st,hs,hd,tx,bl⟩ cs)=>too_any _ cs W h
 rw[ht]at htoo
 have hcc:=fun W=>X6z (9) W
 rw[hk0,← hcmd]at hcc
 obtain⟨hv,dv,bv,bc,hcs,hpv,hst,hh,hdd,hb,hbl⟩:=hc
 obtain⟨p1,n1,c1,rfl⟩:=hh.opens
 obtain⟨p2,n2,c2,rfl⟩:=hdd.opens
 obtain⟨p3,n3,c3,rfl⟩:=hb.opens
 obtain⟨zm,hzm⟩:∃z,z=w.heap.size:=⟨_,rfl⟩
 obtain⟨W1,hW1⟩:∃W,W=w.alloc (.cells cs.toArray 41):=⟨_,rfl⟩
 obtain⟨W2,hW2⟩:∃W,W=W1.alloc (.cells YFrm.toArray 82):=⟨_,rfl⟩
 have z1:W1.heap.size=zm+1:=by rw[hW1,World.size_alloc,hzm]
 have k1:Below w.heap.size w W1:=by rw[hW1];exact Q1z w _
 have k2:Below W1.heap.size W1 W2:=by rw[hW2];exact Q1z W1 _
 have k02:=Q3z k1 k2 (Nat.le_refl _)
 obtain⟨z2,hz2⟩:∃z,z=zm+1:=⟨_,rfl⟩
 have B1:Blk W2 zm 41 cs.toArray:=(show Blk W1 zm _ _ by rw[hW1,hzm];exact Blk.new w _ _).fut k2
 have B2:Blk W2 z2 82 YFrm.toArray:=by rw[hW2,hz2,← z1];exact Blk.new W1 _ _
 rw[hcs]at B1
 have HPV:=Lib.hid hpv
 have HL0:Hid (([]:Bs).length≤0):=Lib.hid (Nat.le_refl 0)
 have HN1:Hid (n1=hs.length):=Lib.hid hh.slen.1.symm
 have HN3:=Lib.hid hb.slen.1
 have HEH:=Lib.hid hh
 have HN2:Hid (hd.length=n2):=Lib.hid hdd.slen.1
 have HDH:=Lib.hid hdd
 have HOKS:Hid (∀x∈hd,Hdr.ok x):=Lib.hid HC.out.okMsg.2.2.2.1
 have HTX0:Hid (tx.length=n3∧Row8 w p3 tx):=Lib.hid (by obtain⟨p',n',c',e,h1,_,_,h4,_⟩:=hb;injection e with e1 e2 _;rw[e1,e2];exact⟨h1,h4⟩)
 have HST:=Lib.hid hst
 have a0:=(B1.msg hpv hst).c0
 have HB1:=Lib.hid B1
 have HB2:=Lib.hid B2
 have HK02:=Lib.hid k02
 have HCS:=Lib.hid hcs
 have HZZ:Hid (zm=w.heap.size∧z2=zm+1):=Lib.hid ⟨hzm,hz2⟩
 have hzf:=yFrm
 have hbt:=fun s=>XAz s
 have hzw:=zWriter
 clear k1 k2 k02 z1 B1 B2 hcs hpv hst hh hdd hb hbl hcmd hk0 ht
 go_enter Tryz.func34,Tryz.ntmps34
 go_upto_region 1 with fail
 rw[←hW1,← hW2,← hzm,← hz2]
 clear hW1 hW2 hzm hz2
 go_wp2_with fail
 refine(hcc W2).mono ?_
 rintro e w3 ⟨rfl,hb3⟩
 have HB13:=Lib.hid (HB1.out.fut hb3)
 have HB23:=Lib.hid (HB2.out.fut hb3)
 have HW3:=Lib.hid (Q3z HK02.out hb3 (Nat.le_refl _))
 have hbn:=Q1z w3 (.cells YFrm.toArray 82)
 clear hb3 a0 HB1 HB2 HK02 hcc
 go_upto_region 2 with(first
  |(with_reducible refine Qjz (o:=⟨some 13,_,_,_,_,_⟩) ?_ 82 #[(0,.tmp 12)] ?_ [(0,.string (strB cmd))] ?_ #[.string (strB cmd),.slice none 0 0] hbt (strB cmd) ?_
    ·rfl
    ·rfl
    ·rfl)
  |(with_reducible refine Q4z (o:=⟨none,_,_,_,_,_⟩) ?_ 82 (.tmp 4) (.tmp 13) ?_ (w3.heap.size) 82 (YFrm.toArray) (#[.string (strB cmd),.slice none 0 0]) ?_ ?_ (Blk.new w3 _ _) ?_ ?_ ?_ (w3.heap.size) (w3) ?_ ?_ ?_
    ·rfl
    ·rfl
    ·rfl
    ·rfl
    ·exact((by kernel_rfl))
    ·exact(rfl)
    ·exact((by rw[List.all_toArray];rfl))
    ·exact(hbn)
    ·exact(Nat.le_refl _)
    intro w4 hB4 hb4 hg4 hs4))
 try simp only[Qpz]
 have HB14:=Lib.hid (HB13.out.fut hb4)
 have HB24:=Lib.hid (HB23.out.fut hb4)
 have HW4:=Lib.hid (Q3z HW3.out hb4 (Nat.le_refl _))
 have HB44:=Lib.hid hB4.out
 obtain⟨z4,hz4⟩:∃z,z=w3.heap.size:=⟨_,rfl⟩
 rw[←hz4]at HB44 ⊢
 have HZ4L:Hid (zm<z4∧z2<z4∧w.heap.size≤z4):=Lib.hid (by rw[hz4];exact⟨HB13.out.lt,HB23.out.lt,HW3.out.size⟩)
 clear hbn hz4 hB4 hb4 hg4 hs4 HB13 HB23 HW3
 have c4:w4.cell? ⟨z4,0,none⟩=some (.string (strB cmd)):=by have:=HB44.out.cell 0;simpa using this
 have heq:(strB cmd).toList.isEmpty=false:=Z0z HCM.out
 have hcl:=HC.out.len
 have HCL:=Lib.hid hcl
 have l1:w4.rangeAt zm 0 cs:=Qfz (by rw[HCS.out];exact HB14.out)
 have hcc4:=Qhz _ _ _ _ HC.out HW4.out
 have htoo4:=htoo w4 hcc4
 clear hcl hcc4 htoo
 go_wp2_with(first
  |(with_reducible refine Qlz (op:=⟨some 18,_,_,_,_,_⟩) ?_ 41 (.tmp 1) ?_ (zm) (0) ?_ (cs) _ (l1) Tryz.underlying41 ?_ ?_ ?_
    ·rfl
    ·rfl
    ·rfl
    ·rfl
    ·exact((Qkz HCL.out))))
 refine htoo4.mono ?_
 rintro e wE ⟨rfl,hb5⟩
 have HMB:=Lib.hid (HB14.out.fut hb5)
 have HZ2:=Lib.hid (HB24.out.fut hb5)
 have HZ4:=Lib.hid (HB44.out.fut hb5)
 have HWE:=Lib.hid (Q3z HW4.out hb5 (Nat.le_refl _))
 have HMC:=Lib.hid (Qhz _ _ _ _ HC.out HWE.out)
 obtain⟨gw,hgw⟩:∃g,g=wE.heap.size:=⟨_,rfl⟩
 have HGE:Hid (wE.heap.size=gw):=Lib.hid hgw.symm
 have HLT:Hid (zm<gw∧z2<gw∧z4<gw∧w.heap.size≤z2∧w.heap.size≤z4):=Lib.hid (by rw[hgw];have h1:=HMB.out.lt;have h2:=HZ2.out.lt;have h3:=HZ4.out.lt;have h4:=HZZ.out;have h5:=HZ4L.out;omega)
 have hnb:=Q1z wE (.cells #[.slice none 0 0] 138)
 obtain⟨w6,hw6⟩:∃W,W=wE.alloc (.cells #[.slice none 0 0] 138):=⟨_,rfl⟩
 have HW6:Hid (WrM gw w6 (Value.slice none 0 0) []):=Lib.hid ⟨by rw[hw6,hgw];exact Blk.new wE _ _,Own8.nil _ _⟩
 have HB6:Hid (Below gw wE w6):=Lib.hid (by rw[hw6,hgw];exact hnb)
 have a0:=((HMB.out.below HB6.out HLT.out.1).msg HPV.out HST.out).c0
 have HE:=Lib.hid (HEH.out.fut Z3z HWE.out)
 have HTX:Hid (tx.length=n3∧Row8 wE p3 tx):=Lib.hid ⟨HTX0.out.1,HTX0.out.2.below HWE.out (Nat.le_refl _)⟩
 have HED:=Lib.hid (HDH.out.fut hdrE_c HWE.out)
 clear HEH HTX0 HDH
 clear hnb hb5 htoo4 l1 c4 HB14 HB24 HB44 HW4 HC heq hbt
 go_upto_region 5 with fail
 rw[←hw6,← hgw]
 clear hw6 hgw hzw
 go_upto_region 27 with fail
 clear a0
 have cg:w6.cell? ⟨gw,0,none⟩=some (Value.slice none 0 0):=by have:=HW6.out.blk.cell 0;simpa using this
 have fg:=HW6.out.blk.frozen 0
 have hnb:=Q1z w6 (.cells #[.int .u8 (iv8 0#8)] 5)
 have hol:=Zdz w6 (gw+1) 1 [0#8] HW6.out.lt rfl (by unfold maxLen;omega)
 obtain⟨V75,hV75⟩:∃V,V=w6.alloc (.cells #[.int .u8 (iv8 0#8)] 5):=⟨_,rfl⟩
 obtain⟨g75,hg75⟩:∃V,V=w6.heap.size:=⟨_,rfl⟩
 have HO75:Hid (Own8 V75 (gw+1) (.slice (some ⟨g75,0,none⟩) 1 1) [0#8]):=Lib.hid (by rw[hV75,hg75];exact hol)
 have HG75:Hid (Blk V75 gw 138 #[(Value.slice none 0 0)]):=Lib.hid (by rw[hV75];exact HW6.out.blk.fut hnb)
 have HC75:Hid (Below gw wE V75):=Lib.hid (by rw[hV75];exact HB6.out.trans (hnb.mono (by have:=HW6.out.lt;omega)))
 have cg2:V75.cell? ⟨gw,0,none⟩=some (Value.slice none 0 0):=by have:=HG75.out.cell 0;simpa using this
 have fg2:=HG75.out.frozen 0
 have hV2:w6.alloc (.cells #[.int .u8 0] 5)=V75:=hV75.symm
 have hg2:w6.heap.size=g75:=hg75.symm
 clear hnb hol hV75 hg75 cg fg
 go_upto_region 28 with fail
 have HW75b:=Lib.hid (WrM.put HG75.out HO75.out)
 have HB75b:=Lib.hid (HC75.out.trans (Xhz gw V75 (.slice (some ⟨g75,0,none⟩) 1 1)))
 clear cg2 fg2 hV2 hg2 HO75 HG75 HC75 HW6 HB6
 generalize V75.setCell ⟨gw,0,none⟩ (.slice (some ⟨g75,0,none⟩) 1 1)=W75 at*
 have HL1:Hid (([0#8]:Bs).length≤1):=Lib.hid (by decide)
 clear HL0
 obtain⟨a0,a1,a2,ap,aq,a67,a68,a69,ab⟩:=(HMB.out.below HB75b.out HLT.out.1).msg HPV.out HST.out
 clear a0 a2 ap aq a67 a68 a69 ab
 have ec:=Xnz nu
 go_wp2_with fail
 clear ec
 refine(wNum_any (nu.setWidth 64) 4 (by omega) gw W75 (Value.slice (some ⟨g75,0,none⟩) 1 1) ([0#8]) HW75b.out (by have:=HL1.out;omega)).mono ?_
 rintro e W76 ⟨rfl,v76,hw76,hb76⟩
 obtain⟨q76,m76,c76,rfl,_⟩:=hw76.own.open
 have HW76:=Lib.hid hw76
 have HB76:=Lib.hid (HB75b.out.trans hb76)
 clear hw76 hb76 HW75b HB75b a1
 have HL77:Hid (([0#8]++low (nu.setWidth 64) 4).length≤5):=Lib.hid (by rw[List.length_append,Qez];have:=HL1.out;omega)
 clear HL1
 have HSR:Hid (Row8 wE (some ⟨zm,35,none⟩) st):=Lib.hid (Znz (HMB.out.msg HPV.out HST.out).rs HMB.out.lt)
 have HPR:Hid (Row8 wE (some ⟨zm,3,none⟩) pv):=Lib.hid (Znz (HMB.out.msg HPV.out HST.out).rp HMB.out.lt)
 go_upto_region 29 with fail
 have HFx78:Hid (WF gw wE (Value.slice q76 m76 c76) W76):=Lib.hid ⟨HW76.out.blk,HB76.out⟩
 have HOx78:=Lib.hid HW76.out.own
 clear HW76 HB76
 refine Qdz [qq 0,qq 1,qq 2,qq 3,oo 4,qq 5] 6 (fun W=>WF gw wE (Value.slice q76 m76 c76) W) (by kernel_rfl) (by kernel_rfl) (HFx78.out.fut (Q0z W76 1)) ?_
 refine' Q9z (s:=147) (A1:=_) [0,1,2,3] [_,_,_,_] _ rfl rfl rfl (fun W hW=>?hq29a) _ (HFx78.out.fut (Q0z W76 1)) (fun _=>?hr29a)
 case hq29a=>
  simp only[List.getElem_toArray,List.getElem_cons_zero,List.getElem_cons_succ]
  have c0:∀k,(W.drewN k).cell? ⟨gw,0,none⟩=some (Value.slice q76 m76 c76):=fun k=>by have:=hW.blk.cell 0;simpa using this
  iterate 4 (go_big_quiet_step (fail))
  refine wpQuiet_nil ?_
  rfl
 case hr29a=>
 refine Qbz rfl fun k79=>?_
 have hdr:Below W76.heap.size W76 (W76.drew.drewN k79):=Q7z (Below.refl _ _).drew k79
 have HFd79:=Lib.hid (HFx78.out.fut hdr)
 have HOd79:=Lib.hid (HOx78.out.fut hdr)
 clear HFx78 HOx78 hdr
 generalize W76.drew.drewN k79=Wd79 at*
 refine Qaz (o:=⟨some 96,_,_,_,_,_⟩) rfl (.tmp 93) (.tmp 95) rfl (gw+1) _ _ rfl HOd79.out (some ⟨zm,35,none⟩) 32 32 (st) rfl HST.out ((HSR.out.below HFd79.out.bel (Nat.le_of_eq HGE.out))) (by have:=HL77.out;have:=HST.out;omega) HFd79.out.size (gw+1) Wd79 (Below.refl _ _) (Nat.le_refl _) ?_
 intro vz80 W80 ho _ hg hk
 have HF80:=Lib.hid (HFd79.out.app HOd79.out hg)
 obtain⟨qz80,mz80,dz80,rfl,_⟩:=ho.open
 have HO80:=Lib.hid ho
 clear HFd79 HOd79 ho hg hk
 go_wp2_with fail
 refine Q2z (And.intro HF80.out ?_)
 refine' Q9z (s:=147) (A1:=_) (r:=[]) [5] [_] _ rfl rfl rfl (fun W hW=>?hq29b) _ HF80.out (fun _=>?hr29b)
 case hq29b=>
  simp only[List.getElem_toArray,List.getElem_cons_zero,List.getElem_cons_succ]
  iterate 1 (go_big_quiet_step (fail))
  refine wpQuiet_nil ?_
  rfl
 case hr29b=>
 refine Qnz fun k81=>HeadQ.normal ?_
 have hdr:=Q0z W80 k81
 have HFz81:=Lib.hid (HF80.out.fut hdr)
 have HOz81:=Lib.hid (HO80.out.fut hdr)
 clear HF80 HO80 hdr
 generalize W80.drewN k81=Wz81 at*
 have fz81:=HFz81.out.blk.frozen 0
 have ez81:=HFz81.out.blk.cell 0
 simp only[List.getElem?_toArray,List.getElem?_cons_zero]at ez81
 have HWS:=Lib.hid (WrM.put HFz81.out.blk HOz81.out)
 have HBS:=Lib.hid (HFz81.out.bel.trans (Xhz gw Wz81 (Value.slice qz80 mz80 dz80)))
 go_upto_region 43 with fail
 have HW82:=HWS
 have HB82:=HBS
 obtain⟨w82,hw82⟩:∃W,W=Wz81.setCell ⟨gw,0,none⟩ (Value.slice qz80 mz80 dz80):=⟨_,rfl⟩
 rw[←hw82]at HW82 HB82 ⊢
 clear HWS HBS hw82 fz81 ez81 HFz81 HOz81
 have H4:=Lib.hid (HZ4.out.below HB82.out HLT.out.2.2.1)
 have H2:=Lib.hid (HZ2.out.below HB82.out HLT.out.2.1)
 have cg:w82.cell? ⟨gw,0,none⟩=some (Value.slice qz80 mz80 dz80):=by have:=HW82.out.blk.cell 0;simpa using this
 have f4:=H4.out.frozen 1
 have d4:w82.cell? ⟨z4,1,none⟩=some (.slice none 0 0):=by have:=H4.out.cell 1;simpa using this
 have HO:=Lib.hid (Own8.mono' HW82.out.own (B':=w.heap.size) (by have:=HLT.out;omega))
 have HBW:=Lib.hid (HWE.out.trans (HB82.out.mono (by have:=HLT.out;omega)))
 go_upto_region 44 with fail
 have hst4:=Stays.set w82 z4 1 (Value.slice qz80 mz80 dz80)
 have H4b:Hid (Blk (w82.setCell ⟨z4,1,none⟩ (Value.slice qz80 mz80 dz80)) z4 82 #[.string (strB cmd),(Value.slice qz80 mz80 dz80)]):=Lib.hid (by have:=H4.out.set 1 (Value.slice qz80 mz80 dz80);simpa using this)
 have H2b:=Lib.hid (H2.out.stays hst4 (by have:=HZ4L.out;omega))
 have HO4:=Lib.hid (HO.out.sep hst4 (Qiz H4.out (by decide)))
 have HB4:Hid (Below w.heap.size w (w82.setCell ⟨z4,1,none⟩ (Value.slice qz80 mz80 dz80))):=Lib.hid (HBW.out.setCell (show w.heap.size≤z4 from HLT.out.2.2.2.2) _)
 clear hst4 cg f4 d4 H4 H2 HO HBW HW82 HB82
 generalize w82.setCell ⟨z4,1,none⟩ (Value.slice qz80 mz80 dz80)=wF at*
 have l4:=Qfz (cs:=[.string (strB cmd),(Value.slice qz80 mz80 dz80)]) H4b.out
 have hbr:=Below.refl w.heap.size wF
 have hz2w:w.heap.size≤z2:=HLT.out.2.2.2.1
 go_wp2_with(first
  |(with_reducible refine wpList_load_mid (op:=⟨some 146,_,_,_,_,_⟩) ?_ 82 (.tmp 4) ?_ (z4) (0) ?_ ([.string (strB cmd),(Value.slice qz80 mz80 dz80)]) _ (l4) Tryz.underlying82 ?_ ?_ ?_
    ·rfl
    ·rfl
    ·rfl
    ·rfl
    ·exact((by kernel_rfl)))
  |(with_reducible refine Q4z (o:=⟨none,_,_,_,_,_⟩) ?_ 82 (.tmp 2) (.tmp 146) ?_ (z2) 82 (YFrm.toArray) (#[.string (strB cmd),(Value.slice qz80 mz80 dz80)]) ?_ ?_ (H2b.out) ?_ ?_ ?_ (w.heap.size) (wF) ?_ ?_ ?_
    ·rfl
    ·rfl
    ·rfl
    ·rfl
    ·exact((by kernel_rfl))
    ·exact(rfl)
    ·exact((by rw[List.all_toArray];rfl))
    ·exact(hbr)
    ·exact(hz2w)
    intro wG hBG hbG hgG hsG))
 refine bodyPost_ret (Qoz rfl _ _ _ z2 _ [.string (strB cmd),(Value.slice qz80 mz80 dz80)] _ rfl hBG.out Tryz.underlying82 rfl (by kernel_rfl)) rfl ?_
 have hst:=Stays.of_grown (S:=fun k=>k=z2) hgG.out (fun k h=>by injection h with h;exact h.symm)
 rw[HMP.out]
 exact⟨_,rfl,by have h:=HO4.out.sep hst (Qiz H2b.out (by decide));simpa only[List.nil_append,List.append_assoc,List.append_nil]using h,HB4.out.trans hbG⟩
theorem enc_k11 (nu:BitVec 32) (no:BitVec 64) (pv st:Bs) (hs:List Bs) (hd:List Hdr) (tx:Bs) (bl:TBlk) (cs:List Value) (w:World) (hc:MsgC w ⟨11,nu,no,pv,st,hs,hd,tx,bl⟩ cs) (ht:tooB ⟨11,nu,no,pv,st,hs,hd,tx,bl⟩=false):
 Calls Tryz.prog 34 #[.agg cs.toArray] w (Z1z w (msgP ⟨11,nu,no,pv,st,hs,hd,tx,bl⟩)):=by
 have hk0:cmdB (11)=cmdN 11:=rfl
 obtain⟨cmd,hcmd⟩:∃c,c=cmdN 11:=⟨_,rfl⟩
 have HCM:Hid (cmd≠[]):=Lib.hid (by rw[hcmd];decide)
 have HMP:Hid (msgP ⟨11,nu,no,pv,st,hs,hd,tx,bl⟩=(cmd,(payP ⟨11,nu,no,pv,st,hs,hd,tx,bl⟩).1,0)):=Lib.hid (by rw[hcmd];exact msgP_ok _ (pay_good _ (show(1:Int)≤11∧(11:Int)≤11∨(11:Int)=13 by omega) ht))
 have HMP:Hid (msgP ⟨11,nu,no,pv,st,hs,hd,tx,bl⟩=(cmd,hshB wantB hs,0)):=Lib.hid (HMP.out.trans (by rw[pay_k11 ht]))
 have hn1:hs.length≤100000:=by have h:hs.length≤1000:=lim_hs _ ht;omega
 have HSL:Hid ((hshB wantB hs).length≤100000):=Lib.hid (by have h:hs.length≤1000:=lim_hs _ ht;have:=hshB_le (a:=wantB) (l:=hs) hc.okMsg.2.2.1 (by decide);omega)
 have HC:=Lib.hid hc
 have htoo:=fun W (h:MsgC W ⟨11,nu,no,pv,st,hs,hd,tx,bl⟩ cs)=>too_any _ cs W h
 rw[ht]at htoo
 have hcc:=fun W=>X6z (11) W
 rw[hk0,← hcmd]at hcc
 obtain⟨hv,dv,bv,bc,hcs,hpv,hst,hh,hdd,hb,hbl⟩:=hc
 obtain⟨p1,n1,c1,rfl⟩:=hh.opens
 obtain⟨p2,n2,c2,rfl⟩:=hdd.opens
 obtain⟨p3,n3,c3,rfl⟩:=hb.opens
 obtain⟨zm,hzm⟩:∃z,z=w.heap.size:=⟨_,rfl⟩
 obtain⟨W1,hW1⟩:∃W,W=w.alloc (.cells cs.toArray 41):=⟨_,rfl⟩
 obtain⟨W2,hW2⟩:∃W,W=W1.alloc (.cells YFrm.toArray 82):=⟨_,rfl⟩
 have z1:W1.heap.size=zm+1:=by rw[hW1,World.size_alloc,hzm]
 have k1:Below w.heap.size w W1:=by rw[hW1];exact Q1z w _
 have k2:Below W1.heap.size W1 W2:=by rw[hW2];exact Q1z W1 _
 have k02:=Q3z k1 k2 (Nat.le_refl _)
 obtain⟨z2,hz2⟩:∃z,z=zm+1:=⟨_,rfl⟩
 have B1:Blk W2 zm 41 cs.toArray:=(show Blk W1 zm _ _ by rw[hW1,hzm];exact Blk.new w _ _).fut k2
 have B2:Blk W2 z2 82 YFrm.toArray:=by rw[hW2,hz2,← z1];exact Blk.new W1 _ _
 rw[hcs]at B1
 have HPV:=Lib.hid hpv
 have HL0:Hid (([]:Bs).length≤0):=Lib.hid (Nat.le_refl 0)
 have HN1:Hid (n1=hs.length):=Lib.hid hh.slen.1.symm
 have HN3:=Lib.hid hb.slen.1
 have HEH:=Lib.hid hh
 have HN2:Hid (hd.length=n2):=Lib.hid hdd.slen.1
 have HDH:=Lib.hid hdd
 have HOKS:Hid (∀x∈hd,Hdr.ok x):=Lib.hid HC.out.okMsg.2.2.2.1
 have HTX0:Hid (tx.length=n3∧Row8 w p3 tx):=Lib.hid (by obtain⟨p',n',c',e,h1,_,_,h4,_⟩:=hb;injection e with e1 e2 _;rw[e1,e2];exact⟨h1,h4⟩)
 have HST:=Lib.hid hst
 have a0:=(B1.msg hpv hst).c0
 have HB1:=Lib.hid B1
 have HB2:=Lib.hid B2
 have HK02:=Lib.hid k02
 have HCS:=Lib.hid hcs
 have HZZ:Hid (zm=w.heap.size∧z2=zm+1):=Lib.hid ⟨hzm,hz2⟩
 have hzf:=yFrm
 have hbt:=fun s=>XAz s
 have hzw:=zWriter
 clear k1 k2 k02 z1 B1 B2 hcs hpv hst hh hdd hb hbl hcmd hk0 ht
 go_enter Tryz.func34,Tryz.ntmps34
 go_upto_region 1 with fail
 rw[←hW1,← hW2,← hzm,← hz2]
 clear hW1 hW2 hzm hz2
 go_wp2_with fail
 refine(hcc W2).mono ?_
 rintro e w3 ⟨rfl,hb3⟩
 have HB13:=Lib.hid (HB1.out.fut hb3)
 have HB23:=Lib.hid (HB2.out.fut hb3)
 have HW3:=Lib.hid (Q3z HK02.out hb3 (Nat.le_refl _))
 have hbn:=Q1z w3 (.cells YFrm.toArray 82)
 clear hb3 a0 HB1 HB2 HK02 hcc
 go_upto_region 2 with(first
  |(with_reducible refine Qjz (o:=⟨some 13,_,_,_,_,_⟩) ?_ 82 #[(0,.tmp 12)] ?_ [(0,.string (strB cmd))] ?_ #[.string (strB cmd),.slice none 0 0] hbt (strB cmd) ?_
    ·rfl
    ·rfl
    ·rfl)
  |(with_reducible refine Q4z (o:=⟨none,_,_,_,_,_⟩) ?_ 82 (.tmp 4) (.tmp 13) ?_ (w3.heap.size) 82 (YFrm.toArray) (#[.string (strB cmd),.slice none 0 0]) ?_ ?_ (Blk.new w3 _ _) ?_ ?_ ?_ (w3.heap.size) (w3) ?_ ?_ ?_
    ·rfl
    ·rfl
    ·rfl
    ·rfl
    ·exact((by kernel_rfl))
    ·exact(rfl)
    ·exact((by rw[List.all_toArray];rfl))
    ·exact(hbn)
    ·exact(Nat.le_refl _)
    intro w4 hB4 hb4 hg4 hs4))
 try simp only[Qpz]
 have HB14:=Lib.hid (HB13.out.fut hb4)
 have HB24:=Lib.hid (HB23.out.fut hb4)
 have HW4:=Lib.hid (Q3z HW3.out hb4 (Nat.le_refl _))
 have HB44:=Lib.hid hB4.out
 obtain⟨z4,hz4⟩:∃z,z=w3.heap.size:=⟨_,rfl⟩
 rw[←hz4]at HB44 ⊢
 have HZ4L:Hid (zm<z4∧z2<z4∧w.heap.size≤z4):=Lib.hid (by rw[hz4];exact⟨HB13.out.lt,HB23.out.lt,HW3.out.size⟩)
 clear hbn hz4 hB4 hb4 hg4 hs4 HB13 HB23 HW3
 have c4:w4.cell? ⟨z4,0,none⟩=some (.string (strB cmd)):=by have:=HB44.out.cell 0;simpa using this
 have heq:(strB cmd).toList.isEmpty=false:=Z0z HCM.out
 have hcl:=HC.out.len
 have HCL:=Lib.hid hcl
 have l1:w4.rangeAt zm 0 cs:=Qfz (by rw[HCS.out];exact HB14.out)
 have hcc4:=Qhz _ _ _ _ HC.out HW4.out
 have htoo4:=htoo w4 hcc4
 clear hcl hcc4 htoo
 go_wp2_with(first
  |(with_reducible refine Qlz (op:=⟨some 18,_,_,_,_,_⟩) ?_ 41 (.tmp 1) ?_ (zm) (0) ?_ (cs) _ (l1) Tryz.underlying41 ?_ ?_ ?_
    ·rfl
    ·rfl
    ·rfl
    ·rfl
    ·exact((Qkz HCL.out))))
 refine htoo4.mono ?_
 rintro e wE ⟨rfl,hb5⟩
 have HMB:=Lib.hid (HB14.out.fut hb5)
 have HZ2:=Lib.hid (HB24.out.fut hb5)
 have HZ4:=Lib.hid (HB44.out.fut hb5)
 have HWE:=Lib.hid (Q3z HW4.out hb5 (Nat.le_refl _))
 have HMC:=Lib.hid (Qhz _ _ _ _ HC.out HWE.out)
 obtain⟨gw,hgw⟩:∃g,g=wE.heap.size:=⟨_,rfl⟩
 have HGE:Hid (wE.heap.size=gw):=Lib.hid hgw.symm
 have HLT:Hid (zm<gw∧z2<gw∧z4<gw∧w.heap.size≤z2∧w.heap.size≤z4):=Lib.hid (by rw[hgw];have h1:=HMB.out.lt;have h2:=HZ2.out.lt;have h3:=HZ4.out.lt;have h4:=HZZ.out;have h5:=HZ4L.out;omega)
 have hnb:=Q1z wE (.cells #[.slice none 0 0] 138)
 obtain⟨w6,hw6⟩:∃W,W=wE.alloc (.cells #[.slice none 0 0] 138):=⟨_,rfl⟩
 have HW6:Hid (WrM gw w6 (Value.slice none 0 0) []):=Lib.hid ⟨by rw[hw6,hgw];exact Blk.new wE _ _,Own8.nil _ _⟩
 have HB6:Hid (Below gw wE w6):=Lib.hid (by rw[hw6,hgw];exact hnb)
 have a0:=((HMB.out.below HB6.out HLT.out.1).msg HPV.out HST.out).c0
 have HE:=Lib.hid (HEH.out.fut Z3z HWE.out)
 have HTX:Hid (tx.length=n3∧Row8 wE p3 tx):=Lib.hid ⟨HTX0.out.1,HTX0.out.2.below HWE.out (Nat.le_refl _)⟩
 have HED:=Lib.hid (HDH.out.fut hdrE_c HWE.out)
 clear HEH HTX0 HDH
 clear hnb hb5 htoo4 l1 c4 HB14 HB24 HB44 HW4 HC heq hbt
 go_upto_region 5 with fail
 rw[←hw6,← hgw]
 clear hw6 hgw hzw
 go_upto_region 37 with fail
 clear a0
 refine QAz [qq 0,qq 1,oo 2,oo 3] (fun W=>Below gw wE W) (by kernel_rfl) (by kernel_rfl) (HB6.out.trans ((Q0z w6 1).mono (Nat.le_of_lt HW6.out.blk.lt))) ?_
 refine' Q9z (s:=147) (A1:=_) [0,1] [_,_] _ rfl rfl rfl (fun W hW=>?hq106) _ (HB6.out.trans ((Q0z w6 1).mono (Nat.le_of_lt HW6.out.blk.lt))) (fun _=>?hr106)
 case hq106=>
  have c67:∀k,(W.drewN k).cell? ⟨zm,67,none⟩=some (.slice p1 n1 c1):=fun k=>by have:=((HMB.out.below hW HLT.out.1).msg HPV.out HST.out).c67;simpa using this
  simp only[List.getElem_toArray,List.getElem_cons_zero,List.getElem_cons_succ]
  iterate 2 (go_big_quiet_step (fail))
  refine wpQuiet_nil ?_
  rfl
 case hr106=>
 refine Qbz rfl fun k1=>?_
 have hdr:Below w6.heap.size w6 (w6.drew.drewN k1):=Q7z (Below.refl _ _).drew k1
 have HWa:=Lib.hid (HW6.out.fut hdr)
 have HBa:=Lib.hid (HB6.out.trans (hdr.mono (Nat.le_of_lt HW6.out.blk.lt)))
 clear hdr HW6 HB6
 generalize w6.drew.drewN k1=Wa at*
 go_wp2_with fail
 refine(want_any Wa).mono ?_
 rintro e Wb ⟨vw,rfl,how,hbw⟩
 replace how:Own8 Wb Wa.heap.size vw wantB:=how
 obtain⟨pw,nw,cw,rfl,hnw,_⟩:=how.open
 have HAb:=Lib.hid (ahead_own HWa.out.own HWa.out.blk.lt how)
 have HWb:=Lib.hid (HWa.out.fut hbw)
 have HBb:=Lib.hid (HBa.out.trans (hbw.mono (Nat.le_of_lt HWa.out.blk.lt)))
 have HNW:=Lib.hid hnw
 clear how hbw HWa HBa hnw
 go_wp2_with fail
 refine Q2z (And.intro HBb.out ?_)
 refine Qbz rfl fun k2=>?_
 have hdr:=Q0z Wb k2
 have HWc:=Lib.hid (HWb.out.fut hdr)
 have HBc:=Lib.hid (HBb.out.trans (hdr.mono (Nat.le_of_lt HWb.out.blk.lt)))
 have HAc:=Lib.hid (HAb.out.fut hdr)
 clear hdr HWb HBb HAb
 generalize Wb.drewN k2=Wc at*
 go_wp2_with fail
 refine(wList_any p1 n1 c1 hs pw nw cw wantB gw Wc wE (Value.slice none 0 0) [] HWc.out (by decide) (by have:=HN1.out;omega) (by decide) HBc.out (Nat.le_of_eq HGE.out) HE.out HNW.out HAc.out).mono ?_
 rintro e Wd ⟨rfl,vd,hwd,hbd⟩
 obtain⟨qd,md,cd,rfl,_⟩:=hwd.own.open
 have HBd:=Lib.hid (HBc.out.trans hbd)
 have HWd:=Lib.hid hwd
 clear hwd hbd HWc HBc HAc
 go_wp2_with fail
 refine Q2z (And.intro HBd.out ?_)
 refine Qnz fun k3=>NoPanic.normal ?_
 have hdr:=Q0z Wd k3
 have HWf:=Lib.hid (HWd.out.fut hdr)
 have HBf:=Lib.hid (HBd.out.trans (hdr.mono (Nat.le_of_lt HWd.out.blk.lt)))
 clear hdr HWd HBd
 generalize Wd.drewN k3=We at*
 go_upto_region 43 with fail
 have H4:=Lib.hid (HZ4.out.below HBf.out HLT.out.2.2.1)
 have H2:=Lib.hid (HZ2.out.below HBf.out HLT.out.2.1)
 have cg:We.cell? ⟨gw,0,none⟩=some (Value.slice qd md cd):=by have:=HWf.out.blk.cell 0;simpa using this
 have f4:=H4.out.frozen 1
 have d4:We.cell? ⟨z4,1,none⟩=some (.slice none 0 0):=by have:=H4.out.cell 1;simpa using this
 have HO:=Lib.hid (Own8.mono' HWf.out.own (B':=w.heap.size) (by have:=HLT.out;omega))
 have HBW:=Lib.hid (HWE.out.trans (HBf.out.mono (by have:=HLT.out;omega)))
 go_upto_region 44 with fail
 have hst4:=Stays.set We z4 1 (Value.slice qd md cd)
 have H4b:Hid (Blk (We.setCell ⟨z4,1,none⟩ (Value.slice qd md cd)) z4 82 #[.string (strB cmd),(Value.slice qd md cd)]):=Lib.hid (by have:=H4.out.set 1 (Value.slice qd md cd);simpa using this)
 have H2b:=Lib.hid (H2.out.stays hst4 (by have:=HZ4L.out;omega))
 have HO4:=Lib.hid (HO.out.sep hst4 (Qiz H4.out (by decide)))
 have HB4:Hid (Below w.heap.size w (We.setCell ⟨z4,1,none⟩ (Value.slice qd md cd))):=Lib.hid (HBW.out.setCell (show w.heap.size≤z4 from HLT.out.2.2.2.2) _)
 clear hst4 cg f4 d4 H4 H2 HO HBW HWf HBf
 generalize We.setCell ⟨z4,1,none⟩ (Value.slice qd md cd)=wF at*
 have l4:=Qfz (cs:=[.string (strB cmd),(Value.slice qd md cd)]) H4b.out
 have hbr:=Below.refl w.heap.size wF
 have hz2w:w.heap.size≤z2:=HLT.out.2.2.2.1
 go_wp2_with(first
  |(with_reducible refine wpList_load_mid (op:=⟨some 146,_,_,_,_,_⟩) ?_ 82 (.tmp 4) ?_ (z4) (0) ?_ ([.string (strB cmd),(Value.slice qd md cd)]) _ (l4) Tryz.underlying82 ?_ ?_ ?_
    ·rfl
    ·rfl
    ·rfl
    ·rfl
    ·exact((by kernel_rfl)))
  |(with_reducible refine Q4z (o:=⟨none,_,_,_,_,_⟩) ?_ 82 (.tmp 2) (.tmp 146) ?_ (z2) 82 (YFrm.toArray) (#[.string (strB cmd),(Value.slice qd md cd)]) ?_ ?_ (H2b.out) ?_ ?_ ?_ (w.heap.size) (wF) ?_ ?_ ?_
    ·rfl
    ·rfl
    ·rfl
    ·rfl
    ·exact((by kernel_rfl))
    ·exact(rfl)
    ·exact((by rw[List.all_toArray];rfl))
    ·exact(hbr)
    ·exact(hz2w)
    intro wG hBG hbG hgG hsG))
 refine bodyPost_ret (Qoz rfl _ _ _ z2 _ [.string (strB cmd),(Value.slice qd md cd)] _ rfl hBG.out Tryz.underlying82 rfl (by kernel_rfl)) rfl ?_
 have hst:=Stays.of_grown (S:=fun k=>k=z2) hgG.out (fun k h=>by injection h with h;exact h.symm)
 rw[HMP.out]
 exact⟨_,rfl,by have h:=HO4.out.sep hst (Qiz H2b.out (by decide));simpa only[List.nil_append,List.append_assoc,List.append_nil]using h,HB4.out.trans hbG⟩
theorem enc_bad (m:TMsg) (cs:List Value) (w:World) (hc:MsgC w m cs) (ht:cmdB m.k=[]∨tooB m=true):
 Calls Tryz.prog 34 #[.agg cs.toArray] w (Z1z w (msgP m)):=by
 obtain⟨cmd,hcmd⟩:∃c,c=cmdB m.k:=⟨_,rfl⟩
 have HMP:Hid (msgP m=([],[],1)):=Lib.hid (by unfold msgP;rw[pay_bad m ht];rfl)
 rw[←hcmd]at ht
 have HC:=Lib.hid hc
 have htoo:=fun W (h:MsgC W m cs)=>too_any _ cs W h
 obtain⟨tb,htb⟩:∃b,b=tooB m:=⟨_,rfl⟩
 rw[←htb]at htoo ht
 have HTB:=Lib.hid ht
 have hcc:=fun W=>X6z m.k W
 rw[←hcmd]at hcc
 obtain⟨kk,hkk⟩:∃k,k=m.k:=⟨_,rfl⟩
 rw[←hkk]at hcc
 obtain⟨hv,dv,bv,bc,hcs,hpv,hst,hh,hdd,hb,hbl⟩:=hc
 obtain⟨p1,n1,c1,rfl⟩:=hh.opens
 obtain⟨p2,n2,c2,rfl⟩:=hdd.opens
 obtain⟨p3,n3,c3,rfl⟩:=hb.opens
 obtain⟨zm,hzm⟩:∃z,z=w.heap.size:=⟨_,rfl⟩
 obtain⟨W1,hW1⟩:∃W,W=w.alloc (.cells cs.toArray 41):=⟨_,rfl⟩
 obtain⟨W2,hW2⟩:∃W,W=W1.alloc (.cells YFrm.toArray 82):=⟨_,rfl⟩
 have z1:W1.heap.size=zm+1:=by rw[hW1,World.size_alloc,hzm]
 have k1:Below w.heap.size w W1:=by rw[hW1];exact Q1z w _
 have k2:Below W1.heap.size W1 W2:=by rw[hW2];exact Q1z W1 _
 have k02:=Q3z k1 k2 (Nat.le_refl _)
 obtain⟨z2,hz2⟩:∃z,z=zm+1:=⟨_,rfl⟩
 have B1:Blk W2 zm 41 cs.toArray:=(show Blk W1 zm _ _ by rw[hW1,hzm];exact Blk.new w _ _).fut k2
 have B2:Blk W2 z2 82 YFrm.toArray:=by rw[hW2,hz2,← z1];exact Blk.new W1 _ _
 rw[hcs]at B1
 have HPV:=Lib.hid hpv
 have HST:=Lib.hid hst
 have a0:=(B1.msg hpv hst).c0
 rw[←hkk]at a0
 have HB1:=Lib.hid B1
 have HB2:=Lib.hid B2
 have HK02:=Lib.hid k02
 have HCS:=Lib.hid hcs
 have HZZ:Hid (zm=w.heap.size∧z2=zm+1):=Lib.hid ⟨hzm,hz2⟩
 have hzf:=yFrm
 have hbt:=fun s=>XAz s
 have hzw:=zWriter
 clear k1 k2 k02 z1 B1 B2 hcs hpv hst hh hdd hb hbl hcmd ht htb hkk
 go_enter Tryz.func34,Tryz.ntmps34
 go_upto_region 1 with fail
 rw[←hW1,← hW2,← hzm,← hz2]
 clear hW1 hW2 hzm hz2
 go_wp2_with fail
 refine(hcc W2).mono ?_
 rintro e w3 ⟨rfl,hb3⟩
 have HB13:=Lib.hid (HB1.out.fut hb3)
 have HB23:=Lib.hid (HB2.out.fut hb3)
 have HW3:=Lib.hid (Q3z HK02.out hb3 (Nat.le_refl _))
 have hbn:=Q1z w3 (.cells YFrm.toArray 82)
 clear hb3 a0 HB1 HB2 HK02 hcc
 go_upto_region 2 with(first
  |(with_reducible refine Qjz (o:=⟨some 13,_,_,_,_,_⟩) ?_ 82 #[(0,.tmp 12)] ?_ [(0,.string (strB cmd))] ?_ #[.string (strB cmd),.slice none 0 0] hbt (strB cmd) ?_
    ·rfl
    ·rfl
    ·rfl)
  |(with_reducible refine Q4z (o:=⟨none,_,_,_,_,_⟩) ?_ 82 (.tmp 4) (.tmp 13) ?_ (w3.heap.size) 82 (YFrm.toArray) (#[.string (strB cmd),.slice none 0 0]) ?_ ?_ (Blk.new w3 _ _) ?_ ?_ ?_ (w3.heap.size) (w3) ?_ ?_ ?_
    ·rfl
    ·rfl
    ·rfl
    ·rfl
    ·exact((by kernel_rfl))
    ·exact(rfl)
    ·exact((by rw[List.all_toArray];rfl))
    ·exact(hbn)
    ·exact(Nat.le_refl _)
    intro w4 hB4 hb4 hg4 hs4))
 try simp only[Qpz]
 have HB14:=Lib.hid (HB13.out.fut hb4)
 have HB24:=Lib.hid (HB23.out.fut hb4)
 have HW4:=Lib.hid (Q3z HW3.out hb4 (Nat.le_refl _))
 have HB44:=Lib.hid hB4.out
 obtain⟨z4,hz4⟩:∃z,z=w3.heap.size:=⟨_,rfl⟩
 rw[←hz4]at HB44 ⊢
 have HZ4L:Hid (zm<z4∧z2<z4∧w.heap.size≤z4):=Lib.hid (by rw[hz4];exact⟨HB13.out.lt,HB23.out.lt,HW3.out.size⟩)
 clear hbn hz4 hB4 hb4 hg4 hs4 HB13 HB23 HW3
 have c4:w4.cell? ⟨z4,0,none⟩=some (.string (strB cmd)):=by have:=HB44.out.cell 0;simpa using this
 by_cases hce:cmd=[]
 ·have heq:(strB cmd).toList.isEmpty=true:=by rw[hce];unfold strB;rw[Lib.strOfNums_toList];rfl
  clear hce htoo
  have hbr:=Below.refl w.heap.size w4
  have hz2w:w.heap.size≤z2:=by have:=HZZ.out;omega
  have hbt0:=built_frm0
  clear hbt
  go_wp2_with(first
   |(with_reducible refine Qjz (o:=⟨some 21,_,_,_,_,_⟩) ?_ 82 #[] ?_ [] ?_ YFrm.toArray hbt0 ?_
     ·rfl
     ·rfl
     ·rfl)
   |(with_reducible refine Q4z (o:=⟨none,_,_,_,_,_⟩) ?_ 82 (.tmp 2) (.tmp 21) ?_ (z2) 82 (YFrm.toArray) (YFrm.toArray) ?_ ?_ (HB24.out) ?_ ?_ ?_ (w.heap.size) (w4) ?_ ?_ ?_
     ·rfl
     ·rfl
     ·rfl
     ·rfl
     ·exact((by kernel_rfl))
     ·exact(rfl)
     ·exact((by rw[List.all_toArray];rfl))
     ·exact(hbr)
     ·exact(hz2w)
     intro wG hBG hbG hgG hsG))
  refine bodyPost_ret (Qoz rfl _ _ _ z2 _ YFrm _ rfl hBG.out Tryz.underlying82 rfl (by kernel_rfl)) rfl ?_
  rw[HMP.out]
  exact⟨_,rfl,Own8.nil _ _,HW4.out.trans hbG⟩
 have heq:(strB cmd).toList.isEmpty=false:=Z0z hce
 have htrue:tb=true:=by
  rcases HTB.out with h|h
  ·exact absurd h hce
  ·exact h
 subst htrue
 clear hce
 have hcl:=HC.out.len
 have HCL:=Lib.hid hcl
 have l1:w4.rangeAt zm 0 cs:=Qfz (by rw[HCS.out];exact HB14.out)
 have hcc4:=Qhz _ _ _ _ HC.out HW4.out
 have htoo4:=htoo w4 hcc4
 clear hcl hcc4 htoo
 go_wp2_with(first
  |(with_reducible refine Qlz (op:=⟨some 18,_,_,_,_,_⟩) ?_ 41 (.tmp 1) ?_ (zm) (0) ?_ (cs) _ (l1) Tryz.underlying41 ?_ ?_ ?_
    ·rfl
    ·rfl
    ·rfl
    ·rfl
    ·exact((Qkz HCL.out))))
 refine htoo4.mono ?_
 rintro e wE ⟨rfl,hb5⟩
 have H2:=Lib.hid (HB24.out.fut hb5)
 have HBW:=Lib.hid (Q3z HW4.out hb5 (Nat.le_refl _))
 clear hb5 htoo4 l1 c4
 have hbr:=Below.refl w.heap.size wE
 have hz2w:w.heap.size≤z2:=by have:=HZZ.out;omega
 have hbt0:=built_frm0
 clear hbt
 go_wp2_with(first
  |(with_reducible refine Qjz (o:=⟨some 21,_,_,_,_,_⟩) ?_ 82 #[] ?_ [] ?_ YFrm.toArray hbt0 ?_
    ·rfl
    ·rfl
    ·rfl)
  |(with_reducible refine Q4z (o:=⟨none,_,_,_,_,_⟩) ?_ 82 (.tmp 2) (.tmp 21) ?_ (z2) 82 (YFrm.toArray) (YFrm.toArray) ?_ ?_ (H2.out) ?_ ?_ ?_ (w.heap.size) (wE) ?_ ?_ ?_
    ·rfl
    ·rfl
    ·rfl
    ·rfl
    ·exact((by kernel_rfl))
    ·exact(rfl)
    ·exact((by rw[List.all_toArray];rfl))
    ·exact(hbr)
    ·exact(hz2w)
    intro wG hBG hbG hgG hsG))
 refine bodyPost_ret (Qoz rfl _ _ _ z2 _ YFrm _ rfl hBG.out Tryz.underlying82 rfl (by kernel_rfl)) rfl ?_
 rw[HMP.out]
 exact⟨_,rfl,Own8.nil _ _,HBW.out.trans hbG⟩
end Go.Proofs.YtjbijcjcejfpcaaGreatDoor
