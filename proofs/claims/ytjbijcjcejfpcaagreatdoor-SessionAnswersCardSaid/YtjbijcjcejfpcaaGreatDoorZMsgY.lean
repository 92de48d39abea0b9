/- sporranref10: low4, hashes, payload, Encode: the walks. -/
import Derived.Test.YtjbijcjcejfpcaaGreatDoorZMsgE
import Derived.Test.YtjbijcjcejfpcaaGreatDoorZMsgN
namespace Go.Proofs.YtjbijcjcejfpcaaGreatDoor
set_option linter.unusedVariables false
set_option maxRecDepth 100000
set_option maxHeartbeats 16000000
open Go Go.RowKit
def PSt (w:World) (zm:Nat) (C:Array Value) (W:World):Prop:=Blk W zm 41 C∧Below w.heap.size w W
theorem PSt.fut {w W W':World} {zm:Nat} {C:Array Value} (h:PSt w zm C W) (hb:Below W.heap.size W W'):PSt w zm C W':=⟨h.1.fut hb,Q3z h.2 hb (Nat.le_refl _)⟩
theorem own_apart' {B z:Nat} {w:World} {v:Value} {ys:Bs} {t:TypeId} {cs:Array Value} (h:Own8 w B v ys) (hg:Blk w z t cs) (ht:t≠5):v.ownBlock≠some z:=(Sfx8.of h).apart hg ht
theorem PSt.app {w W W':World} {zm:Nat} {C:Array Value} {v:Value} {ys:Bs} (h:PSt w zm C W) (ho:Own8 W w.heap.size v ys) (hg:W.grownBy W' v.ownBlock):PSt w zm C W':=
 ⟨h.1.stays (Stays.of_grown (S:=fun k=>Value.ownBlock _=some k) hg fun k h=>h) (own_apart' ho h.1 (by decide)),h.2.trans ((Below.refl _ W).grown hg h.2.size fun k hk=>(World.ownsRow.lt ho k hk).1)⟩
theorem ahead_newB {B g:Nat} {W:World} {v:Value} {ys bs:Bs} (ho:Own8 W B v ys) (hg:g<W.heap.size):Ahead g (W.alloc (.cells (bs.map u8).toArray 5)) (some ⟨W.heap.size,0,none⟩) bs v:=
 ⟨QOz (Blk.new W 5 _),fun _ x hx=>by
  injection hx with hx
  subst hx
  exact⟨fun e=>by have:=(World.ownsRow.lt ho _ e).2;simp only at this;omega,by rw[World.size_alloc];exact Nat.lt_succ_self _,by simp only;omega⟩⟩
theorem XUz {B g:Nat} {W W':World} {v:Value} {ys bs:Bs} {p:Option Addr} {n c:Nat} {C:Array Value} (ho:Own8 W B v ys) (hg:g<W.heap.size) (h2:Own8 W' W.heap.size (.slice p n c) bs) (_:Blk W g 41 C):Ahead g W' p bs v:=by
 refine⟨(AheadB.own h2).1,fun h0 x hx=>?_⟩
 rcases h2.2 with⟨e,h1⟩|⟨q,cap,cur,e,hq,hh,_⟩
 ·exact absurd (List.eq_nil_of_length_eq_zero h1) h0
 ·injection e with e1
  rw[hx]at e1
  injection e1 with e1
  subst e1
  have hlt:=(show Blk W' q 5 cur from hh).lt
  exact⟨fun e=>by have:=(World.ownsRow.lt ho _ e).2;simp only at this;omega,hlt,by simp only;omega⟩
def RowAp (g:Nat) (W0 W:World) (p:Option Addr) (bs:Bs):Prop:=Row8 W p bs∧(bs≠[]→∀x,p=some x→x.block<W.heap.size∧x.block≠g)
theorem RowAp.of {g:Nat} {W W':World} {p:Option Addr} {n c:Nat} {bs:Bs} {C:Array Value} (h2:Own8 W' W.heap.size (.slice p n c) bs) (hb:Blk W g 41 C):RowAp g W W' p bs:=by
 have h:=XUz (own_none W 0) hb.lt h2 hb
 exact⟨h.1,fun h0 x hx=>(h.2 h0 x hx).2⟩
theorem RowAp.fut {g:Nat} {W0 W W':World} {p:Option Addr} {bs:Bs} (h:RowAp g W0 W p bs) (hb:Below W.heap.size W W'):RowAp g W0 W' p bs:=
 ⟨h.1.below hb (Nat.le_refl _),fun h0 x hx=>by obtain⟨h1,h2⟩:=h.2 h0 x hx;exact⟨Nat.lt_of_lt_of_le h1 hb.size,h2⟩⟩
theorem ahead_old {g:Nat} {W0 W W':World} {v:Value} {ys bs:Bs} {p:Option Addr} (h:RowAp g W0 W p bs) (ho:Own8 W' W.heap.size v ys) (hb:Below W.heap.size W W'):Ahead g W' p bs v:=
 ⟨h.1.below hb (Nat.le_refl _),fun h0 x hx=>by
  obtain⟨h1,h2⟩:=h.2 h0 x hx
  exact⟨fun e=>by have:=(World.ownsRow.lt ho _ e).1;omega,Nat.lt_of_lt_of_le h1 hb.size,h2⟩⟩
theorem low4_any (nu:BitVec 32) (w:World):Calls Tryz.prog 65 #[.int .u32 (iv32 nu)] w (GivesOwn w (low (nu.setWidth 64) 4)):=by
 have ec:=Xnz nu
 go_enter Tryz.func65,Tryz.ntmps65
 go_wp2_with fail
 refine(QFz (nu.setWidth 64) 4 (by omega) w).mono ?_
 rintro e w1 ⟨v,rfl,ho,hb⟩
 go_wp2_with fail
 go_ret
 exact⟨_,rfl,ho,hb⟩
theorem rcnt_any (n:Nat) (hn:n<18446744073709551616) (W:World):Calls Tryz.prog 67 #[.int .u64 (n:Int)] W (GivesOwn W (cntB n)):=by
 have:=refEncode_any (BitVec.ofNat 64 n) W
 rw[Zmz n hn]at this
 exact this
theorem prow_st {W:World} {zm:Nat} {C:Array Value} {k nu no:Value} {pv st:Bs} {hv dv bv:Value} {bc:List Value} (hC:C=(Q8z k nu no pv st hv dv bv bc).toArray) (hp:pv.length=32) (hs:st.length=32) (h:Blk W zm 41 C):Row8 W (some ⟨zm,35,none⟩) st:=by
 subst hC
 exact Znz (h.msg hp hs).rs h.lt
theorem prow_pv {W:World} {zm:Nat} {C:Array Value} {k nu no:Value} {pv st:Bs} {hv dv bv:Value} {bc:List Value} (hC:C=(Q8z k nu no pv st hv dv bv bc).toArray) (hp:pv.length=32) (hs:st.length=32) (h:Blk W zm 41 C):Row8 W (some ⟨zm,3,none⟩) pv:=by
 subst hC
 exact Znz (h.msg hp hs).rp h.lt
theorem X5z {W:World} {zm:Nat} {C:Array Value} {k nu no:Value} {pv st:Bs} {hv dv bv:Value} {bc:List Value} (hC:C=(Q8z k nu no pv st hv dv bv bc).toArray) (hp:pv.length=32) (hs:st.length=32) (h:Blk W zm 41 C):MsgAt W zm k nu no pv st hv dv bv bc:=by
 subst hC
 exact h.msg hp hs
theorem rHashes_any (hp:Option Addr) (n hc:Nat) (l:List Bs) (pa:Option Addr) (na ca:Nat) (a:Bs) (w:World) (hE:ESl HashE 32 w (.slice hp n hc) l) (hn:n≤100000) (ha:Row8 w pa a) (han:a.length=na) (ha4:a.length≤100) (hpa:a≠[]→∀x,pa=some x→x.block<w.heap.size):
 Calls Tryz.prog 66 #[.slice hp n hc,.slice pa na ca] w (GivesOwn w (hshB a l)):=by
 obtain⟨hln,hnc,hcm⟩:=hE.slen
 have HEE:=Lib.hid hE
 have HLN:=Lib.hid hln
 have HAR:=Lib.hid (And.intro ha (And.intro han (And.intro ha4 hpa)))
 have HZL:Hid (∀k,(preL (fun h=>a++h) l k).length≤100000*132):=Lib.hid fun k=>preL_len (fun h=>a++h) l k 132 100000 (fun x hx=>by
  obtain⟨cs,hc⟩:=hE.mem hx
  have:=hc.2;rw[List.length_append];omega) (by omega)
 have HCL:=Lib.hid (QXz n)
 have HV:Hid (hshB a l=cntB n++preL (fun h=>a++h) l n):=Lib.hid (by unfold hshB;rw[hln,preL_all _ l n (by omega)])
 have hiv:IntKind.u64.wrap (n:Int)=(n:Int):=by rw[IntKind.wrap_u64];omega
 rw[HV.out]
 clear hE hln ha han ha4 hpa
 go_enter Tryz.func66,Tryz.ntmps66
 go_wp2_with fail
 refine(rcnt_any n (by omega) w).mono ?_
 rintro e w1 ⟨v1,rfl,ho1,hb1⟩
 obtain⟨q1,m1,c1,rfl,_⟩:=ho1.open
 have HI0:Hid (Own8 w1 w.heap.size (.slice q1 m1 c1) (cntB n++preL (fun h=>a++h) l 0)):=Lib.hid (by rw[show preL (fun h=>a++h) l 0=[]from rfl,List.append_nil];exact ho1)
 have HB0:=Lib.hid hb1
 clear ho1 hb1 hiv
 have hz:=zHash
 go_wp2_with fail
 go_loopw[5,14] (fun b i wr=>∃(k:Nat) (q:Option Addr) (m c:Nat),k≤n∧i= .int .i64 k∧b= .slice q m c∧Hid (Own8 wr w.heap.size (.slice q m c) (cntB n++preL (fun h=>a++h) l k))∧Hid (Below w.heap.size w wr)) (fun _ i _=>n-(intOf i).toNat)
 case atStart=>exact⟨0,_,_,_,by omega,rfl,rfl,HI0,HB0⟩
 case round=>
  obtain⟨k,q,m,c,hk,rfl,rfl,HOk,HBk⟩:=hrel
  clear HI0 HB0
  by_cases hkm:k<n
  ·have hlt:(k:Int)<(n:Int):=by omega
   obtain⟨b,off,cs2,x,rfl,hx,hE,l2⟩:=HEE.out.at HBk.out hkm
   obtain⟨rfl,hx32⟩:=hE
   have HX:=Lib.hid hx
   have HX32:=Lib.hid hx32
   have hbr:=Q1z wr (.cells (Q5z (nulls 32)).toArray 32)
   have HZ32:Hid ((Q5z (nulls 32)).toArray.size=32):=Lib.hid rfl
   obtain⟨YH,hYH⟩:∃Y,Y=(Q5z (nulls 32)).toArray:=⟨_,rfl⟩
   rw[←hYH]at hz hbr HZ32
   clear hx hx32 hYH
   go_upto_region 5 with(first
    |(with_reducible refine wpList_load_mid (op:=⟨some 17,_,_,_,_,_⟩) ?_ 32 (.tmp 16) ?_ (b) (off+k*32) ?_ ((Q5z (x))) _ (l2) Tryz.underlying32 ?_ ?_ ?_
      ·rfl
      ·rfl
      ·rfl
      ·rfl
      ·exact(Quz (HX32.out)))
    |(with_reducible refine Q4z (o:=⟨none,_,_,_,_,_⟩) ?_ 32 (.tmp 7) (.tmp 17) ?_ (wr.heap.size) 32 (YH) ((Q5z (x)).toArray) ?_ ?_ (Blk.new wr _ _) ?_ ?_ ?_ (wr.heap.size) (wr) ?_ ?_ ?_
      ·rfl
      ·rfl
      ·rfl
      ·rfl
      ·exact(Qsz (HX32.out))
      ·exact((HZ32.out).trans (Xsz (HX32.out)).symm)
      ·exact(Qzz _)
      ·exact(hbr)
      ·exact(Nat.le_refl _)
      intro w6 hB6 hb6 hg6 hs6))
   try simp only[Qpz]
   obtain⟨z,hz6⟩:∃z,z=wr.heap.size:=⟨_,rfl⟩
   have HO6:=Lib.hid (HOk.out.fut hb6)
   have HX6:Hid (Blk w6 z 32 (Q5z x).toArray):=Lib.hid (by rw[hz6];exact hB6.out)
   have HB6:=Lib.hid (Q3z HBk.out hb6 (Nat.le_refl _))
   rw[←hz6]
   have HPL:=Lib.hid (HZL.out k)
   clear HOk HBk hb6 hg6 hs6 hB6 hbr hz6 l2 hz
   refine QAz [qq 0,qq 1,qq 3,oo 2,oo 4,qq 5] (fun W=>Below w.heap.size w W) (by kernel_rfl) (by kernel_rfl) (Q3z HB6.out (Q0z w6 1) (Nat.le_refl _)) ?_
   refine' Q9z (s:=25) (A1:=_) [0,1,3] [_,_,_] _ rfl rfl rfl (fun W hW=>?hq1) _ (Q3z HB6.out (Q0z w6 1) (Nat.le_refl _)) (fun _=>?hr1)
   case hq1=>
    simp only[List.getElem_toArray,List.getElem_cons_zero,List.getElem_cons_succ]
    iterate 3 (go_big_quiet_step (fail))
    refine wpQuiet_nil ?_
    rfl
   case hr1=>
   refine Qbz rfl fun k1=>?_
   have hdr:Below w6.heap.size w6 (w6.drew.drewN k1):=Q7z (Below.refl _ _).drew k1
   have HO7:=Lib.hid (HO6.out.fut hdr)
   have HX7:=Lib.hid (HX6.out.fut hdr)
   have HB7:=Lib.hid (Q3z HB6.out hdr (Nat.le_refl _))
   clear hdr HO6 HX6 HB6
   generalize w6.drew.drewN k1=w7 at*
   refine Qaz (o:=⟨some 20,_,_,_,_,_⟩) rfl (.tmp 18) (.tmp 19) rfl w.heap.size _ _ rfl HO7.out pa na ca a rfl HAR.out.2.1 (HAR.out.1.below HB7.out (Nat.le_refl _)) (by rw[List.length_append];have:=HCL.out;have:=HPL.out;have:=HAR.out.2.2.1;omega) HB7.out.size w.heap.size w7 (Below.refl _ _) (Nat.le_refl _) ?_
   intro v8 w8 ho8 _ hg8 hk8
   obtain⟨q8,m8,c8,rfl,_⟩:=ho8.open
   have HO8:=Lib.hid ho8
   have HX8:=Lib.hid (HX7.out.stays (Stays.of_grown (S:=fun k=>Value.ownBlock _=some k) hg8 fun k h=>h) (own_apart' HO7.out HX7.out (by decide)))
   have HB8:=Lib.hid (HB7.out.trans ((Below.refl _ w7).grown hg8 HB7.out.size fun k hk=>(World.ownsRow.lt HO7.out k hk).1))
   clear ho8 hg8 hk8 HO7 HX7 HB7
   go_wp2_with fail
   refine Q2z (And.intro HB8.out ?_)
   refine Qbz rfl fun k2=>?_
   have hdr:=Q0z w8 k2
   have HO9:=Lib.hid (HO8.out.fut hdr)
   have HX9:=Lib.hid (HX8.out.fut hdr)
   have HB9:=Lib.hid (Q3z HB8.out hdr (Nat.le_refl _))
   clear hdr HO8 HX8 HB8
   generalize w8.drewN k2=w9 at*
   refine Qaz (o:=⟨some 22,_,_,_,_,_⟩) rfl (.tmp 20) (.tmp 21) rfl w.heap.size _ _ rfl HO9.out (some ⟨z,0,none⟩) 32 32 x rfl HX32.out (QOz HX9.out) (by rw[List.length_append,List.length_append];have:=HCL.out;have:=HPL.out;have:=HAR.out.2.2.1;have:=HX32.out;omega) HB9.out.size w.heap.size w9 (Below.refl _ _) (Nat.le_refl _) ?_
   intro va wa hoa _ hga hka
   obtain⟨qa,ma,ca',rfl,_⟩:=hoa.open
   have HOa:Hid (Own8 wa w.heap.size (.slice qa ma ca') (cntB n++preL (fun h=>a++h) l (k+1))):=Lib.hid (by rw[preL_succ (fun h=>a++h) l k x HX.out,← List.append_assoc,← List.append_assoc];exact hoa)
   have HBa:=Lib.hid (HB9.out.trans ((Below.refl _ w9).grown hga HB9.out.size fun k hk=>(World.ownsRow.lt HO9.out k hk).1))
   clear hoa hga hka HO9 HX9 HB9
   go_wp2_with fail
   refine Q2z (And.intro HBa.out ?_)
   refine' Q9z (s:=25) (A1:=_) (r:=[]) [5] [_] _ rfl rfl rfl (fun W hW=>?hq2) _ HBa.out (fun _=>?hr2)
   case hq2=>
    simp only[List.getElem_toArray,List.getElem_cons_zero,List.getElem_cons_succ]
    iterate 1 (go_big_quiet_step (fail))
    refine wpQuiet_nil ?_
    rfl
   case hr2=>
   refine Qnz fun k3=>NoPanic.normal ?_
   have hdr:=Q0z wa k3
   have HOb:=Lib.hid (HOa.out.fut hdr)
   have HBb:=Lib.hid (Q3z HBa.out hdr (Nat.le_refl _))
   clear hdr HOa HBa
   generalize wa.drewN k3=wb at*
   go_wp2_with fail
   go_roundw
   case rel=>exact⟨k+1,_,_,_,by omega,by go_num,rfl,HOb,HBb⟩
   case measure=>simp[intOf];omega
  ·obtain rfl:k=n:=by omega
   have hge:¬(k:Int)<(k:Int):=by omega
   go_wp2_with fail
   go_ret
   exact⟨_,rfl,HOk.out,HBk.out⟩
theorem pay_r2 (nu:BitVec 32) (no:BitVec 64) (pv st:Bs) (hs:List Bs) (hd:List Hdr) (tx:Bs) (bl:TBlk) (cs:List Value) (w:World) (hc:MsgC w ⟨2,nu,no,pv,st,hs,hd,tx,bl⟩ cs):
 Calls Tryz.prog 37 #[.agg cs.toArray] w (OutB w (payP ⟨2,nu,no,pv,st,hs,hd,tx,bl⟩)):=by
 have HPP:Hid (payP ⟨2,nu,no,pv,st,hs,hd,tx,bl⟩=payP ⟨2,nu,no,pv,st,hs,hd,tx,bl⟩):=Lib.hid rfl
 have HC:=Lib.hid hc
 obtain⟨hv,dv,bv,bc,hcs,hpv,hst,hh,hdd,hb,hbl⟩:=hc
 obtain⟨p1,n1,c1,rfl⟩:=hh.opens
 obtain⟨p2,n2,c2,rfl⟩:=hdd.opens
 obtain⟨p3,n3,c3,rfl⟩:=hb.opens
 obtain⟨zm,hzm⟩:∃z,z=w.heap.size:=⟨_,rfl⟩
 obtain⟨C,hC⟩:∃C,C=cs.toArray:=⟨_,rfl⟩
 obtain⟨W1,hW1⟩:∃W,W=w.alloc (.cells cs.toArray 41):=⟨_,rfl⟩
 have hF1:PSt w zm C W1:=⟨by rw[hW1,hzm,hC];exact Blk.new w _ _,by rw[hW1];exact Q1z w _⟩
 have HCM:Hid (C=(Q8z (.int .i64 2) (u32 nu) (u64 no) pv st (.slice p1 n1 c1) (.slice p2 n2 c2) (.slice p3 n3 c3) bc).toArray):=Lib.hid (by rw[hC,hcs])
 have HCS:Hid (C=cs.toArray):=Lib.hid hC
 have HPV:=Lib.hid hpv
 have HST:=Lib.hid hst
 have HN1:Hid (hs.length=n1):=Lib.hid hh.slen.1
 have HN2:Hid (hd.length=n2):=Lib.hid hdd.slen.1
 have HN3:Hid (tx.length=n3):=Lib.hid hb.slen.1
 have HH:=Lib.hid hh
 have HD:=Lib.hid hdd
 have HBT:=Lib.hid hb
 have HBK:=Lib.hid hbl
 have a2:=((show Blk W1 zm 41 _ from HCM.out▸hF1.1).msg hpv hst).c2
 clear hcs hpv hst hh hdd hb hbl hC
 go_enter Tryz.func37,Tryz.ntmps37
 go_upto_region 1 with fail
 rw[←hW1,← hzm]
 clear hW1 hzm
 go_wp2_with fail
 refine(QFz no 8 (by omega) W1).mono ?_
 rintro e W2 ⟨vno,rfl,hno,hbno⟩
 obtain⟨pno,mno,cno,rfl,hmno,_⟩:=hno.open
 have hF2:=hF1.fut hbno
 have hnap:=RowAp.of hno hF1.1
 have nr:=Own8.mono' hno hF1.2.size
 have a0:=((show Blk W2 zm 41 _ from HCM.out▸hF2.1).msg HPV.out HST.out).c0
 clear hno hbno hF1 a2
 go_upto_region 3 with fail
 clear a0
 clear nr
 go_wp2_with fail
 go_ret2
 exact⟨_,rfl,Own8.nil _ _,hF2.2⟩
theorem pay_r3 (nu:BitVec 32) (no:BitVec 64) (pv st:Bs) (hs:List Bs) (hd:List Hdr) (tx:Bs) (bl:TBlk) (cs:List Value) (w:World) (hc:MsgC w ⟨3,nu,no,pv,st,hs,hd,tx,bl⟩ cs):
 Calls Tryz.prog 37 #[.agg cs.toArray] w (OutB w (payP ⟨3,nu,no,pv,st,hs,hd,tx,bl⟩)):=by
 have HPP:Hid (payP ⟨3,nu,no,pv,st,hs,hd,tx,bl⟩=payP ⟨3,nu,no,pv,st,hs,hd,tx,bl⟩):=Lib.hid rfl
 have HC:=Lib.hid hc
 obtain⟨hv,dv,bv,bc,hcs,hpv,hst,hh,hdd,hb,hbl⟩:=hc
 obtain⟨p1,n1,c1,rfl⟩:=hh.opens
 obtain⟨p2,n2,c2,rfl⟩:=hdd.opens
 obtain⟨p3,n3,c3,rfl⟩:=hb.opens
 obtain⟨zm,hzm⟩:∃z,z=w.heap.size:=⟨_,rfl⟩
 obtain⟨C,hC⟩:∃C,C=cs.toArray:=⟨_,rfl⟩
 obtain⟨W1,hW1⟩:∃W,W=w.alloc (.cells cs.toArray 41):=⟨_,rfl⟩
 have hF1:PSt w zm C W1:=⟨by rw[hW1,hzm,hC];exact Blk.new w _ _,by rw[hW1];exact Q1z w _⟩
 have HCM:Hid (C=(Q8z (.int .i64 3) (u32 nu) (u64 no) pv st (.slice p1 n1 c1) (.slice p2 n2 c2) (.slice p3 n3 c3) bc).toArray):=Lib.hid (by rw[hC,hcs])
 have HCS:Hid (C=cs.toArray):=Lib.hid hC
 have HPV:=Lib.hid hpv
 have HST:=Lib.hid hst
 have HN1:Hid (hs.length=n1):=Lib.hid hh.slen.1
 have HN2:Hid (hd.length=n2):=Lib.hid hdd.slen.1
 have HN3:Hid (tx.length=n3):=Lib.hid hb.slen.1
 have HH:=Lib.hid hh
 have HD:=Lib.hid hdd
 have HBT:=Lib.hid hb
 have HBK:=Lib.hid hbl
 have a2:=((show Blk W1 zm 41 _ from HCM.out▸hF1.1).msg hpv hst).c2
 clear hcs hpv hst hh hdd hb hbl hC
 go_enter Tryz.func37,Tryz.ntmps37
 go_upto_region 1 with fail
 rw[←hW1,← hzm]
 clear hW1 hzm
 go_wp2_with fail
 refine(QFz no 8 (by omega) W1).mono ?_
 rintro e W2 ⟨vno,rfl,hno,hbno⟩
 obtain⟨pno,mno,cno,rfl,hmno,_⟩:=hno.open
 have hF2:=hF1.fut hbno
 have hnap:=RowAp.of hno hF1.1
 have nr:=Own8.mono' hno hF1.2.size
 have a0:=((show Blk W2 zm 41 _ from HCM.out▸hF2.1).msg HPV.out HST.out).c0
 clear hno hbno hF1 a2
 go_upto_region 3 with fail
 clear a0
 go_wp2_with fail
 go_ret2
 exact⟨_,rfl,nr,hF2.2⟩
theorem pay_r4 (nu:BitVec 32) (no:BitVec 64) (pv st:Bs) (hs:List Bs) (hd:List Hdr) (tx:Bs) (bl:TBlk) (cs:List Value) (w:World) (hc:MsgC w ⟨4,nu,no,pv,st,hs,hd,tx,bl⟩ cs):
 Calls Tryz.prog 37 #[.agg cs.toArray] w (OutB w (payP ⟨4,nu,no,pv,st,hs,hd,tx,bl⟩)):=by
 have HPP:Hid (payP ⟨4,nu,no,pv,st,hs,hd,tx,bl⟩=payP ⟨4,nu,no,pv,st,hs,hd,tx,bl⟩):=Lib.hid rfl
 have HC:=Lib.hid hc
 obtain⟨hv,dv,bv,bc,hcs,hpv,hst,hh,hdd,hb,hbl⟩:=hc
 obtain⟨p1,n1,c1,rfl⟩:=hh.opens
 obtain⟨p2,n2,c2,rfl⟩:=hdd.opens
 obtain⟨p3,n3,c3,rfl⟩:=hb.opens
 obtain⟨zm,hzm⟩:∃z,z=w.heap.size:=⟨_,rfl⟩
 obtain⟨C,hC⟩:∃C,C=cs.toArray:=⟨_,rfl⟩
 obtain⟨W1,hW1⟩:∃W,W=w.alloc (.cells cs.toArray 41):=⟨_,rfl⟩
 have hF1:PSt w zm C W1:=⟨by rw[hW1,hzm,hC];exact Blk.new w _ _,by rw[hW1];exact Q1z w _⟩
 have HCM:Hid (C=(Q8z (.int .i64 4) (u32 nu) (u64 no) pv st (.slice p1 n1 c1) (.slice p2 n2 c2) (.slice p3 n3 c3) bc).toArray):=Lib.hid (by rw[hC,hcs])
 have HCS:Hid (C=cs.toArray):=Lib.hid hC
 have HPV:=Lib.hid hpv
 have HST:=Lib.hid hst
 have HN1:Hid (hs.length=n1):=Lib.hid hh.slen.1
 have HN2:Hid (hd.length=n2):=Lib.hid hdd.slen.1
 have HN3:Hid (tx.length=n3):=Lib.hid hb.slen.1
 have HH:=Lib.hid hh
 have HD:=Lib.hid hdd
 have HBT:=Lib.hid hb
 have HBK:=Lib.hid hbl
 have a2:=((show Blk W1 zm 41 _ from HCM.out▸hF1.1).msg hpv hst).c2
 clear hcs hpv hst hh hdd hb hbl hC
 go_enter Tryz.func37,Tryz.ntmps37
 go_upto_region 1 with fail
 rw[←hW1,← hzm]
 clear hW1 hzm
 go_wp2_with fail
 refine(QFz no 8 (by omega) W1).mono ?_
 rintro e W2 ⟨vno,rfl,hno,hbno⟩
 obtain⟨pno,mno,cno,rfl,hmno,_⟩:=hno.open
 have hF2:=hF1.fut hbno
 have hnap:=RowAp.of hno hF1.1
 have nr:=Own8.mono' hno hF1.2.size
 have a0:=((show Blk W2 zm 41 _ from HCM.out▸hF2.1).msg HPV.out HST.out).c0
 clear hno hbno hF1 a2
 go_upto_region 3 with fail
 clear a0
 go_wp2_with fail
 go_ret2
 exact⟨_,rfl,nr,hF2.2⟩
theorem pay_r5 (nu:BitVec 32) (no:BitVec 64) (pv st:Bs) (hs:List Bs) (hd:List Hdr) (tx:Bs) (bl:TBlk) (cs:List Value) (w:World) (hc:MsgC w ⟨5,nu,no,pv,st,hs,hd,tx,bl⟩ cs):
 Calls Tryz.prog 37 #[.agg cs.toArray] w (OutB w (payP ⟨5,nu,no,pv,st,hs,hd,tx,bl⟩)):=by
 have HPP:Hid (payP ⟨5,nu,no,pv,st,hs,hd,tx,bl⟩=payP ⟨5,nu,no,pv,st,hs,hd,tx,bl⟩):=Lib.hid rfl
 have HC:=Lib.hid hc
 obtain⟨hv,dv,bv,bc,hcs,hpv,hst,hh,hdd,hb,hbl⟩:=hc
 obtain⟨p1,n1,c1,rfl⟩:=hh.opens
 obtain⟨p2,n2,c2,rfl⟩:=hdd.opens
 obtain⟨p3,n3,c3,rfl⟩:=hb.opens
 obtain⟨zm,hzm⟩:∃z,z=w.heap.size:=⟨_,rfl⟩
 obtain⟨C,hC⟩:∃C,C=cs.toArray:=⟨_,rfl⟩
 obtain⟨W1,hW1⟩:∃W,W=w.alloc (.cells cs.toArray 41):=⟨_,rfl⟩
 have hF1:PSt w zm C W1:=⟨by rw[hW1,hzm,hC];exact Blk.new w _ _,by rw[hW1];exact Q1z w _⟩
 have HCM:Hid (C=(Q8z (.int .i64 5) (u32 nu) (u64 no) pv st (.slice p1 n1 c1) (.slice p2 n2 c2) (.slice p3 n3 c3) bc).toArray):=Lib.hid (by rw[hC,hcs])
 have HCS:Hid (C=cs.toArray):=Lib.hid hC
 have HPV:=Lib.hid hpv
 have HST:=Lib.hid hst
 have HN1:Hid (hs.length=n1):=Lib.hid hh.slen.1
 have HN2:Hid (hd.length=n2):=Lib.hid hdd.slen.1
 have HN3:Hid (tx.length=n3):=Lib.hid hb.slen.1
 have HH:=Lib.hid hh
 have HD:=Lib.hid hdd
 have HBT:=Lib.hid hb
 have HBK:=Lib.hid hbl
 have a2:=((show Blk W1 zm 41 _ from HCM.out▸hF1.1).msg hpv hst).c2
 clear hcs hpv hst hh hdd hb hbl hC
 go_enter Tryz.func37,Tryz.ntmps37
 go_upto_region 1 with fail
 rw[←hW1,← hzm]
 clear hW1 hzm
 go_wp2_with fail
 refine(QFz no 8 (by omega) W1).mono ?_
 rintro e W2 ⟨vno,rfl,hno,hbno⟩
 obtain⟨pno,mno,cno,rfl,hmno,_⟩:=hno.open
 have hF2:=hF1.fut hbno
 have hnap:=RowAp.of hno hF1.1
 have nr:=Own8.mono' hno hF1.2.size
 have a0:=((show Blk W2 zm 41 _ from HCM.out▸hF2.1).msg HPV.out HST.out).c0
 clear hno hbno hF1 a2
 go_upto_region 3 with fail
 clear a0
 have ax:=(X5z HCM.out HPV.out HST.out hF2.1).c67
 by_cases hl:101<n1
 ·have hlt:(101:Int)<(n1:Int):=by omega
  have HPP2:Hid (payP ⟨5,nu,no,pv,st,hs,hd,tx,bl⟩=([],1)):=Lib.hid (by show(if 101<hs.length then _ else _)=_;rw[if_pos (by have:=HN1.out;omega)])
  clear hl nr hnap
  go_wp2_with fail
  go_ret2
  rw[HPP2.out]
  exact⟨_,rfl,Own8.nil _ _,hF2.2⟩
 have hlt:¬(101:Int)<(n1:Int):=by omega
 have HLIM:Hid (hs.length≤101):=Lib.hid (by have:=HN1.out;omega)
 clear hl nr hnap
 go_upto_region 14 with fail
 clear ax
 have HPP3:Hid (payP ⟨5,nu,no,pv,st,hs,hd,tx,bl⟩=(low (nu.setWidth 64) 4++(hshB [] hs++st),0)):=Lib.hid (by show(if 101<hs.length then _ else _)=_;exact if_neg (by have:=HLIM.out;omega))
 have HSL:Hid ((hshB [] hs).length≤100000):=Lib.hid (by have:=HLIM.out;have:=hshB_le (a:=[]) (l:=hs) HC.out.okMsg.2.2.1 (by decide);omega)
 refine XMz (.qs [0,1,3,4,7,8] (.o 2 (.o 5 (.o 6 (.o 9 (.qs [10,11] (.done))))))) (PSt w zm C) (by kernel_rfl) (by kernel_rfl) (hF2.fut (Q0z W2 1)) ?_
 have hFd:=hF2.fut (Q0z W2 1)
 replace hFd:PSt w zm C W2.drew:=hFd
 generalize W2.drew=wd at*
 clear hF2
 refine' Qxz (s:=133) (A1:=_) [0,1,3,4,7,8] [_,_,_,_,_,_] _ rfl rfl rfl (fun W hW=>?hq1) _ hFd (fun _=>?hr1)
 case hq1=>
  have a1:∀k,(W.drewN k).cell? ⟨zm,1,none⟩=some (u32 nu):=fun k=>by have:=(X5z HCM.out HPV.out HST.out hW.1).c1;simpa using this
  have a67:∀k,(W.drewN k).cell? ⟨zm,67,none⟩=some (.slice p1 n1 c1):=fun k=>by have:=(X5z HCM.out HPV.out HST.out hW.1).c67;simpa using this
  simp only[List.getElem_toArray,List.getElem_cons_zero,List.getElem_cons_succ]
  iterate 6 (go_big_quiet_step (fail))
  refine wpQuiet_nil ?_
  rfl
 case hr1=>
 refine Qvz rfl fun k2=>?_
 have hd3:=Q0z wd k2
 have hF3:PSt w zm C (wd.drewN k2):=hFd.fut hd3
 clear hFd
 clear hd3
 generalize wd.drewN k2=Wt3 at*
 go_wp2_with fail
 refine(low4_any nu Wt3).mono ?_
 rintro e Wt4 ⟨vz4,rfl,ho4,hb4⟩
 replace ho4:Own8 Wt4 Wt3.heap.size vz4 (low (nu.setWidth 64) 4):=ho4
 obtain⟨pz4,mz4,cz4,rfl,hm4,_⟩:=ho4.open
 have hX4:=Own8.mono' ho4 hF3.2.size
 have hF4:PSt w zm C Wt4:=hF3.fut hb4
 clear hF3
 clear ho4 hb4
 go_wp2_with fail
 refine Q2z (Grows.same hF4 ?_)
 refine Qvz rfl fun k5=>?_
 have hd6:=Q0z Wt4 k5
 have hF6:PSt w zm C (Wt4.drewN k5):=hF4.fut hd6
 have hO6:=hX4.fut hd6
 clear hF4 hX4
 clear hd6
 generalize Wt4.drewN k5=Wt6 at*
 go_wp2_with fail
 refine(rHashes_any p1 n1 c1 hs none 0 0 [] Wt6 (HH.out.fut Z3z hF6.2) (by have:=HN1.out;omega) (Row8.nil _ _) rfl (by simp) (fun h=>absurd rfl h)).mono ?_
 rintro e Wt7 ⟨vz7,rfl,ho7,hb7⟩
 replace ho7:Own8 Wt7 Wt6.heap.size vz7 (hshB [] hs):=ho7
 obtain⟨pz7,mz7,cz7,rfl,hm7,_⟩:=ho7.open
 have hY7:=XUz hO6 hF6.1.lt ho7 hF6.1
 have hF7:PSt w zm C Wt7:=hF6.fut hb7
 have hO7:=hO6.fut hb7
 clear hF6 hO6
 clear ho7 hb7
 go_wp2_with fail
 refine Q2z (Grows.same hF7 ?_)
 refine Qvz rfl fun k8=>?_
 have hd9:=Q0z Wt7 k8
 have hF9:PSt w zm C (Wt7.drewN k8):=hF7.fut hd9
 have hO9:=hO7.fut hd9
 have RH9:=hY7.fut hd9
 clear hF7 hO7 hY7
 clear hd9
 generalize Wt7.drewN k8=Wt9 at*
 refine Qaz (o:=⟨some 43,_,_,_,_,_⟩) rfl (.tmp 39) (.tmp 42) rfl w.heap.size _ _ rfl hO9 pz7 mz7 cz7 (hshB [] hs) rfl hm7.out RH9.1 (by rw[Qez];have:=HSL.out;omega) hF9.2.size w.heap.size Wt9 (Below.refl _ _) (Nat.le_refl _) ?_
 intro vz10 Wt10 ho _ hg hk
 have hF10:PSt w zm C Wt10:=hF9.app hO9 hg
 obtain⟨qz10,mz10,dz10,rfl,_⟩:=ho.open
 have hO10:=ho
 clear hF9 hO9 RH9 hg hk ho
 go_wp2_with fail
 refine Q2z (Grows.same hF10 ?_)
 refine Qvz rfl fun k11=>?_
 have hd12:=Q0z Wt10 k11
 have hF12:PSt w zm C (Wt10.drewN k11):=hF10.fut hd12
 have hO12:=hO10.fut hd12
 clear hF10 hO10
 clear hd12
 generalize Wt10.drewN k11=Wt12 at*
 refine Qaz (o:=⟨some 46,_,_,_,_,_⟩) rfl (.tmp 43) (.tmp 45) rfl w.heap.size _ _ rfl hO12 (some ⟨zm,35,none⟩) 32 32 (st) rfl HST.out (prow_st HCM.out HPV.out HST.out hF12.1) (by rw[List.length_append,Qez];have:=HSL.out;have:=HST.out;omega) hF12.2.size w.heap.size Wt12 (Below.refl _ _) (Nat.le_refl _) ?_
 intro vz13 Wt13 ho _ hg hk
 have hF13:PSt w zm C Wt13:=hF12.app hO12 hg
 obtain⟨qz13,mz13,dz13,rfl,_⟩:=ho.open
 have hO13:=ho
 clear hF12 hO12 hg hk ho
 go_wp2_with fail
 refine Q2z (Grows.same hF13 ?_)
 refine' Qxz (s:=133) (A1:=_) [10,11] [_,_] _ rfl rfl rfl (fun W hW=>?hq14) _ hF13 (fun _=>?hr14)
 case hq14=>
  simp only[List.getElem_toArray,List.getElem_cons_zero,List.getElem_cons_succ]
  iterate 2 (go_big_quiet_step (fail))
  refine wpQuiet_nil ?_
  rfl
 case hr14=>
 refine XBz fun k9=>?_
 have hd15:=Q0z Wt13 k9
 have hF15:PSt w zm C (Wt13.drewN k9):=hF13.fut hd15
 have hO15:=hO13.fut hd15
 clear hF13 hO13
 clear hd15
 generalize Wt13.drewN k9=Wt15 at*
 refine NoPanic.normal ?_
 go_wp2_with fail
 go_ret2
 rw[HPP3.out]
 exact⟨_,rfl,by show Own8 _ _ (Value.slice qz13 mz13 dz13) _;have h:=hO15;simpa only[List.append_assoc]using h,hF15.2⟩
theorem pay_r7 (nu:BitVec 32) (no:BitVec 64) (pv st:Bs) (hs:List Bs) (hd:List Hdr) (tx:Bs) (bl:TBlk) (cs:List Value) (w:World) (hc:MsgC w ⟨7,nu,no,pv,st,hs,hd,tx,bl⟩ cs):
 Calls Tryz.prog 37 #[.agg cs.toArray] w (OutB w (payP ⟨7,nu,no,pv,st,hs,hd,tx,bl⟩)):=by
 have HPP:Hid (payP ⟨7,nu,no,pv,st,hs,hd,tx,bl⟩=payP ⟨7,nu,no,pv,st,hs,hd,tx,bl⟩):=Lib.hid rfl
 have HC:=Lib.hid hc
 obtain⟨hv,dv,bv,bc,hcs,hpv,hst,hh,hdd,hb,hbl⟩:=hc
 obtain⟨p1,n1,c1,rfl⟩:=hh.opens
 obtain⟨p2,n2,c2,rfl⟩:=hdd.opens
 obtain⟨p3,n3,c3,rfl⟩:=hb.opens
 obtain⟨zm,hzm⟩:∃z,z=w.heap.size:=⟨_,rfl⟩
 obtain⟨C,hC⟩:∃C,C=cs.toArray:=⟨_,rfl⟩
 obtain⟨W1,hW1⟩:∃W,W=w.alloc (.cells cs.toArray 41):=⟨_,rfl⟩
 have hF1:PSt w zm C W1:=⟨by rw[hW1,hzm,hC];exact Blk.new w _ _,by rw[hW1];exact Q1z w _⟩
 have HCM:Hid (C=(Q8z (.int .i64 7) (u32 nu) (u64 no) pv st (.slice p1 n1 c1) (.slice p2 n2 c2) (.slice p3 n3 c3) bc).toArray):=Lib.hid (by rw[hC,hcs])
 have HCS:Hid (C=cs.toArray):=Lib.hid hC
 have HPV:=Lib.hid hpv
 have HST:=Lib.hid hst
 have HN1:Hid (hs.length=n1):=Lib.hid hh.slen.1
 have HN2:Hid (hd.length=n2):=Lib.hid hdd.slen.1
 have HN3:Hid (tx.length=n3):=Lib.hid hb.slen.1
 have HH:=Lib.hid hh
 have HD:=Lib.hid hdd
 have HBT:=Lib.hid hb
 have HBK:=Lib.hid hbl
 have a2:=((show Blk W1 zm 41 _ from HCM.out▸hF1.1).msg hpv hst).c2
 clear hcs hpv hst hh hdd hb hbl hC
 go_enter Tryz.func37,Tryz.ntmps37
 go_upto_region 1 with fail
 rw[←hW1,← hzm]
 clear hW1 hzm
 go_wp2_with fail
 refine(QFz no 8 (by omega) W1).mono ?_
 rintro e W2 ⟨vno,rfl,hno,hbno⟩
 obtain⟨pno,mno,cno,rfl,hmno,_⟩:=hno.open
 have hF2:=hF1.fut hbno
 have hnap:=RowAp.of hno hF1.1
 have nr:=Own8.mono' hno hF1.2.size
 have a0:=((show Blk W2 zm 41 _ from HCM.out▸hF2.1).msg HPV.out HST.out).c0
 clear hno hbno hF1 a2
 go_upto_region 3 with fail
 clear a0
 have HPP3:Hid (payP ⟨7,nu,no,pv,st,hs,hd,tx,bl⟩=([0#8]++(low (nu.setWidth 64) 4++st),0)):=Lib.hid rfl
 clear nr hnap
 go_upto_region 27 with fail
 refine XMz (.qs [1,2,5,6] (.two 0 (.o 3 (.o 4 (.o 7 (.qs [8,9] (.done))))) 3 (.o 0 (.o 4 (.o 7 (.qs [8,9] (.done))))))) (PSt w zm C) (by kernel_rfl) (by kernel_rfl) (hF2.fut (Q0z W2 1)) ?_
 have hFd:=hF2.fut (Q0z W2 1)
 replace hFd:PSt w zm C W2.drew:=hFd
 generalize W2.drew=wd at*
 clear hF2
 refine' Qxz (s:=133) (A1:=_) [1,2,5,6] [_,_,_,_] _ rfl rfl rfl (fun W hW=>?hq16) _ hFd (fun _=>?hr16)
 case hq16=>
  have a1:∀k,(W.drewN k).cell? ⟨zm,1,none⟩=some (u32 nu):=fun k=>by have:=(X5z HCM.out HPV.out HST.out hW.1).c1;simpa using this
  simp only[List.getElem_toArray,List.getElem_cons_zero,List.getElem_cons_succ]
  iterate 4 (go_big_quiet_step (fail))
  refine wpQuiet_nil ?_
  rfl
 case hr16=>
 refine tree_two rfl rfl (fun kA=>?gA) (fun kA=>?gB)
 case gA=>
  have hd17:=Q0z wd kA
  have hF17:PSt w zm C (wd.drewN kA):=hFd.fut hd17
  clear hFd
  clear hd17
  generalize wd.drewN kA=Wt17 at*
  have hb18:=Q1z Wt17 (.cells (([0#8]:Bs).map u8).toArray 5)
  have hX18:=Zdz Wt17 Wt17.heap.size 1 [0#8] (Nat.le_refl _) rfl (by unfold maxLen;omega)
  have hge18:w.heap.size≤Wt17.heap.size:=hF17.2.size
  obtain⟨g18,hg18⟩:∃V,V=Wt17.heap.size:=⟨_,rfl⟩
  obtain⟨Wt18,hW18⟩:∃V,V=Wt17.alloc (.cells (([0#8]:Bs).map u8).toArray 5):=⟨_,rfl⟩
  rw[←hW18]at hb18 hX18
  rw[←hg18]at hX18
  have HWh:=Lib.hid hW18
  have HGh:=Lib.hid hg18
  clear hW18 hg18
  go_wp2_with fail
  first|rw[show Wt17.alloc (.cells #[.int .u8 (iv8 0#8)] 5)=Wt18 from HWh.out.symm]|rw[show Wt17.alloc (.cells #[.int .u8 0] 5)=Wt18 from HWh.out.symm]
  rw[←HGh.out]
  clear HWh
  have hF18:PSt w zm C Wt18:=hF17.fut hb18
  clear hF17
  have hO18z:=Own8.mono' hX18 (by rw[HGh.out];exact hge18)
  clear hb18 hX18 hge18 HGh
  refine Q2z (Grows.same hF18 ?_)
  refine Qvz rfl fun k19=>?_
  have hd20:=Q0z Wt18 k19
  have hF20:PSt w zm C (Wt18.drewN k19):=hF18.fut hd20
  have hO20:=hO18z.fut hd20
  clear hF18 hO18z
  clear hd20
  generalize Wt18.drewN k19=Wt20 at*
  go_wp2_with fail
  refine(low4_any nu Wt20).mono ?_
  rintro e Wt21 ⟨vz21,rfl,ho21,hb21⟩
  replace ho21:Own8 Wt21 Wt20.heap.size vz21 (low (nu.setWidth 64) 4):=ho21
  obtain⟨pz21,mz21,cz21,rfl,hm21,_⟩:=ho21.open
  have hY21:=XUz hO20 hF20.1.lt ho21 hF20.1
  have hF21:PSt w zm C Wt21:=hF20.fut hb21
  have hO21:=hO20.fut hb21
  clear hF20 hO20
  clear ho21 hb21
  go_wp2_with fail
  refine Q2z (Grows.same hF21 ?_)
  refine Qvz rfl fun k22=>?_
  have hd23:=Q0z Wt21 k22
  have hF23:PSt w zm C (Wt21.drewN k22):=hF21.fut hd23
  have hO23:=hO21.fut hd23
  have RL23:=hY21.fut hd23
  clear hF21 hO21 hY21
  clear hd23
  generalize Wt21.drewN k22=Wt23 at*
  refine Qaz (o:=⟨some 80,_,_,_,_,_⟩) rfl (.tmp 76) (.tmp 79) rfl w.heap.size _ _ rfl hO23 pz21 mz21 cz21 (low (nu.setWidth 64) 4) rfl hm21.out RL23.1 (by rw[Qez];simp only[List.length_cons,List.length_nil];omega) hF23.2.size w.heap.size Wt23 (Below.refl _ _) (Nat.le_refl _) ?_
  intro vz24 Wt24 ho _ hg hk
  have hF24:PSt w zm C Wt24:=hF23.app hO23 hg
  obtain⟨qz24,mz24,dz24,rfl,_⟩:=ho.open
  have hO24:=ho
  clear hF23 hO23 RL23 hg hk ho
  go_wp2_with fail
  refine Q2z (Grows.same hF24 ?_)
  refine Qvz rfl fun k25=>?_
  have hd26:=Q0z Wt24 k25
  have hF26:PSt w zm C (Wt24.drewN k25):=hF24.fut hd26
  have hO26:=hO24.fut hd26
  clear hF24 hO24
  clear hd26
  generalize Wt24.drewN k25=Wt26 at*
  refine Qaz (o:=⟨some 83,_,_,_,_,_⟩) rfl (.tmp 80) (.tmp 82) rfl w.heap.size _ _ rfl hO26 (some ⟨zm,35,none⟩) 32 32 (st) rfl HST.out (prow_st HCM.out HPV.out HST.out hF26.1) (by rw[List.length_append,Qez];simp only[List.length_cons,List.length_nil];have:=HST.out;omega) hF26.2.size w.heap.size Wt26 (Below.refl _ _) (Nat.le_refl _) ?_
  intro vz27 Wt27 ho _ hg hk
  have hF27:PSt w zm C Wt27:=hF26.app hO26 hg
  obtain⟨qz27,mz27,dz27,rfl,_⟩:=ho.open
  have hO27:=ho
  clear hF26 hO26 hg hk ho
  go_wp2_with fail
  refine Q2z (Grows.same hF27 ?_)
  refine' Qxz (s:=133) (A1:=_) [8,9] [_,_] _ rfl rfl rfl (fun W hW=>?hq28) _ hF27 (fun _=>?hr28)
  case hq28=>
   simp only[List.getElem_toArray,List.getElem_cons_zero,List.getElem_cons_succ]
   iterate 2 (go_big_quiet_step (fail))
   refine wpQuiet_nil ?_
   rfl
  case hr28=>
  refine XBz fun k9=>?_
  have hd29:=Q0z Wt27 k9
  have hF29:PSt w zm C (Wt27.drewN k9):=hF27.fut hd29
  have hO29:=hO27.fut hd29
  clear hF27 hO27
  clear hd29
  generalize Wt27.drewN k9=Wt29 at*
  refine NoPanic.normal ?_
  go_wp2_with fail
  go_ret2
  rw[HPP3.out]
  exact⟨_,rfl,by show Own8 _ _ (Value.slice qz27 mz27 dz27) _;have h:=hO29;simpa only[List.append_assoc]using h,hF29.2⟩
 case gB=>
  have hd30:=Q0z wd kA
  have hF30:PSt w zm C (wd.drewN kA):=hFd.fut hd30
  clear hFd
  clear hd30
  generalize wd.drewN kA=Wt30 at*
  go_wp2_with fail
  refine(low4_any nu Wt30).mono ?_
  rintro e Wt31 ⟨vz31,rfl,ho31,hb31⟩
  replace ho31:Own8 Wt31 Wt30.heap.size vz31 (low (nu.setWidth 64) 4):=ho31
  obtain⟨pz31,mz31,cz31,rfl,hm31,_⟩:=ho31.open
  have hY31:RowAp zm Wt30 Wt31 pz31 (low (nu.setWidth 64) 4):=RowAp.of ho31 hF30.1
  have hF31:PSt w zm C Wt31:=hF30.fut hb31
  clear hF30
  clear ho31 hb31
  go_wp2_with fail
  refine Q2z (Grows.same hF31 ?_)
  refine Qvz rfl fun k32=>?_
  have hd33:=Q0z Wt31 k32
  have hF33:PSt w zm C (Wt31.drewN k32):=hF31.fut hd33
  have RL33:=hY31.fut hd33
  clear hF31 hY31
  clear hd33
  generalize Wt31.drewN k32=Wt33 at*
  have hb34:=Q1z Wt33 (.cells (([0#8]:Bs).map u8).toArray 5)
  have hX34:=Zdz Wt33 Wt33.heap.size 1 [0#8] (Nat.le_refl _) rfl (by unfold maxLen;omega)
  have hge34:w.heap.size≤Wt33.heap.size:=hF33.2.size
  obtain⟨g34,hg34⟩:∃V,V=Wt33.heap.size:=⟨_,rfl⟩
  obtain⟨Wt34,hW34⟩:∃V,V=Wt33.alloc (.cells (([0#8]:Bs).map u8).toArray 5):=⟨_,rfl⟩
  rw[←hW34]at hb34 hX34
  rw[←hg34]at hX34
  have HWh:=Lib.hid hW34
  have HGh:=Lib.hid hg34
  clear hW34 hg34
  go_wp2_with fail
  first|rw[show Wt33.alloc (.cells #[.int .u8 (iv8 0#8)] 5)=Wt34 from HWh.out.symm]|rw[show Wt33.alloc (.cells #[.int .u8 0] 5)=Wt34 from HWh.out.symm]
  rw[←HGh.out]
  clear HWh
  have RL34y:=ahead_old RL33 (Own8.mono' hX34 (Nat.le_of_eq HGh.out.symm)) hb34
  clear RL33
  have hF34:PSt w zm C Wt34:=hF33.fut hb34
  clear hF33
  have hO34z:=Own8.mono' hX34 (by rw[HGh.out];exact hge34)
  clear hb34 hX34 hge34 HGh
  refine Q2z (Grows.same hF34 ?_)
  refine Qvz rfl fun k35=>?_
  have hd36:=Q0z Wt34 k35
  have hF36:PSt w zm C (Wt34.drewN k35):=hF34.fut hd36
  have hO36:=hO34z.fut hd36
  have RL36:=RL34y.fut hd36
  clear hF34 hO34z RL34y
  clear hd36
  generalize Wt34.drewN k35=Wt36 at*
  refine Qaz (o:=⟨some 80,_,_,_,_,_⟩) rfl (.tmp 76) (.tmp 79) rfl w.heap.size _ _ rfl hO36 pz31 mz31 cz31 (low (nu.setWidth 64) 4) rfl hm31.out RL36.1 (by rw[Qez];simp only[List.length_cons,List.length_nil];omega) hF36.2.size w.heap.size Wt36 (Below.refl _ _) (Nat.le_refl _) ?_
  intro vz37 Wt37 ho _ hg hk
  have hF37:PSt w zm C Wt37:=hF36.app hO36 hg
  obtain⟨qz37,mz37,dz37,rfl,_⟩:=ho.open
  have hO37:=ho
  clear hF36 hO36 RL36 hg hk ho
  go_wp2_with fail
  refine Q2z (Grows.same hF37 ?_)
  refine Qvz rfl fun k38=>?_
  have hd39:=Q0z Wt37 k38
  have hF39:PSt w zm C (Wt37.drewN k38):=hF37.fut hd39
  have hO39:=hO37.fut hd39
  clear hF37 hO37
  clear hd39
  generalize Wt37.drewN k38=Wt39 at*
  refine Qaz (o:=⟨some 83,_,_,_,_,_⟩) rfl (.tmp 80) (.tmp 82) rfl w.heap.size _ _ rfl hO39 (some ⟨zm,35,none⟩) 32 32 (st) rfl HST.out (prow_st HCM.out HPV.out HST.out hF39.1) (by rw[List.length_append,Qez];simp only[List.length_cons,List.length_nil];have:=HST.out;omega) hF39.2.size w.heap.size Wt39 (Below.refl _ _) (Nat.le_refl _) ?_
  intro vz40 Wt40 ho _ hg hk
  have hF40:PSt w zm C Wt40:=hF39.app hO39 hg
  obtain⟨qz40,mz40,dz40,rfl,_⟩:=ho.open
  have hO40:=ho
  clear hF39 hO39 hg hk ho
  go_wp2_with fail
  refine Q2z (Grows.same hF40 ?_)
  refine' Qxz (s:=133) (A1:=_) [8,9] [_,_] _ rfl rfl rfl (fun W hW=>?hq41) _ hF40 (fun _=>?hr41)
  case hq41=>
   simp only[List.getElem_toArray,List.getElem_cons_zero,List.getElem_cons_succ]
   iterate 2 (go_big_quiet_step (fail))
   refine wpQuiet_nil ?_
   rfl
  case hr41=>
  refine XBz fun k9=>?_
  have hd42:=Q0z Wt40 k9
  have hF42:PSt w zm C (Wt40.drewN k9):=hF40.fut hd42
  have hO42:=hO40.fut hd42
  clear hF40 hO40
  clear hd42
  generalize Wt40.drewN k9=Wt42 at*
  refine NoPanic.normal ?_
  go_wp2_with fail
  go_ret2
  rw[HPP3.out]
  exact⟨_,rfl,by show Own8 _ _ (Value.slice qz40 mz40 dz40) _;have h:=hO42;simpa only[List.append_assoc]using h,hF42.2⟩
theorem pay_r9 (nu:BitVec 32) (no:BitVec 64) (pv st:Bs) (hs:List Bs) (hd:List Hdr) (tx:Bs) (bl:TBlk) (cs:List Value) (w:World) (hc:MsgC w ⟨9,nu,no,pv,st,hs,hd,tx,bl⟩ cs):
 Calls Tryz.prog 37 #[.agg cs.toArray] w (OutB w (payP ⟨9,nu,no,pv,st,hs,hd,tx,bl⟩)):=by
 have HPP:Hid (payP ⟨9,nu,no,pv,st,hs,hd,tx,bl⟩=payP ⟨9,nu,no,pv,st,hs,hd,tx,bl⟩):=Lib.hid rfl
 have HC:=Lib.hid hc
 obtain⟨hv,dv,bv,bc,hcs,hpv,hst,hh,hdd,hb,hbl⟩:=hc
 obtain⟨p1,n1,c1,rfl⟩:=hh.opens
 obtain⟨p2,n2,c2,rfl⟩:=hdd.opens
 obtain⟨p3,n3,c3,rfl⟩:=hb.opens
 obtain⟨zm,hzm⟩:∃z,z=w.heap.size:=⟨_,rfl⟩
 obtain⟨C,hC⟩:∃C,C=cs.toArray:=⟨_,rfl⟩
 obtain⟨W1,hW1⟩:∃W,W=w.alloc (.cells cs.toArray 41):=⟨_,rfl⟩
 have hF1:PSt w zm C W1:=⟨by rw[hW1,hzm,hC];exact Blk.new w _ _,by rw[hW1];exact Q1z w _⟩
 have HCM:Hid (C=(Q8z (.int .i64 9) (u32 nu) (u64 no) pv st (.slice p1 n1 c1) (.slice p2 n2 c2) (.slice p3 n3 c3) bc).toArray):=Lib.hid (by rw[hC,hcs])
 have HCS:Hid (C=cs.toArray):=Lib.hid hC
 have HPV:=Lib.hid hpv
 have HST:=Lib.hid hst
 have HN1:Hid (hs.length=n1):=Lib.hid hh.slen.1
 have HN2:Hid (hd.length=n2):=Lib.hid hdd.slen.1
 have HN3:Hid (tx.length=n3):=Lib.hid hb.slen.1
 have HH:=Lib.hid hh
 have HD:=Lib.hid hdd
 have HBT:=Lib.hid hb
 have HBK:=Lib.hid hbl
 have a2:=((show Blk W1 zm 41 _ from HCM.out▸hF1.1).msg hpv hst).c2
 clear hcs hpv hst hh hdd hb hbl hC
 go_enter Tryz.func37,Tryz.ntmps37
 go_upto_region 1 with fail
 rw[←hW1,← hzm]
 clear hW1 hzm
 go_wp2_with fail
 refine(QFz no 8 (by omega) W1).mono ?_
 rintro e W2 ⟨vno,rfl,hno,hbno⟩
 obtain⟨pno,mno,cno,rfl,hmno,_⟩:=hno.open
 have hF2:=hF1.fut hbno
 have hnap:=RowAp.of hno hF1.1
 have nr:=Own8.mono' hno hF1.2.size
 have a0:=((show Blk W2 zm 41 _ from HCM.out▸hF2.1).msg HPV.out HST.out).c0
 clear hno hbno hF1 a2
 go_upto_region 3 with fail
 clear a0
 have HPP3:Hid (payP ⟨9,nu,no,pv,st,hs,hd,tx,bl⟩=([0#8]++(low (nu.setWidth 64) 4++st),0)):=Lib.hid rfl
 clear nr hnap
 go_upto_region 27 with fail
 refine XMz (.qs [1,2,5,6] (.two 0 (.o 3 (.o 4 (.o 7 (.qs [8,9] (.done))))) 3 (.o 0 (.o 4 (.o 7 (.qs [8,9] (.done))))))) (PSt w zm C) (by kernel_rfl) (by kernel_rfl) (hF2.fut (Q0z W2 1)) ?_
 have hFd:=hF2.fut (Q0z W2 1)
 replace hFd:PSt w zm C W2.drew:=hFd
 generalize W2.drew=wd at*
 clear hF2
 refine' Qxz (s:=133) (A1:=_) [1,2,5,6] [_,_,_,_] _ rfl rfl rfl (fun W hW=>?hq43) _ hFd (fun _=>?hr43)
 case hq43=>
  have a1:∀k,(W.drewN k).cell? ⟨zm,1,none⟩=some (u32 nu):=fun k=>by have:=(X5z HCM.out HPV.out HST.out hW.1).c1;simpa using this
  simp only[List.getElem_toArray,List.getElem_cons_zero,List.getElem_cons_succ]
  iterate 4 (go_big_quiet_step (fail))
  refine wpQuiet_nil ?_
  rfl
 case hr43=>
 refine tree_two rfl rfl (fun kA=>?gA) (fun kA=>?gB)
 case gA=>
  have hd44:=Q0z wd kA
  have hF44:PSt w zm C (wd.drewN kA):=hFd.fut hd44
  clear hFd
  clear hd44
  generalize wd.drewN kA=Wt44 at*
  have hb45:=Q1z Wt44 (.cells (([0#8]:Bs).map u8).toArray 5)
  have hX45:=Zdz Wt44 Wt44.heap.size 1 [0#8] (Nat.le_refl _) rfl (by unfold maxLen;omega)
  have hge45:w.heap.size≤Wt44.heap.size:=hF44.2.size
  obtain⟨g45,hg45⟩:∃V,V=Wt44.heap.size:=⟨_,rfl⟩
  obtain⟨Wt45,hW45⟩:∃V,V=Wt44.alloc (.cells (([0#8]:Bs).map u8).toArray 5):=⟨_,rfl⟩
  rw[←hW45]at hb45 hX45
  rw[←hg45]at hX45
  have HWh:=Lib.hid hW45
  have HGh:=Lib.hid hg45
  clear hW45 hg45
  go_wp2_with fail
  first|rw[show Wt44.alloc (.cells #[.int .u8 (iv8 0#8)] 5)=Wt45 from HWh.out.symm]|rw[show Wt44.alloc (.cells #[.int .u8 0] 5)=Wt45 from HWh.out.symm]
  rw[←HGh.out]
  clear HWh
  have hF45:PSt w zm C Wt45:=hF44.fut hb45
  clear hF44
  have hO45z:=Own8.mono' hX45 (by rw[HGh.out];exact hge45)
  clear hb45 hX45 hge45 HGh
  refine Q2z (Grows.same hF45 ?_)
  refine Qvz rfl fun k46=>?_
  have hd47:=Q0z Wt45 k46
  have hF47:PSt w zm C (Wt45.drewN k46):=hF45.fut hd47
  have hO47:=hO45z.fut hd47
  clear hF45 hO45z
  clear hd47
  generalize Wt45.drewN k46=Wt47 at*
  go_wp2_with fail
  refine(low4_any nu Wt47).mono ?_
  rintro e Wt48 ⟨vz48,rfl,ho48,hb48⟩
  replace ho48:Own8 Wt48 Wt47.heap.size vz48 (low (nu.setWidth 64) 4):=ho48
  obtain⟨pz48,mz48,cz48,rfl,hm48,_⟩:=ho48.open
  have hY48:=XUz hO47 hF47.1.lt ho48 hF47.1
  have hF48:PSt w zm C Wt48:=hF47.fut hb48
  have hO48:=hO47.fut hb48
  clear hF47 hO47
  clear ho48 hb48
  go_wp2_with fail
  refine Q2z (Grows.same hF48 ?_)
  refine Qvz rfl fun k49=>?_
  have hd50:=Q0z Wt48 k49
  have hF50:PSt w zm C (Wt48.drewN k49):=hF48.fut hd50
  have hO50:=hO48.fut hd50
  have RL50:=hY48.fut hd50
  clear hF48 hO48 hY48
  clear hd50
  generalize Wt48.drewN k49=Wt50 at*
  refine Qaz (o:=⟨some 80,_,_,_,_,_⟩) rfl (.tmp 76) (.tmp 79) rfl w.heap.size _ _ rfl hO50 pz48 mz48 cz48 (low (nu.setWidth 64) 4) rfl hm48.out RL50.1 (by rw[Qez];simp only[List.length_cons,List.length_nil];omega) hF50.2.size w.heap.size Wt50 (Below.refl _ _) (Nat.le_refl _) ?_
  intro vz51 Wt51 ho _ hg hk
  have hF51:PSt w zm C Wt51:=hF50.app hO50 hg
  obtain⟨qz51,mz51,dz51,rfl,_⟩:=ho.open
  have hO51:=ho
  clear hF50 hO50 RL50 hg hk ho
  go_wp2_with fail
  refine Q2z (Grows.same hF51 ?_)
  refine Qvz rfl fun k52=>?_
  have hd53:=Q0z Wt51 k52
  have hF53:PSt w zm C (Wt51.drewN k52):=hF51.fut hd53
  have hO53:=hO51.fut hd53
  clear hF51 hO51
  clear hd53
  generalize Wt51.drewN k52=Wt53 at*
  refine Qaz (o:=⟨some 83,_,_,_,_,_⟩) rfl (.tmp 80) (.tmp 82) rfl w.heap.size _ _ rfl hO53 (some ⟨zm,35,none⟩) 32 32 (st) rfl HST.out (prow_st HCM.out HPV.out HST.out hF53.1) (by rw[List.length_append,Qez];simp only[List.length_cons,List.length_nil];have:=HST.out;omega) hF53.2.size w.heap.size Wt53 (Below.refl _ _) (Nat.le_refl _) ?_
  intro vz54 Wt54 ho _ hg hk
  have hF54:PSt w zm C Wt54:=hF53.app hO53 hg
  obtain⟨qz54,mz54,dz54,rfl,_⟩:=ho.open
  have hO54:=ho
  clear hF53 hO53 hg hk ho
  go_wp2_with fail
  refine Q2z (Grows.same hF54 ?_)
  refine' Qxz (s:=133) (A1:=_) [8,9] [_,_] _ rfl rfl rfl (fun W hW=>?hq55) _ hF54 (fun _=>?hr55)
  case hq55=>
   simp only[List.getElem_toArray,List.getElem_cons_zero,List.getElem_cons_succ]
   iterate 2 (go_big_quiet_step (fail))
   refine wpQuiet_nil ?_
   rfl
  case hr55=>
  refine XBz fun k9=>?_
  have hd56:=Q0z Wt54 k9
  have hF56:PSt w zm C (Wt54.drewN k9):=hF54.fut hd56
  have hO56:=hO54.fut hd56
  clear hF54 hO54
  clear hd56
  generalize Wt54.drewN k9=Wt56 at*
  refine NoPanic.normal ?_
  go_wp2_with fail
  go_ret2
  rw[HPP3.out]
  exact⟨_,rfl,by show Own8 _ _ (Value.slice qz54 mz54 dz54) _;have h:=hO56;simpa only[List.append_assoc]using h,hF56.2⟩
 case gB=>
  have hd57:=Q0z wd kA
  have hF57:PSt w zm C (wd.drewN kA):=hFd.fut hd57
  clear hFd
  clear hd57
  generalize wd.drewN kA=Wt57 at*
  go_wp2_with fail
  refine(low4_any nu Wt57).mono ?_
  rintro e Wt58 ⟨vz58,rfl,ho58,hb58⟩
  replace ho58:Own8 Wt58 Wt57.heap.size vz58 (low (nu.setWidth 64) 4):=ho58
  obtain⟨pz58,mz58,cz58,rfl,hm58,_⟩:=ho58.open
  have hY58:RowAp zm Wt57 Wt58 pz58 (low (nu.setWidth 64) 4):=RowAp.of ho58 hF57.1
  have hF58:PSt w zm C Wt58:=hF57.fut hb58
  clear hF57
  clear ho58 hb58
  go_wp2_with fail
  refine Q2z (Grows.same hF58 ?_)
  refine Qvz rfl fun k59=>?_
  have hd60:=Q0z Wt58 k59
  have hF60:PSt w zm C (Wt58.drewN k59):=hF58.fut hd60
  have RL60:=hY58.fut hd60
  clear hF58 hY58
  clear hd60
  generalize Wt58.drewN k59=Wt60 at*
  have hb61:=Q1z Wt60 (.cells (([0#8]:Bs).map u8).toArray 5)
  have hX61:=Zdz Wt60 Wt60.heap.size 1 [0#8] (Nat.le_refl _) rfl (by unfold maxLen;omega)
  have hge61:w.heap.size≤Wt60.heap.size:=hF60.2.size
  obtain⟨g61,hg61⟩:∃V,V=Wt60.heap.size:=⟨_,rfl⟩
  obtain⟨Wt61,hW61⟩:∃V,V=Wt60.alloc (.cells (([0#8]:Bs).map u8).toArray 5):=⟨_,rfl⟩
  rw[←hW61]at hb61 hX61
  rw[←hg61]at hX61
  have HWh:=Lib.hid hW61
  have HGh:=Lib.hid hg61
  clear hW61 hg61
  go_wp2_with fail
  first|rw[show Wt60.alloc (.cells #[.int .u8 (iv8 0#8)] 5)=Wt61 from HWh.out.symm]|rw[show Wt60.alloc (.cells #[.int .u8 0] 5)=Wt61 from HWh.out.symm]
  rw[←HGh.out]
  clear HWh
  have RL61y:=ahead_old RL60 (Own8.mono' hX61 (Nat.le_of_eq HGh.out.symm)) hb61
  clear RL60
  have hF61:PSt w zm C Wt61:=hF60.fut hb61
  clear hF60
  have hO61z:=Own8.mono' hX61 (by rw[HGh.out];exact hge61)
  clear hb61 hX61 hge61 HGh
  refine Q2z (Grows.same hF61 ?_)
  refine Qvz rfl fun k62=>?_
  have hd63:=Q0z Wt61 k62
  have hF63:PSt w zm C (Wt61.drewN k62):=hF61.fut hd63
  have hO63:=hO61z.fut hd63
  have RL63:=RL61y.fut hd63
  clear hF61 hO61z RL61y
  clear hd63
  generalize Wt61.drewN k62=Wt63 at*
  refine Qaz (o:=⟨some 80,_,_,_,_,_⟩) rfl (.tmp 76) (.tmp 79) rfl w.heap.size _ _ rfl hO63 pz58 mz58 cz58 (low (nu.setWidth 64) 4) rfl hm58.out RL63.1 (by rw[Qez];simp only[List.length_cons,List.length_nil];omega) hF63.2.size w.heap.size Wt63 (Below.refl _ _) (Nat.le_refl _) ?_
  intro vz64 Wt64 ho _ hg hk
  have hF64:PSt w zm C Wt64:=hF63.app hO63 hg
  obtain⟨qz64,mz64,dz64,rfl,_⟩:=ho.open
  have hO64:=ho
  clear hF63 hO63 RL63 hg hk ho
  go_wp2_with fail
  refine Q2z (Grows.same hF64 ?_)
  refine Qvz rfl fun k65=>?_
  have hd66:=Q0z Wt64 k65
  have hF66:PSt w zm C (Wt64.drewN k65):=hF64.fut hd66
  have hO66:=hO64.fut hd66
  clear hF64 hO64
  clear hd66
  generalize Wt64.drewN k65=Wt66 at*
  refine Qaz (o:=⟨some 83,_,_,_,_,_⟩) rfl (.tmp 80) (.tmp 82) rfl w.heap.size _ _ rfl hO66 (some ⟨zm,35,none⟩) 32 32 (st) rfl HST.out (prow_st HCM.out HPV.out HST.out hF66.1) (by rw[List.length_append,Qez];simp only[List.length_cons,List.length_nil];have:=HST.out;omega) hF66.2.size w.heap.size Wt66 (Below.refl _ _) (Nat.le_refl _) ?_
  intro vz67 Wt67 ho _ hg hk
  have hF67:PSt w zm C Wt67:=hF66.app hO66 hg
  obtain⟨qz67,mz67,dz67,rfl,_⟩:=ho.open
  have hO67:=ho
  clear hF66 hO66 hg hk ho
  go_wp2_with fail
  refine Q2z (Grows.same hF67 ?_)
  refine' Qxz (s:=133) (A1:=_) [8,9] [_,_] _ rfl rfl rfl (fun W hW=>?hq68) _ hF67 (fun _=>?hr68)
  case hq68=>
   simp only[List.getElem_toArray,List.getElem_cons_zero,List.getElem_cons_succ]
   iterate 2 (go_big_quiet_step (fail))
   refine wpQuiet_nil ?_
   rfl
  case hr68=>
  refine XBz fun k9=>?_
  have hd69:=Q0z Wt67 k9
  have hF69:PSt w zm C (Wt67.drewN k9):=hF67.fut hd69
  have hO69:=hO67.fut hd69
  clear hF67 hO67
  clear hd69
  generalize Wt67.drewN k9=Wt69 at*
  refine NoPanic.normal ?_
  go_wp2_with fail
  go_ret2
  rw[HPP3.out]
  exact⟨_,rfl,by show Own8 _ _ (Value.slice qz67 mz67 dz67) _;have h:=hO69;simpa only[List.append_assoc]using h,hF69.2⟩
theorem pay_r8 (nu:BitVec 32) (no:BitVec 64) (pv st:Bs) (hs:List Bs) (hd:List Hdr) (tx:Bs) (bl:TBlk) (cs:List Value) (w:World) (hc:MsgC w ⟨8,nu,no,pv,st,hs,hd,tx,bl⟩ cs):
 Calls Tryz.prog 37 #[.agg cs.toArray] w (OutB w (payP ⟨8,nu,no,pv,st,hs,hd,tx,bl⟩)):=by
 have HPP:Hid (payP ⟨8,nu,no,pv,st,hs,hd,tx,bl⟩=payP ⟨8,nu,no,pv,st,hs,hd,tx,bl⟩):=Lib.hid rfl
 have HC:=Lib.hid hc
 obtain⟨hv,dv,bv,bc,hcs,hpv,hst,hh,hdd,hb,hbl⟩:=hc
 obtain⟨p1,n1,c1,rfl⟩:=hh.opens
 obtain⟨p2,n2,c2,rfl⟩:=hdd.opens
 obtain⟨p3,n3,c3,rfl⟩:=hb.opens
 obtain⟨zm,hzm⟩:∃z,z=w.heap.size:=⟨_,rfl⟩
 obtain⟨C,hC⟩:∃C,C=cs.toArray:=⟨_,rfl⟩
 obtain⟨W1,hW1⟩:∃W,W=w.alloc (.cells cs.toArray 41):=⟨_,rfl⟩
 have hF1:PSt w zm C W1:=⟨by rw[hW1,hzm,hC];exact Blk.new w _ _,by rw[hW1];exact Q1z w _⟩
 have HCM:Hid (C=(Q8z (.int .i64 8) (u32 nu) (u64 no) pv st (.slice p1 n1 c1) (.slice p2 n2 c2) (.slice p3 n3 c3) bc).toArray):=Lib.hid (by rw[hC,hcs])
 have HCS:Hid (C=cs.toArray):=Lib.hid hC
 have HPV:=Lib.hid hpv
 have HST:=Lib.hid hst
 have HN1:Hid (hs.length=n1):=Lib.hid hh.slen.1
 have HN2:Hid (hd.length=n2):=Lib.hid hdd.slen.1
 have HN3:Hid (tx.length=n3):=Lib.hid hb.slen.1
 have HH:=Lib.hid hh
 have HD:=Lib.hid hdd
 have HBT:=Lib.hid hb
 have HBK:=Lib.hid hbl
 have a2:=((show Blk W1 zm 41 _ from HCM.out▸hF1.1).msg hpv hst).c2
 clear hcs hpv hst hh hdd hb hbl hC
 go_enter Tryz.func37,Tryz.ntmps37
 go_upto_region 1 with fail
 rw[←hW1,← hzm]
 clear hW1 hzm
 go_wp2_with fail
 refine(QFz no 8 (by omega) W1).mono ?_
 rintro e W2 ⟨vno,rfl,hno,hbno⟩
 obtain⟨pno,mno,cno,rfl,hmno,_⟩:=hno.open
 have hF2:=hF1.fut hbno
 have hnap:=RowAp.of hno hF1.1
 have nr:=Own8.mono' hno hF1.2.size
 have a0:=((show Blk W2 zm 41 _ from HCM.out▸hF2.1).msg HPV.out HST.out).c0
 clear hno hbno hF1 a2
 go_upto_region 3 with fail
 clear a0
 have ax:=(X5z HCM.out HPV.out HST.out hF2.1).c67
 by_cases hl:2000<n1
 ·have hlt:(2000:Int)<(n1:Int):=by omega
  have HPP2:Hid (payP ⟨8,nu,no,pv,st,hs,hd,tx,bl⟩=([],1)):=Lib.hid (by show(if 2000<hs.length then _ else _)=_;rw[if_pos (by have:=HN1.out;omega)])
  clear hl nr hnap
  go_wp2_with fail
  go_ret2
  rw[HPP2.out]
  exact⟨_,rfl,Own8.nil _ _,hF2.2⟩
 have hlt:¬(2000:Int)<(n1:Int):=by omega
 have HLIM:Hid (hs.length≤2000):=Lib.hid (by have:=HN1.out;omega)
 clear hl nr hnap
 go_upto_region 31 with fail
 clear ax
 have HPP3:Hid (payP ⟨8,nu,no,pv,st,hs,hd,tx,bl⟩=([0#8]++(st++(pv++hshB [] hs)),0)):=Lib.hid (by show(if 2000<hs.length then _ else _)=_;exact if_neg (by have:=HLIM.out;omega))
 have HSL:Hid ((hshB [] hs).length≤100000):=Lib.hid (by have:=HLIM.out;have:=hshB_le (a:=[]) (l:=hs) HC.out.okMsg.2.2.1 (by decide);omega)
 refine XMz (.qs [1,2,4,5,7,8] (.o 0 (.o 3 (.o 6 (.o 9 (.o 10 (.qs [11,12] (.done)))))))) (PSt w zm C) (by kernel_rfl) (by kernel_rfl) (hF2.fut (Q0z W2 1)) ?_
 have hFd:=hF2.fut (Q0z W2 1)
 replace hFd:PSt w zm C W2.drew:=hFd
 generalize W2.drew=wd at*
 clear hF2
 refine' Qxz (s:=133) (A1:=_) [1,2,4,5,7,8] [_,_,_,_,_,_] _ rfl rfl rfl (fun W hW=>?hq70) _ hFd (fun _=>?hr70)
 case hq70=>
  have a67:∀k,(W.drewN k).cell? ⟨zm,67,none⟩=some (.slice p1 n1 c1):=fun k=>by have:=(X5z HCM.out HPV.out HST.out hW.1).c67;simpa using this
  simp only[List.getElem_toArray,List.getElem_cons_zero,List.getElem_cons_succ]
  iterate 6 (go_big_quiet_step (fail))
  refine wpQuiet_nil ?_
  rfl
 case hr70=>
 refine Qvz rfl fun k71=>?_
 have hd72:=Q0z wd k71
 have hF72:PSt w zm C (wd.drewN k71):=hFd.fut hd72
 clear hFd
 clear hd72
 generalize wd.drewN k71=Wt72 at*
 have hb73:=Q1z Wt72 (.cells (([0#8]:Bs).map u8).toArray 5)
 have hX73:=Zdz Wt72 Wt72.heap.size 1 [0#8] (Nat.le_refl _) rfl (by unfold maxLen;omega)
 have hge73:w.heap.size≤Wt72.heap.size:=hF72.2.size
 obtain⟨g73,hg73⟩:∃V,V=Wt72.heap.size:=⟨_,rfl⟩
 obtain⟨Wt73,hW73⟩:∃V,V=Wt72.alloc (.cells (([0#8]:Bs).map u8).toArray 5):=⟨_,rfl⟩
 rw[←hW73]at hb73 hX73
 rw[←hg73]at hX73
 have HWh:=Lib.hid hW73
 have HGh:=Lib.hid hg73
 clear hW73 hg73
 go_wp2_with fail
 first|rw[show Wt72.alloc (.cells #[.int .u8 (iv8 0#8)] 5)=Wt73 from HWh.out.symm]|rw[show Wt72.alloc (.cells #[.int .u8 0] 5)=Wt73 from HWh.out.symm]
 rw[←HGh.out]
 clear HWh
 have hF73:PSt w zm C Wt73:=hF72.fut hb73
 clear hF72
 have hO73z:=Own8.mono' hX73 (by rw[HGh.out];exact hge73)
 clear hb73 hX73 hge73 HGh
 refine Q2z (Grows.same hF73 ?_)
 refine Qvz rfl fun k74=>?_
 have hd75:=Q0z Wt73 k74
 have hF75:PSt w zm C (Wt73.drewN k74):=hF73.fut hd75
 have hO75:=hO73z.fut hd75
 clear hF73 hO73z
 clear hd75
 generalize Wt73.drewN k74=Wt75 at*
 refine Qaz (o:=⟨some 93,_,_,_,_,_⟩) rfl (.tmp 90) (.tmp 92) rfl w.heap.size _ _ rfl hO75 (some ⟨zm,35,none⟩) 32 32 (st) rfl HST.out (prow_st HCM.out HPV.out HST.out hF75.1) (by simp only[List.length_cons,List.length_nil];have:=HST.out;omega) hF75.2.size w.heap.size Wt75 (Below.refl _ _) (Nat.le_refl _) ?_
 intro vz76 Wt76 ho _ hg hk
 have hF76:PSt w zm C Wt76:=hF75.app hO75 hg
 obtain⟨qz76,mz76,dz76,rfl,_⟩:=ho.open
 have hO76:=ho
 clear hF75 hO75 hg hk ho
 go_wp2_with fail
 refine Q2z (Grows.same hF76 ?_)
 refine Qvz rfl fun k77=>?_
 have hd78:=Q0z Wt76 k77
 have hF78:PSt w zm C (Wt76.drewN k77):=hF76.fut hd78
 have hO78:=hO76.fut hd78
 clear hF76 hO76
 clear hd78
 generalize Wt76.drewN k77=Wt78 at*
 refine Qaz (o:=⟨some 96,_,_,_,_,_⟩) rfl (.tmp 93) (.tmp 95) rfl w.heap.size _ _ rfl hO78 (some ⟨zm,3,none⟩) 32 32 (pv) rfl HPV.out (prow_pv HCM.out HPV.out HST.out hF78.1) (by rw[List.length_append];simp only[List.length_cons,List.length_nil];have:=HST.out;have:=HPV.out;omega) hF78.2.size w.heap.size Wt78 (Below.refl _ _) (Nat.le_refl _) ?_
 intro vz79 Wt79 ho _ hg hk
 have hF79:PSt w zm C Wt79:=hF78.app hO78 hg
 obtain⟨qz79,mz79,dz79,rfl,_⟩:=ho.open
 have hO79:=ho
 clear hF78 hO78 hg hk ho
 go_wp2_with fail
 refine Q2z (Grows.same hF79 ?_)
 refine Qvz rfl fun k80=>?_
 have hd81:=Q0z Wt79 k80
 have hF81:PSt w zm C (Wt79.drewN k80):=hF79.fut hd81
 have hO81:=hO79.fut hd81
 clear hF79 hO79
 clear hd81
 generalize Wt79.drewN k80=Wt81 at*
 go_wp2_with fail
 refine(rHashes_any p1 n1 c1 hs none 0 0 [] Wt81 (HH.out.fut Z3z hF81.2) (by have:=HN1.out;omega) (Row8.nil _ _) rfl (by simp) (fun h=>absurd rfl h)).mono ?_
 rintro e Wt82 ⟨vz82,rfl,ho82,hb82⟩
 replace ho82:Own8 Wt82 Wt81.heap.size vz82 (hshB [] hs):=ho82
 obtain⟨pz82,mz82,cz82,rfl,hm82,_⟩:=ho82.open
 have hY82:=XUz hO81 hF81.1.lt ho82 hF81.1
 have hF82:PSt w zm C Wt82:=hF81.fut hb82
 have hO82:=hO81.fut hb82
 clear hF81 hO81
 clear ho82 hb82
 go_wp2_with fail
 refine Q2z (Grows.same hF82 ?_)
 refine Qvz rfl fun k83=>?_
 have hd84:=Q0z Wt82 k83
 have hF84:PSt w zm C (Wt82.drewN k83):=hF82.fut hd84
 have hO84:=hO82.fut hd84
 have RH84:=hY82.fut hd84
 clear hF82 hO82 hY82
 clear hd84
 generalize Wt82.drewN k83=Wt84 at*
 refine Qaz (o:=⟨some 100,_,_,_,_,_⟩) rfl (.tmp 96) (.tmp 99) rfl w.heap.size _ _ rfl hO84 pz82 mz82 cz82 (hshB [] hs) rfl hm82.out RH84.1 (by rw[List.length_append,List.length_append];simp only[List.length_cons,List.length_nil];have:=HST.out;have:=HPV.out;have:=HSL.out;omega) hF84.2.size w.heap.size Wt84 (Below.refl _ _) (Nat.le_refl _) ?_
 intro vz85 Wt85 ho _ hg hk
 have hF85:PSt w zm C Wt85:=hF84.app hO84 hg
 obtain⟨qz85,mz85,dz85,rfl,_⟩:=ho.open
 have hO85:=ho
 clear hF84 hO84 RH84 hg hk ho
 go_wp2_with fail
 refine Q2z (Grows.same hF85 ?_)
 refine' Qxz (s:=133) (A1:=_) [11,12] [_,_] _ rfl rfl rfl (fun W hW=>?hq86) _ hF85 (fun _=>?hr86)
 case hq86=>
  simp only[List.getElem_toArray,List.getElem_cons_zero,List.getElem_cons_succ]
  iterate 2 (go_big_quiet_step (fail))
  refine wpQuiet_nil ?_
  rfl
 case hr86=>
 refine XBz fun k9=>?_
 have hd87:=Q0z Wt85 k9
 have hF87:PSt w zm C (Wt85.drewN k9):=hF85.fut hd87
 have hO87:=hO85.fut hd87
 clear hF85 hO85
 clear hd87
 generalize Wt85.drewN k9=Wt87 at*
 refine NoPanic.normal ?_
 go_wp2_with fail
 go_ret2
 rw[HPP3.out]
 exact⟨_,rfl,by show Own8 _ _ (Value.slice qz85 mz85 dz85) _;have h:=hO87;simpa only[List.append_assoc]using h,hF87.2⟩
theorem pay_r10 (nu:BitVec 32) (no:BitVec 64) (pv st:Bs) (hs:List Bs) (hd:List Hdr) (tx:Bs) (bl:TBlk) (cs:List Value) (w:World) (hc:MsgC w ⟨10,nu,no,pv,st,hs,hd,tx,bl⟩ cs):
 Calls Tryz.prog 37 #[.agg cs.toArray] w (OutB w (payP ⟨10,nu,no,pv,st,hs,hd,tx,bl⟩)):=by
 have HPP:Hid (payP ⟨10,nu,no,pv,st,hs,hd,tx,bl⟩=payP ⟨10,nu,no,pv,st,hs,hd,tx,bl⟩):=Lib.hid rfl
 have HC:=Lib.hid hc
 obtain⟨hv,dv,bv,bc,hcs,hpv,hst,hh,hdd,hb,hbl⟩:=hc
 obtain⟨p1,n1,c1,rfl⟩:=hh.opens
 obtain⟨p2,n2,c2,rfl⟩:=hdd.opens
 obtain⟨p3,n3,c3,rfl⟩:=hb.opens
 obtain⟨zm,hzm⟩:∃z,z=w.heap.size:=⟨_,rfl⟩
 obtain⟨C,hC⟩:∃C,C=cs.toArray:=⟨_,rfl⟩
 obtain⟨W1,hW1⟩:∃W,W=w.alloc (.cells cs.toArray 41):=⟨_,rfl⟩
 have hF1:PSt w zm C W1:=⟨by rw[hW1,hzm,hC];exact Blk.new w _ _,by rw[hW1];exact Q1z w _⟩
 have HCM:Hid (C=(Q8z (.int .i64 10) (u32 nu) (u64 no) pv st (.slice p1 n1 c1) (.slice p2 n2 c2) (.slice p3 n3 c3) bc).toArray):=Lib.hid (by rw[hC,hcs])
 have HCS:Hid (C=cs.toArray):=Lib.hid hC
 have HPV:=Lib.hid hpv
 have HST:=Lib.hid hst
 have HN1:Hid (hs.length=n1):=Lib.hid hh.slen.1
 have HN2:Hid (hd.length=n2):=Lib.hid hdd.slen.1
 have HN3:Hid (tx.length=n3):=Lib.hid hb.slen.1
 have HH:=Lib.hid hh
 have HD:=Lib.hid hdd
 have HBT:=Lib.hid hb
 have HBK:=Lib.hid hbl
 have a2:=((show Blk W1 zm 41 _ from HCM.out▸hF1.1).msg hpv hst).c2
 clear hcs hpv hst hh hdd hb hbl hC
 go_enter Tryz.func37,Tryz.ntmps37
 go_upto_region 1 with fail
 rw[←hW1,← hzm]
 clear hW1 hzm
 go_wp2_with fail
 refine(QFz no 8 (by omega) W1).mono ?_
 rintro e W2 ⟨vno,rfl,hno,hbno⟩
 obtain⟨pno,mno,cno,rfl,hmno,_⟩:=hno.open
 have hF2:=hF1.fut hbno
 have hnap:=RowAp.of hno hF1.1
 have nr:=Own8.mono' hno hF1.2.size
 have a0:=((show Blk W2 zm 41 _ from HCM.out▸hF2.1).msg HPV.out HST.out).c0
 clear hno hbno hF1 a2
 go_upto_region 3 with fail
 clear a0
 have ax:=(X5z HCM.out HPV.out HST.out hF2.1).c69
 by_cases hl:199950<n3
 ·have hlt:(199950:Int)<(n3:Int):=by omega
  have HPP2:Hid (payP ⟨10,nu,no,pv,st,hs,hd,tx,bl⟩=([],1)):=Lib.hid (by show(if 199950<tx.length then _ else _)=_;rw[if_pos (by have:=HN3.out;omega)])
  clear hl nr hnap
  go_wp2_with fail
  go_ret2
  rw[HPP2.out]
  exact⟨_,rfl,Own8.nil _ _,hF2.2⟩
 have hlt:¬(199950:Int)<(n3:Int):=by omega
 have HLIM:Hid (tx.length≤199950):=Lib.hid (by have:=HN3.out;omega)
 clear hl nr hnap
 go_upto_region 35 with fail
 clear ax
 have HPP3:Hid (payP ⟨10,nu,no,pv,st,hs,hd,tx,bl⟩=([0#8]++(st++text tx),0)):=Lib.hid (by show(if 199950<tx.length then _ else _)=_;exact if_neg (by have:=HLIM.out;omega))
 have HTXL:Hid ((text tx).length≤199960):=Lib.hid (by have h:=HLIM.out;have h1:(enc (BitVec.ofNat 64 tx.length)).length≤9:=QXz tx.length;unfold text;rw[List.length_append];omega)
 have HTX:Hid (Row8 w p3 tx):=Lib.hid (by obtain⟨p',n',c',e,h1,_,_,h4,_⟩:=HBT.out;injection e with e1 e2 _;rw[e1];exact h4)
 refine XMz (.qs [1,2,4,5] (.o 0 (.o 3 (.o 6 (.o 7 (.qs [8,9] (.done))))))) (PSt w zm C) (by kernel_rfl) (by kernel_rfl) (hF2.fut (Q0z W2 1)) ?_
 have hFd:=hF2.fut (Q0z W2 1)
 replace hFd:PSt w zm C W2.drew:=hFd
 generalize W2.drew=wd at*
 clear hF2
 refine' Qxz (s:=133) (A1:=_) [1,2,4,5] [_,_,_,_] _ rfl rfl rfl (fun W hW=>?hq88) _ hFd (fun _=>?hr88)
 case hq88=>
  have a69:∀k,(W.drewN k).cell? ⟨zm,69,none⟩=some (.slice p3 n3 c3):=fun k=>by have:=(X5z HCM.out HPV.out HST.out hW.1).c69;simpa using this
  simp only[List.getElem_toArray,List.getElem_cons_zero,List.getElem_cons_succ]
  iterate 4 (go_big_quiet_step (fail))
  refine wpQuiet_nil ?_
  rfl
 case hr88=>
 refine Qvz rfl fun k89=>?_
 have hd90:=Q0z wd k89
 have hF90:PSt w zm C (wd.drewN k89):=hFd.fut hd90
 clear hFd
 clear hd90
 generalize wd.drewN k89=Wt90 at*
 have hb91:=Q1z Wt90 (.cells (([0#8]:Bs).map u8).toArray 5)
 have hX91:=Zdz Wt90 Wt90.heap.size 1 [0#8] (Nat.le_refl _) rfl (by unfold maxLen;omega)
 have hge91:w.heap.size≤Wt90.heap.size:=hF90.2.size
 obtain⟨g91,hg91⟩:∃V,V=Wt90.heap.size:=⟨_,rfl⟩
 obtain⟨Wt91,hW91⟩:∃V,V=Wt90.alloc (.cells (([0#8]:Bs).map u8).toArray 5):=⟨_,rfl⟩
 rw[←hW91]at hb91 hX91
 rw[←hg91]at hX91
 have HWh:=Lib.hid hW91
 have HGh:=Lib.hid hg91
 clear hW91 hg91
 go_wp2_with fail
 first|rw[show Wt90.alloc (.cells #[.int .u8 (iv8 0#8)] 5)=Wt91 from HWh.out.symm]|rw[show Wt90.alloc (.cells #[.int .u8 0] 5)=Wt91 from HWh.out.symm]
 rw[←HGh.out]
 clear HWh
 have hF91:PSt w zm C Wt91:=hF90.fut hb91
 clear hF90
 have hO91z:=Own8.mono' hX91 (by rw[HGh.out];exact hge91)
 clear hb91 hX91 hge91 HGh
 refine Q2z (Grows.same hF91 ?_)
 refine Qvz rfl fun k92=>?_
 have hd93:=Q0z Wt91 k92
 have hF93:PSt w zm C (Wt91.drewN k92):=hF91.fut hd93
 have hO93:=hO91z.fut hd93
 clear hF91 hO91z
 clear hd93
 generalize Wt91.drewN k92=Wt93 at*
 refine Qaz (o:=⟨some 110,_,_,_,_,_⟩) rfl (.tmp 107) (.tmp 109) rfl w.heap.size _ _ rfl hO93 (some ⟨zm,35,none⟩) 32 32 (st) rfl HST.out (prow_st HCM.out HPV.out HST.out hF93.1) (by simp only[List.length_cons,List.length_nil];have:=HST.out;omega) hF93.2.size w.heap.size Wt93 (Below.refl _ _) (Nat.le_refl _) ?_
 intro vz94 Wt94 ho _ hg hk
 have hF94:PSt w zm C Wt94:=hF93.app hO93 hg
 obtain⟨qz94,mz94,dz94,rfl,_⟩:=ho.open
 have hO94:=ho
 clear hF93 hO93 hg hk ho
 go_wp2_with fail
 refine Q2z (Grows.same hF94 ?_)
 refine Qvz rfl fun k95=>?_
 have hd96:=Q0z Wt94 k95
 have hF96:PSt w zm C (Wt94.drewN k95):=hF94.fut hd96
 have hO96:=hO94.fut hd96
 clear hF94 hO94
 clear hd96
 generalize Wt94.drewN k95=Wt96 at*
 go_wp2_with fail
 refine(refText_any p3 n3 c3 tx Wt96 (HTX.out.below hF96.2 (Nat.le_refl _)) HN3.out (by have:=HLIM.out;have:=HN3.out;omega)).mono ?_
 rintro e Wt97 ⟨vz97,rfl,ho97,hb97⟩
 replace ho97:Own8 Wt97 Wt96.heap.size vz97 (text tx):=ho97
 obtain⟨pz97,mz97,cz97,rfl,hm97,_⟩:=ho97.open
 have hY97:=XUz hO96 hF96.1.lt ho97 hF96.1
 have hF97:PSt w zm C Wt97:=hF96.fut hb97
 have hO97:=hO96.fut hb97
 clear hF96 hO96
 clear ho97 hb97
 go_wp2_with fail
 refine Q2z (Grows.same hF97 ?_)
 refine Qvz rfl fun k98=>?_
 have hd99:=Q0z Wt97 k98
 have hF99:PSt w zm C (Wt97.drewN k98):=hF97.fut hd99
 have hO99:=hO97.fut hd99
 have RT99:=hY97.fut hd99
 clear hF97 hO97 hY97
 clear hd99
 generalize Wt97.drewN k98=Wt99 at*
 refine Qaz (o:=⟨some 114,_,_,_,_,_⟩) rfl (.tmp 110) (.tmp 113) rfl w.heap.size _ _ rfl hO99 pz97 mz97 cz97 (text tx) rfl hm97.out RT99.1 (by rw[List.length_append];simp only[List.length_cons,List.length_nil];have:=HST.out;have:=HTXL.out;omega) hF99.2.size w.heap.size Wt99 (Below.refl _ _) (Nat.le_refl _) ?_
 intro vz100 Wt100 ho _ hg hk
 have hF100:PSt w zm C Wt100:=hF99.app hO99 hg
 obtain⟨qz100,mz100,dz100,rfl,_⟩:=ho.open
 have hO100:=ho
 clear hF99 hO99 RT99 hg hk ho
 go_wp2_with fail
 refine Q2z (Grows.same hF100 ?_)
 refine' Qxz (s:=133) (A1:=_) [8,9] [_,_] _ rfl rfl rfl (fun W hW=>?hq101) _ hF100 (fun _=>?hr101)
 case hq101=>
  simp only[List.getElem_toArray,List.getElem_cons_zero,List.getElem_cons_succ]
  iterate 2 (go_big_quiet_step (fail))
  refine wpQuiet_nil ?_
  rfl
 case hr101=>
 refine XBz fun k9=>?_
 have hd102:=Q0z Wt100 k9
 have hF102:PSt w zm C (Wt100.drewN k9):=hF100.fut hd102
 have hO102:=hO100.fut hd102
 clear hF100 hO100
 clear hd102
 generalize Wt100.drewN k9=Wt102 at*
 refine NoPanic.normal ?_
 go_wp2_with fail
 go_ret2
 rw[HPP3.out]
 exact⟨_,rfl,by show Own8 _ _ (Value.slice qz100 mz100 dz100) _;have h:=hO102;simpa only[List.append_assoc]using h,hF102.2⟩
theorem pay_r11 (nu:BitVec 32) (no:BitVec 64) (pv st:Bs) (hs:List Bs) (hd:List Hdr) (tx:Bs) (bl:TBlk) (cs:List Value) (w:World) (hc:MsgC w ⟨11,nu,no,pv,st,hs,hd,tx,bl⟩ cs):
 Calls Tryz.prog 37 #[.agg cs.toArray] w (OutB w (payP ⟨11,nu,no,pv,st,hs,hd,tx,bl⟩)):=by
 have HPP:Hid (payP ⟨11,nu,no,pv,st,hs,hd,tx,bl⟩=payP ⟨11,nu,no,pv,st,hs,hd,tx,bl⟩):=Lib.hid rfl
 have HC:=Lib.hid hc
 obtain⟨hv,dv,bv,bc,hcs,hpv,hst,hh,hdd,hb,hbl⟩:=hc
 obtain⟨p1,n1,c1,rfl⟩:=hh.opens
 obtain⟨p2,n2,c2,rfl⟩:=hdd.opens
 obtain⟨p3,n3,c3,rfl⟩:=hb.opens
 obtain⟨zm,hzm⟩:∃z,z=w.heap.size:=⟨_,rfl⟩
 obtain⟨C,hC⟩:∃C,C=cs.toArray:=⟨_,rfl⟩
 obtain⟨W1,hW1⟩:∃W,W=w.alloc (.cells cs.toArray 41):=⟨_,rfl⟩
 have hF1:PSt w zm C W1:=⟨by rw[hW1,hzm,hC];exact Blk.new w _ _,by rw[hW1];exact Q1z w _⟩
 have HCM:Hid (C=(Q8z (.int .i64 11) (u32 nu) (u64 no) pv st (.slice p1 n1 c1) (.slice p2 n2 c2) (.slice p3 n3 c3) bc).toArray):=Lib.hid (by rw[hC,hcs])
 have HCS:Hid (C=cs.toArray):=Lib.hid hC
 have HPV:=Lib.hid hpv
 have HST:=Lib.hid hst
 have HN1:Hid (hs.length=n1):=Lib.hid hh.slen.1
 have HN2:Hid (hd.length=n2):=Lib.hid hdd.slen.1
 have HN3:Hid (tx.length=n3):=Lib.hid hb.slen.1
 have HH:=Lib.hid hh
 have HD:=Lib.hid hdd
 have HBT:=Lib.hid hb
 have HBK:=Lib.hid hbl
 have a2:=((show Blk W1 zm 41 _ from HCM.out▸hF1.1).msg hpv hst).c2
 clear hcs hpv hst hh hdd hb hbl hC
 go_enter Tryz.func37,Tryz.ntmps37
 go_upto_region 1 with fail
 rw[←hW1,← hzm]
 clear hW1 hzm
 go_wp2_with fail
 refine(QFz no 8 (by omega) W1).mono ?_
 rintro e W2 ⟨vno,rfl,hno,hbno⟩
 obtain⟨pno,mno,cno,rfl,hmno,_⟩:=hno.open
 have hF2:=hF1.fut hbno
 have hnap:=RowAp.of hno hF1.1
 have nr:=Own8.mono' hno hF1.2.size
 have a0:=((show Blk W2 zm 41 _ from HCM.out▸hF2.1).msg HPV.out HST.out).c0
 clear hno hbno hF1 a2
 go_upto_region 3 with fail
 clear a0
 have ax:=(X5z HCM.out HPV.out HST.out hF2.1).c67
 by_cases hl:1000<n1
 ·have hlt:(1000:Int)<(n1:Int):=by omega
  have HPP2:Hid (payP ⟨11,nu,no,pv,st,hs,hd,tx,bl⟩=([],1)):=Lib.hid (by show(if 1000<hs.length then _ else _)=_;rw[if_pos (by have:=HN1.out;omega)])
  clear hl nr hnap
  go_wp2_with fail
  go_ret2
  rw[HPP2.out]
  exact⟨_,rfl,Own8.nil _ _,hF2.2⟩
 have hlt:¬(1000:Int)<(n1:Int):=by omega
 have HLIM:Hid (hs.length≤1000):=Lib.hid (by have:=HN1.out;omega)
 clear hl nr hnap
 have HPP3:Hid (payP ⟨11,nu,no,pv,st,hs,hd,tx,bl⟩=(hshB wantB hs,0)):=Lib.hid (by show(if 1000<hs.length then _ else _)=_;exact if_neg (by have:=HLIM.out;omega))
 have hnb:=Q1z W2 (.cells (wantB.map u8).toArray 5)
 have hol:=Zdz W2 W2.heap.size 4 wantB (Nat.le_refl _) rfl (by unfold maxLen;omega)
 obtain⟨Ww,hWw⟩:∃W,W=W2.alloc (.cells (wantB.map u8).toArray 5):=⟨_,rfl⟩
 obtain⟨gw,hgw⟩:∃W,W=W2.heap.size:=⟨_,rfl⟩
 rw[←hWw]at hnb hol
 have hFw:=hF2.fut hnb
 have hlw:gw<Ww.heap.size:=by rw[hgw,hWw,World.size_alloc];exact Nat.lt_succ_self _
 have hrow:=(AheadB.own hol).1
 rw[←hgw]at hrow
 have HWh:=Lib.hid hWw
 have HGh:=Lib.hid hgw
 have hWw2:W2.alloc (.cells #[.int .u8 2,.int .u8 0,.int .u8 0,.int .u8 64] 5)=Ww:=hWw.symm
 have hgw2:W2.heap.size=gw:=hgw.symm
 clear hol hnb hWw hgw
 have hcall:=rHashes_any p1 n1 c1 hs (some ⟨gw,0,none⟩) 4 4 wantB Ww (HH.out.fut Z3z hFw.2) (by have:=HLIM.out;have:=HN1.out;omega) hrow rfl (by decide) (fun _ x hx=>by injection hx with hx;subst hx;exact hlw)
 go_wp2_with fail
 refine hcall.mono ?_
 rintro e W3 ⟨v3,rfl,ho3,hb3⟩
 have hF3:=hFw.fut hb3
 have hO3:=Own8.mono' ho3 hFw.2.size
 clear ho3 hb3 hWw2 hgw2 hcall ax
 go_wp2_with fail
 go_ret2
 rw[HPP3.out]
 exact⟨_,rfl,hO3,hF3.2⟩
theorem pay_r13 (nu:BitVec 32) (no:BitVec 64) (pv st:Bs) (hs:List Bs) (hd:List Hdr) (tx:Bs) (bl:TBlk) (cs:List Value) (w:World) (hc:MsgC w ⟨13,nu,no,pv,st,hs,hd,tx,bl⟩ cs):
 Calls Tryz.prog 37 #[.agg cs.toArray] w (OutB w (payP ⟨13,nu,no,pv,st,hs,hd,tx,bl⟩)):=by
 have HPP:Hid (payP ⟨13,nu,no,pv,st,hs,hd,tx,bl⟩=payP ⟨13,nu,no,pv,st,hs,hd,tx,bl⟩):=Lib.hid rfl
 have HC:=Lib.hid hc
 obtain⟨hv,dv,bv,bc,hcs,hpv,hst,hh,hdd,hb,hbl⟩:=hc
 obtain⟨p1,n1,c1,rfl⟩:=hh.opens
 obtain⟨p2,n2,c2,rfl⟩:=hdd.opens
 obtain⟨p3,n3,c3,rfl⟩:=hb.opens
 obtain⟨zm,hzm⟩:∃z,z=w.heap.size:=⟨_,rfl⟩
 obtain⟨C,hC⟩:∃C,C=cs.toArray:=⟨_,rfl⟩
 obtain⟨W1,hW1⟩:∃W,W=w.alloc (.cells cs.toArray 41):=⟨_,rfl⟩
 have hF1:PSt w zm C W1:=⟨by rw[hW1,hzm,hC];exact Blk.new w _ _,by rw[hW1];exact Q1z w _⟩
 have HCM:Hid (C=(Q8z (.int .i64 13) (u32 nu) (u64 no) pv st (.slice p1 n1 c1) (.slice p2 n2 c2) (.slice p3 n3 c3) bc).toArray):=Lib.hid (by rw[hC,hcs])
 have HCS:Hid (C=cs.toArray):=Lib.hid hC
 have HPV:=Lib.hid hpv
 have HST:=Lib.hid hst
 have HN1:Hid (hs.length=n1):=Lib.hid hh.slen.1
 have HN2:Hid (hd.length=n2):=Lib.hid hdd.slen.1
 have HN3:Hid (tx.length=n3):=Lib.hid hb.slen.1
 have HH:=Lib.hid hh
 have HD:=Lib.hid hdd
 have HBT:=Lib.hid hb
 have HBK:=Lib.hid hbl
 have a2:=((show Blk W1 zm 41 _ from HCM.out▸hF1.1).msg hpv hst).c2
 clear hcs hpv hst hh hdd hb hbl hC
 go_enter Tryz.func37,Tryz.ntmps37
 go_upto_region 1 with fail
 rw[←hW1,← hzm]
 clear hW1 hzm
 go_wp2_with fail
 refine(QFz no 8 (by omega) W1).mono ?_
 rintro e W2 ⟨vno,rfl,hno,hbno⟩
 obtain⟨pno,mno,cno,rfl,hmno,_⟩:=hno.open
 have hF2:=hF1.fut hbno
 have hnap:=RowAp.of hno hF1.1
 have nr:=Own8.mono' hno hF1.2.size
 have a0:=((show Blk W2 zm 41 _ from HCM.out▸hF2.1).msg HPV.out HST.out).c0
 clear hno hbno hF1 a2
 go_upto_region 3 with fail
 clear a0
 have ax:=(X5z HCM.out HPV.out HST.out hF2.1).c67
 by_cases hl:1000<n1
 ·have hlt:(1000:Int)<(n1:Int):=by omega
  have HPP2:Hid (payP ⟨13,nu,no,pv,st,hs,hd,tx,bl⟩=([],1)):=Lib.hid (by show(if 1000<hs.length then _ else _)=_;rw[if_pos (by have:=HN1.out;omega)])
  clear hl nr hnap
  go_wp2_with fail
  go_ret2
  rw[HPP2.out]
  exact⟨_,rfl,Own8.nil _ _,hF2.2⟩
 have hlt:¬(1000:Int)<(n1:Int):=by omega
 have HLIM:Hid (hs.length≤1000):=Lib.hid (by have:=HN1.out;omega)
 clear hl nr hnap
 have HPP3:Hid (payP ⟨13,nu,no,pv,st,hs,hd,tx,bl⟩=(hshB wantB hs,0)):=Lib.hid (by show(if 1000<hs.length then _ else _)=_;exact if_neg (by have:=HLIM.out;omega))
 have hnb:=Q1z W2 (.cells (wantB.map u8).toArray 5)
 have hol:=Zdz W2 W2.heap.size 4 wantB (Nat.le_refl _) rfl (by unfold maxLen;omega)
 obtain⟨Ww,hWw⟩:∃W,W=W2.alloc (.cells (wantB.map u8).toArray 5):=⟨_,rfl⟩
 obtain⟨gw,hgw⟩:∃W,W=W2.heap.size:=⟨_,rfl⟩
 rw[←hWw]at hnb hol
 have hFw:=hF2.fut hnb
 have hlw:gw<Ww.heap.size:=by rw[hgw,hWw,World.size_alloc];exact Nat.lt_succ_self _
 have hrow:=(AheadB.own hol).1
 rw[←hgw]at hrow
 have HWh:=Lib.hid hWw
 have HGh:=Lib.hid hgw
 have hWw2:W2.alloc (.cells #[.int .u8 2,.int .u8 0,.int .u8 0,.int .u8 64] 5)=Ww:=hWw.symm
 have hgw2:W2.heap.size=gw:=hgw.symm
 clear hol hnb hWw hgw
 have hcall:=rHashes_any p1 n1 c1 hs (some ⟨gw,0,none⟩) 4 4 wantB Ww (HH.out.fut Z3z hFw.2) (by have:=HLIM.out;have:=HN1.out;omega) hrow rfl (by decide) (fun _ x hx=>by injection hx with hx;subst hx;exact hlw)
 go_wp2_with fail
 refine hcall.mono ?_
 rintro e W3 ⟨v3,rfl,ho3,hb3⟩
 have hF3:=hFw.fut hb3
 have hO3:=Own8.mono' ho3 hFw.2.size
 clear ho3 hb3 hWw2 hgw2 hcall ax
 go_wp2_with fail
 go_ret2
 rw[HPP3.out]
 exact⟨_,rfl,hO3,hF3.2⟩
theorem pay_r12 (nu:BitVec 32) (no:BitVec 64) (pv st:Bs) (hs:List Bs) (hd:List Hdr) (tx:Bs) (bl:TBlk) (cs:List Value) (w:World) (hc:MsgC w ⟨12,nu,no,pv,st,hs,hd,tx,bl⟩ cs):
 Calls Tryz.prog 37 #[.agg cs.toArray] w (OutB w (payP ⟨12,nu,no,pv,st,hs,hd,tx,bl⟩)):=by
 have HPP:Hid (payP ⟨12,nu,no,pv,st,hs,hd,tx,bl⟩=payP ⟨12,nu,no,pv,st,hs,hd,tx,bl⟩):=Lib.hid rfl
 have HC:=Lib.hid hc
 obtain⟨hv,dv,bv,bc,hcs,hpv,hst,hh,hdd,hb,hbl⟩:=hc
 obtain⟨p1,n1,c1,rfl⟩:=hh.opens
 obtain⟨p2,n2,c2,rfl⟩:=hdd.opens
 obtain⟨p3,n3,c3,rfl⟩:=hb.opens
 obtain⟨zm,hzm⟩:∃z,z=w.heap.size:=⟨_,rfl⟩
 obtain⟨C,hC⟩:∃C,C=cs.toArray:=⟨_,rfl⟩
 obtain⟨W1,hW1⟩:∃W,W=w.alloc (.cells cs.toArray 41):=⟨_,rfl⟩
 have hF1:PSt w zm C W1:=⟨by rw[hW1,hzm,hC];exact Blk.new w _ _,by rw[hW1];exact Q1z w _⟩
 have HCM:Hid (C=(Q8z (.int .i64 12) (u32 nu) (u64 no) pv st (.slice p1 n1 c1) (.slice p2 n2 c2) (.slice p3 n3 c3) bc).toArray):=Lib.hid (by rw[hC,hcs])
 have HCS:Hid (C=cs.toArray):=Lib.hid hC
 have HPV:=Lib.hid hpv
 have HST:=Lib.hid hst
 have HN1:Hid (hs.length=n1):=Lib.hid hh.slen.1
 have HN2:Hid (hd.length=n2):=Lib.hid hdd.slen.1
 have HN3:Hid (tx.length=n3):=Lib.hid hb.slen.1
 have HH:=Lib.hid hh
 have HD:=Lib.hid hdd
 have HBT:=Lib.hid hb
 have HBK:=Lib.hid hbl
 have a2:=((show Blk W1 zm 41 _ from HCM.out▸hF1.1).msg hpv hst).c2
 clear hcs hpv hst hh hdd hb hbl hC
 go_enter Tryz.func37,Tryz.ntmps37
 go_upto_region 1 with fail
 rw[←hW1,← hzm]
 clear hW1 hzm
 go_wp2_with fail
 refine(QFz no 8 (by omega) W1).mono ?_
 rintro e W2 ⟨vno,rfl,hno,hbno⟩
 obtain⟨pno,mno,cno,rfl,hmno,_⟩:=hno.open
 have hF2:=hF1.fut hbno
 have hnap:=RowAp.of hno hF1.1
 have nr:=Own8.mono' hno hF1.2.size
 have a0:=((show Blk W2 zm 41 _ from HCM.out▸hF2.1).msg HPV.out HST.out).c0
 clear hno hbno hF1 a2
 go_upto_region 3 with fail
 clear a0
 have HPP3:Hid (payP ⟨12,nu,no,pv,st,hs,hd,tx,bl⟩=blkP bl):=Lib.hid rfl
 have ab:=(X5z HCM.out HPV.out HST.out hF2.1).rb
 have hbe:=refBlkEncode_any bl bc W2 (blkC_keeps _ _ _ _ HBK.out hF2.2)
 have HBL:=Lib.hid HBK.out.len
 clear nr hnap
 go_wp2_with((with_reducible refine wpList_load_mid (op:=⟨some 129,_,_,_,_,_⟩) ?_ 39 (.tmp 128) ?_ (zm) (70) ?_ (bc) _ (ab) Tryz.underlying39 ?_ ?_ ?_
              ·rfl
              ·rfl
              ·rfl
              ·rfl
              ·exact((QSz HBL.out))))
 refine hbe.mono ?_
 rintro e W3 ⟨v3,rfl,ho3,hb3⟩
 have hF3:=hF2.fut hb3
 have hO3:=Own8.mono' ho3 hF2.2.size
 clear ho3 hb3 hbe ab
 go_wp2_with fail
 go_ret2
 rw[HPP3.out]
 exact⟨_,rfl,hO3,hF3.2⟩
theorem pay_r1 (nu:BitVec 32) (no:BitVec 64) (pv st:Bs) (hs:List Bs) (hd:List Hdr) (tx:Bs) (bl:TBlk) (cs:List Value) (w:World) (hc:MsgC w ⟨1,nu,no,pv,st,hs,hd,tx,bl⟩ cs):
 Calls Tryz.prog 37 #[.agg cs.toArray] w (OutB w (payP ⟨1,nu,no,pv,st,hs,hd,tx,bl⟩)):=by
 have HPP:Hid (payP ⟨1,nu,no,pv,st,hs,hd,tx,bl⟩=payP ⟨1,nu,no,pv,st,hs,hd,tx,bl⟩):=Lib.hid rfl
 have HC:=Lib.hid hc
 obtain⟨hv,dv,bv,bc,hcs,hpv,hst,hh,hdd,hb,hbl⟩:=hc
 obtain⟨p1,n1,c1,rfl⟩:=hh.opens
 obtain⟨p2,n2,c2,rfl⟩:=hdd.opens
 obtain⟨p3,n3,c3,rfl⟩:=hb.opens
 obtain⟨zm,hzm⟩:∃z,z=w.heap.size:=⟨_,rfl⟩
 obtain⟨C,hC⟩:∃C,C=cs.toArray:=⟨_,rfl⟩
 obtain⟨W1,hW1⟩:∃W,W=w.alloc (.cells cs.toArray 41):=⟨_,rfl⟩
 have hF1:PSt w zm C W1:=⟨by rw[hW1,hzm,hC];exact Blk.new w _ _,by rw[hW1];exact Q1z w _⟩
 have HCM:Hid (C=(Q8z (.int .i64 1) (u32 nu) (u64 no) pv st (.slice p1 n1 c1) (.slice p2 n2 c2) (.slice p3 n3 c3) bc).toArray):=Lib.hid (by rw[hC,hcs])
 have HCS:Hid (C=cs.toArray):=Lib.hid hC
 have HPV:=Lib.hid hpv
 have HST:=Lib.hid hst
 have HN1:Hid (hs.length=n1):=Lib.hid hh.slen.1
 have HN2:Hid (hd.length=n2):=Lib.hid hdd.slen.1
 have HN3:Hid (tx.length=n3):=Lib.hid hb.slen.1
 have HH:=Lib.hid hh
 have HD:=Lib.hid hdd
 have HBT:=Lib.hid hb
 have HBK:=Lib.hid hbl
 have a2:=((show Blk W1 zm 41 _ from HCM.out▸hF1.1).msg hpv hst).c2
 clear hcs hpv hst hh hdd hb hbl hC
 go_enter Tryz.func37,Tryz.ntmps37
 go_upto_region 1 with fail
 rw[←hW1,← hzm]
 clear hW1 hzm
 go_wp2_with fail
 refine(QFz no 8 (by omega) W1).mono ?_
 rintro e W2 ⟨vno,rfl,hno,hbno⟩
 obtain⟨pno,mno,cno,rfl,hmno,_⟩:=hno.open
 have hF2:=hF1.fut hbno
 have hnap:=RowAp.of hno hF1.1
 have nr:=Own8.mono' hno hF1.2.size
 have a0:=((show Blk W2 zm 41 _ from HCM.out▸hF2.1).msg HPV.out HST.out).c0
 clear hno hbno hF1 a2
 go_upto_region 3 with fail
 clear a0
 have HPP3:Hid (payP ⟨1,nu,no,pv,st,hs,hd,tx,bl⟩=(low (nu.setWidth 64) 4++(nulls 68++(low no 8++nulls 5)),0)):=Lib.hid rfl
 have a1:=(X5z HCM.out HPV.out HST.out hF2.1).c1
 clear nr
 go_wp2_with fail
 refine(low4_any nu W2).mono ?_
 rintro e W3 ⟨v3,rfl,ho3,hb3⟩
 replace ho3:Own8 W3 W2.heap.size v3 (low (nu.setWidth 64) 4):=ho3
 obtain⟨p3',m3',c3',rfl,_⟩:=ho3.open
 have hN3:=ahead_old hnap ho3 hb3
 have hF3:=hF2.fut hb3
 have hO3:=Own8.mono' ho3 hF2.2.size
 clear ho3 hb3 hF2 hnap a1
 go_upto_region 5 with(
  refine wp_appendZ (o:=⟨some 19,_,_,_,_,_⟩) ?_ (.tmp 18) (.const (.int .i64 68)) ?_ w.heap.size _ (low (nu.setWidth 64) 4) ?_ hO3 68 ?_ ?_ ?_ hF3.2.size ?_
  ·rfl
  ·rfl
  ·rfl
  ·rfl
  ·omega
  ·rw[Qez];omega
  intro v4 W4 ho4 hg4 hk4
  obtain⟨q4,m4,c4,rfl,_⟩:=ho4.open
  have hF4:=hF3.app hO3 hg4
  have hN4:=hN3.app hg4 hk4
  clear hF3 hN3 hO3 hg4 hk4)
 go_wp2_with(first
  |(refine Qaz (o:=⟨some 22,_,_,_,_,_⟩) ?_ (.tmp 20) (.tmp 21) ?_ w.heap.size _ (low (nu.setWidth 64) 4++nulls 68) ?_ ho4 pno mno cno (low no 8) ?_ hmno.out hN4.1 ?_ hF4.2.size w.heap.size W4 (Below.refl _ _) ?_ ?_
    ·rfl
    ·rfl
    ·rfl
    ·rfl
    ·rw[List.length_append,Qez,Qez,nulls_len];omega
    ·exact Nat.le_refl _
    intro v5 W5 ho5 _ hg5 hk5
    obtain⟨q5,m5,c5,rfl,_⟩:=ho5.open
    have hF5:=hF4.app ho4 hg5
    have hnb:=Q1z W5 (.cells (([0#8,0#8,0#8,0#8,0#8]:Bs).map u8).toArray 5)
    have hF6:=hF5.fut hnb
    have hO6:=ho5.fut hnb
    have hL6:=ahead_newB (g:=zm) (bs:=[0#8,0#8,0#8,0#8,0#8]) ho5 hF5.1.lt
    clear hF4 hN4 ho4 hg5 hk5 hnb hF5 ho5)
  |(refine Qaz (o:=⟨some 24,_,_,_,_,_⟩) ?_ (.tmp 22) (.tmp 23) ?_ w.heap.size _ (low (nu.setWidth 64) 4++nulls 68++low no 8) ?_ hO6 (some ⟨W5.heap.size,0,none⟩) 5 5 [0#8,0#8,0#8,0#8,0#8] ?_ ?_ hL6.1 ?_ hF6.2.size w.heap.size _ (Below.refl _ _) ?_ ?_
    ·rfl
    ·rfl
    ·rfl
    ·rfl
    ·rfl
    ·rw[List.length_append,List.length_append,Qez,Qez,nulls_len];simp only[List.length_cons,List.length_nil];omega
    ·exact Nat.le_refl _
    intro v7 W7 ho7 _ hg7 hk7
    have hF7:=hF6.app hO6 hg7
    clear hF6 hO6 hL6 hg7 hk7))
 go_ret2
 rw[HPP3.out]
 exact⟨_,rfl,by show Own8 _ _ v7 _;have h:=ho7;rw[List.append_assoc,List.append_assoc]at h;exact h,hF7.2⟩
theorem pay_r6 (nu:BitVec 32) (no:BitVec 64) (pv st:Bs) (hs:List Bs) (hd:List Hdr) (tx:Bs) (bl:TBlk) (cs:List Value) (w:World) (hc:MsgC w ⟨6,nu,no,pv,st,hs,hd,tx,bl⟩ cs):
 Calls Tryz.prog 37 #[.agg cs.toArray] w (OutB w (payP ⟨6,nu,no,pv,st,hs,hd,tx,bl⟩)):=by
 have HPP:Hid (payP ⟨6,nu,no,pv,st,hs,hd,tx,bl⟩=payP ⟨6,nu,no,pv,st,hs,hd,tx,bl⟩):=Lib.hid rfl
 have HC:=Lib.hid hc
 obtain⟨hv,dv,bv,bc,hcs,hpv,hst,hh,hdd,hb,hbl⟩:=hc
 obtain⟨p1,n1,c1,rfl⟩:=hh.opens
 obtain⟨p2,n2,c2,rfl⟩:=hdd.opens
 obtain⟨p3,n3,c3,rfl⟩:=hb.opens
 obtain⟨zm,hzm⟩:∃z,z=w.heap.size:=⟨_,rfl⟩
 obtain⟨C,hC⟩:∃C,C=cs.toArray:=⟨_,rfl⟩
 obtain⟨W1,hW1⟩:∃W,W=w.alloc (.cells cs.toArray 41):=⟨_,rfl⟩
 have hF1:PSt w zm C W1:=⟨by rw[hW1,hzm,hC];exact Blk.new w _ _,by rw[hW1];exact Q1z w _⟩
 have HCM:Hid (C=(Q8z (.int .i64 6) (u32 nu) (u64 no) pv st (.slice p1 n1 c1) (.slice p2 n2 c2) (.slice p3 n3 c3) bc).toArray):=Lib.hid (by rw[hC,hcs])
 have HCS:Hid (C=cs.toArray):=Lib.hid hC
 have HPV:=Lib.hid hpv
 have HST:=Lib.hid hst
 have HN1:Hid (hs.length=n1):=Lib.hid hh.slen.1
 have HN2:Hid (hd.length=n2):=Lib.hid hdd.slen.1
 have HN3:Hid (tx.length=n3):=Lib.hid hb.slen.1
 have HH:=Lib.hid hh
 have HD:=Lib.hid hdd
 have HBT:=Lib.hid hb
 have HBK:=Lib.hid hbl
 have a2:=((show Blk W1 zm 41 _ from HCM.out▸hF1.1).msg hpv hst).c2
 clear hcs hpv hst hh hdd hb hbl hC
 go_enter Tryz.func37,Tryz.ntmps37
 go_upto_region 1 with fail
 rw[←hW1,← hzm]
 clear hW1 hzm
 go_wp2_with fail
 refine(QFz no 8 (by omega) W1).mono ?_
 rintro e W2 ⟨vno,rfl,hno,hbno⟩
 obtain⟨pno,mno,cno,rfl,hmno,_⟩:=hno.open
 have hF2:=hF1.fut hbno
 have hnap:=RowAp.of hno hF1.1
 have nr:=Own8.mono' hno hF1.2.size
 have a0:=((show Blk W2 zm 41 _ from HCM.out▸hF2.1).msg HPV.out HST.out).c0
 clear hno hbno hF1 a2
 go_upto_region 3 with fail
 clear a0
 have ax:=(X5z HCM.out HPV.out HST.out hF2.1).c68
 by_cases hl:100<n2
 ·have hlt:(100:Int)<(n2:Int):=by omega
  have HPP2:Hid (payP ⟨6,nu,no,pv,st,hs,hd,tx,bl⟩=([],1)):=Lib.hid (by show(if 100<hd.length then _ else _)=_;rw[if_pos (by have:=HN2.out;omega)])
  clear hl nr hnap
  go_wp2_with fail
  go_ret2
  rw[HPP2.out]
  exact⟨_,rfl,Own8.nil _ _,hF2.2⟩
 have hlt:¬(100:Int)<(n2:Int):=by omega
 have HLIM:Hid (hd.length≤100):=Lib.hid (by have:=HN2.out;omega)
 clear hl nr hnap
 have HPP3:Hid (payP ⟨6,nu,no,pv,st,hs,hd,tx,bl⟩=(hdsB hd,0)):=Lib.hid (by show(if 100<hd.length then _ else _)=_;exact if_neg (by have:=HLIM.out;omega))
 have hiv:IntKind.u64.wrap (n2:Int)=(n2:Int):=by rw[IntKind.wrap_u64];have:=HN2.out;have:=HLIM.out;omega
 have hn2:n2≤100:=by have:=HN2.out;have:=HLIM.out;omega
 go_wp2_with fail
 refine(rcnt_any n2 (by omega) W2).mono ?_
 rintro e W3 ⟨v3,rfl,ho3,hb3⟩
 replace ho3:Own8 W3 W2.heap.size v3 (cntB n2):=ho3
 obtain⟨q3,m3',c3',rfl,_⟩:=ho3.open
 have hF3:=hF2.fut hb3
 have HI0:Hid (Own8 W3 w.heap.size (.slice q3 m3' c3') (cntB n2++preL (fun h:Hdr=>h.bytes++[0#8]) hd 0)):=Lib.hid (by rw[show preL (fun h:Hdr=>h.bytes++[0#8]) hd 0=[]from rfl,List.append_nil];exact Own8.mono' ho3 hF2.2.size)
 have HF3:=Lib.hid hF3
 have HOKS:Hid (∀x∈hd,Hdr.ok x):=Lib.hid HC.out.okMsg.2.2.2.1
 have a68:=(X5z HCM.out HPV.out HST.out hF3.1).c68
 have hzh:=zeroHdr
 clear ho3 hb3 hF2 ax hiv hF3
 go_wp2_with fail
 go_loopw[6,61] (fun b i wr=>∃(k:Nat) (q:Option Addr) (m c:Nat),k≤n2∧i= .int .i64 k∧b= .slice q m c∧Hid (Own8 wr w.heap.size (.slice q m c) (cntB n2++preL (fun h:Hdr=>h.bytes++[0#8]) hd k))∧Hid (PSt w zm C wr)) (fun _ i _=>n2-(intOf i).toNat)
 case atStart=>exact⟨0,_,_,_,by omega,rfl,rfl,HI0,HF3⟩
 case round=>
  obtain⟨k,q,m,c,hk,rfl,rfl,HOk,HFk⟩:=hrel
  clear HI0 HF3 a68
  by_cases hkm:k<n2
  ·have hlt:(k:Int)<(n2:Int):=by omega
   obtain⟨bb,off,cs2,h,rfl,hx,hE,l2⟩:=HD.out.at HFk.out.2 hkm
   obtain⟨rfl,hok⟩:=hE
   have HX:=Lib.hid hx
   have HOKH:=Lib.hid hok
   have hone:=Hdr.cells_one h
   have hsz:=Hdr.cells_size hok
   have hns:noHdr.cells.toArray.size=h.cells.toArray.size:=by rw[hsz];exact Hdr.cells_size QGz
   have hbn:=Q1z wr (.cells noHdr.cells.toArray 36)
   have HPL:Hid ((preL (fun h:Hdr=>h.bytes++[0#8]) hd k).length≤100*81):=Lib.hid (preL_len _ hd k 81 100 (fun x hx=>by rw[List.length_append,Hdr.bytes_len (HOKS.out x hx)];decide) HLIM.out)
   have HCL2:Hid ((cntB n2).length≤9):=Lib.hid (QXz n2)
   have HBL:Hid (h.bytes.length=80):=Lib.hid (Hdr.bytes_len hok)
   clear hx hok hsz
   go_upto_region 22 with(first
    |(with_reducible refine wpList_load_mid (op:=⟨some 64,_,_,_,_,_⟩) ?_ 36 (.tmp 63) ?_ (bb) (off+k*68) ?_ (h.cells) _ (l2) Tryz.underlying36 ?_ ?_ ?_
      ·rfl
      ·rfl
      ·rfl
      ·rfl
      ·exact(XWz HOKH.out))
    |(with_reducible refine Q4z (o:=⟨none,_,_,_,_,_⟩) ?_ 36 (.tmp 8) (.tmp 64) ?_ (wr.heap.size) 36 (noHdr.cells.toArray) (h.cells.toArray) ?_ ?_ (Blk.new wr _ _) ?_ ?_ ?_ (wr.heap.size) (wr) ?_ ?_ ?_
      ·rfl
      ·rfl
      ·rfl
      ·rfl
      ·exact(by rw[List.size_toArray];exact XWz HOKH.out)
      ·exact(hns)
      ·exact(hone)
      ·exact(hbn)
      ·exact(Nat.le_refl _)
      intro w6 hB6 hb6 hg6 hs6))
   try simp only[Qpz]
   obtain⟨z,hz6⟩:∃z,z=wr.heap.size:=⟨_,rfl⟩
   have hF6:=HFk.out.fut hb6
   have hO6:=HOk.out.fut hb6
   have l6:w6.rangeAt z 0 h.cells:=by rw[hz6];exact Qfz hB6.out
   rw[←hz6]
   clear HOk HFk hb6 hg6 hs6 hB6 hbn hz6 l2 hone hns hzh
   have henc:=refHdrEncode_any h HOKH.out w6
   go_wp2_with((with_reducible refine wpList_load_mid (op:=⟨some 66,_,_,_,_,_⟩) ?_ 36 (.tmp 8) ?_ (z) (0) ?_ (h.cells) _ (l6) Tryz.underlying36 ?_ ?_ ?_
                ·rfl
                ·rfl
                ·rfl
                ·rfl
                ·exact(XWz HOKH.out)))
   refine henc.mono ?_
   rintro e w7 ⟨v7,rfl,ho7,hb7⟩
   replace ho7:Own8 w7 w6.heap.size v7 h.bytes:=ho7
   obtain⟨p7,m7,c7,rfl,hm7,_⟩:=ho7.open
   have hA7:=XUz hO6 hF6.1.lt ho7 hF6.1
   have hF7:=hF6.fut hb7
   have hO7:=hO6.fut hb7
   clear henc ho7 hb7 hF6 hO6 l6
   go_wp2_with(first
    |(refine Qaz (o:=⟨some 68,_,_,_,_,_⟩) ?_ (.tmp 65) (.tmp 67) ?_ w.heap.size _ (cntB n2++preL (fun h:Hdr=>h.bytes++[0#8]) hd k) ?_ hO7 p7 m7 c7 h.bytes ?_ hm7.out hA7.1 ?_ hF7.2.size w.heap.size w7 (Below.refl _ _) ?_ ?_
      ·rfl
      ·rfl
      ·rfl
      ·rfl
      ·rw[List.length_append];have:=HPL.out;have:=HCL2.out;have:=HBL.out;omega
      ·exact Nat.le_refl _
      intro v8 w8 ho8 _ hg8 hk8
      obtain⟨q8,m8,c8,rfl,_⟩:=ho8.open
      have hF8:=hF7.app hO7 hg8
      have hnb:=Q1z w8 (.cells (Q5z ([0#8]:Bs)).toArray 5)
      have hF9:=hF8.fut hnb
      have hO9:=ho8.fut hnb
      have hL9:Ahead zm (w8.alloc (.cells (Q5z ([0#8]:Bs)).toArray 5)) (some ⟨w8.heap.size,0,none⟩) [0#8] (.slice q8 m8 c8):=ahead_newB (g:=zm) (bs:=[0#8]) ho8 hF8.1.lt
      clear hF7 hA7 hO7 hg8 hk8 hnb hF8 ho8)
    |(refine Qaz (o:=⟨some 70,_,_,_,_,_⟩) ?_ (.tmp 68) (.tmp 69) ?_ w.heap.size _ (cntB n2++preL (fun h:Hdr=>h.bytes++[0#8]) hd k++h.bytes) ?_ hO9 (some ⟨w8.heap.size,0,none⟩) 1 1 [0#8] ?_ ?_ hL9.1 ?_ hF9.2.size w.heap.size _ (Below.refl _ _) ?_ ?_
      ·rfl
      ·rfl
      ·rfl
      ·rfl
      ·rfl
      ·rw[List.length_append,List.length_append];simp only[List.length_cons,List.length_nil];have:=HPL.out;have:=HCL2.out;have:=HBL.out;omega
      ·exact Nat.le_refl _
      intro va wa hoa _ hga hka
      obtain⟨qa,ma,ca,rfl,_⟩:=hoa.open
      have HFa:=Lib.hid (hF9.app hO9 hga)
      have HOa:Hid (Own8 wa w.heap.size (.slice qa ma ca) (cntB n2++preL (fun h:Hdr=>h.bytes++[0#8]) hd (k+1))):=Lib.hid (by rw[preL_succ (fun h:Hdr=>h.bytes++[0#8]) hd k h HX.out,← List.append_assoc,← List.append_assoc];exact hoa)
      clear hF9 hO9 hL9 hga hka hoa))
   go_roundw
   case rel=>exact⟨k+1,_,_,_,by omega,by go_num,rfl,HOa,HFa⟩
   case measure=>simp[intOf];omega
  ·obtain rfl:k=n2:=by omega
   have hge:¬(k:Int)<(k:Int):=by omega
   have HO9:Hid (Own8 wr w.heap.size (.slice q m c) (hdsB hd)):=Lib.hid (by unfold hdsB;rw[HN2.out,← preL_all (fun h:Hdr=>h.bytes++[0#8]) hd k (by have:=HN2.out;omega)];exact HOk.out)
   clear hzh
   go_wp2_with fail
   go_ret2
   rw[HPP3.out]
   exact⟨_,rfl,HO9.out,HFk.out.2⟩
theorem pay_none (m:TMsg) (cs:List Value) (w:World) (hc:MsgC w m cs) (hk:¬(1≤m.k∧m.k≤13)):
 Calls Tryz.prog 37 #[.agg cs.toArray] w (OutB w (payP m)):=by
 have HPP:Hid (payP m=([],1)):=Lib.hid (by unfold payP;repeat rw[if_neg (by omega)])
 obtain⟨k,nu,no,pv,st,hs,hd,tx,bl⟩:=m
 simp only at hk
 have HC:=Lib.hid hc
 obtain⟨hv,dv,bv,bc,hcs,hpv,hst,hh,hdd,hb,hbl⟩:=hc
 obtain⟨p1,n1,c1,rfl⟩:=hh.opens
 obtain⟨p2,n2,c2,rfl⟩:=hdd.opens
 obtain⟨p3,n3,c3,rfl⟩:=hb.opens
 obtain⟨zm,hzm⟩:∃z,z=w.heap.size:=⟨_,rfl⟩
 obtain⟨C,hC⟩:∃C,C=cs.toArray:=⟨_,rfl⟩
 obtain⟨W1,hW1⟩:∃W,W=w.alloc (.cells cs.toArray 41):=⟨_,rfl⟩
 have hF1:PSt w zm C W1:=⟨by rw[hW1,hzm,hC];exact Blk.new w _ _,by rw[hW1];exact Q1z w _⟩
 have HCM:Hid (C=(Q8z (.int .i64 k) (u32 nu) (u64 no) pv st (.slice p1 n1 c1) (.slice p2 n2 c2) (.slice p3 n3 c3) bc).toArray):=Lib.hid (by rw[hC,hcs])
 have HCS:Hid (C=cs.toArray):=Lib.hid hC
 have HPV:=Lib.hid hpv
 have HST:=Lib.hid hst
 have HN1:Hid (hs.length=n1):=Lib.hid hh.slen.1
 have HN2:Hid (hd.length=n2):=Lib.hid hdd.slen.1
 have HN3:Hid (tx.length=n3):=Lib.hid hb.slen.1
 have HH:=Lib.hid hh
 have HD:=Lib.hid hdd
 have HBT:=Lib.hid hb
 have HBK:=Lib.hid hbl
 have a2:=((show Blk W1 zm 41 _ from HCM.out▸hF1.1).msg hpv hst).c2
 clear hcs hpv hst hh hdd hb hbl hC
 go_enter Tryz.func37,Tryz.ntmps37
 go_upto_region 1 with fail
 rw[←hW1,← hzm]
 clear hW1 hzm
 go_wp2_with fail
 refine(QFz no 8 (by omega) W1).mono ?_
 rintro e W2 ⟨vno,rfl,hno,hbno⟩
 obtain⟨pno,mno,cno,rfl,hmno,_⟩:=hno.open
 have hF2:=hF1.fut hbno
 have hnap:=RowAp.of hno hF1.1
 have nr:=Own8.mono' hno hF1.2.size
 have a0:=((show Blk W2 zm 41 _ from HCM.out▸hF2.1).msg HPV.out HST.out).c0
 clear hno hbno hF1 a2
 have f1:(k==1)=false:=by rw[beq_eq_false_iff_ne];omega
 have f2:(k==2)=false:=by rw[beq_eq_false_iff_ne];omega
 have f3:(k==3)=false:=by rw[beq_eq_false_iff_ne];omega
 have f4:(k==4)=false:=by rw[beq_eq_false_iff_ne];omega
 have f5:(k==5)=false:=by rw[beq_eq_false_iff_ne];omega
 have f6:(k==6)=false:=by rw[beq_eq_false_iff_ne];omega
 have f7:(k==7)=false:=by rw[beq_eq_false_iff_ne];omega
 have f8:(k==8)=false:=by rw[beq_eq_false_iff_ne];omega
 have f9:(k==9)=false:=by rw[beq_eq_false_iff_ne];omega
 have f10:(k==10)=false:=by rw[beq_eq_false_iff_ne];omega
 have f11:(k==11)=false:=by rw[beq_eq_false_iff_ne];omega
 have f12:(k==12)=false:=by rw[beq_eq_false_iff_ne];omega
 have f13:(k==13)=false:=by rw[beq_eq_false_iff_ne];omega
 clear nr hnap hk
 go_wp2_with fail
 go_ret2
 rw[HPP.out]
 exact⟨_,rfl,Own8.nil _ _,hF2.2⟩
theorem payload_any (m:TMsg) (cs:List Value) (w:World) (hc:MsgC w m cs):Calls Tryz.prog 37 #[.agg cs.toArray] w (OutB w (payP m)):=by
 by_cases hk:1≤m.k∧m.k≤13
 case neg=>exact pay_none m cs w hc hk
 obtain⟨k,nu,no,pv,st,hs,hd,tx,bl⟩:=m
 simp only at hk
 have:k=1∨k=2∨k=3∨k=4∨k=5∨k=6∨k=7∨k=8∨k=9∨k=10∨k=11∨k=12∨k=13:=by omega
 rcases this with rfl|rfl|rfl|rfl|rfl|rfl|rfl|rfl|rfl|rfl|rfl|rfl|rfl
 ·exact pay_r1 nu no pv st hs hd tx bl cs w hc
 ·exact pay_r2 nu no pv st hs hd tx bl cs w hc
 ·exact pay_r3 nu no pv st hs hd tx bl cs w hc
 ·exact pay_r4 nu no pv st hs hd tx bl cs w hc
 ·exact pay_r5 nu no pv st hs hd tx bl cs w hc
 ·exact pay_r6 nu no pv st hs hd tx bl cs w hc
 ·exact pay_r7 nu no pv st hs hd tx bl cs w hc
 ·exact pay_r8 nu no pv st hs hd tx bl cs w hc
 ·exact pay_r9 nu no pv st hs hd tx bl cs w hc
 ·exact pay_r10 nu no pv st hs hd tx bl cs w hc
 ·exact pay_r11 nu no pv st hs hd tx bl cs w hc
 ·exact pay_r12 nu no pv st hs hd tx bl cs w hc
 ·exact pay_r13 nu no pv st hs hd tx bl cs w hc
theorem built_frmE (s:ByteArray) (p:Option Addr) (n c:Nat):Tryz.prog.built 82 [(0,.string s),(1,.slice p n c)]=some #[.string s,.slice p n c]:=by kernel_rfl
theorem refMsgEncode_of (m:TMsg) (cs:List Value) (w:World) (hP:∀W,MsgC W m cs→Calls Tryz.prog 37 #[.agg cs.toArray] W (OutB W (payP m))) (hc:MsgC w m cs):Calls Tryz.prog 20 #[.agg cs.toArray] w (Z1z w (msgP m)):=by
 have HC:=Lib.hid hc
 have HCL:=Lib.hid hc.len
 have hzf:=yFrm
 obtain⟨zm,hzm⟩:∃z,z=w.heap.size:=⟨_,rfl⟩
 obtain⟨W1,hW1⟩:∃W,W=w.alloc (.cells cs.toArray 41):=⟨_,rfl⟩
 obtain⟨W2,hW2⟩:∃W,W=W1.alloc (.cells YFrm.toArray 82):=⟨_,rfl⟩
 have z1:W1.heap.size=zm+1:=by rw[hW1,World.size_alloc,hzm]
 have k1:Below w.heap.size w W1:=by rw[hW1];exact Q1z w _
 have k2:Below W1.heap.size W1 W2:=by rw[hW2];exact Q1z W1 _
 have hF2:PSt w zm cs.toArray W2:=⟨(show Blk W1 zm _ _ by rw[hW1,hzm];exact Blk.new w _ _).fut k2,Q3z k1 k2 (Nat.le_refl _)⟩
 obtain⟨z2,hz2⟩:∃z,z=zm+1:=⟨_,rfl⟩
 have hB2:Blk W2 z2 82 YFrm.toArray:=by rw[hW2,hz2,← z1];exact Blk.new W1 _ _
 have HZZ:Hid (zm=w.heap.size∧z2=zm+1):=Lib.hid ⟨hzm,hz2⟩
 have l1:=Qfz hF2.1
 have hcall:=hP W2 (Qhz _ _ _ _ hc hF2.2)
 obtain⟨x,hx⟩:∃x,x=payP m:=⟨_,rfl⟩
 rw[←hx]at hcall
 obtain⟨by_,er⟩:=x
 have HX:=Lib.hid hx.symm
 unfold OutB at hcall
 simp only at hcall
 have HF2:=Lib.hid hF2
 have HB2:=Lib.hid hB2
 clear k1 k2 z1 hx hF2 hB2 hc
 go_enter Tryz.func20,Tryz.ntmps20
 go_upto_region 1 with fail
 rw[←hW1,← hW2,← hzm,← hz2]
 clear hW1 hW2 hzm hz2 hzf
 go_wp2_with((with_reducible refine wpList_load_mid (op:=⟨some 7,_,_,_,_,_⟩) ?_ 41 (.tmp 1) ?_ (zm) (0) ?_ (cs) _ (l1) Tryz.underlying41 ?_ ?_ ?_
              ·rfl
              ·rfl
              ·rfl
              ·rfl
              ·exact((Qkz HCL.out))))
 refine hcall.mono ?_
 rintro e w3 ⟨v3,rfl,ho3,hb3⟩
 obtain⟨q3,m3,c3,rfl,_⟩:=ho3.open
 have HF3:=Lib.hid (HF2.out.fut hb3)
 have HB3:=Lib.hid (HB2.out.fut hb3)
 have HO3:=Lib.hid (Own8.mono' ho3 HF2.out.2.size)
 have hz2w:w.heap.size≤z2:=by have:=HZZ.out;omega
 clear hcall ho3 hb3 l1 HF2 HB2
 by_cases he:er=0
 case neg=>
  have hb1:(er==0)=false:=by rw[beq_eq_false_iff_ne];exact he
  have HMP:Hid (msgP m=([],[],er)):=Lib.hid (by unfold msgP;rw[HX.out,if_neg he])
  have hbr:=Below.refl w.heap.size w3
  have hbt:=built_frm0
  clear he
  go_wp2_with(first
   |(with_reducible refine Qjz (o:=⟨some 13,_,_,_,_,_⟩) ?_ 82 #[] ?_ [] ?_ YFrm.toArray hbt ?_
     ·rfl
     ·rfl
     ·rfl)
   |(with_reducible refine Q4z (o:=⟨none,_,_,_,_,_⟩) ?_ 82 (.tmp 2) (.tmp 13) ?_ (z2) 82 (YFrm.toArray) (YFrm.toArray) ?_ ?_ (HB3.out) ?_ ?_ ?_ (w.heap.size) (w3) ?_ ?_ ?_
     ·rfl
     ·rfl
     ·rfl
     ·rfl
     ·exact((by kernel_rfl))
     ·exact(rfl)
     ·exact((by rw[List.all_toArray];rfl))
     ·exact(hbr)
     ·exact(hz2w)
     intro wG hBG hbG hgG hsG))
  refine bodyPost_ret (Qoz rfl _ _ _ z2 _ YFrm _ rfl hBG.out Tryz.underlying82 rfl (by kernel_rfl)) rfl ?_
  rw[HMP.out]
  exact⟨_,rfl,Own8.nil _ _,HF3.out.2.trans hbG⟩
 subst he
 have hkr:=kind_le (m:=m) (by rw[HX.out])
 obtain⟨k,hk⟩:∃k:Nat,m.k=(k:Int)+1:=⟨(m.k-1).toNat,by omega⟩
 have hk13:k<13:=by omega
 have HMP:Hid (msgP m=(cmdN (k+1),by_,0)):=Lib.hid (by
  unfold msgP
  rw[HX.out,if_pos rfl]
  unfold cmdB
  rw[if_neg (by omega),hk]
  rfl)
 have a0:∀V,PSt w zm cs.toArray V→V.cell? ⟨zm,0,none⟩=some (.int .i64 ((k:Int)+1)):=fun V hV=>by
  obtain⟨hv,dv,bv,bc,hcs,hpv,hst,_⟩:=HC.out
  have h:=hV.1
  rw[hcs]at h
  rw[(h.msg hpv hst).c0,hk]
 have HA0:=Lib.hid a0
 clear a0 hk hkr
 go_upto_region 4 with fail
 have hFd:PSt w zm cs.toArray w3.drew:=HF3.out.fut (Q0z w3 1)
 refine XMz (.qs [1,2,3,6] (.o 0 (.qs [4,5,7] (.o 8 (.qs [9] (.done)))))) (PSt w zm cs.toArray) (by kernel_rfl) (by kernel_rfl) hFd ?_
 refine' Qxz (s:=23) (A1:=_) [1,2,3,6] [_,_,_,_] _ rfl rfl rfl (fun W hW=>?hq1) _ hFd (fun _=>?hr1)
 case hq1=>
  have e0:∀j,(W.drewN j).cell? ⟨zm,0,none⟩=some (.int .i64 ((k:Int)+1)):=fun j=>by have:=HA0.out W hW;simpa using this
  simp only[List.getElem_toArray,List.getElem_cons_zero,List.getElem_cons_succ]
  iterate 4 (go_big_quiet_step (fail))
  refine wpQuiet_nil ?_
  rfl
 case hr1=>
 refine Qvz rfl fun k1=>?_
 have hdr:Below w3.heap.size w3 (w3.drew.drewN k1):=Q7z (Below.refl _ _).drew k1
 have hFa:=HF3.out.fut hdr
 have HBa:=Lib.hid (HB3.out.fut hdr)
 have HOa:=Lib.hid (HO3.out.fut hdr)
 clear hdr hFd HF3 HB3 HO3
 generalize w3.drew.drewN k1=wa at*
 go_wp2_with fail
 refine(commands_any wa).mono ?_
 rintro e wb ⟨cb,rfl,hcb,hC,hb⟩
 have hFb:PSt w zm cs.toArray wb∧Blk wb cb 9 cmdVals13.toArray:=⟨hFa.fut hb,hC⟩
 have HBb:=Lib.hid (HBa.out.fut hb)
 have HOb:=Lib.hid (HOa.out.fut hb)
 clear hC hb HBa HOa hcb hFa
 go_wp2_with fail
 refine Q2z (Grows.more (fun V=>PSt w zm cs.toArray V∧Blk V cb 9 cmdVals13.toArray) (fun V h=>h.1) hFb ?_)
 refine' Qxz (s:=23) (A1:=_) [4,5,7] [_,_,_] _ rfl rfl rfl (fun W hW=>?hq2) _ hFb (fun _=>?hr2)
 case hq2=>
  have e1:∀j,(W.drewN j).cell? ⟨cb,k,none⟩=some (.string (strB (cmdN (k+1)))):=fun j=>by
   have h:=hW.2.cell k
   rw[List.getElem?_toArray,cmdVals13_at k hk13]at h
   simpa using h
  simp only[List.getElem_toArray,List.getElem_cons_zero,List.getElem_cons_succ]
  iterate 2 (go_big_quiet_step (fail))
  refine Xbz rfl 82 #[(0,.tmp 20),(1,.tmp 21)] rfl #[.string (strB (cmdN (k+1))),.slice q3 m3 c3] (by simp only[List.map_toArray,List.map_cons,List.map_nil];exact built_frmE _ _ _ _) ?_
  simp only[X4z,List.setIfInBounds_toArray,List.set_cons_succ,List.set_cons_zero]
  refine wpQuiet_nil ?_
  rfl
 case hr2=>
 refine Qvz rfl fun k2=>?_
 have hdr:=Q0z wb k2
 have hFc:PSt w zm cs.toArray (wb.drewN k2)∧Blk (wb.drewN k2) cb 9 cmdVals13.toArray:=⟨hFb.1.fut hdr,hFb.2.fut hdr⟩
 have HBc:=Lib.hid (HBb.out.fut hdr)
 have HOc:=Lib.hid (HOb.out.fut hdr)
 clear hdr hFb HBb HOb
 generalize wb.drewN k2=wc at*
 have hbr:=Below.refl w.heap.size wc
 refine Q4z (o:=⟨none,_,_,_,_,_⟩) rfl 82 (.tmp 2) (.tmp 22) rfl z2 82 YFrm.toArray #[.string (strB (cmdN (k+1))),.slice q3 m3 c3] rfl rfl HBc.out (by kernel_rfl) rfl (by rw[List.all_toArray];rfl) w.heap.size wc hbr hz2w ?_
 intro wd hBd hbd hgd hsd
 have hst:=Stays.of_grown (S:=fun k=>k=z2) hgd.out (fun k h=>by injection h with h;exact h.symm)
 have hFe:PSt w zm cs.toArray wd∧Blk wd cb 9 cmdVals13.toArray:=⟨⟨hFc.1.1.stays hst (by have:=HZZ.out;omega),hFc.1.2.trans hbd⟩,hFc.2.stays hst (fun e=>by have h:=hFc.2;have e':cb=z2:=e;rw[e']at h;exact absurd (h.inj HBc.out).1 (by decide))⟩
 have HOd:=Lib.hid (HOc.out.sep hst (Qiz HBc.out (by decide)))
 go_wp2_with fail
 refine Q2z (Grows.same hFe ?_)
 refine' Qxz (s:=23) (A1:=_) [9] [_] _ rfl rfl rfl (fun W hW=>?hq3) _ hFe (fun _=>?hr3)
 case hq3=>
  simp only[List.getElem_toArray,List.getElem_cons_zero,List.getElem_cons_succ]
  iterate 1 (go_big_quiet_step (fail))
  refine wpQuiet_nil ?_
  rfl
 case hr3=>
 refine XBz fun k9=>NoPanic.normal ?_
 have hdr:=Q0z wd k9
 have hBz:=hBd.out.fut hdr
 have HOe:=Lib.hid (HOd.out.fut hdr)
 have HFe:=Lib.hid (hFe.1.fut hdr)
 clear hdr hst hbr hBd hbd hgd hsd hFc hFe HBc HOc HOd
 generalize wd.drewN k9=we at*
 go_wp2_with fail
 refine bodyPost_ret (Qoz rfl _ _ _ z2 _ [.string (strB (cmdN (k+1))),.slice q3 m3 c3] _ rfl hBz Tryz.underlying82 rfl (by kernel_rfl)) rfl ?_
 rw[HMP.out]
 exact⟨_,rfl,HOe.out,HFe.out.2⟩
theorem refMsgEncode_any (m:TMsg) (cs:List Value) (w:World) (hc:MsgC w m cs):Calls Tryz.prog 20 #[.agg cs.toArray] w (Z1z w (msgP m)):=refMsgEncode_of m cs w (fun W h=>payload_any m cs W h) hc
end Go.Proofs.YtjbijcjcejfpcaaGreatDoor
