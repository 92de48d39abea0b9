/- sporranlaw20.greeted: a session that is ready; the walk. · A session that asked: -/
import Derived.Test.YtjbijcjcejfpcaaGreatDoorZSesE
import Derived.Test.YtjbijcjcejfpcaaGreatDoorZSesH
import Derived.Test.YtjbijcjcejfpcaaGreatDoorZGM
namespace Go.Proofs.YtjbijcjcejfpcaaGreatDoor
set_option linter.unusedVariables false
set_option maxRecDepth 100000
set_option maxHeartbeats 16000000
section
open Go Go.RowKit
theorem built_g (k:Int):Tryz.prog.built 41 [(0,.int .i64 k)]=some (msgK k 0#32 0#64).toArray:=by kernel_rfl
def Ev.b (e:Ev):Bs:=X2z e.f.1 e.f.2
theorem Ev.cmd (e:Ev):cmdOk e.f.1=true:=by
 cases e with
 |ver nu no=>exact(show cmdOk (cmdB 1)=true by decide)
 |ack=>exact(show cmdOk (cmdB 2)=true by decide)
 |ping no=>exact(show cmdOk (cmdB 3)=true by decide)
theorem Ev.bytes (e:Ev):QKz e.m=(e.b,0):=bytes_good e.pay (by have:=e.len;exact Nat.le_trans this (by decide)) e.cmd
theorem Ev.b_len (e:Ev):24≤e.b.length∧e.b.length≤109:=by
 unfold Ev.b
 rw[frmOut_len _ (cmdOk_len e.cmd)]
 have:=e.len
 omega
theorem Ev.all (e:Ev) (r:Bs):X7z (e.b++r)=(e.f ::(X7z r).1,(X7z r).2):=frmAll_out e.cmd (by have:=e.len;omega) r
theorem Ev.ref (e:Ev) (cs:List Value) (W:World) (hm:MsgC W e.m cs):Calls Tryz.prog 9 #[.agg cs.toArray] W (OutSl W (e.b,0)):=by
 have h:=Zcz cs e.m W (fun V hv=>refMsgEncode_of e.m cs V (fun W2 h2=>by
  cases e with
  |ver nu no=>exact pay_r1 nu no noHash noHash [] [] [] noBlk cs W2 h2
  |ack=>exact pay_r2 0#32 0#64 noHash noHash [] [] [] noBlk cs W2 h2
  |ping no=>exact pay_r3 0#32 no noHash noHash [] [] [] noBlk cs W2 h2) hv) hm
 rw[e.bytes]at h
 exact h
theorem OutSl.sl {w w':World} {bs:Bs} {e:Ending} (h:OutSl w (bs,0) e w') (hne:bs≠[]):∃v,e= .returned (.tuple #[v,.int .i64 0])∧Sl8 w' w.heap.size v bs∧Below w.heap.size w w':=by
 obtain⟨v,h1,h2|⟨_,h2⟩,h3⟩:=h
 ·exact⟨v,h1,h2,h3⟩
 ·exact absurd h2 hne
theorem Sl8.blk {w:World} {B:Nat} {v:Value} {bs:Bs} (h:Sl8 w B v bs) (p:Option Addr) (n c:Nat) (e:v= .slice p n c) (a:Addr) (ha:p=some a):B≤a.block∧a.block<w.heap.size:=by
 obtain⟨g,cap,rfl,h1,h2,_⟩:=h
 injection e with e1
 rw[ha]at e1
 injection e1 with e1
 rw[←e1]
 exact⟨h1,h2⟩
theorem Ev.b_ne (e:Ev):e.b≠[]:=fun h=>by have:=e.b_len;rw[h]at this;simp at this
theorem ack_short:Ev.ack.b=QHz 2 0#64:=by rw[short2];rfl
theorem hello_len (no:BitVec 64):(helloB no).length=109:=by
 unfold helloB
 rw[bytes_good (m:=tK 1 70015#32 no) rfl (by show(le32 70015#32++(nulls 68++(low no 8++nulls 5))).length≤200000;simp[Qez,le32,nulls]) (show cmdOk (cmdB 1)=true by decide)]
 show(X2z (cmdB 1) (le32 70015#32++(nulls 68++(low no 8++nulls 5)))).length=109
 rw[frmOut_len _ (by decide)]
 simp[Qez,le32,nulls]
def ReadyAt (B:Nat) (w:World) (g rv:Nat) (no:BitVec 64) (dn:Int):Prop:=
 SesB w g no rv dn 2 0 true true none∧(∃v,Rd w rv v 0∧Sfx8 w B v [])∧B≤rv∧B≤g
theorem greet_run:runS ⟨false,false⟩ [(Ev.ver 0#32 0#64).f,Ev.ack.f]=some (⟨true,true⟩,QHz 2 0#64):=by
 rw[run_ver,if_neg (by decide),run_ack,if_neg (by decide)]
 show(some ((⟨true,true⟩:Gr),([]:Bs))).map _=_
 simp
theorem greet_all:feedP [] 0 ((Ev.ver 0#32 0#64).b++Ev.ack.b)=([(Ev.ver 0#32 0#64).f,Ev.ack.f],[],0):=by
 unfold feedP
 rw[if_pos rfl,List.nil_append,Ev.all]
 have h:=Ev.ack.all []
 rw[List.append_nil,frmAll_nil]at h
 rw[h]
theorem greeted_any (w:World) (hK:Laid w):Calls Tryz.prog 8 #[] w fun e w'=>∃g rv,e= .returned (.pointer (some ⟨g,0,none⟩))∧ReadyAt w.heap.size w' g rv 5#64 1∧Below w.heap.size w w':=by
 have hnew:Calls Tryz.prog 19 #[.int .u64 5] w fun e w'=>∃g,e= .returned (.pointer (some ⟨g,0,none⟩))∧w.heap.size<g∧
  Blk w' w.heap.size 113 #[.slice none 0 0,.bool true,.int .i64 0]∧Blk w' g 77 (sesC 5#64 w.heap.size 0 0 0 false false none).toArray∧Below w.heap.size w w':=new_ses 5#64 w
 have HNEW:=Lib.hid hnew
 have HK:=Lib.hid hK
 have hKs:=hK.size
 clear hnew hK
 go_enter Tryz.func8,Tryz.ntmps8
 go_wp2_with fail
 refine HNEW.out.mono ?_
 rintro e w1 ⟨g,rfl,hg,hr1,hs1,hb1⟩
 obtain⟨rv,hrv⟩:∃rv,rv=w.heap.size:=⟨_,rfl⟩
 have HRV:=Lib.hid hrv
 rw[←hrv]at hg hr1 hs1
 have HR1:=Lib.hid hr1
 have HS1:Hid (SesB w1 g 5#64 rv 0 0 0 false false none):=Lib.hid hs1
 have HB1:=Lib.hid hb1
 have hbt1:=built_g 1
 obtain⟨M1,hM1⟩:∃M1,M1=(msgK 1 0#32 0#64).toArray:=⟨_,rfl⟩
 have hf1:=(Ev.ver 0#32 0#64).ref (msgK 1 0#32 0#64) w1 (msgK_o 0 w1 1 0#32 0#64).c
 rw[←hM1]at hbt1 hf1
 have HF1:=Lib.hid hf1
 clear hrv hr1 hs1 hb1 hM1 hf1 HNEW
 go_wp2_with((with_reducible refine Qjz (o:=⟨some 11,_,_,_,_,_⟩) ?_ 41 #[(0,.const (.int .i64 1))] ?_ [(0,.int .i64 1)] ?_ M1 hbt1 ?_
              ·rfl
              ·rfl
              ·rfl))
 refine HF1.out.mono ?_
 intro e w2 h2
 obtain⟨v2,rfl,hsl2,hb2⟩:=h2.sl (Ev.b_ne _)
 have HB2:=Lib.hid (Q3z HB1.out hb2 (Nat.le_refl _))
 have HR2:=Lib.hid (HR1.out.fut hb2)
 have HS2:Hid (SesB w2 g 5#64 rv 0 0 0 false false none):=Lib.hid (HS1.out.fut hb2)
 have HSL2:=Lib.hid hsl2
 have HG1:Hid (g<w1.heap.size∧rv<w1.heap.size):=Lib.hid ⟨HS1.out.lt,HR1.out.lt⟩
 have hw12:w1.heap.size≤w2.heap.size:=hb2.size
 have hbt2:=built_g 2
 obtain⟨M2,hM2⟩:∃M2,M2=(msgK 2 0#32 0#64).toArray:=⟨_,rfl⟩
 have hf2:=Ev.ack.ref (msgK 2 0#32 0#64) w2 (msgK_o 0 w2 2 0#32 0#64).c
 rw[←hM2]at hbt2 hf2
 have HF2:=Lib.hid hf2
 clear h2 hsl2 hb2 hM2 hf2 HF1 HB1 HR1 HS1 hbt1
 go_wp2_with((with_reducible refine Qjz (o:=⟨some 16,_,_,_,_,_⟩) ?_ 41 #[(0,.const (.int .i64 2))] ?_ [(0,.int .i64 2)] ?_ M2 hbt2 ?_
              ·rfl
              ·rfl
              ·rfl))
 refine HF2.out.mono ?_
 intro e w3 h3
 obtain⟨v3,rfl,hsl3,hb3⟩:=h3.sl (Ev.b_ne _)
 have HB3:=Lib.hid (Q3z HB2.out hb3 (Nat.le_refl _))
 have HR3:=Lib.hid (HR2.out.fut hb3)
 have HS3:Hid (SesB w3 g 5#64 rv 0 0 0 false false none):=Lib.hid (HS2.out.fut hb3)
 have hs2':=HSL2.out.fut hb3
 have hq3:=hsl3.blk
 obtain⟨q3,c3,rfl,hlc3,hr3⟩:=hsl3.row
 have HQ3:Hid (∀a,q3=some a→w2.heap.size≤a.block∧a.block<w3.heap.size):=Lib.hid (fun a ha=>hq3 _ _ _ rfl a ha)
 have HSLO:=Lib.hid HSL2.out
 obtain⟨VB,hVB⟩:∃VB,VB=(Ev.ver 0#32 0#64).b:=⟨_,rfl⟩
 obtain⟨AB,hAB⟩:∃AB,AB=Ev.ack.b:=⟨_,rfl⟩
 rw[←hVB]at hs2'
 rw[←hAB]at hr3 hlc3 ⊢
 have hVl:VB.length≤109:=by rw[hVB];exact(Ev.b_len _).2
 have hAl:AB.length≤109:=by rw[hAB];exact(Ev.b_len _).2
 have hAn:AB≠[]:=by rw[hAB];exact Ev.b_ne _
 obtain⟨al,hal⟩:∃al,al=AB.length:=⟨_,rfl⟩
 have HAL:=Lib.hid hal
 rw[←hal]at hlc3 ⊢
 have HVB:=Lib.hid hVB
 have HAB:=Lib.hid hAB
 have HR3b:=Lib.hid hr3
 have hw3:w1.heap.size≤w3.heap.size:=Nat.le_trans hw12 hb3.size
 clear h3 hsl3 hb3 hVB hAB hal hr3 HSL2 HF2 HB2 HR2 HS2 hbt2
 go_wp2_with(first
  |(with_reducible refine wp_sl8g (o:=⟨some 24,_,_,_,_,_⟩) ?_ (.tmp 22) (.tmp 23) ?_ w1.heap.size v2 VB ?_ hs2' q3 al c3 AB ?_ HAL.out.symm HR3b.out hAn ?_ hw3 ?_
    ·rfl
    ·rfl
    ·rfl
    ·rfl
    ·omega
    intro v4 w4 hs4 hb4 hg4))
 have hs5:SesB w4 g 5#64 rv 0 0 0 false false none:=Blk.below HS3.out hb4 HG1.out.1
 have hr5:Rd w4 rv (.slice none 0 0) 0:=Blk.below HR3.out hb4 HG1.out.2
 have hbw4:Below w.heap.size w w4:=HB3.out.trans (hb4.mono (by have:=HRV.out;have:=HG1.out;omega))
 obtain⟨q4,c4,rfl,hl4,hr4⟩:=hs4.row
 obtain⟨n4,hn4⟩:∃n4,n4=(VB++AB).length:=⟨_,rfl⟩
 have hn4':n4≤218:=by rw[hn4,List.length_append];omega
 have hall:feedP [] 0 (VB++AB)=([(Ev.ver 0#32 0#64).f,Ev.ack.f],[],0):=by rw[HVB.out,HAB.out];exact greet_all
 have hfd:=feed_small w.heap.size g rv (.slice none 0 0) [] (VB++AB) 0 q4 n4 c4 w4 5#64 0 ⟨false,false⟩ (HK.out.below hbw4 hKs) hKs ⟨by rw[HRV.out];exact Nat.le_refl _,by have:=HRV.out;omega⟩ hs5 hr5 (Sfx8.nil _ _) (fun h=>absurd rfl h) hr4 hn4.symm (by simp only[List.length_nil];omega) (by rw[hall];decide) (by
  rw[hall]
  exact⟨Ev.ver 0#32 0#64,rfl,fun _=>⟨Ev.ack,rfl,fun _=>trivial⟩⟩)
 rw[hall]at hfd
 replace hfd:Calls Tryz.prog 10 #[.pointer (some ⟨g,0,none⟩),.slice q4 n4 c4] w4 (FeedQ w.heap.size (.slice none 0 0) w4 g rv 5#64 0 ([(Ev.ver 0#32 0#64).f,Ev.ack.f],[],0) (runS ⟨false,false⟩ [(Ev.ver 0#32 0#64).f,Ev.ack.f])):=hfd
 rw[greet_run,← ack_short,← HAB.out]at hfd
 rw[←hn4]
 have HFD:=Lib.hid hfd
 have HBW4:=Lib.hid hbw4
 have HR3c:Hid (Row8 w4 q3 AB):=Lib.hid (HR3b.out.stays (Stays.of_grown (S:=fun k=>v2.ownBlock=some k) hg4 (fun k h=>h)) (fun _ a ha hS=>by
  have h1:=HQ3.out a ha
  obtain⟨gg,cc,e,_,h2,_⟩:=HSLO.out
  rw[e]at hS
  injection hS with hS
  simp only at hS
  omega))
 have HQ3b:=Lib.hid (fun a (ha:q3=some a)=>(show g<a.block∧rv<a.block∧a.block<w4.heap.size from by
  have h1:=HQ3.out a ha
  have h2:=HG1.out
  have h3:=hb4.size
  omega))
 clear hs5 hr5 hbw4 hr4 hn4 hall hfd hs4 hs2' HS3 HR3 HB3
 go_wp2_with fail
 refine HFD.out.mono ?_
 intro e w5 h5
 obtain⟨hb5,hst5,u5,v5,rfl,ho5,hs5,hr5,hv5⟩:=h5
 replace hs5:SesB w5 g 5#64 rv 0 2 0 true true none:=hs5
 replace hr5:Rd w5 rv v5 0:=hr5
 replace hv5:Sfx8 w5 w.heap.size v5 []:=hv5
 have HRB:Hid (Row8 w5 q3 AB):=Lib.hid (HR3c.out.stays hst5 (fun _ a ha hS=>by
  have h1:=HQ3b.out a ha
  rcases hS with h|h|h
  ·omega
  ·omega
  ·cases h))
 have hap5:u5.ownBlock≠some g:=Z9z ho5 hs5 (by decide)
 have HAP5:=Lib.hid hap5
 have HO5:=Lib.hid ho5
 obtain⟨q5,n5,c5,rfl,hn5,_,_,hr5b⟩:=ho5.open
 have HBW5:=Lib.hid (HBW4.out.trans hb5)
 have hh:=hello_first g 5#64 rv 2 0 true true none w5 (HK.out.below HBW5.out hKs) (by have:=HRV.out;omega) hs5
 have HH:=Lib.hid hh
 have HR5:=Lib.hid hr5
 have HV5:=Lib.hid hv5
 have HV5A:Hid (v5.ownBlock≠some g):=Lib.hid (hv5.apart hs5 (by decide))
 have HB5:=Lib.hid (fun(a:Addr) ha=>(show g<a.block from(HQ3b.out a ha).1))
 clear hh hs5 hr5 hv5 hr5b hb5 hst5 HFD HBW4 HR3c HQ3b hap5 ho5
 go_wp2_with fail
 refine HH.out.mono ?_
 rintro e w6 ⟨v6,rfl,ho6,hs6,hst6⟩
 obtain⟨q6,n6,c6,rfl,hn6,_,_,_⟩:=ho6.open
 have hn6':n6=109:=by rw[←hn6.out,hello_len]
 subst hn6'
 have ho5:=HO5.out.stays hst6 (fun k hk e=>HAP5.out (by rw[hk,show k=g from e]))
 obtain⟨q5',n5',c5',he5,hn5',_,_,hr5⟩:=ho5.open
 obtain⟨rfl,rfl,rfl⟩:q5=q5'∧n5=n5'∧c5=c5':=by injection he5 with a1 a2 a3;exact⟨a1,a2,a3⟩
 have hrb:=HRB.out.stays hst6 (fun _ a ha hS=>by have:=HB5.out a ha;have:a.block=g:=hS;omega)
 have HEQ:=Lib.hid (equal_same q5 q3 n5 c5 al c3 AB w6 hr5 hrb hn5.out HAL.out.symm)
 have HRY:=Lib.hid (ready_any g 5#64 rv 1 2 0 true true none w6 hs6)
 have HF:Hid (ReadyAt w.heap.size w6 g rv 5#64 1∧Below w.heap.size w w6):=Lib.hid ⟨⟨hs6,⟨v5,Blk.stays HR5.out hst6 (fun e=>by have:rv=g:=e;omega),HV5.out.stays hst6 (fun k hk e=>HV5A.out (by rw[hk,show k=g from e]))⟩,by rw[HRV.out];exact Nat.le_refl _,by have:=HRV.out;omega⟩,HBW5.out.trans (hst6.below HBW5.out.size (fun k hk=>by have:k=g:=hk;have:=HRV.out;omega))⟩
 clear ho5 he5 hn5' hr5 hrb hs6 hst6 ho6 HH HO5 HRB HR5 HV5 HB5
 go_wp2_with fail
 refine HEQ.out.mono ?_
 rintro e w7 ⟨rfl,hw⟩
 replace hw:=hw.symm
 subst hw
 go_wp2_with fail
 refine HRY.out.mono ?_
 rintro e w7 ⟨rfl,hw⟩
 replace hw:=hw.symm
 subst hw
 go_wp2_with fail
 go_ret
 exact⟨g,rv,rfl,HF.out⟩
end
section
open Go Go.RowKit
theorem fn_vals (l:List Value) (n:Nat) (h:l.length=n):∃x:Fin n→Value,l=List.ofFn x:=⟨fun i=>l[i.val]'(by rw[h];exact i.isLt),by subst h;simp⟩
theorem built_req (cs:List Value) (h:cs.length=139) (now:Int):Tryz.prog.built 97 [(0,.agg cs.toArray),(1,.int .i64 now)]=some (cs++[Value.int .i64 now]).toArray:=by
 obtain⟨x,rfl⟩:=fn_vals cs 139 h
 kernel_rfl
theorem ask_busy (g rv:Nat) (no:BitVec 64) (dn:Int) (rq:Addr) (cs:List Value) (now:Value) (w:World) (h:SesB w g no rv dn 2 0 true true (some rq)):
 Calls Tryz.prog 14 #[.pointer (some ⟨g,0,none⟩),.agg cs.toArray,now] w fun e w'=>e= .returned (.tuple #[.slice none 0 0,.int .i64 200])∧Below w.heap.size w w':=by
 obtain⟨W1,hW1⟩:∃V,V=w.alloc (.cells cs.toArray 41):=⟨_,rfl⟩
 have hb1:Below w.heap.size w W1:=by rw[hW1];exact Q1z w _
 have h1:SesB W1 g no rv dn 2 0 true true (some rq):=h.fut hb1
 have HN:=Lib.hid (Zlz g no rv dn 2 0 true true (some rq) W1 h1)
 have HBL:=Lib.hid (Zhz ⟨g,6,none⟩ 0 W1 h1.l.c6)
 have HRY:=Lib.hid (ready_any g no rv dn 2 0 true true (some rq) W1 h1)
 have HB1:=Lib.hid hb1
 have c9:=h1.l.c9
 clear h h1 hb1
 go_enter Tryz.func14,Tryz.ntmps14
 go_upto_region 1 with fail
 rw[←hW1]
 clear hW1
 go_wp2_with fail
 refine HN.out.mono ?_
 rintro e w0 ⟨rfl,hw⟩
 replace hw:=hw.symm
 subst hw
 go_wp2_with fail
 refine HBL.out.mono ?_
 rintro e w0 ⟨rfl,hw⟩
 replace hw:=hw.symm
 subst hw
 go_wp2_with fail
 refine HRY.out.mono ?_
 rintro e w0 ⟨rfl,hw⟩
 replace hw:=hw.symm
 subst hw
 go_wp2_with fail
 go_ret2
 exact⟨rfl,HB1.out⟩
end
section
open Go Go.RowKit
theorem msgC_hashes {w W:World} {m:TMsg} {cs:List Value} {zm:Nat} (h:MsgC w m cs) (hb:Blk W zm 41 cs.toArray):∃p c,W.cell? ⟨zm,67,none⟩=some (.slice p m.hs.length c):=by
 obtain⟨hv,dv,bv,bc,rfl,h1,h2,h3,_⟩:=h
 obtain⟨p,n,c,rfl⟩:=h3.opens
 have:=h3.slen.1
 subst this
 exact⟨p,c,(hb.msg h1 h2).c67⟩
end
section
open Go Go.RowKit
def SomeB (w:World) (e:Ending) (w':World):Prop:=∃r,e= .returned (.bool r)∧Below w.heap.size w w'
theorem eqH_any (u v:Value) (xs ys:List Bs) (w:World) (hu:ESl HashE 32 w u xs) (hv:ESl HashE 32 w v ys):
 Calls Tryz.prog 51 #[u,v] w (SomeB w):=by
 obtain⟨p,n,c,rfl⟩:=hu.opens
 obtain⟨q,m,d,rfl⟩:=hv.opens
 have HU:=Lib.hid hu
 have HV:=Lib.hid hv
 obtain⟨hn,hnc,hcm⟩:=hu.slen
 obtain⟨hm,hmd,hdm⟩:=hv.slen
 clear hu hv hn hm
 by_cases hnm:n=m
 case neg=>
  have hne:¬(n:Int)=(m:Int):=by omega
  clear hnm
  go_enter Tryz.func51,Tryz.ntmps51
  go_wp2_with fail
  go_ret
  exact⟨false,rfl,Below.refl _ _⟩
 subst hnm
 go_enter Tryz.func51,Tryz.ntmps51
 go_upto_region 4 with fail
 go_loopw[13] (fun i wr=>∃k:Nat,k≤n∧i= .int .i64 k∧Hid (Below w.heap.size w wr)) (fun i _=>n-(intOf i).toNat)
 case atStart=>exact⟨0,by omega,rfl,Lib.hid (Below.refl _ _)⟩
 case round=>
  obtain⟨k,hk,rfl,HWk⟩:=hrel
  by_cases hkn:k<n
  ·have hlt:(k:Int)<(n:Int):=by omega
   obtain⟨b,off,cs,x,rfl,hx,hE,l2⟩:=HU.out.at HWk.out hkn
   obtain⟨b',off',ds,y,rfl,hy,hE',l3⟩:=HV.out.at HWk.out hkn
   obtain⟨hcs,hxl⟩:=hE
   obtain⟨hds,hyl⟩:=hE'
   have L2:=Lib.hid l2
   have L3:=Lib.hid l3
   have LT2:=Lib.hid (HU.out.lt HWk.out hkn)
   have LT3:=Lib.hid (HV.out.lt HWk.out hkn)
   have HCL:=Lib.hid (show cs.length=32 by rw[hcs];simp[Q5z,hxl])
   have HDL:=Lib.hid (show ds.length=32 by rw[hds];simp[Q5z,hyl])
   obtain⟨r,hr⟩:∃r,r=decide (x=y):=⟨_,rfl⟩
   have heq:∀w,(Op.equalIn 10000 32 (.agg cs.toArray) (.agg ds.toArray)).run Tryz.prog w= .ok r w:=fun w=>by rw[hcs,hds,hr];exact hash_eq x y hxl hyl w
   clear hx hy hcs hds hxl hyl l2 l3 hr
   go_upto_region 6 with fail
   have hF0:=Q0z wr 1
   refine QAz [qq 0,qq 1,qq 2,qq 3,qq 4,qq 5,qq 6,qq 7,qq 8] (fun W=>Below wr.heap.size wr W) (by kernel_rfl) (by kernel_rfl) hF0 ?_
   refine' Q9z (s:=26) (A1:=_) (r:=[]) [0,1,2,3,4,5,6,7,8] [_,_,_,_,_,_,_,_,_] _ rfl rfl rfl (fun W hW=>?hq1) _ hF0 (fun _=>?hr1)
   case hq1=>
    simp only[List.getElem_toArray,List.getElem_cons_zero,List.getElem_cons_succ]
    iterate 3 (go_big_quiet_step (fail))
    refine Qtz rfl 32 (.tmp 18) rfl b (off+k*32) rfl cs _ (fun w hw=>?_) Tryz.underlying32 rfl (by rw[HCL.out];kernel_rfl) ?_
    ·obtain⟨j,rfl⟩:=hw
     exact XEz L2.out (hW.trans ((Q0z W j).mono hW.size)) LT2.out
    simp only[X4z,List.setIfInBounds_toArray,List.set_cons_succ,List.set_cons_zero]
    iterate 3 (go_big_quiet_step (fail))
    refine Qtz rfl 32 (.tmp 22) rfl b' (off'+k*32) rfl ds _ (fun w hw=>?_) Tryz.underlying32 rfl (by rw[HDL.out];kernel_rfl) ?_
    ·obtain⟨j,rfl⟩:=hw
     exact XEz L3.out (hW.trans ((Q0z W j).mono hW.size)) LT3.out
    simp only[X4z,List.setIfInBounds_toArray,List.set_cons_succ,List.set_cons_zero]
    iterate 1 (go_big_quiet_step (fail))
    refine wpQuiet_nil ?_
    rfl
   case hr1=>
   refine Qnz fun j=>NoPanic.normal ?_
   have HB2:=Lib.hid (HWk.out.trans ((Q7z (Below.refl wr.heap.size wr).drew j).mono HWk.out.size))
   generalize wr.drew.drewN j=w2 at*
   cases r with
   |false=>
    go_wp2_with fail
    go_ret
    exact⟨false,rfl,HB2.out⟩
   |true=>
    go_wp2_with fail
    go_roundw
    case rel=>exact⟨k+1,by omega,by go_num,HB2⟩
    case measure=>simp[intOf];omega
  ·obtain rfl:k=n:=by omega
   have hge:¬(k:Int)<(k:Int):=by omega
   go_wp2_with fail
   go_ret
   exact⟨true,rfl,HWk.out⟩
theorem ESl.rowsN {w:World} {p:Option Addr} {n c:Nat} {xs:List Bs} (h:ESl HashE 32 w (.slice p n c) xs):RowsN 32 w p (xs.map Q5z):=fun hn=>by
 obtain⟨p',n',c',e,h1,h2,h3,h4,h5⟩:=h
 injection e with e1 e2 e3
 subst e1 e2 e3
 obtain⟨b,off,rfl,hlt,hc⟩:=h4 (by intro e;subst e;exact hn rfl)
 refine⟨b,off,rfl,hlt,fun i cs hi=>?_⟩
 rw[List.getElem?_map]at hi
 cases hx:xs[i]? with
 |none=>rw[hx]at hi;cases hi
 |some x=>
  rw[hx]at hi
  injection hi with hi
  obtain⟨cs',⟨h6,h8⟩,h7⟩:=hc i x hx
  subst hi
  exact⟨by simp[Q5z,h8],by rw[←h6];exact h7⟩
theorem hFlat_one {l:List Bs}:∀u∈(l.map Q5z).flatten,u.oneCell'=true:=fun u hu=>by
 obtain⟨cs,h1,h2⟩:=List.mem_flatten.1 hu
 obtain⟨x,_,rfl⟩:=List.mem_map.1 h1
 obtain⟨b,_,rfl⟩:=List.mem_map.1 h2
 rfl
theorem hRow_e {w:World} {B:Nat} {v:Value} {l:List Bs} (hl:∀x∈l,x.length=32) (h:w.ownsRow B 32 32 v l.length (l.map Q5z).flatten):RowO HashE 32 32 B w v l:=
 ⟨l.map Q5z,by simp,h,fun i x hx=>⟨Q5z x,by rw[List.getElem?_map,hx];rfl,⟨rfl,hl x (List.mem_of_getElem? hx)⟩,by simp[Q5z,hl x (List.mem_of_getElem? hx)]⟩⟩
theorem cloneE_any (v:Value) (xs:List Bs) (w:World) (hv:ESl HashE 32 w v xs) (hbig:xs.length≤1000):
 Calls Tryz.prog 35 #[v] w fun e w'=>∃v',e= .returned v'∧RowO HashE 32 32 w.heap.size w' v' xs∧Below w.heap.size w w':=by
 have HX:Hid (∀x∈xs,x.length=32):=Lib.hid (fun x hx=>by obtain⟨cs,hc⟩:=hv.mem hx;exact hc.2)
 obtain⟨p,n,c,rfl⟩:=hv.opens
 obtain⟨hn,hnc,hcm⟩:=hv.slen
 have HR:=Lib.hid hv.rowsN
 have HP:Hid (p=none→xs=[]):=Lib.hid (fun h=>by
  obtain⟨p',n',c',e,h1,h2,h3,h4,h5⟩:=hv
  injection e with e1 e2 e3
  subst e1 e2 e3
  have:=h5 h
  exact List.eq_nil_of_length_eq_zero (by omega))
 have HN:=Lib.hid hn
 clear hv
 cases p with
 |none=>
  have hi:xs=[]:=HP.out rfl
  subst hi
  have hnil:∀W,(binOp .eql 33 (.slice none n c) (.slice none 0 0)).run Tryz.prog W= .ok (.bool true) W:=fun W=>by
   have hn0:n=0:=hn.symm
   subst hn0
   exact Lib.run_eql_slice_nil_nil W _ _ Tryz.underlying33
  clear hn
  go_enter Tryz.func35,Tryz.ntmps35
  go_wp2
  go_ret
  exact⟨_,rfl,RowO.nil _ _ _ _ _,Below.refl _ _⟩
 |some a=>
  have hnil:∀W,(binOp .eql 33 (.slice (some a) n c) (.slice none 0 0)).run Tryz.prog W= .ok (.bool false) W:=fun W=>Lib.run_eql_slice_some_nil W _ _ _ Tryz.underlying33
  have hb2:=(Below.refl w.heap.size w).alloc (Nat.le_refl _) (.cells #[] 32)
  have ho2:(w.alloc (.cells #[] 32)).ownsRow w.heap.size 32 32 (.slice (some ⟨w.heap.size,0,none⟩) 0 0) 0 []:=World.ownsRow_made w #[] 0 (Nat.le_refl _) (Nat.zero_le _) rfl
  have hr2:RowsN 32 (w.alloc (.cells #[] 32)) (some a) (xs.map Q5z):=HR.out.below hb2 (Nat.le_refl _)
  clear hn
  go_enter Tryz.func35,Tryz.ntmps35
  go_wp2_with(with_reducible refine wp_append_row (o:=⟨some 7,_,_,_,_,_⟩) ?_ (.tmp 5) (.tmp 6) 33 32 ?_ 32 32 _ Tryz.underlying33 hash_infoM ?_ (by omega) w.heap.size _ 0 [] ?_ ho2 (some a) n c (xs.map Q5z) ?_ ?_ hr2 hFlat_one ?_ ?_ ?_ w.heap.size w hb2 ?_ ?_
              ·rfl
              ·rfl
              ·rfl
              ·rfl
              ·rfl
              ·rw[List.length_map];exact HN.out
              ·have:=HN.out;omega
              ·have:=HN.out;unfold maxLen;omega
              ·exact hb2.size
              ·exact Nat.le_refl _
              intro v3 w3 ho3 hb3 _ _)
  go_ret
  rw[List.nil_append,Nat.zero_add]at ho3
  exact⟨_,rfl,hRow_e HX.out (by rw[HN.out];exact ho3),hb3⟩
def QO (B:Nat) (w:World) (q:TMsg) (cs:List Value):Prop:=∃hv dv bv bc,cs=Q8z (.int .i64 q.k) (u32 q.nu) (u64 q.no) q.pv q.st hv dv bv bc∧q.pv.length=32∧q.st.length=32∧RowO HashE 32 32 B w hv q.hs∧(q.hd=[]∧ESl HdrE 68 w dv [])∧(q.tx=[]∧Sl w bv [])∧(q.bl=noBlk∧BlkC w noBlk bc)
theorem eslNil {α:Type} {E:World→α→List Value→Prop} {N:Nat} {w w':World} {v:Value} (h:ESl E N w v []):ESl E N w' v []:=by
 obtain⟨p,n,c,h1,h2,h3,h4,_,h6⟩:=h
 exact⟨p,n,c,h1,h2,h3,h4,fun h=>absurd rfl h,h6⟩
theorem slNil {w w':World} {v:Value} (h:Sl w v []):Sl w' v []:=by
 obtain⟨p,n,c,h1,h2,h3,h4,_,h6⟩:=h
 exact⟨p,n,c,h1,h2,h3,h4,fun h=>absurd rfl h,h6⟩
theorem blkNil {w w':World} {bc:List Value} (h:BlkC w noBlk bc):BlkC w' noBlk bc:=by
 obtain⟨tv,h1,h2,h3⟩:=h
 exact⟨tv,h1,h2,eslNil h3⟩
theorem QO.stays {B:Nat} {w w':World} {q:TMsg} {cs:List Value} {S:Nat→Prop} (h:QO B w q cs) (hs:Stays S w w') (hp:Sep B [32] w S):QO B w' q cs:=by
 obtain⟨hv,dv,bv,bc,h1,h2,h3,h4,⟨h5,h5'⟩,⟨h6,h6'⟩,⟨h7,h7'⟩⟩:=h
 exact⟨hv,dv,bv,bc,h1,h2,h3,h4.sep (Qrz B) hs hp,⟨h5,eslNil h5'⟩,⟨h6,slNil h6'⟩,⟨h7,blkNil h7'⟩⟩
theorem QO.c {B:Nat} {w:World} {q:TMsg} {cs:List Value} (h:QO B w q cs):MsgC w q cs:=by
 obtain⟨hv,dv,bv,bc,h1,h2,h3,h4,⟨h5,h5'⟩,⟨h6,h6'⟩,⟨h7,h7'⟩⟩:=h
 refine⟨hv,dv,bv,bc,h1,h2,h3,h4.e (fun _ _ h=>h),?_,?_,?_⟩
 ·rw[h5];exact h5'
 ·rw[h6];exact h6'
 ·rw[h7];exact h7'
theorem MsgO.q {B:Nat} {w:World} {q:TMsg} {cs:List Value} (h:MsgO B w q cs) (h1:q.hd=[]) (h2:q.tx=[]) (h3:q.bl=noBlk):QO B w q cs:=by
 obtain⟨hv,dv,bv,bc,e1,e2,e3,e4,e5,e6,e7⟩:=h
 refine⟨hv,dv,bv,bc,e1,e2,e3,e4,⟨h1,?_⟩,⟨h2,?_⟩,⟨h3,?_⟩⟩
 ·have:=e5.e (E':=HdrE) (fun _ _ h=>h)
  rwa [h1]at this
 ·have:=e6.sl
  rwa [h2]at this
 ·have:=e7.c
  rwa [h3]at this
def AskAt (B:Nat) (w:World) (rq:Nat) (q:TMsg):Prop:=∃cs now,Blk w rq 97 (cs++[Value.int .i64 now]).toArray∧QO B w q cs∧(q.k=11→q.hs.length=1)∧q.hs.length≤1000∧B≤rq
theorem AskAt.stays {B:Nat} {w w':World} {rq:Nat} {q:TMsg} {S:Nat→Prop} (h:AskAt B w rq q) (hs:Stays S w w') (hp:Sep B [32,97] w S):AskAt B w' rq q:=by
 obtain⟨cs,now,h1,h2,h3,h4,h5⟩:=h
 refine⟨cs,now,h1.stays hs (fun hS=>?_),h2.stays hs (hp.mono (by simp)),h3,h4,h5⟩
 rcases hp rq hS with h|⟨T,ds,h6,h7⟩
 ·omega
 ·exact h7 (by rw[(h6.inj h1).1];simp)
theorem AskAt.fut {B:Nat} {w w':World} {rq:Nat} {q:TMsg} (h:AskAt B w rq q) (hb:Below w.heap.size w w'):AskAt B w' rq q:=
 h.stays (Stays.of_below hb (Nat.le_refl _) (fun _=>False)) (fun _ h=>h.elim)
def Asked (B:Nat) (w:World) (aq:Option Addr) (q:Option TMsg):Prop:=match q with
 |none=>aq=none
 |some q=>∃rq,aq=some ⟨rq,0,none⟩∧AskAt B w rq q
theorem Asked.stays {B:Nat} {w w':World} {aq:Option Addr} {q:Option TMsg} {S:Nat→Prop} (h:Asked B w aq q) (hs:Stays S w w') (hp:Sep B [32,97] w S):Asked B w' aq q:=by
 cases q with
 |none=>exact h
 |some q=>obtain⟨rq,h1,h2⟩:=h;exact⟨rq,h1,h2.stays hs hp⟩
theorem Asked.fut {B:Nat} {w w':World} {aq:Option Addr} {q:Option TMsg} (h:Asked B w aq q) (hb:Below w.heap.size w w'):Asked B w' aq q:=
 h.stays (Stays.of_below hb (Nat.le_refl _) (fun _=>False)) (fun _ h=>h.elim)
end
section
open Go Go.RowKit
theorem waits_none (g:Nat) (no:BitVec 64) (rv:Nat) (dn hl bd:Int) (ve ak:Bool) (w:World) (h:SesB w g no rv dn hl bd ve ak none):
 Calls Tryz.prog 16 #[.pointer (some ⟨g,0,none⟩)] w fun e w'=>e= .returned (.tuple #[.agg (msgZ 0).toArray,.bool false])∧Below w.heap.size w w':=by
 obtain⟨Y0,hY0⟩:∃Y,Y=(msgZ 0).toArray:=⟨_,rfl⟩
 have hz:=zMsg
 have hbt:=built_msg0
 rw[←hY0]at hz hbt
 have HYS:Hid (Y0.size=139):=Lib.hid (by rw[hY0];exact Xcz 0)
 have HY1:Hid (Y0.all (·.oneCell')=true):=Lib.hid (by rw[hY0];exact msgZ_one)
 have HY0:=Lib.hid hY0
 obtain⟨z,hzz⟩:∃z,z=w.heap.size:=⟨_,rfl⟩
 obtain⟨W1,hW1⟩:∃W,W=w.alloc (.cells Y0 41):=⟨_,rfl⟩
 have hb1:Below w.heap.size w W1:=by rw[hW1];exact Q1z w _
 have hB1:Blk W1 z 41 Y0:=by rw[hW1,hzz];exact Blk.new w _ _
 have h1:SesB W1 g no rv dn hl bd ve ak none:=h.fut hb1
 have HN:=Lib.hid (Zlz g no rv dn hl bd ve ak none W1 h1)
 have c9:=h1.l.c9
 have HB1:=Lib.hid hB1
 have HW1:=Lib.hid hb1
 have hzb:w.heap.size≤z:=by rw[hzz];exact Nat.le_refl _
 clear h hb1 hB1 h1 hY0
 go_enter Tryz.func16,Tryz.ntmps16
 go_upto_region 1 with fail
 rw[←hW1,← hzz]
 clear hW1 hzz
 go_wp2_with fail
 refine HN.out.mono ?_
 rintro e w0 ⟨rfl,hw⟩
 replace hw:=hw.symm
 subst hw
 have hbr:=Below.refl w.heap.size W1
 go_wp2_with(first
  |(with_reducible refine Qjz (o:=⟨some 14,_,_,_,_,_⟩) ?_ 41 #[] ?_ [] ?_ Y0 hbt ?_
    ·rfl
    ·rfl
    ·rfl)
  |(with_reducible refine Q4z (o:=⟨none,_,_,_,_,_⟩) ?_ 41 (.tmp 2) (.tmp 14) ?_ (z) 41 (Y0) (Y0) ?_ ?_ (HB1.out) ?_ ?_ ?_ (w.heap.size) (W1) ?_ ?_ ?_
    ·rfl
    ·rfl
    ·rfl
    ·rfl
    ·exact(by rw[HYS.out];kernel_rfl)
    ·exact(rfl)
    ·exact(HY1.out)
    ·exact(hbr)
    ·exact(hzb)
    intro w5 hB5 hb5 hg5 hs5))
 have hb5z:Blk w5 z 41 (msgZ 0).toArray:=by have:=hB5.out;rwa [HY0.out]at this
 refine bodyPost_ret (Qoz rfl _ _ _ z _ (msgZ 0) _ rfl hb5z Tryz.underlying41 rfl (Qkz (msgZ_len 0))) rfl ?_
 exact⟨rfl,HW1.out.trans hb5⟩
theorem req_range {w:World} {g:Nat} {t:TypeId} {cs:List Value} {v:Value} (h:Blk w g t (cs++[v]).toArray):w.rangeAt g 0 cs:=fun j u hj=>by
 rw[Nat.zero_add,h.cell,List.getElem?_toArray,List.getElem?_append_left (List.getElem?_eq_some_iff.1 hj).1];exact hj
theorem waits_some (g:Nat) (no:BitVec 64) (rv:Nat) (dn hl bd:Int) (ve ak:Bool) (rq B:Nat) (q:TMsg) (w:World) (h:SesB w g no rv dn hl bd ve ak (some ⟨rq,0,none⟩)) (ha:AskAt B w rq q):
 Calls Tryz.prog 16 #[.pointer (some ⟨g,0,none⟩)] w fun e w'=>∃cs,e= .returned (.tuple #[.agg cs.toArray,.bool true])∧MsgC w' q cs∧Below w.heap.size w w':=by
 obtain⟨Y0,hY0⟩:∃Y,Y=(msgZ 0).toArray:=⟨_,rfl⟩
 have hz:=zMsg
 rw[←hY0]at hz
 have HYS:Hid (Y0.size=139):=Lib.hid (by rw[hY0];exact Xcz 0)
 obtain⟨z,hzz⟩:∃z,z=w.heap.size:=⟨_,rfl⟩
 obtain⟨W1,hW1⟩:∃W,W=w.alloc (.cells Y0 41):=⟨_,rfl⟩
 have hb1:Below w.heap.size w W1:=by rw[hW1];exact Q1z w _
 have hB1:Blk W1 z 41 Y0:=by rw[hW1,hzz];exact Blk.new w _ _
 have h1:SesB W1 g no rv dn hl bd ve ak (some ⟨rq,0,none⟩):=h.fut hb1
 obtain⟨cs,now,ha1,ha2,ha3,ha4,ha5⟩:=ha.fut hb1
 have HN:=Lib.hid (Zlz g no rv dn hl bd ve ak _ W1 h1)
 have c9:=h1.l.c9
 have HB1:=Lib.hid hB1
 have HW1:=Lib.hid hb1
 have HQ:=Lib.hid ha2
 have HCL:=Lib.hid ha2.c.len
 have hone:=ha2.c.one
 have lq:=req_range ha1
 have hzb:w.heap.size≤z:=by rw[hzz];exact Nat.le_refl _
 clear h hb1 hB1 h1 ha ha1 ha2 ha3 ha5 hY0
 go_enter Tryz.func16,Tryz.ntmps16
 go_upto_region 1 with fail
 rw[←hW1,← hzz]
 clear hW1 hzz
 go_wp2_with fail
 refine HN.out.mono ?_
 rintro e w0 ⟨rfl,hw⟩
 replace hw:=hw.symm
 subst hw
 clear HN
 have hsz:Y0.size=cs.toArray.size:=by rw[HYS.out,List.size_toArray,HCL.out]
 obtain⟨z4,hz4⟩:∃z,z=W1.heap.size:=⟨_,rfl⟩
 have hbn:=Q1z W1 (.cells Y0 41)
 go_upto_region 4 with(first
  |(with_reducible refine wpList_load_mid (op:=⟨some 21,_,_,_,_,_⟩) ?_ 41 (.tmp 20) ?_ (rq) (0) ?_ (cs) _ (lq) Tryz.underlying41 ?_ ?_ ?_
    ·rfl
    ·rfl
    ·rfl
    ·rfl
    ·exact((Qkz HCL.out)))
  |(with_reducible refine Q4z (o:=⟨none,_,_,_,_,_⟩) ?_ 41 (.tmp 4) (.tmp 21) ?_ (W1.heap.size) 41 (Y0) (cs.toArray) ?_ ?_ (Blk.new W1 _ _) ?_ ?_ ?_ (W1.heap.size) (W1) ?_ ?_ ?_
    ·rfl
    ·rfl
    ·rfl
    ·rfl
    ·exact(QWz HCL.out)
    ·exact(hsz)
    ·exact(hone)
    ·exact(hbn)
    ·exact(Nat.le_refl _)
    intro w6 hB6 hb6 hg6 hs6))
 try simp only[Qpz]
 rw[←hz4]at hB6 ⊢
 obtain⟨hv,dv,bv,bc,hcs,hpv,hst,hhs,⟨hhd,hhd'⟩,⟨htx,htx'⟩,⟨hbl,hbl'⟩⟩:=(show QO B w6 q cs from HQ.out.stays (Stays.of_below hb6 (Nat.le_refl _) (fun _=>False)) (fun _ h=>h.elim))
 have hat:=(show Blk w6 z4 41 (Q8z (.int .i64 q.k) (u32 q.nu) (u64 q.no) q.pv q.st hv dv bv bc).toArray from by rw[←hcs];exact hB6.out)
 have k67:=(hat.msg hpv hst).c67
 have f67:=hat.frozen 67
 have HAT:=Lib.hid hat
 have HZ4:Hid (z<z4∧w.heap.size≤z4∧z4<w6.heap.size):=Lib.hid ⟨by rw[hz4];exact HB1.out.lt,by rw[hz4];exact HW1.out.size,hat.lt⟩
 have HW6:=Lib.hid (Q3z HW1.out hb6 (Nat.le_refl _))
 have HZ6:=Lib.hid (HB1.out.fut hb6)
 have HCE:=Lib.hid (cloneE_any hv q.hs w6 (hhs.e (fun _ _ h=>h)) ha4)
 have HR:Hid (q.pv.length=32∧q.st.length=32∧(q.hd=[]∧ESl HdrE 68 w6 dv [])∧(q.tx=[]∧Sl w6 bv [])∧(q.bl=noBlk∧BlkC w6 noBlk bc)):=Lib.hid ⟨hpv,hst,⟨hhd,hhd'⟩,⟨htx,htx'⟩,⟨hbl,hbl'⟩⟩
 clear hcs hpv hst hhs hhd htx hbl hhd' htx' hbl' hat hz4 hB6 hb6 hg6 hs6 hbn hsz hone HQ HCL HB1 HW1 lq c9
 go_wp2_with fail
 refine HCE.out.mono ?_
 rintro e w7 ⟨v7,rfl,he7,hb7⟩
 obtain⟨p7,n7,c7,rfl⟩:=(he7.e (E':=HashE) (fun _ _ h=>h)).opens
 have hat7:=HAT.out.fut hb7
 have f7:=hat7.frozen 67
 have k7:=(hat7.msg HR.out.1 HR.out.2.1).c67
 have hst7:=Stays.set w7 z4 67 (.slice p7 n7 c7)
 have hat8:=hat7.set 67 (.slice p7 n7 c7)
 rw[msg_set67 _ _ _ _ _ _ _ HR.out.1 HR.out.2.1]at hat8
 have HZ8:Hid (Blk (w7.setCell ⟨z4,67,none⟩ (.slice p7 n7 c7)) z 41 Y0):=Lib.hid ((HZ6.out.fut hb7).stays hst7 (fun e=>by have h1:=HZ4.out.1;have e':z=z4:=e;omega))
 have HW8:Hid (Below w.heap.size w (w7.setCell ⟨z4,67,none⟩ (.slice p7 n7 c7))):=Lib.hid ((Q3z HW6.out hb7 (Nat.le_refl _)).setCell (show w.heap.size≤z4 from HZ4.out.2.1) _)
 have hh8:RowO HashE 32 32 w6.heap.size (w7.setCell ⟨z4,67,none⟩ (.slice p7 n7 c7)) (.slice p7 n7 c7) q.hs:=he7.sep (Qrz _) hst7 (Sep.low (fun k hk=>by have h1:=HZ4.out.2.2;have e':k=z4:=hk;omega))
 have hone7:=(he7.e (E':=HashE) (fun _ _ h=>h)).one
 obtain⟨r1,r2,⟨r3,r3'⟩,⟨r4,r4'⟩,⟨r5,r5'⟩⟩:=HR.out
 obtain⟨cs8,hcs8⟩:∃x,x=Q8z (.int .i64 q.k) (u32 q.nu) (u64 q.no) q.pv q.st (.slice p7 n7 c7) dv bv bc:=⟨_,rfl⟩
 have hm8:MsgC (w7.setCell ⟨z4,67,none⟩ (.slice p7 n7 c7)) q cs8:=⟨.slice p7 n7 c7,dv,bv,bc,hcs8,r1,r2,hh8.e (fun _ _ h=>h),by rw[r3];exact eslNil r3',by rw[r4];exact slNil r4',by rw[r5];exact blkNil r5'⟩
 rw[←hcs8]at hat8
 have HAT8:=Lib.hid hat8
 have HM8:=Lib.hid hm8
 have HH8:=Lib.hid hh8
 have HZS:Hid (z<w6.heap.size):=Lib.hid (Nat.lt_trans HZ4.out.1 HZ4.out.2.2)
 have HCS:=Lib.hid hcs8
 clear hcs8 hat8 hm8 hh8 r1 r2 r3 r3' r4 r4' r5 r5' hst7 he7 hb7 HAT HZ6 HW6 HCE k67 f67 hat7
 go_upto_region 5 with fail
 clear k7 f7
 generalize w7.setCell ⟨z4,67,none⟩ (.slice p7 n7 c7)=w8 at*
 have l8:=Qfz HAT8.out
 have hsz8:Y0.size=cs8.toArray.size:=by rw[HYS.out,List.size_toArray,HM8.out.len]
 have hbr:=Below.refl w.heap.size w8
 go_wp2_with(first
  |(with_reducible refine wpList_load_mid (op:=⟨some 26,_,_,_,_,_⟩) ?_ 41 (.tmp 4) ?_ (z4) (0) ?_ (cs8) _ (l8) Tryz.underlying41 ?_ ?_ ?_
    ·rfl
    ·rfl
    ·rfl
    ·rfl
    ·exact((Qkz HM8.out.len)))
  |(with_reducible refine Q4z (o:=⟨none,_,_,_,_,_⟩) ?_ 41 (.tmp 2) (.tmp 26) ?_ (z) 41 (Y0) (cs8.toArray) ?_ ?_ (HZ8.out) ?_ ?_ ?_ (w.heap.size) (w8) ?_ ?_ ?_
    ·rfl
    ·rfl
    ·rfl
    ·rfl
    ·exact(QWz HM8.out.len)
    ·exact(hsz8)
    ·exact(HM8.out.one)
    ·exact(hbr)
    ·exact(hzb)
    intro w9 hB9 hb9 hg9 hs9))
 refine bodyPost_ret (Qoz rfl _ _ _ z _ cs8 _ rfl hB9.out Tryz.underlying41 rfl (Qkz HM8.out.len)) rfl ?_
 obtain⟨r1,r2,⟨r3,r3'⟩,⟨r4,r4'⟩,⟨r5,r5'⟩⟩:=HR.out
 have hst9:=Stays.of_grown (S:=fun k=>k=z) hg9.out (fun k h=>by injection h with h;exact h.symm)
 have hh9:RowO HashE 32 32 w6.heap.size w9 (.slice p7 n7 c7) q.hs:=HH8.out.sep (Qrz _) hst9 (Sep.low (fun k hk=>by have h1:=HZS.out;have e':k=z:=hk;omega))
 exact⟨cs8,rfl,⟨.slice p7 n7 c7,dv,bv,bc,HCS.out,r1,r2,hh9.e (fun _ _ h=>h),by rw[r3];exact eslNil r3',by rw[r4];exact slNil r4',by rw[r5];exact blkNil r5'⟩,HW8.out.trans hb9⟩
end
section
open Go Go.RowKit
theorem built_a6 (p:Option Addr) (n c:Nat):Tryz.prog.built 41 [(0,.int .i64 6),(6,.slice p n c)]=some (Q8z (.int .i64 6) (u32 0#32) (u64 0#64) noHash noHash (.slice none 0 0) (.slice p n c) (.slice none 0 0) ZBlk).toArray:=by kernel_rfl
theorem built_a13 (p:Option Addr) (n c:Nat):Tryz.prog.built 41 [(0,.int .i64 13),(5,.slice p n c)]=some (Q8z (.int .i64 13) (u32 0#32) (u64 0#64) noHash noHash (.slice p n c) (.slice none 0 0) (.slice none 0 0) ZBlk).toArray:=by kernel_rfl
theorem built_a8 (s:Bs) (h:s.length=32) (p:Option Addr) (n c:Nat):Tryz.prog.built 41 [(0,.int .i64 8),(4,.agg (Q5z s).toArray),(5,.slice p n c)]=some (Q8z (.int .i64 8) (u32 0#32) (u64 0#64) noHash s (.slice p n c) (.slice none 0 0) (.slice none 0 0) ZBlk).toArray:=by
 obtain⟨x,hx⟩:=fn_vals (Q5z s) 32 (by simp[Q5z,h])
 unfold Q8z
 rw[hx]
 kernel_rfl
theorem built_a10 (s:Bs) (h:s.length=32) (p:Option Addr) (n c:Nat):Tryz.prog.built 41 [(0,.int .i64 10),(4,.agg (Q5z s).toArray),(7,.slice p n c)]=some (Q8z (.int .i64 10) (u32 0#32) (u64 0#64) noHash s (.slice none 0 0) (.slice none 0 0) (.slice p n c) ZBlk).toArray:=by
 obtain⟨x,hx⟩:=fn_vals (Q5z s) 32 (by simp[Q5z,h])
 unfold Q8z
 rw[hx]
 kernel_rfl
theorem nilE {α:Type} (E:World→α→List Value→Prop) (N:Nat) (w:World):ESl E N w (.slice none 0 0) []:=⟨none,0,0,rfl,rfl,Nat.le_refl _,by unfold maxLen;omega,fun h=>absurd rfl h,fun _=>rfl⟩
theorem nilB (w:World):BlkC w noBlk ZBlk:=(show BlkO 0 w noBlk ZBlk from⟨.slice none 0 0,rfl,QGz,RowO.nil _ _ _ _ _⟩).c
theorem answer_any (q m:TMsg) (csq csm:List Value) (w:World) (hq:MsgC w q csq) (hm:MsgC w m csm):
 Calls Tryz.prog 17 #[.agg csq.toArray,.agg csm.toArray] w fun e w'=>∃m' cs',e= .returned (.agg cs'.toArray)∧MsgC w' m' cs'∧Below w.heap.size w w':=by
 have HMC:=Lib.hid hm
 obtain⟨Y0,hY0⟩:∃Y,Y=(msgZ 0).toArray:=⟨_,rfl⟩
 have hz:=zMsg
 rw[←hY0]at hz
 have HYS:Hid (Y0.size=139):=Lib.hid (by rw[hY0];exact Xcz 0)
 obtain⟨zq,hzq⟩:∃z,z=w.heap.size:=⟨_,rfl⟩
 obtain⟨W1,hW1⟩:∃V,V=w.alloc (.cells csq.toArray 41):=⟨_,rfl⟩
 obtain⟨W2,hW2⟩:∃V,V=W1.alloc (.cells csm.toArray 41):=⟨_,rfl⟩
 obtain⟨W3,hW3⟩:∃V,V=W2.alloc (.cells Y0 41):=⟨_,rfl⟩
 have z1:W1.heap.size=zq+1:=by rw[hW1,World.size_alloc,hzq]
 have z2:W2.heap.size=zq+2:=by rw[hW2,World.size_alloc,z1]
 obtain⟨zm,hzm⟩:∃z,z=zq+1:=⟨_,rfl⟩
 obtain⟨zr,hzr⟩:∃z,z=zm+1:=⟨_,rfl⟩
 have k1:Below w.heap.size w W1:=by rw[hW1];exact Q1z w _
 have k2:Below W1.heap.size W1 W2:=by rw[hW2];exact Q1z W1 _
 have k3:Below W2.heap.size W2 W3:=by rw[hW3];exact Q1z W2 _
 have k12:=Q3z k1 k2 (Nat.le_refl _)
 have k13:=Q3z k12 k3 (Nat.le_refl _)
 have b1:Blk W3 zq 41 csq.toArray:=((show Blk W1 zq _ _ by rw[hW1,hzq];exact Blk.new w _ _).fut k2).fut k3
 have b2:Blk W3 zm 41 csm.toArray:=(show Blk W2 zm _ _ by rw[hW2,hzm,← z1];exact Blk.new W1 _ _).fut k3
 have b3:Blk W3 zr 41 Y0:=by rw[hW3,hzr,hzm,show zq+1+1=W2.heap.size from z2.symm];exact Blk.new W2 _ _
 have HB3:=Lib.hid b3
 have HMB:=Lib.hid b2
 have HK:=Lib.hid k13
 have hzb:w.heap.size≤zr:=by rw[hzr,hzm,hzq];omega
 obtain⟨hv,dv,bv,bc,hcq,hpv,hst,hhs,hhd,htx,hbl⟩:=hq
 obtain⟨hv',dv',bv',bc',hcm,hpv',hst',hhs',hhd',htx',hbl'⟩:=hm
 have aq:=(show Blk W3 zq 41 (Q8z (.int .i64 q.k) (u32 q.nu) (u64 q.no) q.pv q.st hv dv bv bc).toArray from by rw[←hcq];exact b1).msg hpv hst
 have am:=(show Blk W3 zm 41 (Q8z (.int .i64 m.k) (u32 m.nu) (u64 m.no) m.pv m.st hv' dv' bv' bc').toArray from by rw[←hcm];exact b2).msg hpv' hst'
 have k0:=aq.c0
 have rs:=aq.rs
 have q67:=aq.c67
 have m67:=am.c67
 have m68:=am.c68
 have m69:=am.c69
 have HST:=Lib.hid hst
 have HHS:=Lib.hid hhs
 have HHM:=Lib.hid hhs'
 have HDM:=Lib.hid hhd'
 have HTM:=Lib.hid htx'
 obtain⟨p1,n1,c1,rfl⟩:=hhs.opens
 obtain⟨p2,n2,c2,rfl⟩:=hhs'.opens
 obtain⟨p3,n3,c3,rfl⟩:=hhd'.opens
 obtain⟨p4,n4,c4,rfl⟩:=htx'.opens
 obtain⟨kq,hkq⟩:∃k,k=q.k:=⟨_,rfl⟩
 rw[←hkq]at k0
 have lm:=Qfz b2
 have hbr:=Below.refl w.heap.size W3
 have hs139:∀cs:List Value,cs.length=139→Y0.size=cs.toArray.size:=fun cs h=>by rw[HYS.out,List.size_toArray,h]
 have HS139:=Lib.hid hs139
 clear z1 z2 k1 k2 k3 k12 k13 b1 b2 b3 hcq hcm hpv hst hhs hhd htx hbl hpv' hst' hhs' hhd' htx' hbl' aq am hkq hs139 hY0
 go_enter Tryz.func17,Tryz.ntmps17
 go_upto_region 1 with fail
 rw[←hW1,← hW2,← hW3,← hzq,← hzm,← hzr]
 clear hW1 hW2 hW3 hzq hzm hzr
 rcases(show kq=5∨kq=7∨kq=9∨kq=11∨(¬kq=5∧¬kq=7∧¬kq=9∧¬kq=11) by omega)with rfl|rfl|rfl|rfl|⟨h5,h7,h9,h11⟩
 ·have hbt:=built_a6 p3 n3 c3
  have hM:MsgC w ⟨6,0#32,0#64,noHash,noHash,[],m.hd,[],noBlk⟩ (Q8z (.int .i64 6) (u32 0#32) (u64 0#64) noHash noHash (.slice none 0 0) (.slice p3 n3 c3) (.slice none 0 0) ZBlk):=⟨_,_,_,_,rfl,Q6z,Q6z,nilE _ _ _,HDM.out,(Own8.nil w 0).sl,nilB w⟩
  obtain⟨MA,hMA⟩:∃M,M=Q8z (.int .i64 6) (u32 0#32) (u64 0#64) noHash noHash (.slice none 0 0) (.slice p3 n3 c3) (.slice none 0 0) ZBlk:=⟨_,rfl⟩
  rw[←hMA]at hbt hM
  have HM:=Lib.hid hM
  have hsz:=HS139.out MA hM.len
  clear hM hMA
  go_wp2_with(first
   |(with_reducible refine Qjz (o:=⟨some 11,_,_,_,_,_⟩) ?_ 41 #[(0,.const (.int .i64 6)),(6,.tmp 10)] ?_ [(0,.int .i64 6),(6,.slice p3 n3 c3)] ?_ MA.toArray hbt ?_
     ·rfl
     ·rfl
     ·rfl)
   |(with_reducible refine Q4z (o:=⟨none,_,_,_,_,_⟩) ?_ 41 (.tmp 4) (.tmp 11) ?_ (zr) 41 (Y0) (MA.toArray) ?_ ?_ (HB3.out) ?_ ?_ ?_ (w.heap.size) (W3) ?_ ?_ ?_
     ·rfl
     ·rfl
     ·rfl
     ·rfl
     ·exact(QWz HM.out.len)
     ·exact(hsz)
     ·exact(HM.out.one)
     ·exact(hbr)
     ·exact(hzb)
     intro w9 hB9 hb9 hg9 hs9))
  refine bodyPost_ret (Qqz rfl _ _ _ zr _ MA _ rfl hB9.out Tryz.underlying41 rfl (Qkz HM.out.len)) rfl ?_
  exact⟨_,MA,rfl,Qhz _ _ _ _ HM.out (HK.out.trans hb9),HK.out.trans hb9⟩
 ·have hbt:=built_a8 q.st HST.out p2 n2 c2
  have hM:MsgC w ⟨8,0#32,0#64,noHash,q.st,m.hs,[],[],noBlk⟩ (Q8z (.int .i64 8) (u32 0#32) (u64 0#64) noHash q.st (.slice p2 n2 c2) (.slice none 0 0) (.slice none 0 0) ZBlk):=⟨_,_,_,_,rfl,Q6z,HST.out,HHM.out,nilE _ _ _,(Own8.nil w 0).sl,nilB w⟩
  obtain⟨MA,hMA⟩:∃M,M=Q8z (.int .i64 8) (u32 0#32) (u64 0#64) noHash q.st (.slice p2 n2 c2) (.slice none 0 0) (.slice none 0 0) ZBlk:=⟨_,rfl⟩
  rw[←hMA]at hbt hM
  have HM:=Lib.hid hM
  have hsz:=HS139.out MA hM.len
  clear hM hMA
  go_wp2_with(first
   |(with_reducible refine wpList_load_mid (op:=⟨some 15,_,_,_,_,_⟩) ?_ 32 (.tmp 14) ?_ (zq) (35) ?_ ((Q5z (q.st))) _ (rs) Tryz.underlying32 ?_ ?_ ?_
     ·rfl
     ·rfl
     ·rfl
     ·rfl
     ·exact(Quz (HST.out)))
   |(with_reducible refine Qjz (o:=⟨some 18,_,_,_,_,_⟩) ?_ 41 #[(0,.const (.int .i64 8)),(4,.tmp 15),(5,.tmp 17)] ?_ [(0,.int .i64 8),(4,.agg (Q5z q.st).toArray),(5,.slice p2 n2 c2)] ?_ MA.toArray hbt ?_
     ·rfl
     ·rfl
     ·rfl)
   |(with_reducible refine Q4z (o:=⟨none,_,_,_,_,_⟩) ?_ 41 (.tmp 4) (.tmp 18) ?_ (zr) 41 (Y0) (MA.toArray) ?_ ?_ (HB3.out) ?_ ?_ ?_ (w.heap.size) (W3) ?_ ?_ ?_
     ·rfl
     ·rfl
     ·rfl
     ·rfl
     ·exact(QWz HM.out.len)
     ·exact(hsz)
     ·exact(HM.out.one)
     ·exact(hbr)
     ·exact(hzb)
     intro w9 hB9 hb9 hg9 hs9))
  refine bodyPost_ret (Qqz rfl _ _ _ zr _ MA _ rfl hB9.out Tryz.underlying41 rfl (Qkz HM.out.len)) rfl ?_
  exact⟨_,MA,rfl,Qhz _ _ _ _ HM.out (HK.out.trans hb9),HK.out.trans hb9⟩
 ·have hbt:=built_a10 q.st HST.out p4 n4 c4
  have hM:MsgC w ⟨10,0#32,0#64,noHash,q.st,[],[],m.tx,noBlk⟩ (Q8z (.int .i64 10) (u32 0#32) (u64 0#64) noHash q.st (.slice none 0 0) (.slice none 0 0) (.slice p4 n4 c4) ZBlk):=⟨_,_,_,_,rfl,Q6z,HST.out,nilE _ _ _,nilE _ _ _,HTM.out,nilB w⟩
  obtain⟨MA,hMA⟩:∃M,M=Q8z (.int .i64 10) (u32 0#32) (u64 0#64) noHash q.st (.slice none 0 0) (.slice none 0 0) (.slice p4 n4 c4) ZBlk:=⟨_,rfl⟩
  rw[←hMA]at hbt hM
  have HM:=Lib.hid hM
  have hsz:=HS139.out MA hM.len
  clear hM hMA
  go_wp2_with(first
   |(with_reducible refine wpList_load_mid (op:=⟨some 22,_,_,_,_,_⟩) ?_ 32 (.tmp 21) ?_ (zq) (35) ?_ ((Q5z (q.st))) _ (rs) Tryz.underlying32 ?_ ?_ ?_
     ·rfl
     ·rfl
     ·rfl
     ·rfl
     ·exact(Quz (HST.out)))
   |(with_reducible refine Qjz (o:=⟨some 25,_,_,_,_,_⟩) ?_ 41 #[(0,.const (.int .i64 10)),(4,.tmp 22),(7,.tmp 24)] ?_ [(0,.int .i64 10),(4,.agg (Q5z q.st).toArray),(7,.slice p4 n4 c4)] ?_ MA.toArray hbt ?_
     ·rfl
     ·rfl
     ·rfl)
   |(with_reducible refine Q4z (o:=⟨none,_,_,_,_,_⟩) ?_ 41 (.tmp 4) (.tmp 25) ?_ (zr) 41 (Y0) (MA.toArray) ?_ ?_ (HB3.out) ?_ ?_ ?_ (w.heap.size) (W3) ?_ ?_ ?_
     ·rfl
     ·rfl
     ·rfl
     ·rfl
     ·exact(QWz HM.out.len)
     ·exact(hsz)
     ·exact(HM.out.one)
     ·exact(hbr)
     ·exact(hzb)
     intro w9 hB9 hb9 hg9 hs9))
  refine bodyPost_ret (Qqz rfl _ _ _ zr _ MA _ rfl hB9.out Tryz.underlying41 rfl (Qkz HM.out.len)) rfl ?_
  exact⟨_,MA,rfl,Qhz _ _ _ _ HM.out (HK.out.trans hb9),HK.out.trans hb9⟩
 ·have hbt:=built_a13 p1 n1 c1
  have hM:MsgC w ⟨13,0#32,0#64,noHash,noHash,q.hs,[],[],noBlk⟩ (Q8z (.int .i64 13) (u32 0#32) (u64 0#64) noHash noHash (.slice p1 n1 c1) (.slice none 0 0) (.slice none 0 0) ZBlk):=⟨_,_,_,_,rfl,Q6z,Q6z,HHS.out,nilE _ _ _,(Own8.nil w 0).sl,nilB w⟩
  obtain⟨MA,hMA⟩:∃M,M=Q8z (.int .i64 13) (u32 0#32) (u64 0#64) noHash noHash (.slice p1 n1 c1) (.slice none 0 0) (.slice none 0 0) ZBlk:=⟨_,rfl⟩
  rw[←hMA]at hbt hM
  have HM:=Lib.hid hM
  have hsz:=HS139.out MA hM.len
  clear hM hMA
  go_wp2_with(first
   |(with_reducible refine Qjz (o:=⟨some 30,_,_,_,_,_⟩) ?_ 41 #[(0,.const (.int .i64 13)),(5,.tmp 29)] ?_ [(0,.int .i64 13),(5,.slice p1 n1 c1)] ?_ MA.toArray hbt ?_
     ·rfl
     ·rfl
     ·rfl)
   |(with_reducible refine Q4z (o:=⟨none,_,_,_,_,_⟩) ?_ 41 (.tmp 4) (.tmp 30) ?_ (zr) 41 (Y0) (MA.toArray) ?_ ?_ (HB3.out) ?_ ?_ ?_ (w.heap.size) (W3) ?_ ?_ ?_
     ·rfl
     ·rfl
     ·rfl
     ·rfl
     ·exact(QWz HM.out.len)
     ·exact(hsz)
     ·exact(HM.out.one)
     ·exact(hbr)
     ·exact(hzb)
     intro w9 hB9 hb9 hg9 hs9))
  refine bodyPost_ret (Qqz rfl _ _ _ zr _ MA _ rfl hB9.out Tryz.underlying41 rfl (Qkz HM.out.len)) rfl ?_
  exact⟨_,MA,rfl,Qhz _ _ _ _ HM.out (HK.out.trans hb9),HK.out.trans hb9⟩
 ·have e5:(kq==5)=false:=by rw[beq_eq_false_iff_ne];exact h5
  have e7:(kq==7)=false:=by rw[beq_eq_false_iff_ne];exact h7
  have e9:(kq==9)=false:=by rw[beq_eq_false_iff_ne];exact h9
  have e11:(kq==11)=false:=by rw[beq_eq_false_iff_ne];exact h11
  have HCL:=Lib.hid HMC.out.len
  have hsz:=HS139.out csm HCL.out
  clear h5 h7 h9 h11
  go_wp2_with(first
   |(with_reducible refine wpList_load_mid (op:=⟨some 31,_,_,_,_,_⟩) ?_ 41 (.tmp 3) ?_ (zm) (0) ?_ (csm) _ (lm) Tryz.underlying41 ?_ ?_ ?_
     ·rfl
     ·rfl
     ·rfl
     ·rfl
     ·exact((Qkz HCL.out)))
   |(with_reducible refine Q4z (o:=⟨none,_,_,_,_,_⟩) ?_ 41 (.tmp 4) (.tmp 31) ?_ (zr) 41 (Y0) (csm.toArray) ?_ ?_ (HB3.out) ?_ ?_ ?_ (w.heap.size) (W3) ?_ ?_ ?_
     ·rfl
     ·rfl
     ·rfl
     ·rfl
     ·exact(QWz HCL.out)
     ·exact(hsz)
     ·exact(HMC.out.one)
     ·exact(hbr)
     ·exact(hzb)
     intro w9 hB9 hb9 hg9 hs9))
  refine bodyPost_ret (Qqz rfl _ _ _ zr _ csm _ rfl hB9.out Tryz.underlying41 rfl (Qkz HCL.out)) rfl ?_
  exact⟨_,csm,rfl,Qhz _ _ _ _ HMC.out (HK.out.trans hb9),HK.out.trans hb9⟩
end
section
open Go Go.RowKit
def AnsP (w:World) (q m:TMsg) (e:Ending) (w':World):Prop:=∃r,e= .returned (.bool r)∧Below w.heap.size w w'∧(r=true→(m.k=8∨m.k=10)→m.st=q.st)
theorem AnsP.far {w w':World} {q m:TMsg} {r:Bool} (hb:Below w.heap.size w w') (h8:m.k≠8) (h10:m.k≠10):AnsP w q m (.returned (.bool r)) w':=⟨r,rfl,hb,fun _ h=>by omega⟩
theorem AnsP.no {w w':World} {q m:TMsg} (hb:Below w.heap.size w w'):AnsP w q m (.returned (.bool false)) w':=⟨false,rfl,hb,fun h=>by cases h⟩
theorem answers_any (q m:TMsg) (csq csm:List Value) (w:World) (hK:Laid w) (hq:MsgC w q csq) (hm:MsgC w m csm) (h1:q.k=11→q.hs.length=1):
 Calls Tryz.prog 29 #[.agg csq.toArray,.agg csm.toArray] w (AnsP w q m):=by
 obtain⟨zq,hzq⟩:∃z,z=w.heap.size:=⟨_,rfl⟩
 obtain⟨W1,hW1⟩:∃V,V=w.alloc (.cells csq.toArray 41):=⟨_,rfl⟩
 obtain⟨W2,hW2⟩:∃V,V=W1.alloc (.cells csm.toArray 41):=⟨_,rfl⟩
 have z1:W1.heap.size=zq+1:=by rw[hW1,World.size_alloc,hzq]
 obtain⟨zm,hzm⟩:∃z,z=zq+1:=⟨_,rfl⟩
 have k1:Below w.heap.size w W1:=by rw[hW1];exact Q1z w _
 have k2:Below W1.heap.size W1 W2:=by rw[hW2];exact Q1z W1 _
 have k12:=Q3z k1 k2 (Nat.le_refl _)
 have b1:Blk W2 zq 41 csq.toArray:=(show Blk W1 zq _ _ by rw[hW1,hzq];exact Blk.new w _ _).fut k2
 have b2:Blk W2 zm 41 csm.toArray:=by rw[hW2,hzm,← z1];exact Blk.new W1 _ _
 have HK:=Lib.hid k12
 have HLD:=Lib.hid (hK.below k12 hK.size)
 have hq2:=Qhz _ _ _ _ hq k12
 have hm2:=Qhz _ _ _ _ hm k12
 obtain⟨hv,dv,bv,bc,hcq,hpv,hst,hhs,hhd,htx,hbl⟩:=hq2
 obtain⟨hv',dv',bv',bc',hcm,hpv',hst',hhs',hhd',htx',hbl'⟩:=hm2
 have hbq:=(show Blk W2 zq 41 (Q8z (.int .i64 q.k) (u32 q.nu) (u64 q.no) q.pv q.st hv dv bv bc).toArray from by rw[←hcq];exact b1)
 have hbm:=(show Blk W2 zm 41 (Q8z (.int .i64 m.k) (u32 m.nu) (u64 m.no) m.pv m.st hv' dv' bv' bc').toArray from by rw[←hcm];exact b2)
 have aq:=hbq.msg hpv hst
 have am:=hbm.msg hpv' hst'
 have q0:=aq.c0
 have m0:=am.c0
 have rq:=aq.rs
 have rm:=am.rs
 have q67:=aq.c67
 have m67:=am.c67
 have HQS:=Lib.hid hst
 have HMS:=Lib.hid hst'
 have HHQ:=Lib.hid hhs
 have HHM:=Lib.hid hhs'
 have HRB:=Lib.hid am.rb
 have HBL:=Lib.hid hbl'
 have HZM:=Lib.hid hbm.lt
 have HZQ:=Lib.hid hbq.lt
 obtain⟨p1,n1,c1,rfl⟩:=hhs.opens
 obtain⟨p2,n2,c2,rfl⟩:=hhs'.opens
 have HBQ:=Lib.hid hbq
 have HBM:=Lib.hid hbm
 obtain⟨kq,hkq⟩:∃k,k=q.k:=⟨_,rfl⟩
 obtain⟨km,hkm⟩:∃k,k=m.k:=⟨_,rfl⟩
 have HKM:=Lib.hid hkm
 have H1:Hid (kq=11→n1=1):=Lib.hid (fun h=>by have h2:=h1 (by rw[←hkq];exact h);have h3:=hhs.slen.1;omega)
 rw[←hkq]at q0
 rw[←hkm]at m0
 obtain⟨r,hr⟩:∃r,r=decide (q.st=m.st):=⟨_,rfl⟩
 have heq:∀w,(Op.equalIn 10000 32 (.agg (Q5z q.st).toArray) (.agg (Q5z m.st).toArray)).run Tryz.prog w= .ok r w:=fun w=>by rw[hr];exact hash_eq q.st m.st hst hst' w
 have HR:Hid (r=true→m.st=q.st):=Lib.hid (fun h=>by rw[hr]at h;exact(of_decide_eq_true h).symm)
 clear hK hq hm h1 z1 k1 k2 k12 b1 b2 hcq hcm hpv hst hhs hhd htx hbl hpv' hst' hhs' hhd' htx' hbl' hbq hbm aq am hkq hkm hr
 go_enter Tryz.func29,Tryz.ntmps29
 go_upto_region 1 with fail
 rw[←hW1,← hW2,← hzq,← hzm]
 clear hW1 hW2 hzq hzm
 rcases(show km=6∨km=8∨km=10∨km=12∨km=13∨(¬km=6∧¬km=8∧¬km=10∧¬km=12∧¬km=13) by omega)with rfl|rfl|rfl|rfl|rfl|⟨h6,h8,h10,h12,h13⟩
 ·go_wp2_with fail
  go_ret
  exact AnsP.far HK.out (by have:=HKM.out;omega) (by have:=HKM.out;omega)
 ·cases h7:(kq==7)with
  |false=>
   go_wp2_with fail
   go_ret
   exact AnsP.no HK.out
  |true=>
   go_wp2_with(first
    |(with_reducible refine Qlz (op:=⟨some 19,_,_,_,_,_⟩) ?_ 32 (.tmp 18) ?_ (zq) (35) ?_ ((Q5z (q.st))) _ (rq) Tryz.underlying32 ?_ ?_ ?_
      ·rfl
      ·rfl
      ·rfl
      ·rfl
      ·exact(Quz (HQS.out)))
    |(with_reducible refine Qlz (op:=⟨some 21,_,_,_,_,_⟩) ?_ 32 (.tmp 20) ?_ (zm) (35) ?_ ((Q5z (m.st))) _ (rm) Tryz.underlying32 ?_ ?_ ?_
      ·rfl
      ·rfl
      ·rfl
      ·rfl
      ·exact(Quz (HMS.out))))
   go_ret
   exact⟨r,rfl,HK.out,fun h _=>HR.out h⟩
 ·cases h9:(kq==9)with
  |false=>
   go_wp2_with fail
   go_ret
   exact AnsP.no HK.out
  |true=>
   go_wp2_with(first
    |(with_reducible refine Qlz (op:=⟨some 31,_,_,_,_,_⟩) ?_ 32 (.tmp 30) ?_ (zq) (35) ?_ ((Q5z (q.st))) _ (rq) Tryz.underlying32 ?_ ?_ ?_
      ·rfl
      ·rfl
      ·rfl
      ·rfl
      ·exact(Quz (HQS.out)))
    |(with_reducible refine Qlz (op:=⟨some 33,_,_,_,_,_⟩) ?_ 32 (.tmp 32) ?_ (zm) (35) ?_ ((Q5z (m.st))) _ (rm) Tryz.underlying32 ?_ ?_ ?_
      ·rfl
      ·rfl
      ·rfl
      ·rfl
      ·exact(Quz (HMS.out))))
   go_ret
   exact⟨r,rfl,HK.out,fun h _=>HR.out h⟩
 ·cases h11:(kq==11)with
  |false=>
   go_upto_region 9 with fail
   have hF0:Below W2.heap.size W2 W2.drew:=Q0z W2 1
   refine QAz [qq 0,qq 1,qq 2,qq 3,qq 4,qq 5,qq 6,qq 7,qq 8,qq 9,qq 10,oo 11,qq 12,qq 13,qq 14] (fun W=>Below W2.heap.size W2 W) (by kernel_rfl) (by kernel_rfl) hF0 ?_
   refine' Q9z (s:=64) (A1:=_) [0,1,2,3,4,5,6,7,8,9,10] [_,_,_,_,_,_,_,_,_,_,_] _ rfl rfl rfl (fun W hW=>?hq1) _ hF0 (fun _=>?hr1)
   case hq1=>
    have c0:∀k,(W.drewN k).cell? ⟨zq,0,none⟩=some (.int .i64 kq):=fun k=>(hW.cell (p:=⟨zq,0,none⟩) HZQ.out).trans q0
    simp only[List.getElem_toArray,List.getElem_cons_zero,List.getElem_cons_succ]
    iterate 11 (go_big_quiet_step (fail))
    refine wpQuiet_nil ?_
    rfl
   case hr1=>
   refine plan_skip rfl rfl (fun _=>Q7z hF0 _) fun k1=>?_
   simp only[List.getElem_toArray,List.getElem_cons_zero,List.getElem_cons_succ,X4z,List.setIfInBounds_toArray,List.set_cons_succ,List.set_cons_zero]
   refine' Q9z (s:=64) (A1:=_) (r:=[]) [12,13,14] [_,_,_] _ rfl rfl rfl (fun W hW=>?hq2) _ (Q7z hF0 _) (fun _=>?hr2)
   case hq2=>
    simp only[List.getElem_toArray,List.getElem_cons_zero,List.getElem_cons_succ]
    iterate 3 (go_big_quiet_step (fail))
    refine wpQuiet_nil ?_
    rfl
   case hr2=>
   refine Qnz fun k9=>NoPanic.normal ?_
   have hb9:=Q7z (Q7z hF0 k1) k9
   generalize(W2.drew.drewN k1).drewN k9=w9 at*
   have HB9:=Lib.hid (Q3z HK.out hb9 (Nat.le_refl _))
   go_wp2_with fail
   go_ret
   exact AnsP.no HB9.out
  |true=>
   have hk11:kq=11:=by simpa using h11
   have hn1:n1=1:=H1.out hk11
   subst hn1
   obtain⟨b,off,cs,x,hp1,hx,hE,l2⟩:=HHQ.out.at (Below.refl _ _) (show 0<1 by omega)
   subst hp1
   obtain⟨hcs,hxl⟩:=hE
   rw[show off+0*32=off by omega]at l2
   have L2:=Lib.hid l2
   have LT2:=Lib.hid (HHQ.out.lt (Below.refl _ _) (show 0<1 by omega))
   have HCL:=Lib.hid (show cs.length=32 by rw[hcs];simp[Q5z,hxl])
   obtain⟨tv,hbc,hok,_⟩:=HBL.out
   have L3:Hid (W2.rangeAt zm 70 m.bl.h.cells):=Lib.hid (fun j v hj=>HRB.out j v (by rw[hbc,List.getElem?_append_left (List.getElem?_eq_some_iff.1 hj).1];exact hj))
   have HOK:=Lib.hid hok
   obtain⟨r6,hr6⟩:∃r,r=decide (x=hid m.bl.h):=⟨_,rfl⟩
   have heq6:∀w,(Op.equalIn 10000 32 (.agg cs.toArray) (.agg (Q5z (hid m.bl.h)).toArray)).run Tryz.prog w= .ok r6 w:=fun w=>by rw[hcs,hr6];exact hash_eq x (hid m.bl.h) hxl (hid_len _) w
   have HEQ6:=Lib.hid heq6
   obtain⟨hc,hhc⟩:∃c,c=(Q5z (hid m.bl.h)).toArray:=⟨_,rfl⟩
   rw[←hhc]at HEQ6
   have HHC:=Lib.hid hhc
   clear hcs hxl hx hbc hok hk11 l2 hr6 heq6 hhc heq
   go_upto_region 9 with fail
   have hF0:Below W2.heap.size W2 W2.drew:=Q0z W2 1
   refine QAz [qq 0,qq 1,qq 2,qq 3,qq 4,qq 5,qq 6,qq 7,qq 8,qq 9,qq 10,oo 11,qq 12,qq 13,qq 14] (fun W=>Below W2.heap.size W2 W) (by kernel_rfl) (by kernel_rfl) hF0 ?_
   refine' Q9z (s:=64) (A1:=_) [0,1,2,3,4,5,6,7,8,9,10] [_,_,_,_,_,_,_,_,_,_,_] _ rfl rfl rfl (fun W hW=>?hq1) _ hF0 (fun _=>?hr1)
   case hq1=>
    have c0:∀k,(W.drewN k).cell? ⟨zq,0,none⟩=some (.int .i64 kq):=fun k=>(hW.cell (p:=⟨zq,0,none⟩) HZQ.out).trans q0
    have c67:∀k,(W.drewN k).cell? ⟨zq,67,none⟩=some (.slice (some ⟨b,off,none⟩) 1 c1):=fun k=>(hW.cell (p:=⟨zq,67,none⟩) HZQ.out).trans q67
    simp only[List.getElem_toArray,List.getElem_cons_zero,List.getElem_cons_succ]
    iterate 7 (go_big_quiet_step (fail))
    refine Qtz rfl 32 (.tmp 44) rfl b off rfl cs _ (fun w hw=>?_) Tryz.underlying32 rfl (by rw[HCL.out];kernel_rfl) ?_
    ·obtain⟨j,rfl⟩:=hw
     exact XEz L2.out (hW.trans ((Q0z W j).mono hW.size)) LT2.out
    simp only[X4z,List.setIfInBounds_toArray,List.set_cons_succ,List.set_cons_zero]
    iterate 2 (go_big_quiet_step (fail))
    refine Qtz rfl 36 (.tmp 47) rfl zm 70 rfl m.bl.h.cells _ (fun w hw=>?_) Tryz.underlying36 rfl (XWz HOK.out) ?_
    ·obtain⟨j,rfl⟩:=hw
     exact XEz L3.out (hW.trans ((Q0z W j).mono hW.size)) HZM.out
    simp only[X4z,List.setIfInBounds_toArray,List.set_cons_succ,List.set_cons_zero]
    refine wpQuiet_nil ?_
    rfl
   case hr1=>
   refine Qbz rfl fun k=>?_
   go_wp2_with fail
   refine(hdrID_any m.bl.h HOK.out _ (HLD.out.below (Q0z W2 (1+k)) HLD.out.size)).mono ?_
   rintro e w6 ⟨rfl,hb6⟩
   have hF6:Below W2.heap.size W2 w6:=(Q0z W2 (1+k)).trans (hb6.mono (Nat.le_refl _))
   rw[←HHC.out]
   clear hb6
   go_wp2_with fail
   refine Q2z (And.intro hF6 ?_)
   have heq6:=HEQ6.out
   refine' Q9z (s:=64) (A1:=_) (r:=[]) [12,13,14] [_,_,_] _ rfl rfl rfl (fun W hW=>?hq2) _ hF6 (fun _=>?hr2)
   case hq2=>
    simp only[List.getElem_toArray,List.getElem_cons_zero,List.getElem_cons_succ]
    iterate 3 (go_big_quiet_step (fail))
    refine wpQuiet_nil ?_
    rfl
   case hr2=>
   refine Qnz fun k9=>NoPanic.normal ?_
   have HB9:=Lib.hid (Q3z HK.out (Q7z hF6 k9) (Nat.le_refl _))
   clear hF6 hF0 heq6
   go_wp2_with fail
   go_ret
   exact AnsP.far HB9.out (by have:=HKM.out;omega) (by have:=HKM.out;omega)
 ·cases h11:(kq==11)with
  |false=>
   go_wp2_with fail
   go_ret
   exact AnsP.no HK.out
  |true=>
   have hce:=eqH_any (.slice p1 n1 c1) (.slice p2 n2 c2) q.hs m.hs W2 HHQ.out HHM.out
   have HCE:=Lib.hid hce
   clear hce
   go_wp2_with fail
   refine HCE.out.mono ?_
   rintro e w5 ⟨r5,rfl,hb5⟩
   have HB5:=Lib.hid (Q3z HK.out hb5 (Nat.le_refl _))
   clear hb5
   go_wp2_with fail
   go_ret
   exact AnsP.far HB5.out (by have:=HKM.out;omega) (by have:=HKM.out;omega)
 ·have e6:(km==6)=false:=by rw[beq_eq_false_iff_ne];exact h6
  have e8:(km==8)=false:=by rw[beq_eq_false_iff_ne];exact h8
  have e10:(km==10)=false:=by rw[beq_eq_false_iff_ne];exact h10
  have e12:(km==12)=false:=by rw[beq_eq_false_iff_ne];exact h12
  have e13:(km==13)=false:=by rw[beq_eq_false_iff_ne];exact h13
  clear h6 h8 h10 h12 h13
  go_wp2_with fail
  go_ret
  exact AnsP.no HK.out
end
section
open Go Go.RowKit
theorem fields_ask (K:Nat) (h:K=5∨K=7∨K=9∨K=11):FldsK K:=by
 rcases h with rfl|rfl|rfl|rfl
 ·exact fun D B g z hD hB w s hr hm=>fields_k5 D B g z hD hB w s hr hm
 ·exact fun D B g z hD hB w s hr hm=>fields_k7 D B g z hD hB w s hr hm
 ·exact fun D B g z hD hB w s hr hm=>fields_k9 D B g z hD hB w s hr hm
 ·exact fun D B g z hD hB w s hr hm=>fields_k11 D B g z hD hB w s hr hm
def askK (m:TMsg):Prop:=m.k=5∨m.k=7∨m.k=9∨m.k=11∧m.hs.length=1
theorem enc_ask (m:TMsg) (cs:List Value) (V:World) (h:askK m) (hm:MsgC V m cs):Calls Tryz.prog 34 #[.agg cs.toArray] V (Z1z V (msgP m)):=by
 cases ht:tooB m with
 |true=>exact enc_bad m cs V hm (.inr ht)
 |false=>
 obtain⟨k,nu,no,pv,st,hs,hd,tx,bl⟩:=m
 unfold askK at h
 simp only at h
 rcases h with rfl|rfl|rfl|⟨rfl,_⟩
 ·exact enc_k5 nu no pv st hs hd tx bl cs V hm ht
 ·exact enc_k7 nu no pv st hs hd tx bl cs V hm ht
 ·exact enc_k9 nu no pv st hs hd tx bl cs V hm ht
 ·exact enc_k11 nu no pv st hs hd tx bl cs V hm ht
theorem bytes_fine {m:TMsg} (h:(QKz m).2=0):(payP m).2=0∧(payP m).1.length≤200000∧cmdOk (cmdB m.k)=true∧QKz m=(X2z (cmdB m.k) (payP m).1,0):=by
 have h0:(payP m).2=0:=by
  refine Decidable.byContradiction fun hn=>?_
  unfold QKz msgP at h
  rw[if_neg hn,if_neg hn]at h
  exact hn h
 have hp:QKz m=frmP (cmdB m.k) (payP m).1:=by unfold QKz;rw[msgP_ok m h0,if_pos rfl]
 rw[hp]at h ⊢
 unfold frmP at h ⊢
 cases hc:cmdOk (cmdB m.k)with
 |false=>rw[hc]at h;cases h
 |true=>
  rw[hc,if_pos rfl]at h
  by_cases hl:200000<(payP m).1.length
  ·rw[if_pos hl]at h;cases h
  ·refine⟨h0,by omega,rfl,?_⟩
   rw[if_pos rfl,if_neg hl]
theorem norm_ask {m:TMsg} (h:askK m):(normP m).hd=[]∧(normP m).tx=[]∧(normP m).bl=noBlk∧((normP m).k=11→(normP m).hs.length=1)∧((payP m).2=0→(normP m).hs.length≤1000):=by
 obtain⟨k,nu,no,pv,st,hs,hd,tx,bl⟩:=m
 unfold askK at h
 simp only at h
 rcases h with rfl|rfl|rfl|⟨rfl,h1⟩
 ·refine⟨rfl,rfl,rfl,fun h=>absurd (show(5:Int)=11 from h) (by decide),fun h=>?_⟩
  show hs.length≤1000
  have e:payP ⟨5,nu,no,pv,st,hs,hd,tx,bl⟩=if 101<hs.length then([],1)else(le32 nu++(hshB [] hs++st),0):=rfl
  rw[e]at h
  by_cases hl:101<hs.length
  ·rw[if_pos hl]at h;cases h
  ·omega
 ·exact⟨rfl,rfl,rfl,fun h=>absurd (show(7:Int)=11 from h) (by decide),fun _=>Nat.zero_le _⟩
 ·exact⟨rfl,rfl,rfl,fun h=>absurd (show(9:Int)=11 from h) (by decide),fun _=>Nat.zero_le _⟩
 ·exact⟨rfl,rfl,rfl,fun _=>h1,fun _=>by show hs.length≤1000;omega⟩
def AskQ (B:Nat) (w:World) (g rv:Nat) (no:BitVec 64) (dn:Int) (e:Ending) (w':World):Prop:=
 ∃v,e= .returned v∧Stays (·=g) w w'∧∃q aq,SesB w' g no rv dn 2 0 true true aq∧Asked B w' aq q
theorem ask_any (g rv:Nat) (no:BitVec 64) (dn:Int) (m:TMsg) (cs:List Value) (now:Int) (w:World) (hK:Laid w) (hm:MsgC w m cs) (h:SesB w g no rv dn 2 0 true true none):
 Calls Tryz.prog 14 #[.pointer (some ⟨g,0,none⟩),.agg cs.toArray,.int .i64 now] w (AskQ w.heap.size w g rv no dn):=by
 have HCL:=Lib.hid hm.len
 have HOKM:=Lib.hid hm.okMsg
 have HK:=Lib.hid hK
 have hKs:=hK.size
 have hzf:=yFrm
 obtain⟨zm,hzm⟩:∃z,z=w.heap.size:=⟨_,rfl⟩
 obtain⟨W1,hW1⟩:∃V,V=w.alloc (.cells cs.toArray 41):=⟨_,rfl⟩
 have hb1:Below w.heap.size w W1:=by rw[hW1];exact Q1z w _
 have hB1:Blk W1 zm 41 cs.toArray:=by rw[hW1,hzm];exact Blk.new w _ _
 have HM1:Hid (MsgC W1 m cs):=Lib.hid (Qhz _ _ _ _ hm hb1)
 have l1:=Qfz hB1
 have k0:=msgC_kind HM1.out hB1
 obtain⟨ph,ch,k67⟩:=msgC_hashes HM1.out hB1
 have h1:SesB W1 g no rv dn 2 0 true true none:=h.fut hb1
 have HN:=Lib.hid (Zlz g no rv dn 2 0 true true none W1 h1)
 have HBL:=Lib.hid (Zhz ⟨g,6,none⟩ 0 W1 h1.l.c6)
 have HRY:=Lib.hid (ready_any g no rv dn 2 0 true true none W1 h1)
 have HS1:=Lib.hid h1
 have HW1:=Lib.hid hb1
 have HB1:=Lib.hid hB1
 have c9:=h1.l.c9
 have hg:g<zm:=by rw[hzm];exact h.lt
 have HZM:=Lib.hid hzm
 obtain⟨kk,hkk⟩:∃k,k=m.k:=⟨_,rfl⟩
 obtain⟨nh,hnh⟩:∃n,n=m.hs.length:=⟨_,rfl⟩
 rw[←hkk]at k0
 rw[←hnh]at k67
 have HKK:=Lib.hid hkk
 have HNH:=Lib.hid hnh
 clear hm hB1 hb1 h1 h hK hkk hnh
 go_enter Tryz.func14,Tryz.ntmps14
 go_upto_region 1 with fail
 rw[←hW1,← hzm]
 clear hW1 hzm
 go_wp2_with fail
 refine HN.out.mono ?_
 rintro e w0 ⟨rfl,hw⟩
 replace hw:=hw.symm
 subst hw
 go_wp2_with fail
 refine HBL.out.mono ?_
 rintro e w0 ⟨rfl,hw⟩
 replace hw:=hw.symm
 subst hw
 go_wp2_with fail
 refine HRY.out.mono ?_
 rintro e w0 ⟨rfl,hw⟩
 replace hw:=hw.symm
 subst hw
 clear HN HBL HRY
 go_upto_block 1 with fail
 go_cut[] (fun wx=>wx=W1∧Hid (askK m))
 case first=>
  rcases(show kk=5∨kk=7∨kk=9∨kk=11∨(¬kk=5∧¬kk=7∧¬kk=9∧¬kk=11) by omega)with rfl|rfl|rfl|rfl|⟨h5,h7,h9,h11⟩
  ·go_wp2_with fail
   go_meet
   exact⟨rfl,Lib.hid (.inl HKK.out.symm)⟩
  ·go_wp2_with fail
   go_meet
   exact⟨rfl,Lib.hid (.inr (.inl HKK.out.symm))⟩
  ·go_wp2_with fail
   go_meet
   exact⟨rfl,Lib.hid (.inr (.inr (.inl HKK.out.symm)))⟩
  ·by_cases hn1:nh=1
   ·subst hn1
    go_wp2_with fail
    go_meet
    exact⟨rfl,Lib.hid (.inr (.inr (.inr ⟨HKK.out.symm,HNH.out.symm⟩)))⟩
   ·have hne:((nh:Int)==1)=false:=by rw[beq_eq_false_iff_ne];omega
    clear hn1
    go_wp2_with fail
    go_ret2
    exact⟨_,rfl,Stays.of_below HW1.out (Nat.le_refl _) _,none,none,HS1.out,rfl⟩
  ·have e5:(kk==5)=false:=by rw[beq_eq_false_iff_ne];exact h5
   have e7:(kk==7)=false:=by rw[beq_eq_false_iff_ne];exact h7
   have e9:(kk==9)=false:=by rw[beq_eq_false_iff_ne];exact h9
   have e11:(kk==11)=false:=by rw[beq_eq_false_iff_ne];exact h11
   clear h5 h7 h9 h11
   go_wp2_with fail
   go_ret2
   exact⟨_,rfl,Stays.of_below HW1.out (Nat.le_refl _) _,none,none,HS1.out,rfl⟩
 case rest=>
 obtain⟨hw,HA⟩:=hcut
 replace hw:=hw.symm
 subst hw
 have HBY:=Lib.hid (msgBytes_of cs m W1 (fun V hv=>enc_ask m cs V HA.out hv) (HK.out.below HW1.out hKs) HM1.out)
 by_cases hbe:(QKz m).2=0
 case neg=>
  obtain⟨bb,hbb⟩:∃b,b=QKz m:=⟨_,rfl⟩
  rw[←hbb]at HBY hbe
  obtain⟨bb,be⟩:=bb
  replace hbe:¬be=0:=hbe
  unfold OutPost at HBY
  simp only at HBY
  have hbe':(be==0)=false:=by rw[beq_eq_false_iff_ne];exact hbe
  clear hbb hbe
  go_wp2_with((with_reducible refine wpList_load_mid (op:=⟨some 44,_,_,_,_,_⟩) ?_ 41 (.tmp 4) ?_ (zm) (0) ?_ (cs) _ (l1) Tryz.underlying41 ?_ ?_ ?_
               ·rfl
               ·rfl
               ·rfl
               ·rfl
               ·exact((Qkz HCL.out))))
  refine HBY.out.mono ?_
  rintro e w2 ⟨v2,rfl,ho2,hb2⟩
  have HW2:=Lib.hid (Q3z HW1.out hb2 (Nat.le_refl _))
  have HS2:Hid (SesB w2 g no rv dn 2 0 true true none):=Lib.hid (HS1.out.fut hb2)
  clear ho2 hb2 l1 HBY
  go_wp2_with fail
  go_ret2
  exact⟨_,rfl,Stays.of_below HW2.out (Nat.le_refl _) _,none,none,HS2.out,rfl⟩
 obtain⟨hp0,hpl,_,hbo⟩:=bytes_fine hbe
 have HP0:=Lib.hid hp0
 have HPL:=Lib.hid hpl
 rw[hbo]at HBY
 obtain⟨OB,hOB⟩:∃OB,OB=X2z (cmdB m.k) (payP m).1:=⟨_,rfl⟩
 rw[←hOB]at HBY
 unfold OutPost at HBY
 simp only at HBY
 clear hbo hbe hOB hp0 hpl
 go_wp2_with((with_reducible refine wpList_load_mid (op:=⟨some 44,_,_,_,_,_⟩) ?_ 41 (.tmp 4) ?_ (zm) (0) ?_ (cs) _ (l1) Tryz.underlying41 ?_ ?_ ?_
              ·rfl
              ·rfl
              ·rfl
              ·rfl
              ·exact((Qkz HCL.out))))
 refine HBY.out.mono ?_
 rintro e w2 ⟨v2,rfl,ho2,hb2⟩
 have HO2:Hid (Own8 w2 w.heap.size v2 OB):=Lib.hid (Own8.mono' ho2 HW1.out.size)
 have HW2:=Lib.hid (Q3z HW1.out hb2 (Nat.le_refl _))
 have HB2:=Lib.hid (HB1.out.fut hb2)
 have HM2:Hid (MsgC w2 m cs):=Lib.hid (Qhz _ _ _ _ HM1.out hb2)
 have HS2:Hid (SesB w2 g no rv dn 2 0 true true none):=Lib.hid (HS1.out.fut hb2)
 have l2:=Qfz HB2.out
 have he2:=enc_ask m cs w2 HA.out HM2.out
 rw[msgP_ok m HP0.out]at he2
 obtain⟨PY,hPY⟩:∃PY,PY=(payP m).1:=⟨_,rfl⟩
 obtain⟨CM,hCM⟩:∃CM,CM=cmdB m.k:=⟨_,rfl⟩
 rw[←hPY,← hCM]at he2
 unfold Z1z at he2
 simp only at he2
 have HPY:=Lib.hid hPY
 have HCM:=Lib.hid hCM
 have HE2:=Lib.hid he2
 clear ho2 hb2 l1 HBY HB1 HM1 HS1 HW1 he2 hPY hCM k0 k67
 go_wp2_with((with_reducible refine wpList_load_mid (op:=⟨some 51,_,_,_,_,_⟩) ?_ 41 (.tmp 4) ?_ (zm) (0) ?_ (cs) _ (l2) Tryz.underlying41 ?_ ?_ ?_
              ·rfl
              ·rfl
              ·rfl
              ·rfl
              ·exact((Qkz HCL.out))))
 refine HE2.out.mono ?_
 rintro e w3 ⟨v3,rfl,ho3,hb3⟩
 obtain⟨q3,m3,c3,rfl,_⟩:=ho3.open
 have HO3:=Lib.hid (Own8.mono' ho3 HW2.out.size)
 have HO23:=Lib.hid (HO2.out.fut hb3)
 have HW3:=Lib.hid (Q3z HW2.out hb3 (Nat.le_refl _))
 have HB3:=Lib.hid (HB2.out.fut hb3)
 have HM3:Hid (MsgC w3 m cs):=Lib.hid (Qhz _ _ _ _ HM2.out hb3)
 have HS3:Hid (SesB w3 g no rv dn 2 0 true true none):=Lib.hid (HS2.out.fut hb3)
 have hbn:=Q1z w3 (.cells YFrm.toArray 82)
 clear ho3 hb3 l2 HE2 HO2 HB2 HM2 HS2 HW2
 go_upto_region 18 with((with_reducible refine Q4z (o:=⟨none,_,_,_,_,_⟩) ?_ 82 (.tmp 10) (.tmp 53) ?_ (w3.heap.size) 82 (YFrm.toArray) (#[.string (strB CM),.slice q3 m3 c3]) ?_ ?_ (Blk.new w3 _ _) ?_ ?_ ?_ (w3.heap.size) (w3) ?_ ?_ ?_
                         ·rfl
                         ·rfl
                         ·rfl
                         ·rfl
                         ·exact((by kernel_rfl))
                         ·exact(rfl)
                         ·exact(all_frm)
                         ·exact(hbn)
                         ·exact(Nat.le_refl _)
                         intro w4 hB4 hb4 hg4 hs4))
 try simp only[Qpz]
 obtain⟨z4,hz4⟩:∃z,z=w3.heap.size:=⟨_,rfl⟩
 rw[←hz4]at hB4 ⊢
 have l4:=Qfz (cs:=[.string (strB CM),.slice q3 m3 c3]) hB4.out
 have HO24:=Lib.hid (HO23.out.fut hb4)
 have HW4:=Lib.hid (Q3z HW3.out hb4 (Nat.le_refl _))
 have HB4:=Lib.hid (HB3.out.fut hb4)
 have HS4:Hid (SesB w4 g no rv dn 2 0 true true none):=Lib.hid (HS3.out.fut hb4)
 have hds:=msgDecode_of CM q3 m3 c3 PY w4 (fun _=>by
  rw[HCM.out]
  refine fields_ask _ ?_
  rw[(cmd_back m HP0.out).1]
  have:=HA.out
  unfold askK at this
  omega) (by
   have h:=HO3.out.fut hb4
   exact h.sl) (by
   have h:=HO3.out.open
   obtain⟨_,_,_,e,hn,_⟩:=h
   injection e with _ e2 _
   have hp:=HPL.out
   rw[←HPY.out]at hp
   have:=hn.out
   omega)
 rw[HPY.out,HCM.out,dec_back m HOKM.out HP0.out,← HCM.out]at hds
 unfold MsgDec at hds
 simp only at hds
 have HDS:=Lib.hid hds
 clear hbn hz4 hB4 hb4 hg4 hs4 HO3 HO23 HB3 HM3 HS3 HW3 hds
 go_wp2_with((with_reducible refine wpList_load_mid (op:=⟨some 56,_,_,_,_,_⟩) ?_ 82 (.tmp 10) ?_ (z4) (0) ?_ ([.string (strB CM),.slice q3 m3 c3]) _ (l4) Tryz.underlying82 ?_ ?_ ?_
              ·rfl
              ·rfl
              ·rfl
              ·rfl
              ·exact((by kernel_rfl))))
 refine HDS.out.mono ?_
 rintro e w5 ⟨cs5,rfl,ho5,hb5⟩
 have HCL5:=Lib.hid ho5.c.len
 obtain⟨nq1,nq2,nq3,nq4,nq5⟩:=norm_ask HA.out
 have HNQ:=Lib.hid (And.intro nq4 (nq5 HP0.out))
 have HQ5:Hid (QO w.heap.size w5 (normP m) cs5):=Lib.hid ((ho5.mono HW4.out.size).q nq1 nq2 nq3)
 have hone5:=ho5.c.one
 have hsz5:=ho5.c.size (Y:=cs.toArray) (by rw[List.size_toArray];exact HCL.out)
 have HO5:=Lib.hid (HO24.out.fut hb5)
 have HW5:=Lib.hid (Q3z HW4.out hb5 (Nat.le_refl _))
 have HB5:=Lib.hid (HB4.out.fut hb5)
 have HS5:Hid (SesB w5 g no rv dn 2 0 true true none):=Lib.hid (HS4.out.fut hb5)
 have hwz:w.heap.size≤zm:=by rw[HZM.out];exact Nat.le_refl _
 have hw5:=HW5.out
 clear ho5 hb5 l4 HDS HO24 HW4 HB4 HS4 nq1 nq2 nq3 nq4 nq5
 go_upto_region 19 with((with_reducible refine Q4z (o:=⟨none,_,_,_,_,_⟩) ?_ 41 (.tmp 4) (.tmp 58) ?_ (zm) 41 (cs.toArray) (cs5.toArray) ?_ ?_ (HB5.out) ?_ ?_ ?_ (w.heap.size) (w) ?_ ?_ ?_
                         ·rfl
                         ·rfl
                         ·rfl
                         ·rfl
                         ·exact(QWz HCL5.out)
                         ·exact(hsz5)
                         ·exact(hone5)
                         ·exact(hw5)
                         ·exact(hwz)
                         intro w6 hB6 hb6 hg6 hs6))
 try simp only[Qpz]
 have hst6:=Stays.of_grown (S:=fun k=>k=zm) hg6.out (fun k h=>by injection h with h;exact h.symm)
 have HO6:=Lib.hid (HO5.out.stays hst6 (fun k hk e=>Z9z HO5.out HB5.out (by decide) (by rw[hk,show k=zm from e])))
 have HS6:Hid (SesB w6 g no rv dn 2 0 true true none):=Lib.hid (Blk.stays HS5.out hst6 (fun e=>by have:g=zm:=e;omega))
 have HQ6:=Lib.hid (HQ5.out.stays hst6 (Qiz HB5.out (by decide)))
 have HW6:=Lib.hid hb6
 have l6:=Qfz hB6.out
 have hbt:=built_req cs5 HCL5.out now
 obtain⟨RQ,hRQ⟩:∃RQ,RQ=(cs5++[Value.int .i64 now]).toArray:=⟨_,rfl⟩
 rw[←hRQ]at hbt
 have HRQ:=Lib.hid hRQ
 clear hB6 hg6 hs6 hst6 hb6 HO5 HS5 HW5 HB5 hone5 hsz5 hw5 hRQ HQ5
 obtain⟨rq,hrq⟩:∃rq,rq=w6.heap.size:=⟨_,rfl⟩
 obtain⟨w7,hw7⟩:∃V,V=w6.alloc (.cells RQ 97):=⟨_,rfl⟩
 have hb7:Below w6.heap.size w6 w7:=by rw[hw7];exact Q1z w6 _
 have hB7:Blk w7 rq 97 RQ:=by rw[hw7,hrq];exact Blk.new w6 _ _
 have HS7:Hid (SesB w7 g no rv dn 2 0 true true none):=Lib.hid (HS6.out.fut hb7)
 have f9:=HS7.out.frozen 9
 have c9:=HS7.out.l.c9
 rw[hw7]at f9 c9
 have HO7:=Lib.hid (HO6.out.fut hb7)
 have HQ7:=Lib.hid (HQ6.out.stays (Stays.of_below hb7 (Nat.le_refl _) (fun _=>False)) (fun _ h=>h.elim))
 have HW7:=Lib.hid (Q3z HW6.out hb7 (Nat.le_refl _))
 have HB7:=Lib.hid hB7
 have hrq6:zm<rq∨w.heap.size≤rq:=Or.inr (by rw[hrq];exact HW6.out.size)
 have hgrq:g<rq:=by rw[hrq];exact HS6.out.lt
 have HGRQ:=Lib.hid hgrq
 clear hb7 hB7 HS6 HO6 HW6 HQ6
 go_upto_region 20 with(first
  |(with_reducible refine wpList_load_mid (op:=⟨some 62,_,_,_,_,_⟩) ?_ 41 (.tmp 4) ?_ (zm) (0) ?_ (cs5) _ (l6) Tryz.underlying41 ?_ ?_ ?_
    ·rfl
    ·rfl
    ·rfl
    ·rfl
    ·exact((Qkz HCL5.out)))
  |(with_reducible refine Qjz (o:=⟨some 64,_,_,_,_,_⟩) ?_ 97 #[(0,.tmp 62),(1,.tmp 63)] ?_ [(0,.agg cs5.toArray),(1,.int .i64 now)] ?_ RQ hbt ?_
    ·rfl
    ·rfl
    ·rfl))
 rw[←hw7,← hrq]
 clear hw7 hrq
 go_wp2_with fail
 go_ret2
 have hap:v2.ownBlock≠some g:=Z9z HO7.out HS7.out (by decide)
 have hst8:Stays (·=g) w7 (w7.setCell ⟨g,9,none⟩ (.pointer (some ⟨rq,0,none⟩))):=(show Stays (·=g) w7 w7 from Stays.refl _ _).setCell (a:=⟨g,9,none⟩) (fun _=>rfl) _
 have hsep:Sep w.heap.size [32,97] w7 (·=g):=Qiz HS7.out (by decide)
 have hask:AskAt w.heap.size w7 rq (normP m):=⟨cs5,now,by rw[←HRQ.out];exact HB7.out,HQ7.out,HNQ.out.1,HNQ.out.2,by omega⟩
 exact⟨_,rfl,(Stays.of_below HW7.out (Nat.le_refl _) (·=g)).setCell (a:=⟨g,9,none⟩) (fun _=>rfl) _,some (normP m),_,HS7.out.set 9 _,rq,rfl,hask.stays hst8 hsep⟩
end
section
open Go Go.RowKit
def rowT (o:Option TMsg):Frms:=match o with
 |none=>[]
 |some m=>[(cmdB m.k,(payP m).1)]
def okT (m:TMsg):Prop:=okMsg m∧(payP m).2=0∧(payP m).1.length≤200000
def Told (B:Nat) (w:World) (v:Value) (q:TMsg):Prop:=∃tb c m cs,v= .slice (some ⟨tb,0,none⟩) 1 c∧B≤tb∧tb<w.heap.size∧w.rangeAt tb 0 cs∧MsgC w m cs∧((m.k=8∨m.k=10)→m.st=q.st)
def Rnd (B:Nat) (w:World) (g rv:Nat) (no:BitVec 64) (dn:Int) (q:Option TMsg) (tv:Value):Prop:=(tv= .slice none 0 0∧∃aq,SesB w g no rv dn 2 0 true true aq∧Asked B w aq q)∨∃q',q=some q'∧Told B w tv q'∧SesB w g no rv dn 2 0 true true none
def FeedA (B:Nat) (v:Value) (w:World) (g rv:Nat) (no:BitVec 64) (dn:Int) (q:Option TMsg) (e:Ending) (w':World):Prop:=
 Below B w w'∧Stays (fun k=>k=g∨k=rv∨v.ownBlock=some k) w w'∧((e= .returned (.tuple #[.slice none 0 0,.slice none 0 0,.int .i64 201])∧∃hl ve ak aq,SesB w' g no rv dn hl 1 ve ak aq)∨∃tv u v',e= .returned (.tuple #[tv,u,.int .i64 0])∧Rnd B w' g rv no dn q tv∧Rd w' rv v' 0∧Sfx8 w' B v' [])
theorem ses_sep {w:World} {B B' g rv:Nat} {v:Value} {s:Bs} {er:Int} {no:BitVec 64} {dn hl bd:Int} {ve ak:Bool} {aq:Option Addr} (h:SesB w g no rv dn hl bd ve ak aq) (hR:Rd w rv v er) (hv:Sfx8 w B v s):Sep B' [32,97] w (fun k=>k=g∨k=rv∨v.ownBlock=some k):=by
 rintro k (rfl|rfl|hk)
 ·exact .inr ⟨_,_,h,by decide⟩
 ·exact .inr ⟨_,_,hR,by decide⟩
 ·rcases hv with⟨rfl,_⟩|⟨b,off,cap,cur,rfl,_,hb,_⟩
  ·cases hk
  ·injection hk with hk
   subst hk
   exact .inr ⟨_,_,hb,by decide⟩
theorem ses_appA {w1 w7 w8:World} {g rv:Nat} {no:BitVec 64} {dn hl bd:Int} {ve ak:Bool} {aq:Option Addr} {u:Value} {ob:Bs} (h1:Own8 w7 w1.heap.size u ob) (h2:Stays (·=g) w1 w7) (h3:SesB w7 g no rv dn hl bd ve ak aq) (hg:w7.grownBy w8 u.ownBlock) (hlt:g<w1.heap.size):
 Stays (·=g) w1 w8∧SesB w8 g no rv dn hl bd ve ak aq:=
 ⟨h2.trans (Stays.of_grown (S:=fun k=>u.ownBlock=some k) hg (fun k h=>h)) (fun k hk hS=>by have:=(World.ownsRow.lt h1 k hS).1;omega),
  Blk.stays h3 (Stays.of_grown (S:=fun k=>u.ownBlock=some k) hg (fun k h=>h)) (fun hS=>by have:=(World.ownsRow.lt h1 g hS).1;omega)⟩
theorem msg_info:(Tryz.prog.info? 41).map (fun i=>(i.zero,i.size,i.bytes))=some (some (.agg (msgZ 0).toArray),139,264):=by kernel_rfl
theorem feed_one (B g rv:Nat) (v:Value) (bs:Bs) (p:Option Addr) (n c:Nat) (w:World) (no:BitVec 64) (dn:Int) (aq:Option Addr) (q o:Option TMsg) (hK:Laid w) (hgB:gTop≤B) (hB:B≤rv∧B≤g)
 (hS:SesB w g no rv dn 2 0 true true aq) (hA:Asked B w aq q) (hR:Rd w rv v 0) (hv:Sfx8 w B v []) (hr:Row8 w p bs) (hn:bs.length=n) (hlen:n≤1000000000) (hf:feedP [] 0 bs=(rowT o,[],0)) (ho:∀m,o=some m→okT m):
 Calls Tryz.prog 10 #[.pointer (some ⟨g,0,none⟩),.slice p n c] w (FeedA B v w g rv no dn q):=by
 have HN:=Lib.hid (Zlz g no rv dn 2 0 true true aq w hS)
 have HBL:=Lib.hid (Zhz ⟨g,6,none⟩ 0 w hS.l.c6)
 have HFE:=Lib.hid (feedE_any rv B v [] bs 0 p n c w hK hgB hB.1 hR hv (fun h=>absurd rfl h) hr hn (by simp only[List.length_nil];omega))
 rw[hf]at HFE
 have hap:=ses_apart hS hR hv
 have HSEP:Hid (Sep B [32,97] w (fun k=>k=rv∨v.ownBlock=some k)):=Lib.hid (fun k hk=>ses_sep (B':=B) hS hR hv k (.inr hk))
 have c1:=hS.l.c1
 have HS:=Lib.hid hS
 have HA:=Lib.hid hA
 have HK:=Lib.hid hK
 have HAP:=Lib.hid hap
 have HO:=Lib.hid ho
 have hBs:B≤w.heap.size:=by have:=hS.lt;omega
 have HVB:Hid (∀k,v.ownBlock=some k→B≤k):=Lib.hid (fun k hk=>(hv.lt k hk).1)
 obtain⟨fs,hfs⟩:∃fs,fs=rowT o:=⟨_,rfl⟩
 rw[←hfs]at HFE
 have HFS:=Lib.hid hfs
 have hfn:fs.length≤1:=by rw[hfs];cases o<;>simp[rowT]
 clear hf hS hA hR hv hr hn hap hK ho hfs
 go_enter Tryz.func10,Tryz.ntmps10
 go_wp2_with fail
 refine HN.out.mono ?_
 rintro e w0 ⟨rfl,hw⟩
 replace hw:=hw.symm
 subst hw
 go_wp2_with fail
 refine HBL.out.mono ?_
 rintro e w0 ⟨rfl,hw⟩
 replace hw:=hw.symm
 subst hw
 clear HN HBL
 go_wp2_with fail
 refine HFE.out.mono ?_
 rintro e w1 ⟨l,v1,H,rfl,hH,hf1,hr1,hv1,hst1,hvo⟩
 replace hf1:FrmRows w1 H l fs:=hf1
 replace hr1:Rd w1 rv v1 0:=hr1
 replace hv1:Sfx8 w1 B v1 []:=hv1
 obtain⟨pf,cf,rfl,hlc,hcm,hfa⟩:=hf1.at
 have HS1:Hid (SesB w1 g no rv dn 2 0 true true aq):=Lib.hid (Blk.stays HS.out hst1 HAP.out)
 have HA1:Hid (Asked B w1 aq q):=Lib.hid (HA.out.stays hst1 HSEP.out)
 have hgl:g<w1.heap.size:=HS1.out.lt
 obtain⟨N,hN⟩:∃N,N=fs.length:=⟨_,rfl⟩
 have HNN:=Lib.hid hN
 have hg0:g<w.heap.size:=HS.out.lt
 rw[←hN]at hlc hfn hf1 ⊢
 have HFR:=Lib.hid hf1
 have hw1:w.heap.size≤w1.heap.size:=hst1.size
 have HBW1:Hid (Below B w w1):=Lib.hid (hst1.below hBs (fun k hk=>by
  rcases hk with rfl|hk
  ·exact hB.1
  ·exact HVB.out k hk))
 have HSTW:Hid (Stays (fun k=>k=g∨k=rv∨v.ownBlock=some k) w w1):=Lib.hid (hst1.mono (fun k _ h=>.inr h))
 have HR1:=Lib.hid hr1
 have HV1:=Lib.hid hv1
 have HAP1:=Lib.hid (ses_apart HS1.out hr1 hv1)
 clear hN hfa hf1 hr1 hv1 hst1 hvo HS HA HAP HFE HVB c1 HSEP
 go_upto_block 0 with fail
 go_cut[8,9,10] (fun fv tv ov wx=>∃flt:Int,fv= .int .i64 flt∧Hid (Stays (·=g) w1 wx)∧((Hid (flt=0)∧Hid (Rnd B wx g rv no dn q tv))∨(Hid (flt≠0)∧Hid (∃hl ve ak aq,SesB wx g no rv dn hl 0 ve ak aq))))
 case first=>
  go_wp2_with fail
  go_loopw[8,9,10,36] (fun fv tv ov i wx=>∃k:Nat,k≤N∧i= .int .i64 k∧fv= .int .i64 0∧Hid (Stays (·=g) w1 wx)∧Hid (Rnd B wx g rv no dn q tv)∧(k=0→tv= .slice none 0 0∧ov= .slice none 0 0)) (fun _ _ _ i _=>N-(intOf i).toNat)
  case atStart=>exact⟨0,by omega,rfl,rfl,Lib.hid (Stays.refl _ _),Lib.hid (.inl ⟨rfl,_,HS1.out,HA1.out⟩),fun _=>⟨rfl,rfl⟩⟩
  case round=>
   obtain⟨k,hk,rfl,rfl,HST,HRND,hk0⟩:=hrel
   by_cases hkn:k<N
   ·have hkz:k=0:=by omega
    have HKZ:=Lib.hid hkz
    obtain⟨rfl,rfl⟩:=hk0 hkz
    have hlt:(k:Int)<(N:Int):=by omega
    obtain⟨ar,hsr,har⟩:∃aq,SesB wr g no rv dn 2 0 true true aq∧Asked B wr aq q:=by
     rcases HRND.out with⟨_,h⟩|⟨q',_,⟨tb,c',m',cs',e,_⟩,_⟩
     ·exact h
     ·cases e
    obtain⟨m0,hm0⟩:∃m0,o=some m0:=by
     cases ho:o with
     |none=>exfalso;have h1:=HNN.out;rw[HFS.out,ho]at h1;simp[rowT]at h1;omega
     |some m0=>exact⟨m0,rfl⟩
    have hf:fs[k]? =some (cmdB m0.k,(payP m0).1):=by rw[HFS.out,hm0,hkz];rfl
    obtain⟨hok0,hp0,hl0⟩:=HO.out m0 hm0
    have hfr:FrmRows wr H (.slice pf N cf) fs:=HFR.out.stays HST.out (fun j hj e=>by have:j=g:=e;omega)
    obtain⟨pf',cf',hpe,_,_,hfa⟩:=hfr.at
    obtain⟨rfl,rfl⟩:pf=pf'∧cf=cf':=by injection hpe with a1 _ a3;exact⟨a1,a3⟩
    obtain⟨bf,of,hpf,hltf,hall⟩:=hfa (fun e=>by rw[e]at hf;cases hf)
    subst hpf
    obtain⟨u,cu0,cu1,hsl⟩:=hall k _ hf
    obtain⟨CM,hCM⟩:∃x,x=cmdB m0.k:=⟨_,rfl⟩
    obtain⟨PY,hPY⟩:∃x,x=(payP m0).1:=⟨_,rfl⟩
    rw[←hCM]at cu0
    replace hsl:Sl wr u PY:=by rw[hPY];exact hsl
    rw[←hPY]at hl0
    obtain⟨pu,nu,cu,rfl,hsl2⟩:=hsl
    have HSL:Hid (Sl wr (.slice pu nu cu) PY):=Lib.hid ⟨_,_,_,rfl,hsl2⟩
    have hnu:nu=PY.length:=hsl2.1.symm
    obtain⟨wf,hwf⟩:∃W,W=wr.alloc (.cells #[.string (strB CM),.slice pu nu cu] 82):=⟨_,rfl⟩
    have hbwf:Below wr.heap.size wr wf:=by rw[hwf];exact Q1z wr _
    have HFB:Hid (Blk wf wr.heap.size 82 #[.string (strB CM),.slice pu nu cu]):=Lib.hid (by rw[hwf];exact Blk.new wr _ _)
    have hdec:=msgDecode_any CM pu nu cu PY wf (HSL.out.below hbwf (Nat.le_refl _)) (by rw[hnu];omega)
    rw[hCM,hPY,dec_back m0 hok0 hp0,← hCM]at hdec
    obtain⟨m,hm⟩:∃m,m=normP m0:=⟨_,rfl⟩
    rw[←hm]at hdec
    have HDEC:=Lib.hid hdec
    have HBWF:=Lib.hid hbwf
    have hz:=zMsg
    obtain⟨Y0,hY0⟩:∃Y,Y=(msgZ 0).toArray:=⟨_,rfl⟩
    rw[←hY0]at hz
    have hzsz:Y0.size=139:=by rw[hY0];exact Xcz 0
    have HSR:=Lib.hid hsr
    have HAR:=Lib.hid har
    rw[Nat.mul_comm]at cu0 cu1
    clear hf hfr hpe hfa hall hsl2 HSL hm hnu hbwf hdec hY0 hCM hPY hl0 hp0 hok0 hsr har HRND hk0 hm0 hkz
    go_upto_region 11 with fail
    rw[←hwf]
    clear hwf
    obtain⟨zf,hzf⟩:∃zf,zf=wr.heap.size:=⟨_,rfl⟩
    rw[←hzf]at HFB ⊢
    have lf:=Qfz (cs:=[.string (strB CM),.slice pu nu cu]) HFB.out
    have HS5:Hid (SesB wf g no rv dn 2 0 true true ar):=Lib.hid (HSR.out.fut HBWF.out)
    have HA5:=Lib.hid (HAR.out.fut HBWF.out)
    have HT5:Hid (Stays (·=g) w1 wf):=Lib.hid (HST.out.trans (Stays.of_below HBWF.out (Nat.le_refl _) (fun _=>False)) (fun _ _ h=>h.elim))
    clear hzf HFB HSR HAR HST HBWF
    go_wp2_with((with_reducible refine wpList_load_mid (op:=⟨some 41,_,_,_,_,_⟩) ?_ 82 (.tmp 12) ?_ (zf) (0) ?_ ([.string (strB CM),.slice pu nu cu]) _ (lf) Tryz.underlying82 ?_ ?_ ?_
                 ·rfl
                 ·rfl
                 ·rfl
                 ·rfl
                 ·exact((by kernel_rfl))))
    refine HDEC.out.mono ?_
    rintro e w5 ⟨cs,rfl,ho5,hb5⟩
    have HCL:=Lib.hid ho5.c.len
    have HC5:=Lib.hid ho5.c
    have HMO:=Lib.hid ho5
    have hgf:g<wf.heap.size:=HS5.out.lt
    have hone:=ho5.c.one
    have hszc:=ho5.c.size hzsz
    have hbn:=Q1z w5 (.cells Y0 41)
    have HS6:Hid (SesB w5 g no rv dn 2 0 true true ar):=Lib.hid (HS5.out.fut hb5)
    have HA6:=Lib.hid (HA5.out.fut hb5)
    have HT6:Hid (Stays (·=g) w1 w5):=Lib.hid (HT5.out.trans (Stays.of_below hb5 (Nat.le_refl _) (fun _=>False)) (fun _ _ h=>h.elim))
    clear HDEC ho5 hb5 lf HS5 HA5 HT5
    go_upto_region 12 with((with_reducible refine Q4z (o:=⟨none,_,_,_,_,_⟩) ?_ 41 (.tmp 13) (.tmp 43) ?_ (w5.heap.size) 41 (Y0) (cs.toArray) ?_ ?_ (Blk.new w5 _ _) ?_ ?_ ?_ (w5.heap.size) (w5) ?_ ?_ ?_
                            ·rfl
                            ·rfl
                            ·rfl
                            ·rfl
                            ·exact(QWz HCL.out)
                            ·exact(hszc)
                            ·exact(hone)
                            ·exact(hbn)
                            ·exact(Nat.le_refl _)
                            intro w6 hB6 hb6 hg6 hs6))
    try simp only[Qpz]
    obtain⟨zm,hzm⟩:∃z,z=w5.heap.size:=⟨_,rfl⟩
    rw[←hzm]at hB6 ⊢
    have HB6:=Lib.hid hB6.out
    have HC6:=Lib.hid (Qhz _ _ _ _ HC5.out hb6)
    have HMO6:=Lib.hid (HMO.out.stays (Stays.of_below hb6 (Nat.le_refl _) (fun _=>False)) (fun _ h=>h.elim))
    have HS7:Hid (SesB w6 g no rv dn 2 0 true true ar):=Lib.hid (HS6.out.fut hb6)
    have HA7:=Lib.hid (HA6.out.fut hb6)
    have HT7:Hid (Stays (·=g) w1 w6):=Lib.hid (HT6.out.trans (Stays.of_below hb6 (Nat.le_refl _) (fun _=>False)) (fun _ _ h=>h.elim))
    have kc:=msgC_kind HC6.out HB6.out
    have lm:=Qfz HB6.out
    have hK6:Laid w6:=HK.out.below (HBW1.out.trans (HT7.out.below (by omega) (fun k hk=>by have:k=g:=hk;have:=hB.2;omega))) hgB
    have HK6:=Lib.hid hK6
    obtain⟨kk,hkk⟩:∃k,k=m.k:=⟨_,rfl⟩
    rw[←hkk]at kc
    have HKK:=Lib.hid hkk
    clear hzm hB6 hb6 hg6 hs6 hbn hz hzsz hone hszc HC5 HS6 HA6 HT6 hK6 hkk HMO
    have hl5:=i32_load ⟨g,5,none⟩ 2 w6 HS7.out.l.c5
    have HL5:=Lib.hid hl5
    clear hl5
    rcases(show kk=1∨kk=2∨kk=3∨(¬kk=1∧¬kk=2∧¬kk=3) by omega)with rfl|rfl|rfl|⟨h1,h2,h3⟩
    ·have hgt:Calls Tryz.prog 27 #[.pointer (some ⟨g,0,none⟩),.agg cs.toArray] w6 (GreetP w6 g no rv dn 2 0 true true ar [] false):=
      greet_k1 m cs g no rv dn 0 true true ar 2 w6 HK6.out (fun h=>by cases h) HKK.out.symm HC6.out HS7.out
     have HGT:=Lib.hid hgt
     clear hgt
     go_upto_region 18 with fail
     go_wp2_with((with_reducible refine wpList_load_mid (op:=⟨some 76,_,_,_,_,_⟩) ?_ 41 (.tmp 13) ?_ (zm) (0) ?_ (cs) _ (lm) Tryz.underlying41 ?_ ?_ ?_
                  ·rfl
                  ·rfl
                  ·rfl
                  ·rfl
                  ·exact((Qkz HCL.out))))
     refine HGT.out.mono ?_
     rintro e w7 ⟨v7,rfl,ho7,hs7,hst7⟩
     obtain⟨q7,m7,c7,rfl,hm7,hmc7,hcm7,hr7⟩:=ho7.open
     have hb8:Below w1.heap.size w7 w7:=Below.refl _ _
     have hob:Own8 w7 w1.heap.size (.slice none 0 0) []:=Own8.nil _ _
     have hlen8:([]:Bs).length+([]:Bs).length≤140737488355328:=by simp only[List.length_nil];omega
     have hsz7:w1.heap.size≤w7.heap.size:=Nat.le_trans HT7.out.size hst7.size
     have HT8:=Lib.hid (HT7.out.trans hst7 (fun k _ h=>h))
     have HS8:=Lib.hid hs7
     have HM7:=hm7.out
     clear ho7 hs7 hst7
     go_wp2_with((with_reducible refine Qaz (o:=⟨some 84,_,_,_,_,_⟩) ?_ ((.tmp 82)) ((.tmp 83)) ?_ (w1.heap.size) _ (([]:Bs)) ?_ (hob) (q7) (m7) (c7) (([]:Bs)) ?_ (HM7) (hr7) ?_ (hsz7) (w1.heap.size) (w7) (hb8) ?_ ?_
                  ·rfl
                  ·rfl
                  ·rfl
                  ·rfl
                  ·exact hlen8
                  ·exact Nat.le_refl _
                  intro v8 w8 ho8 hb9 hg8 hs8))
     have hap:=ses_appA hob HT8.out HS8.out hg8 hgl
     have HF:Hid (Stays (·=g) w1 w8∧∃hl ve ak aq,SesB w8 g no rv dn hl 0 ve ak aq):=Lib.hid ⟨hap.1,_,_,_,_,hap.2⟩
     clear ho8 hb9 hg8 hs8 hap hob hb8 hr7
     go_meet
     exact⟨201,rfl,Lib.hid HF.out.1,.inr ⟨Lib.hid (by decide),Lib.hid HF.out.2⟩⟩
    ·have hgt:Calls Tryz.prog 27 #[.pointer (some ⟨g,0,none⟩),.agg cs.toArray] w6 (GreetP w6 g no rv dn 2 0 true true ar [] false):=
      greet_k2 m cs g no rv dn 0 true true ar 2 w6 (fun h=>by cases h) HKK.out.symm HC6.out HS7.out
     have HGT:=Lib.hid hgt
     clear hgt
     go_upto_region 18 with fail
     go_wp2_with((with_reducible refine wpList_load_mid (op:=⟨some 76,_,_,_,_,_⟩) ?_ 41 (.tmp 13) ?_ (zm) (0) ?_ (cs) _ (lm) Tryz.underlying41 ?_ ?_ ?_
                  ·rfl
                  ·rfl
                  ·rfl
                  ·rfl
                  ·exact((Qkz HCL.out))))
     refine HGT.out.mono ?_
     rintro e w7 ⟨v7,rfl,ho7,hs7,hst7⟩
     obtain⟨q7,m7,c7,rfl,hm7,hmc7,hcm7,hr7⟩:=ho7.open
     have hb8:Below w1.heap.size w7 w7:=Below.refl _ _
     have hob:Own8 w7 w1.heap.size (.slice none 0 0) []:=Own8.nil _ _
     have hlen8:([]:Bs).length+([]:Bs).length≤140737488355328:=by simp only[List.length_nil];omega
     have hsz7:w1.heap.size≤w7.heap.size:=Nat.le_trans HT7.out.size hst7.size
     have HT8:=Lib.hid (HT7.out.trans hst7 (fun k _ h=>h))
     have HS8:=Lib.hid hs7
     have HM7:=hm7.out
     clear ho7 hs7 hst7
     go_wp2_with((with_reducible refine Qaz (o:=⟨some 84,_,_,_,_,_⟩) ?_ ((.tmp 82)) ((.tmp 83)) ?_ (w1.heap.size) _ (([]:Bs)) ?_ (hob) (q7) (m7) (c7) (([]:Bs)) ?_ (HM7) (hr7) ?_ (hsz7) (w1.heap.size) (w7) (hb8) ?_ ?_
                  ·rfl
                  ·rfl
                  ·rfl
                  ·rfl
                  ·exact hlen8
                  ·exact Nat.le_refl _
                  intro v8 w8 ho8 hb9 hg8 hs8))
     have hap:=ses_appA hob HT8.out HS8.out hg8 hgl
     have HF:Hid (Stays (·=g) w1 w8∧∃hl ve ak aq,SesB w8 g no rv dn hl 0 ve ak aq):=Lib.hid ⟨hap.1,_,_,_,_,hap.2⟩
     clear ho8 hb9 hg8 hs8 hap hob hb8 hr7
     go_meet
     exact⟨201,rfl,Lib.hid HF.out.1,.inr ⟨Lib.hid (by decide),Lib.hid HF.out.2⟩⟩
    ·have kn:=msgC_nonce HC6.out HB6.out
     obtain⟨nn,hnn⟩:∃x,x=m.no:=⟨_,rfl⟩
     rw[←hnn]at kn
     have hbo:=bytesOf_of (tK 4 0#32 nn) (msgK 4 0#32 nn) w6 (fun V hv=>enc_k4 0#32 nn noHash noHash [] [] [] noBlk _ V hv rfl) HK6.out (msgK_o 0 _ 4 0#32 nn).c
     have HBO:=Lib.hid hbo
     have hbt:=built_k4 nn
     obtain⟨M4,hM4⟩:∃M4,M4=(msgK 4 0#32 nn).toArray:=⟨_,rfl⟩
     rw[←hM4]at hbt HBO
     clear hnn hbo hM4
     go_wp2_with fail
     refine HL5.out.mono ?_
     rintro e wq ⟨rfl,hw⟩
     replace hw:=hw.symm
     subst hw
     clear HL5
     go_wp2_with((with_reducible refine Qjz (o:=⟨some 92,_,_,_,_,_⟩) ?_ 41 #[(0,.const (.int .i64 4)),(2,.tmp 91)] ?_ [(0,.int .i64 4),(2,.int .u64 (iv64 nn))] ?_ M4 hbt ?_
                  ·rfl
                  ·rfl
                  ·rfl))
     refine HBO.out.mono ?_
     rintro e w7 ⟨v7,rfl,ho7,hb7⟩
     obtain⟨q7,m7,c7,rfl,hm7,hmc7,hcm7,hr7⟩:=ho7.open
     replace hm7:Hid ((QHz 4 nn).length=m7):=hm7
     replace hr7:Row8 w7 q7 (QHz 4 nn):=hr7
     have hb8:Below w1.heap.size w7 w7:=Below.refl _ _
     have hob:Own8 w7 w1.heap.size (.slice none 0 0) []:=Own8.nil _ _
     have hlen8:([]:Bs).length+(QHz 4 nn).length≤140737488355328:=by rw[short4_len];simp only[List.length_nil];omega
     have hsz7:w1.heap.size≤w7.heap.size:=Nat.le_trans HT7.out.size hb7.size
     have HT8:Hid (Stays (·=g) w1 w7):=Lib.hid (HT7.out.trans (Stays.of_below hb7 (Nat.le_refl _) (fun _=>False)) (fun _ _ h=>h.elim))
     have HS8:Hid (SesB w7 g no rv dn 2 0 true true ar):=Lib.hid (HS7.out.fut hb7)
     have HA8:=Lib.hid (HA7.out.fut hb7)
     have HM7:=hm7.out
     clear ho7 hb7 HBO
     go_wp2_with((with_reducible refine Qaz (o:=⟨some 94,_,_,_,_,_⟩) ?_ ((.tmp 89)) ((.tmp 93)) ?_ (w1.heap.size) _ (([]:Bs)) ?_ (hob) (q7) (m7) (c7) ((QHz 4 nn)) ?_ (HM7) (hr7) ?_ (hsz7) (w1.heap.size) (w7) (hb8) ?_ ?_
                  ·rfl
                  ·rfl
                  ·rfl
                  ·rfl
                  ·exact hlen8
                  ·exact Nat.le_refl _
                  intro v8 w8 ho8 hb9 hg8 hs8))
     have hap:=ses_appA hob HT8.out HS8.out hg8 hgl
     have ha8:=HA8.out.stays (Stays.of_grown (S:=fun _=>False) hg8 (fun k h=>by cases h)) (fun _ h=>h.elim)
     have HF:Hid (Stays (·=g) w1 w8∧Rnd B w8 g rv no dn q (.slice none 0 0)):=Lib.hid ⟨hap.1,.inl ⟨rfl,_,hap.2,ha8⟩⟩
     clear ho8 hb9 hg8 hs8 hap hob hb8 hr7 ha8
     go_roundw
     case rel=>exact⟨k+1,by omega,by go_num,rfl,Lib.hid HF.out.1,Lib.hid HF.out.2,fun h=>absurd h (by omega)⟩
     case measure=>simp[intOf];omega
    ·have e1:(kk==1)=false:=by rw[beq_eq_false_iff_ne];exact h1
     have e2:(kk==2)=false:=by rw[beq_eq_false_iff_ne];exact h2
     have e3:(kk==3)=false:=by rw[beq_eq_false_iff_ne];exact h3
     clear h1 h2 h3
     go_wp2_with fail
     refine HL5.out.mono ?_
     rintro e wq ⟨rfl,hw⟩
     replace hw:=hw.symm
     subst hw
     clear HL5
     have hgw:g<w6.heap.size:=HS7.out.lt
     have hF0:Below w6.heap.size w6 w6.drew:=Q0z w6 1
     cases ar with
     |none=>
      have c9:=HS7.out.l.c9
      go_upto_region 24 with fail
      refine QAz [qq 0,qq 1,qq 2,qq 3,qq 4,qq 5,qq 6,qq 7,qq 8,qq 9,qq 10,qq 11,qq 12,qq 13,oo 14,qq 15,qq 16] (fun W=>Below w6.heap.size w6 W) (by kernel_rfl) (by kernel_rfl) hF0 ?_
      refine' Q9z (s:=131) (A1:=_) [0,1,2,3,4,5,6,7,8,9,10,11,12,13] [_,_,_,_,_,_,_,_,_,_,_,_,_,_] _ rfl rfl rfl (fun W hW=>?hq1) _ hF0 (fun _=>?hr1)
      case hq1=>
       have c9':∀k,(W.drewN k).cell? ⟨g,9,none⟩=some (.pointer none):=fun k=>(hW.cell (p:=⟨g,9,none⟩) hgw).trans c9
       simp only[List.getElem_toArray,List.getElem_cons_zero,List.getElem_cons_succ]
       iterate 14 (go_big_quiet_step (fail))
       refine wpQuiet_nil ?_
       rfl
      case hr1=>
      refine plan_skip rfl rfl (fun _=>Q7z hF0 _) fun k1=>?_
      simp only[List.getElem_toArray,List.getElem_cons_zero,List.getElem_cons_succ,X4z,List.setIfInBounds_toArray,List.set_cons_succ,List.set_cons_zero]
      refine' Q9z (s:=131) (A1:=_) (r:=[]) [15,16] [_,_] _ rfl rfl rfl (fun W hW=>?hq2) _ (Q7z hF0 _) (fun _=>?hr2)
      case hq2=>
       simp only[List.getElem_toArray,List.getElem_cons_zero,List.getElem_cons_succ]
       iterate 2 (go_big_quiet_step (fail))
       refine wpQuiet_nil ?_
       rfl
      case hr2=>
      refine Qnz fun k9=>NoPanic.normal ?_
      have hb9:=Q7z (Q7z hF0 k1) k9
      generalize(w6.drew.drewN k1).drewN k9=w9 at*
      have HF:Hid (Stays (·=g) w1 w9∧Rnd B w9 g rv no dn q (.slice none 0 0)):=Lib.hid ⟨HT7.out.trans (Stays.of_below hb9 (Nat.le_refl _) (fun _=>False)) (fun _ _ h=>h.elim),.inl ⟨rfl,_,HS7.out.fut hb9,HA7.out.fut hb9⟩⟩
      clear hb9
      go_wp2_with fail
      go_roundw
      case rel=>exact⟨k+1,by omega,by go_num,rfl,Lib.hid HF.out.1,Lib.hid HF.out.2,fun h=>absurd h (by omega)⟩
      case measure=>simp[intOf];omega
     |some ra=>
      obtain⟨q',hq',rq,hra,haq⟩:∃q',q=some q'∧∃rq,ra=⟨rq,0,none⟩∧AskAt B w6 rq q':=by
       have h:=HA7.out
       cases q with
       |none=>cases h
       |some q'=>
        obtain⟨rq,h1,h2⟩:=h
        injection h1 with h1
        exact⟨q',rfl,rq,h1,h2⟩
      subst hra
      obtain⟨csq,now,hq1,hq2,hq3,_,_⟩:=haq
      have HQQ:=Lib.hid hq'
      have hlq:rq<w6.heap.size:=hq1.lt
      have hlm:zm<w6.heap.size:=HB6.out.lt
      have LQ:=Lib.hid (req_range hq1)
      have LM:=Lib.hid lm
      have HQL:=Lib.hid hq2.c.len
      have HAN:=Lib.hid (fun W (hW:Below w6.heap.size w6 W)=>answers_any q' m csq cs W (HK6.out.below hW HK6.out.size) (Qhz _ _ _ _ hq2.c hW) (Qhz _ _ _ _ HC6.out hW) hq3)
      have c9:=HS7.out.l.c9
      clear hq' hq1 hq2 hq3 lm
      go_upto_region 24 with fail
      refine QAz [qq 0,qq 1,qq 2,qq 3,qq 4,qq 5,qq 6,qq 7,qq 8,qq 9,qq 10,qq 11,qq 12,qq 13,oo 14,qq 15,qq 16] (fun W=>Below w6.heap.size w6 W) (by kernel_rfl) (by kernel_rfl) hF0 ?_
      refine' Q9z (s:=131) (A1:=_) [0,1,2,3,4,5,6,7,8,9,10,11,12,13] [_,_,_,_,_,_,_,_,_,_,_,_,_,_] _ rfl rfl rfl (fun W hW=>?hq1) _ hF0 (fun _=>?hr1)
      case hq1=>
       have c9':∀k,(W.drewN k).cell? ⟨g,9,none⟩=some (.pointer (some ⟨rq,0,none⟩)):=fun k=>(hW.cell (p:=⟨g,9,none⟩) hgw).trans c9
       simp only[List.getElem_toArray,List.getElem_cons_zero,List.getElem_cons_succ]
       iterate 12 (go_big_quiet_step (fail))
       refine Qtz rfl 41 (.tmp 107) rfl rq 0 rfl csq _ (fun w hw=>?_) Tryz.underlying41 rfl (Qkz HQL.out) ?_
       ·obtain⟨j,rfl⟩:=hw
        exact XEz LQ.out (hW.trans ((Q0z W j).mono hW.size)) hlq
       simp only[X4z,List.setIfInBounds_toArray,List.set_cons_succ,List.set_cons_zero]
       refine Qtz rfl 41 (.tmp 13) rfl zm 0 rfl cs _ (fun w hw=>?_) Tryz.underlying41 rfl (Qkz HCL.out) ?_
       ·obtain⟨j,rfl⟩:=hw
        exact XEz LM.out (hW.trans ((Q0z W j).mono hW.size)) hlm
       simp only[X4z,List.setIfInBounds_toArray,List.set_cons_succ,List.set_cons_zero]
       refine wpQuiet_nil ?_
       rfl
      case hr1=>
      refine Qbz rfl fun k5=>?_
      go_wp2_with fail
      refine(HAN.out _ (Q0z w6 (1+k5))).mono ?_
      rintro e w8 ⟨r,rfl,hb8,hcd⟩
      have hF8:Below w6.heap.size w6 w8:=(Q0z w6 (1+k5)).trans (hb8.mono (Nat.le_refl _))
      have HCD:=Lib.hid hcd
      clear hb8 hcd HAN
      go_wp2_with fail
      refine Q2z (And.intro hF8 ?_)
      refine' Q9z (s:=131) (A1:=_) (r:=[]) [15,16] [_,_] _ rfl rfl rfl (fun W hW=>?hq2) _ hF8 (fun _=>?hr2)
      case hq2=>
       simp only[List.getElem_toArray,List.getElem_cons_zero,List.getElem_cons_succ]
       iterate 2 (go_big_quiet_step (fail))
       refine wpQuiet_nil ?_
       rfl
      case hr2=>
      refine Qnz fun k9=>NoPanic.normal ?_
      have hb9:=Q7z hF8 k9
      generalize w8.drewN k9=w9 at*
      have HS9:Hid (SesB w9 g no rv dn 2 0 true true (some ⟨rq,0,none⟩)):=Lib.hid (HS7.out.fut hb9)
      have HT9:Hid (Stays (·=g) w1 w9):=Lib.hid (HT7.out.trans (Stays.of_below hb9 (Nat.le_refl _) (fun _=>False)) (fun _ _ h=>h.elim))
      cases r with
      |false=>
       have HF:Hid (Rnd B w9 g rv no dn q (.slice none 0 0)):=Lib.hid (.inl ⟨rfl,_,HS9.out,HA7.out.fut hb9⟩)
       clear hb9 hF8 hF0
       go_wp2_with fail
       go_roundw
       case rel=>exact⟨k+1,by omega,by go_num,rfl,HT9,HF,fun h=>absurd h (by omega)⟩
       case measure=>simp[intOf];omega
      |true=>
       have c9b:=HS9.out.l.c9
       have f9b:=HS9.out.frozen 9
       have h10:SesB (w9.setCell ⟨g,9,none⟩ (.pointer none)) g no rv dn 2 0 true true none:=HS9.out.set 9 _
       have hst10:=Stays.set w9 g 9 (.pointer none)
       have H10:=Lib.hid h10
       have HT10:Hid (Stays (·=g) w1 (w9.setCell ⟨g,9,none⟩ (.pointer none))):=Lib.hid (HT9.out.trans hst10 (fun _ _ h=>h))
       have hgz:g≠zm:=fun e=>by subst e;exact absurd (Blk.inj HS7.out HB6.out).1 (by decide)
       have HM10:Hid (MsgO wf.heap.size (w9.setCell ⟨g,9,none⟩ (.pointer none)) m cs):=Lib.hid ((HMO6.out.stays (Stays.of_below hb9 (Nat.le_refl _) (fun _=>False)) (fun _ h=>h.elim)).stays hst10 (fun k hk=>by have:k=g:=hk;omega))
       have hb10:=(HB6.out.fut hb9).stays hst10 (fun e=>hgz (show zm=g from e).symm)
       have l10:=Qfz hb10
       clear h10 hst10 hb10 hb9 hF8 hF0 HT9
       go_upto_region 26 with fail
       clear c9b f9b
       generalize w9.setCell ⟨g,9,none⟩ (.pointer none)=w10 at*
       have hw10:w1.heap.size≤w10.heap.size:=HT10.out.size
       have hown:(w10.alloc (.cells cs.toArray 41)).ownsRow w10.heap.size 41 139 (.slice none 0 0) 0 []:=World.ownsRow_nil _ _ _ _
       go_wp2_with(first
        |(with_reducible refine wpList_load_mid (op:=⟨some 116,_,_,_,_,_⟩) ?_ 41 (.tmp 13) ?_ (zm) (0) ?_ (cs) _ (l10) Tryz.underlying41 ?_ ?_ ?_
          ·rfl
          ·rfl
          ·rfl
          ·rfl
          ·exact((Qkz HCL.out)))
        |(with_reducible refine wp_lit (o:=⟨some 117,_,_,_,_,_⟩) ?_ 42 41 1 #[(0,.tmp 116)] ?_ [.agg cs.toArray] ?_ 139 264 _ Tryz.underlying42 msg_info ?_ ?_ ?_ ?_ ?_ ?_
          ·rfl
          ·rfl
          ·rfl
          ·omega
          ·exact(fun v hv=>by rw[List.mem_singleton.1 hv];show cs.toArray.size=139;rw[List.size_toArray];exact HCL.out)
          ·rfl
          ·omega
          ·omega
          simp only[List.flatMap_cons,List.flatMap_nil,List.append_nil,Value.cells])
        |(with_reducible refine XYz (o:=⟨some 118,_,_,_,_,_⟩) ?_ (.tmp 115) (.tmp 117) 42 41 ?_ _ 139 264 Tryz.underlying42 msg_info ?_ ?_ ?_ w10.heap.size (.slice none 0 0) 0 [] ?_ hown w10.heap.size 1 1 cs ?_ (Blk.new w10 _ _) ?_ ?_ ?_ ?_ ?_
          ·rfl
          ·rfl
          ·exact Xcz 0
          ·omega
          ·omega
          ·rfl
          ·rfl
          ·rw[HCL.out]
          ·exact(fun u hu=>List.all_eq_true.1 (by have:=HM10.out.c.one;rwa [List.all_toArray]at this) u hu)
          ·omega
          ·rw[World.size_alloc];omega
          intro v11 w11 ho11 hg11 _))
       rw[List.nil_append]at ho11
       obtain⟨pT,cT,rfl,_,_,_,hrT⟩:=QLz ho11
       obtain⟨tb,rfl,htb,htl,hcell⟩:=hrT.resolve_left (by decide)
       have hb11:Below w10.heap.size w10 w11:=(Q1z w10 _).grown hg11 (by rw[World.size_alloc];omega) (fun k h=>by cases h)
       have HF:Hid (Stays (·=g) w1 w11∧Rnd B w11 g rv no dn q (.slice (some ⟨tb,0,none⟩) 1 cT)):=Lib.hid ⟨HT10.out.trans (Stays.of_below hb11 (Nat.le_refl _) (fun _=>False)) (fun _ _ h=>h.elim),.inr ⟨q',HQQ.out,⟨tb,cT,m,cs,rfl,by omega,htl,(fun j u hu=>by rw[Nat.zero_add];exact hcell j u hu),Qhz _ _ _ _ HM10.out.c hb11,HCD.out rfl⟩,H10.out.fut hb11⟩⟩
       clear ho11 hg11 hb11 hcell hrT
       go_roundw
       case rel=>exact⟨k+1,by omega,by go_num,rfl,Lib.hid HF.out.1,Lib.hid HF.out.2,fun h=>absurd h (by omega)⟩
       case measure=>simp[intOf];omega
   ·have hlt:¬(k:Int)<(N:Int):=by omega
    clear hk0
    go_wp2_with fail
    go_meet
    exact⟨0,rfl,HST,.inl ⟨Lib.hid rfl,HRND⟩⟩
 case rest=>
 obtain⟨flt,rfl,HST,hcase⟩:=hcut
 have HBB:Hid (Below B w wc):=Lib.hid (HBW1.out.trans (HST.out.below (by omega) (fun k hk=>by have:k=g:=hk;have:=hB.2;omega)))
 have HSS2:Hid (Stays (fun k=>k=g∨k=rv∨v.ownBlock=some k) w wc):=Lib.hid (HSTW.out.trans HST.out (fun k _ h=>.inl h))
 rcases hcase with⟨HC,HRN⟩|⟨HC,HSS⟩
 ·have hf:=HC.out
  subst hf
  have hr2:Rd wc rv v1 0:=Blk.stays HR1.out HST.out (fun e=>HAP1.out (.inl e.symm))
  have hv2:Sfx8 wc B v1 []:=HV1.out.stays HST.out (fun k hk e=>HAP1.out (.inr (by rw[hk,e])))
  have HQ:Hid (Rnd B wc g rv no dn q _∧Rd wc rv v1 0∧Sfx8 wc B v1 []):=Lib.hid ⟨HRN.out,hr2,hv2⟩
  clear hr2 hv2 HRN HC HST HR1 HV1
  go_wp2_with fail
  refine bodyPost_ret (results_tmp3 rfl _ _ _) rfl ?_
  exact⟨HBB.out,HSS2.out,.inr ⟨_,_,v1,rfl,HQ.out⟩⟩
 ·obtain⟨hl,ve,ak,aq',hs⟩:=HSS.out
  have hne:(flt != 0)=true:=by simp[HC.out]
  have hbs:=bool_store ⟨g,6,none⟩ _ wc hs.l.c6 (hs.frozen 6)
  have HBS:=Lib.hid hbs
  have h2:SesB (wc.drew.setCell ⟨g,6,none⟩ (.int .u32 1)) g no rv dn hl 1 ve ak aq':=Blk.set (w:=wc.drew) (Blk.drewN hs 1) 6 _
  have H2:=Lib.hid h2
  have h3:Below B w (wc.drew.setCell ⟨g,6,none⟩ (.int .u32 1)):=HBB.out.drew.setCell (p:=⟨g,6,none⟩) hB.2 _
  have H3:=Lib.hid h3
  have H4:Hid (Stays (fun k=>k=g∨k=rv∨v.ownBlock=some k) w (wc.drew.setCell ⟨g,6,none⟩ (.int .u32 1))):=Lib.hid ((HSS2.out.drewN 1).setCell (a:=⟨g,6,none⟩) (fun _=>.inl rfl) _)
  clear hs hbs h2 h3 HSS HC HST HR1 HV1
  go_wp2_with fail
  refine HBS.out.mono ?_
  rintro e w9 ⟨rfl,rfl⟩
  go_wp2_with fail
  refine bodyPost_ret (results_tmp3 rfl _ _ _) rfl ?_
  exact⟨H3.out,H4.out,.inl ⟨rfl,hl,ve,ak,aq',H2.out⟩⟩
end
section
open Go Go.RowKit
structure TDo where
 op:Int
 now:Int
 cut:Int
 m:TMsg
 own:Bool
def DoE (w:World) (d:TDo) (cs:List Value):Prop:=∃mc p n c,cs=[.int .i64 d.op,.int .i64 d.now,.int .i64 d.cut]++(mc++[.slice p n c,.bool d.own])∧MsgC w d.m mc
theorem DoE.len {w:World} {d:TDo} {cs:List Value} (h:DoE w d cs):cs.length=144:=by
 obtain⟨mc,p,n,c,rfl,h⟩:=h
 simp[h.len]
theorem DoE.one {w:World} {d:TDo} {cs:List Value} (h:DoE w d cs):cs.toArray.all (·.oneCell')=true:=by
 obtain⟨mc,p,n,c,rfl,h⟩:=h
 have h1:=h.one
 rw[List.all_toArray]at h1 ⊢
 rw[List.all_append,List.all_append,h1]
 rfl
theorem DoE.at {w W:World} {d:TDo} {cs:List Value} {z:Nat} {t:TypeId} (h:DoE w d cs) (hb:Blk W z t cs.toArray):∃mc,MsgC w d.m mc∧W.cell? ⟨z,0,none⟩=some (.int .i64 d.op)∧W.cell? ⟨z,1,none⟩=some (.int .i64 d.now)∧W.rangeAt z 3 mc∧W.cell? ⟨z,143,none⟩=some (.bool d.own):=by
 obtain⟨mc,p,n,c,rfl,h⟩:=h
 have hl:=h.len
 refine⟨mc,h,hb.cell 0,hb.cell 1,fun j v hj=>?_,?_⟩
 ·rw[hb.cell,List.getElem?_toArray,List.getElem?_append_right (by simp),show 3+j- [Value.int .i64 d.op,.int .i64 d.now,.int .i64 d.cut].length=j from by simp,List.getElem?_append_left (List.getElem?_eq_some_iff.1 hj).1]
  exact hj
 ·rw[hb.cell,List.getElem?_toArray,List.getElem?_append_right (by simp),List.getElem?_append_right (by simp[hl]),hl,show 143- [Value.int .i64 d.op,.int .i64 d.now,.int .i64 d.cut].length-139=1 from by simp]
  rfl
def doZ':List Value:=[.int .i64 0,.int .i64 0,.int .i64 0]++(msgZ 0++[.slice none 0 0,.bool false])
theorem zDo:∀w,(zeroValue 56).run Tryz.prog w= .ok (.agg doZ'.toArray) w:=zero_ofM (by kernel_rfl)
theorem info_Do {cs:List Value} (h:cs.length=144):(Tryz.prog.info? 56).map (·.size)=some cs.length:=by rw[h];kernel_rfl
theorem info_DoS {cs:List Value} (h:cs.length=144):(Tryz.prog.info? 56).map (·.size)=some cs.toArray.size:=by rw[List.size_toArray];exact info_Do h
theorem waits_any (g:Nat) (no:BitVec 64) (rv:Nat) (dn:Int) (aq:Option Addr) (q:Option TMsg) (B:Nat) (w:World) (h:SesB w g no rv dn 2 0 true true aq) (ha:Asked B w aq q):
 Calls Tryz.prog 16 #[.pointer (some ⟨g,0,none⟩)] w fun e w'=>∃cs m,e= .returned (.tuple #[.agg cs.toArray,.bool q.isSome])∧MsgC w' m cs∧(∀q',q=some q'→m=q')∧Below w.heap.size w w':=by
 cases q with
 |none=>
  obtain rfl:aq=none:=ha
  refine(waits_none g no rv dn 2 0 true true w h).mono ?_
  rintro e w' ⟨rfl,hb⟩
  exact⟨msgZ 0,noMsg,rfl,(noMsg_o 0 w').c,(fun _ h=>by cases h),hb⟩
 |some q=>
  obtain⟨rq,rfl,ha⟩:=ha
  refine(waits_some g no rv dn 2 0 true true rq B q w h ha).mono ?_
  rintro e w' ⟨cs,rfl,hm,hb⟩
  exact⟨cs,q,rfl,hm,(fun q' h=>by injection h),hb⟩
theorem askd_any (g rv:Nat) (no:BitVec 64) (dn:Int) (m:TMsg) (cs:List Value) (now:Int) (aq:Option Addr) (q:Option TMsg) (B:Nat) (w:World) (hK:Laid w) (hB:B≤w.heap.size) (hm:MsgC w m cs) (h:SesB w g no rv dn 2 0 true true aq) (ha:Asked B w aq q):
 Calls Tryz.prog 14 #[.pointer (some ⟨g,0,none⟩),.agg cs.toArray,.int .i64 now] w (AskQ B w g rv no dn):=by
 cases q with
 |none=>
  obtain rfl:aq=none:=ha
  refine(ask_any g rv no dn m cs now w hK hm h).mono ?_
  rintro e w' ⟨v,rfl,hst,q,aq,hs,ha⟩
  refine⟨v,rfl,hst,q,aq,hs,?_⟩
  cases q with
  |none=>exact ha
  |some q=>
   obtain⟨rq,h1,cs,now,h2,⟨hv,dv,bv,bc,e1,e2,e3,e4,e5⟩,h4,h5,h6⟩:=ha
   exact⟨rq,h1,cs,now,h2,⟨hv,dv,bv,bc,e1,e2,e3,e4.mono (fun _ _ h=>h) hB,e5⟩,h4,h5,by omega⟩
 |some q=>
  obtain⟨rq,rfl,ha⟩:=ha
  refine(ask_busy g rv no dn _ cs _ w h).mono ?_
  rintro e w' ⟨rfl,hb⟩
  exact⟨_,rfl,Stays.of_below hb (Nat.le_refl _) _,some q,_,h.fut hb,rq,rfl,ha.fut hb⟩
def Wire (w:World) (v:Value):Prop:=∃p n c bs o,v= .slice p n c∧Row8 w p bs∧bs.length=n∧n≤c∧n≤1000000000∧feedP [] 0 bs=(rowT o,[],0)∧∀m,o=some m→okT m
theorem wire_of {w w':World} {m:TMsg} {e:Ending} (hok:okMsg m) (h:OutSl w (QKz m) e w'):∃v er,e= .returned (.tuple #[v,er])∧Wire w' v∧Below w.heap.size w w':=by
 obtain⟨p,n,c,h1,h2,hc,_,hr,h3⟩:=h.row
 refine⟨.slice p n c,_,h1,?_,h3⟩
 have hn:=h2.out
 by_cases hb:(QKz m).2=0
 ·obtain⟨hp,hl,hc',e'⟩:=bytes_fine hb
  have hlen:(QKz m).1.length≤200024:=by
   rw[e']
   show(X2z (cmdB m.k) (payP m).1).length≤200024
   rw[frmOut_len _ (cmdOk_len hc')]
   omega
  refine⟨p,n,c,(QKz m).1,some m,rfl,hr,hn,hc,by omega,?_,fun m' h=>by injection h with h;rw[←h];exact⟨hok,hp,hl⟩⟩
  rw[e']
  unfold feedP
  rw[if_pos rfl,List.nil_append]
  exact frmAll_one hc' hl
 ·have he:(QKz m).1=[]:=by
   unfold QKz at hb ⊢
   by_cases h0:(msgP m).2.2=0
   ·rw[if_pos h0]at hb ⊢
    unfold frmP at hb ⊢
    split at hb
    ·split at hb
     ·rename_i h1 h2;rw[if_pos h1,if_pos h2]
     ·exact absurd rfl hb
    ·rename_i h1;rw[if_neg h1]
   ·rw[if_neg h0]
  refine⟨p,n,c,(QKz m).1,none,rfl,hr,hn,hc,by rw[←hn,he];exact Nat.zero_le _,by rw[he];rfl,fun _ h=>by cases h⟩
theorem rdv_stays {w w':World} {B g rv:Nat} {no:BitVec 64} {dn hl bd:Int} {ve ak:Bool} {aq:Option Addr} (h:∃v,Rd w rv v 0∧Sfx8 w B v []) (hs:SesB w g no rv dn hl bd ve ak aq) (hst:Stays (·=g) w w'):∃v,Rd w' rv v 0∧Sfx8 w' B v []:=by
 obtain⟨v,h1,h2⟩:=h
 have hap:=ses_apart hs h1 h2
 exact⟨v,Blk.stays h1 hst (fun e=>hap (.inl e.symm)),h2.stays hst (fun k hk e=>hap (.inr (by rw[hk,e])))⟩
theorem rdv_fut {w w':World} {B rv:Nat} (h:∃v,Rd w rv v 0∧Sfx8 w B v []) (hb:Below w.heap.size w w'):∃v,Rd w' rv v 0∧Sfx8 w' B v []:=by
 obtain⟨v,h1,h2⟩:=h
 exact⟨v,h1.fut hb,h2.fut hb⟩
theorem MsgC.st {w W:World} {m:TMsg} {cs:List Value} {z:Nat} {t:TypeId} (h:MsgC w m cs) (hb:Blk W z t cs.toArray):W.cell? ⟨z,0,none⟩=some (.int .i64 m.k)∧W.rangeAt z 35 (Q5z m.st)∧m.st.length=32:=by
 obtain⟨hv,dv,bv,bc,rfl,h1,h2,_⟩:=h
 have:=hb.msg h1 h2
 exact⟨this.c0,this.rs,h2⟩
theorem sessionAnswers_walk (p:Option Addr) (n c:Nat) (ds:List TDo) (W:World) (hK:Laid W) (hl:ESl DoE 144 W (.slice p n c) ds):
 Calls Tryz.prog 6 #[.slice p n c] W fun e w'=>e= .returned (.bool true)∧Below W.heap.size W w':=by
 have HG:=Lib.hid (greeted_any W hK)
 have HK:=Lib.hid hK
 have hKs:=hK.size
 have HL:=Lib.hid hl
 obtain⟨hn,hnc,hcm⟩:=hl.slen
 have hzd:=zDo
 obtain⟨YD,hYD⟩:∃Y,Y=doZ'.toArray:=⟨_,rfl⟩
 rw[←hYD]at hzd
 have HYD:Hid (YD.size=144):=Lib.hid (by rw[hYD];rfl)
 have hzm:=zMsg
 obtain⟨YM,hYM⟩:∃Y,Y=(msgZ 0).toArray:=⟨_,rfl⟩
 rw[←hYM]at hzm
 have HYM:Hid (YM.size=139):=Lib.hid (by rw[hYM];exact Xcz 0)
 clear hK hl hn hYD hYM
 go_enter Tryz.func6,Tryz.ntmps6
 go_wp2_with fail
 refine HG.out.mono ?_
 rintro e w1 ⟨g,rv,rfl,⟨hs1,hv1,hBr,hBg⟩,hb1⟩
 have HS1:=Lib.hid hs1
 have HV1:=Lib.hid hv1
 have HB1:=Lib.hid hb1
 clear hs1 hv1 hb1 HG
 go_upto_region 5 with fail
 go_loopw[21] (fun i wx=>∃k:Nat,k≤n∧i= .int .i64 k∧∃q aq,Hid (SesB wx g 5#64 rv 1 2 0 true true aq)∧Hid (Asked W.heap.size wx aq q)∧Hid (∃v,Rd wx rv v 0∧Sfx8 wx W.heap.size v [])∧Hid (Below W.heap.size W wx)) (fun i _=>n-(intOf i).toNat)
 case atStart=>exact⟨0,by omega,rfl,none,none,HS1,Lib.hid rfl,HV1,HB1⟩
 case round=>
  obtain⟨k,hk,rfl,q,aq,HS,HA,HV,HB⟩:=hrel
  have HRY:=Lib.hid (fun W' (hb:Below wr.heap.size wr W')=>ready_any g 5#64 rv 1 2 0 true true aq W' (HS.out.fut hb))
  by_cases hkn:k<n
  case neg=>
   have hlt:¬(k:Int)<(n:Int):=by omega
   go_wp2_with fail
   refine(HRY.out _ (Below.refl _ _)).mono ?_
   rintro e w9 ⟨rfl,hw⟩
   replace hw:=hw.symm
   subst hw
   go_wp2_with fail
   go_ret
   exact⟨rfl,HB.out⟩
  have hlt:(k:Int)<(n:Int):=by omega
  obtain⟨b,off,cs,d,rfl,hx,hE,l2⟩:=HL.out.at HB.out hkn
  have HCL:=Lib.hid hE.len
  have hone:=hE.one
  have hE2:DoE W d cs:=hE
  have hsz:YD.size=cs.toArray.size:=by rw[HYD.out,List.size_toArray,HCL.out]
  have hbn:=Q1z wr (.cells YD 56)
  have HE:=Lib.hid hE
  clear hx hE hE2
  go_upto_region 7 with(first
   |(with_reducible refine wpList_load_mid (op:=⟨some 25,_,_,_,_,_⟩) ?_ 56 (.tmp 24) ?_ (b) ((off+k*144)) ?_ (cs) _ (l2) Tryz.underlying56 ?_ ?_ ?_
     ·rfl
     ·rfl
     ·rfl
     ·rfl
     ·exact((info_Do HCL.out)))
   |(with_reducible refine Q4z (o:=⟨none,_,_,_,_,_⟩) ?_ 56 (.tmp 5) (.tmp 25) ?_ (wr.heap.size) 56 (YD) (cs.toArray) ?_ ?_ (Blk.new wr _ _) ?_ ?_ ?_ (wr.heap.size) (wr) ?_ ?_ ?_
     ·rfl
     ·rfl
     ·rfl
     ·rfl
     ·exact(info_DoS HCL.out)
     ·exact(hsz)
     ·exact(hone)
     ·exact(hbn)
     ·exact(Nat.le_refl _)
     intro w2 hB2 hb2 hg2 hs2))
  try simp only[Qpz]
  obtain⟨zk,hzk⟩:∃z,z=wr.heap.size:=⟨_,rfl⟩
  rw[←hzk]at hB2 ⊢
  by_cases hk40:40<k
  ·have hgt:(40:Int)<(k:Int):=by omega
   have HF:=Lib.hid (And.intro (HRY.out _ hb2) (Q3z HB.out hb2 (Nat.le_refl _)))
   go_wp2_with fail
   refine HF.out.1.mono ?_
   rintro e w9 ⟨rfl,hw⟩
   replace hw:=hw.symm
   subst hw
   go_wp2_with fail
   go_ret
   exact⟨rfl,HF.out.2⟩
  have hgt:¬(40:Int)<(k:Int):=by omega
  obtain⟨mc,hmc,k0,k1,l3,k143⟩:=HE.out.at hB2.out
  have HMW:=Lib.hid hmc
  have HML:=Lib.hid hmc.len
  have HW2:=Lib.hid (Q3z HB.out hb2 (Nat.le_refl _))
  have HS2:Hid (SesB w2 g 5#64 rv 1 2 0 true true aq):=Lib.hid (HS.out.fut hb2)
  have HA2:=Lib.hid (HA.out.fut hb2)
  have HV2:=Lib.hid (rdv_fut HV.out hb2)
  have hzl:zk<w2.heap.size:=hB2.out.lt
  obtain⟨ow,how⟩:∃b,b=d.own:=⟨_,rfl⟩
  rw[←how]at k143
  have HZF:=Lib.hid (fun V (hb:Below w2.heap.size w2 V)=>And.intro (XEz l3 hb hzl) ((hb.cell (p:=⟨zk,143,none⟩) hzl).trans k143))
  clear hk40 hzk hB2 hb2 hg2 hs2 hbn hsz hone hmc l2 HS HA HV HB HRY HE HCL how hzl
  cases hod:(Int.tmod d.op 2==0)with
  |true=>
   have HAK:=Lib.hid (askd_any g rv 5#64 1 d.m mc d.now aq q W.heap.size w2 (HK.out.below HW2.out hKs) HW2.out.size (Qhz _ _ _ _ HMW.out HW2.out) HS2.out HA2.out)
   go_wp2_with((with_reducible refine wpList_load_mid (op:=⟨some 34,_,_,_,_,_⟩) ?_ 41 (.tmp 33) ?_ (zk) (3) ?_ (mc) _ (l3) Tryz.underlying41 ?_ ?_ ?_
                ·rfl
                ·rfl
                ·rfl
                ·rfl
                ·exact((Qkz HML.out))))
   refine HAK.out.mono ?_
   rintro e w3 ⟨v3,rfl,hst3,q3,aq3,hs3,ha3⟩
   have HS3:=Lib.hid hs3
   have HA3:=Lib.hid ha3
   have HV3:=Lib.hid (rdv_stays HV2.out HS2.out hst3)
   have HW3:=Lib.hid (HW2.out.trans (hst3.below HW2.out.size (fun k hk=>by have:k=g:=hk;omega)))
   clear hst3 hs3 ha3 HAK HS2 HA2 HV2 HW2 l3 k0 k1 k143 HZF
   go_wp2_with fail
   go_roundw
   case rel=>exact⟨k+1,by omega,by go_num,q3,aq3,HS3,HA3,HV3,HW3⟩
   case measure=>simp[intOf];omega
  |false=>
   have HWT:=Lib.hid (waits_any g 5#64 rv 1 aq q W.heap.size w2 HS2.out HA2.out)
   obtain⟨qs,hqs⟩:∃b,b=q.isSome:=⟨_,rfl⟩
   rw[←hqs]at HWT
   have HQS:=Lib.hid hqs
   clear hqs k1 l3 k143
   go_wp2_with fail
   refine HWT.out.mono ?_
   rintro e w3 ⟨cq,mq,rfl,hm3,hq3,hb3⟩
   have HQ3:=Lib.hid hq3
   have HM3:=Lib.hid hm3
   have HQL:=Lib.hid hm3.len
   have HB3:=Lib.hid hb3
   have hszq:YM.size=cq.toArray.size:=by rw[HYM.out,List.size_toArray,HQL.out]
   have honeq:=hm3.one
   have hbn3:=Q1z w3 (.cells YM 41)
   clear hm3 hq3 hb3 HWT k0
   go_upto_region 11 with((with_reducible refine Q4z (o:=⟨none,_,_,_,_,_⟩) ?_ 41 (.tmp 6) (.tmp 41) ?_ (w3.heap.size) 41 (YM) (cq.toArray) ?_ ?_ (Blk.new w3 _ _) ?_ ?_ ?_ (w3.heap.size) (w3) ?_ ?_ ?_
                           ·rfl
                           ·rfl
                           ·rfl
                           ·rfl
                           ·exact(QWz HQL.out)
                           ·exact(hszq)
                           ·exact(honeq)
                           ·exact(hbn3)
                           ·exact(Nat.le_refl _)
                           intro w4 hB4 hb4 hg4 hs4))
   try simp only[Qpz]
   obtain⟨zq,hzq⟩:∃z,z=w3.heap.size:=⟨_,rfl⟩
   rw[←hzq]at hB4 ⊢
   have HZQ:=Lib.hid hB4.out
   have HN4:=Lib.hid (Q3z HB3.out hb4 (Nat.le_refl _))
   have HM4:=Lib.hid (Qhz _ _ _ _ HM3.out hb4)
   have HMQ:=HM4
   have HRB:=Lib.hid (Zcz mc d.m w4 (fun V hv=>refMsgEncode_any d.m mc V hv) (Qhz _ _ _ _ HMW.out (Q3z HW2.out HN4.out (Nat.le_refl _))))
   have l4:=(HZF.out _ HN4.out).1
   clear hzq hB4 hb4 hg4 hs4 hbn3 hszq honeq HB3 HM3
   go_wp2_with((with_reducible refine wpList_load_mid (op:=⟨some 45,_,_,_,_,_⟩) ?_ 41 (.tmp 44) ?_ (zk) (3) ?_ (mc) _ (l4) Tryz.underlying41 ?_ ?_ ?_
                ·rfl
                ·rfl
                ·rfl
                ·rfl
                ·exact((Qkz HML.out))))
   refine HRB.out.mono ?_
   intro e w5 h5
   obtain⟨v5,er5,rfl,hw5,hb5⟩:=wire_of HMW.out.okMsg h5
   have HWI5:=Lib.hid hw5
   have HB5:=Lib.hid hb5
   have k5:=(HZF.out _ (Q3z HN4.out hb5 (Nat.le_refl _))).2
   clear h5 hw5 hb5 HRB l4
   go_upto_if 50 with fail
   go_cut[8] (fun bv wx=>Hid (Wire wx bv)∧Hid (Below w4.heap.size w4 wx))
   case first=>
    cases ow with
    |false=>
     go_wp2_with fail
     go_meet
     exact⟨HWI5,HB5⟩
    |true=>
     have l5:=(HZF.out _ (Q3z HN4.out HB5.out (Nat.le_refl _))).1
     have lq:=Qfz (HZQ.out.fut HB5.out)
     have HAN:=Lib.hid (answer_any mq d.m cq mc w5 (Qhz _ _ _ _ HM4.out HB5.out) (Qhz _ _ _ _ HMW.out (Q3z HW2.out (Q3z HN4.out HB5.out (Nat.le_refl _)) (Nat.le_refl _))))
     go_wp2_with(first
      |(with_reducible refine wpList_load_mid (op:=⟨some 52,_,_,_,_,_⟩) ?_ 41 (.tmp 6) ?_ (zq) (0) ?_ (cq) _ (lq) Tryz.underlying41 ?_ ?_ ?_
        ·rfl
        ·rfl
        ·rfl
        ·rfl
        ·exact((Qkz HQL.out)))
      |(with_reducible refine wpList_load_mid (op:=⟨some 54,_,_,_,_,_⟩) ?_ 41 (.tmp 53) ?_ (zk) (3) ?_ (mc) _ (l5) Tryz.underlying41 ?_ ?_ ?_
        ·rfl
        ·rfl
        ·rfl
        ·rfl
        ·exact((Qkz HML.out))))
     refine HAN.out.mono ?_
     rintro e w6 ⟨m6,c6,rfl,hm6,hb6⟩
     have HRB:=Lib.hid (Zcz c6 m6 w6 (fun V hv=>refMsgEncode_any m6 c6 V hv) hm6)
     have HOK:=Lib.hid hm6.okMsg
     have HB6:=Lib.hid (Q3z HB5.out hb6 (Nat.le_refl _))
     clear hm6 hb6 HAN l5 lq
     go_wp2_with fail
     refine HRB.out.mono ?_
     intro e w7 h7
     obtain⟨v7,er7,rfl,hw7,hb7⟩:=wire_of HOK.out h7
     have HWI7:=Lib.hid hw7
     have HB7:=Lib.hid (Q3z HB6.out hb7 (Nat.le_refl _))
     clear h7 hw7 hb7 HRB
     go_wp2_with fail
     go_meet
     exact⟨HWI7,HB7⟩
   case rest=>
   obtain⟨HWI,HBC⟩:=hcut
   obtain⟨pb,nb,cb,bs,o,rfl,hrb,hnb,hcb,hnb9,hfp,hok⟩:=HWI.out
   have hnc:=Q3z HN4.out HBC.out (Nat.le_refl _)
   have hwc:=Q3z HW2.out hnc (Nat.le_refl _)
   obtain⟨vr,hvr1,hvr2⟩:=rdv_fut HV2.out hnc
   have HSC:Hid (SesB wc g 5#64 rv 1 2 0 true true aq):=Lib.hid (HS2.out.fut hnc)
   have HFD:=Lib.hid (feed_one W.heap.size g rv vr bs pb nb cb wc 5#64 1 aq q o (HK.out.below hwc hKs) hKs ⟨hBr,hBg⟩ HSC.out (HA2.out.fut hnc) hvr1 hvr2 hrb hnb hnb9 hfp hok)
   have HWC:=Lib.hid hwc
   have hzc:=HZQ.out.fut HBC.out
   have HZC:=Lib.hid hzc
   have HNZ:Hid (¬(zq=g∨zq=rv∨vr.ownBlock=some zq)):=Lib.hid (by
    rintro(e|e|e)
    ·subst e;exact absurd (Blk.inj HSC.out hzc).1 (by decide)
    ·subst e;exact absurd (Blk.inj hvr1 hzc).1 (by decide)
    ·exact hvr2.apart hzc (by decide) e)
   clear hnc hwc hvr1 hvr2 hrb hnb hfp hok hzc HWI HBC HS2 HA2 HV2 HW2 HN4 HZF HWI5 HB5 HM4 HZQ k5
   go_wp2_with fail
   refine HFD.out.mono ?_
   rintro e w8 ⟨hb8,hst8,hcase⟩
   have HW8:=Lib.hid (HWC.out.trans hb8)
   have HZ8:=Lib.hid (HZC.out.stays hst8 HNZ.out)
   clear hb8 hst8 HFD HZC HNZ HWC HSC
   rcases hcase with⟨rfl,hl,ve,ak,aq8,hs8⟩|⟨tv,u8,v8,rfl,hrnd,hrd8,hsf8⟩
   ·have hry:=ready_any g 5#64 rv 1 hl 1 ve ak aq8 w8 hs8
    have hff:(hl==2&& !((1:Int) != 0))=false:=by cases(hl==2)<;>rfl
    rw[hff]at hry
    have HRY:=Lib.hid hry
    clear hry hff hs8
    go_wp2_with fail
    refine HRY.out.mono ?_
    rintro e w9 ⟨rfl,hw⟩
    replace hw:=hw.symm
    subst hw
    go_wp2_with fail
    go_ret
    exact⟨rfl,HW8.out⟩
   ·have HV8:Hid (∃v,Rd w8 rv v 0∧Sfx8 w8 W.heap.size v []):=Lib.hid ⟨v8,hrd8,hsf8⟩
    clear hrd8 hsf8
    rcases hrnd with⟨rfl,aq8,hs8,ha8⟩|⟨q',hq',⟨tb,ct,m8,cs8,rfl,htb,htl,hrng,hm8,hcond⟩,hs8⟩
    ·have HS8:=Lib.hid hs8
     have HA8:=Lib.hid ha8
     clear hs8 ha8
     go_wp2_with fail
     go_roundw
     case rel=>exact⟨k+1,by omega,by go_num,q,aq8,HS8,HA8,HV8,HW8⟩
     case measure=>simp[intOf];omega
    ·have hqs:qs=true:=by rw[HQS.out,hq'];rfl
     subst hqs
     have hmq:mq=q':=HQ3.out q' hq'
     subst hmq
     have HS8:=Lib.hid hs8
     have HCD:=Lib.hid hcond
     have H8L:=Lib.hid hm8.len
     have hsz8:YM.size=cs8.toArray.size:=by rw[HYM.out,List.size_toArray,H8L.out]
     have hone8:=hm8.one
     have HM8:=Lib.hid hm8
     have hbn8:=Q1z w8 (.cells YM 41)
     clear hs8 hcond hm8 hq' HQ3
     go_upto_region 21 with(first
      |(with_reducible refine wpList_load_mid (op:=⟨some 93,_,_,_,_,_⟩) ?_ 41 (.tmp 92) ?_ (tb) (0) ?_ (cs8) _ (hrng) Tryz.underlying41 ?_ ?_ ?_
        ·rfl
        ·rfl
        ·rfl
        ·rfl
        ·exact((Qkz H8L.out)))
      |(with_reducible refine Q4z (o:=⟨none,_,_,_,_,_⟩) ?_ 41 (.tmp 13) (.tmp 93) ?_ (w8.heap.size) 41 (YM) (cs8.toArray) ?_ ?_ (Blk.new w8 _ _) ?_ ?_ ?_ (w8.heap.size) (w8) ?_ ?_ ?_
        ·rfl
        ·rfl
        ·rfl
        ·rfl
        ·exact(QWz H8L.out)
        ·exact(hsz8)
        ·exact(hone8)
        ·exact(hbn8)
        ·exact(Nat.le_refl _)
        intro w9 hB9 hb9 hg9 hs9))
     try simp only[Qpz]
     obtain⟨zt,hzt⟩:∃z,z=w8.heap.size:=⟨_,rfl⟩
     rw[←hzt]at hB9 ⊢
     obtain⟨t0,ts,tl⟩:=HM8.out.st hB9.out
     obtain⟨_,qst,ql⟩:=HMQ.out.st (HZ8.out.fut hb9)
     obtain⟨km,hkm⟩:∃k,k=m8.k:=⟨_,rfl⟩
     rw[←hkm]at t0
     have HKM:=Lib.hid hkm
     have HTL:=Lib.hid tl
     have HQL2:=Lib.hid ql
     have HS9:Hid (SesB w9 g 5#64 rv 1 2 0 true true none):=Lib.hid (HS8.out.fut hb9)
     have HV9:=Lib.hid (rdv_fut HV8.out hb9)
     have HW9:=Lib.hid (Q3z HW8.out hb9 (Nat.le_refl _))
     have heq:∀w,(Op.equalIn 10000 32 (.agg (Q5z mq.st).toArray) (.agg (Q5z mq.st).toArray)).run Tryz.prog w= .ok true w:=fun w=>hash_same mq.st ql w
     clear hzt hB9 hb9 hg9 hs9 hbn8 hsz8 hone8 hkm tl ql hrng HS8 HV8 HW8 HM8 HZ8
     go_cut[108] (fun v wx=>v= .bool false∧wx=w9)
     case first=>
      rcases(show km=8∨km=10∨(¬km=8∧¬km=10) by omega)with rfl|rfl|⟨h8,h10⟩
      ·have hst:m8.st=mq.st:=HCD.out (.inl HKM.out.symm)
       rw[hst]at ts
       go_wp2_with(first
        |(with_reducible refine Qlz (op:=⟨some 104,_,_,_,_,_⟩) ?_ 32 (.tmp 103) ?_ (zt) (35) ?_ ((Q5z (mq.st))) _ (ts) Tryz.underlying32 ?_ ?_ ?_
          ·rfl
          ·rfl
          ·rfl
          ·rfl
          ·exact(Quz (HQL2.out)))
        |(with_reducible refine Qlz (op:=⟨some 106,_,_,_,_,_⟩) ?_ 32 (.tmp 105) ?_ (zq) (35) ?_ ((Q5z (mq.st))) _ (qst) Tryz.underlying32 ?_ ?_ ?_
          ·rfl
          ·rfl
          ·rfl
          ·rfl
          ·exact(Quz (HQL2.out))))
       go_meet
       exact⟨rfl,rfl⟩
      ·have hst:m8.st=mq.st:=HCD.out (.inr HKM.out.symm)
       rw[hst]at ts
       go_wp2_with(first
        |(with_reducible refine Qlz (op:=⟨some 104,_,_,_,_,_⟩) ?_ 32 (.tmp 103) ?_ (zt) (35) ?_ ((Q5z (mq.st))) _ (ts) Tryz.underlying32 ?_ ?_ ?_
          ·rfl
          ·rfl
          ·rfl
          ·rfl
          ·exact(Quz (HQL2.out)))
        |(with_reducible refine Qlz (op:=⟨some 106,_,_,_,_,_⟩) ?_ 32 (.tmp 105) ?_ (zq) (35) ?_ ((Q5z (mq.st))) _ (qst) Tryz.underlying32 ?_ ?_ ?_
          ·rfl
          ·rfl
          ·rfl
          ·rfl
          ·exact(Quz (HQL2.out))))
       go_meet
       exact⟨rfl,rfl⟩
      ·have e8:(km==8)=false:=by rw[beq_eq_false_iff_ne];exact h8
       have e10:(km==10)=false:=by rw[beq_eq_false_iff_ne];exact h10
       clear h8 h10
       go_wp2_with fail
       go_meet
       exact⟨rfl,rfl⟩
     case rest=>
     obtain⟨rfl,rfl⟩:=hcut
     have HWN:=Lib.hid (waits_none g 5#64 rv 1 2 0 true true wc HS9.out)
     have HS10:=HS9
     clear heq t0 ts qst
     go_wp2_with fail
     refine HWN.out.mono ?_
     rintro e w10 ⟨rfl,hb10⟩
     have hsz10:YM.size=(msgZ 0).toArray.size:=by rw[HYM.out,Xcz]
     have hbn10:=Q1z w10 (.cells YM 41)
     have HF:Hid (SesB w10 g 5#64 rv 1 2 0 true true none∧(∃v,Rd w10 rv v 0∧Sfx8 w10 W.heap.size v [])∧Below W.heap.size W w10):=Lib.hid ⟨HS9.out.fut hb10,rdv_fut HV9.out hb10,Q3z HW9.out hb10 (Nat.le_refl _)⟩
     clear hb10 HWN HS9 HV9 HW9 HS10
     go_wp2_with((with_reducible refine Q4z (o:=⟨none,_,_,_,_,_⟩) ?_ 41 (.tmp 14) (.tmp 112) ?_ (w10.heap.size) 41 (YM) ((msgZ 0).toArray) ?_ ?_ (Blk.new w10 _ _) ?_ ?_ ?_ (w10.heap.size) (w10) ?_ ?_ ?_
                  ·rfl
                  ·rfl
                  ·rfl
                  ·rfl
                  ·exact(QWz (msgZ_len 0))
                  ·exact(hsz10)
                  ·exact(msgZ_one)
                  ·exact(hbn10)
                  ·exact(Nat.le_refl _)
                  intro w11 hB11 hb11 hg11 hs11))
     have HG2:Hid (SesB w11 g 5#64 rv 1 2 0 true true none∧(∃v,Rd w11 rv v 0∧Sfx8 w11 W.heap.size v [])∧Below W.heap.size W w11):=Lib.hid ⟨HF.out.1.fut hb11,rdv_fut HF.out.2.1 hb11,Q3z HF.out.2.2 hb11 (Nat.le_refl _)⟩
     clear hB11 hb11 hg11 hs11 HF
     go_roundw
     case rel=>exact⟨k+1,by omega,by go_num,none,none,Lib.hid HG2.out.1,Lib.hid rfl,Lib.hid HG2.out.2.1,Lib.hid HG2.out.2.2⟩
     case measure=>simp[intOf];omega
end
section
open Go Go.ChangeShapes Go.WideShapes Go.ChangeAt Go.RowKit
theorem do_cells {H:Type} {enc:TypeId × Value→H} {W:World} {fuel:Nat} {cs:List Value} {x:DataW H × List MemPlace} (h:DataW.trod enc Tryz.prog W 0 (fun _=>true) true fuel 56 cs=some x):cs.length=144∧∃d,DoE W d cs:=by
 have hl:cs.length=144:=by rw[trod_len Tryz.underlying56 h];kernel_rfl
 obtain⟨n0,y0,h0⟩:=Qgz Tryz.underlying56 h 0 _ rfl 1 (by kernel_rfl)
 obtain⟨n1,y1,h1⟩:=Qgz Tryz.underlying56 h 1 _ rfl 1 (by kernel_rfl)
 obtain⟨n2,y2,h2⟩:=Qgz Tryz.underlying56 h 2 _ rfl 1 (by kernel_rfl)
 obtain⟨n3,y3,h3⟩:=Qgz Tryz.underlying56 h 3 _ rfl 139 (by kernel_rfl)
 obtain⟨n4,y4,h4⟩:=Qgz Tryz.underlying56 h 4 _ rfl 1 (by kernel_rfl)
 obtain⟨n5,y5,h5⟩:=Qgz Tryz.underlying56 h 5 _ rfl 1 (by kernel_rfl)
 obtain⟨i0,e0,_,_⟩:=DataW.trod_int Tryz.underlying3 h0
 obtain⟨i1,e1,_,_⟩:=DataW.trod_int Tryz.underlying3 h1
 obtain⟨i2,e2,_,_⟩:=DataW.trod_int Tryz.underlying3 h2
 obtain⟨_,m,hm⟩:=msg_cells h3
 obtain⟨a4,l4,c4,e4⟩:=XLz Tryz.underlying26 h4
 obtain⟨b5,e5,_⟩:=DataW.trod_bool Tryz.underlying4 h5
 have f0:(cs.drop 0).take 1=[.int .i64 i0]:=e0
 have f1:(cs.drop 1).take 1=[.int .i64 i1]:=e1
 have f2:(cs.drop 2).take 1=[.int .i64 i2]:=e2
 have f4:(cs.drop 142).take 1=[.slice a4 l4 c4]:=e4
 have f5:(cs.drop 143).take 1=[.bool b5]:=e5
 have f6:cs.drop 144=[]:=List.drop_eq_nil_of_le (by omega)
 refine⟨hl,⟨i0,i1,i2,m,b5⟩,_,a4,l4,c4,?_,hm⟩
 have g0:cs=[.int .i64 i0]++cs.drop 1:=Zpz (o:=0) f0
 have g1:cs.drop 1=[.int .i64 i1]++cs.drop 2:=Zpz f1
 have g2:cs.drop 2=[.int .i64 i2]++cs.drop 3:=Zpz f2
 have g3:cs.drop 3=(cs.drop 3).take 139++cs.drop 142:=Zpz rfl
 have g4:cs.drop 142=[.slice a4 l4 c4]++cs.drop 143:=Zpz f4
 have g5:cs.drop 143=[.bool b5]++cs.drop 144:=Zpz f5
 refine g0.trans ?_
 rw[g1,g2]
 show _=[Value.int .i64 i0,.int .i64 i1,.int .i64 i2]++((cs.drop 3).take 139++[.slice a4 l4 c4,.bool b5])
 rw[f6,List.append_nil]at g5
 rw[g5]at g4
 rw[g4]at g3
 rw[show[Value.int .i64 i0]++([Value.int .i64 i1]++([Value.int .i64 i2]++cs.drop 3))=[Value.int .i64 i0,.int .i64 i1,.int .i64 i2]++cs.drop 3 from by simp]
 exact congrArg (_++ ·) g3
theorem open_dos {H:Type} {enc:TypeId × Value→H} {W:World} {a0:Option Addr} {len cap:Nat} {d0:DataW H} {p:List MemPlace} (h0:DataW.Trod enc Tryz.prog W 0 (fun _=>true) true 54 (.slice a0 len cap) d0 p):∃ds,ESl DoE 144 W (.slice a0 len cap) ds:=
 XOz DoE (by omega) Tryz.underlying54 (by kernel_rfl) (fun fuel cs x h=>do_cells h) h0
end
end Go.Proofs.YtjbijcjcejfpcaaGreatDoor
