/- A session is fed frames of the greeting and pings: the walk. -/
import Derived.Test.YtjbijcjcejfpcaaGreatDoorZSesD
namespace Go.Proofs.YtjbijcjcejfpcaaGreatDoor
set_option linter.unusedVariables false
set_option maxRecDepth 100000
set_option maxHeartbeats 16000000
open Go Go.RowKit
theorem msgC_nonce {w W:World} {m:TMsg} {cs:List Value} {zm:Nat} (h:MsgC w m cs) (hb:Blk W zm 41 cs.toArray):W.cell? ⟨zm,2,none⟩=some (.int .u64 (iv64 m.no)):=by
 obtain⟨hv,dv,bv,bc,rfl,_⟩:=h
 exact hb.cell 2
theorem ses_app {w1 w7 w8:World} {g rv:Nat} {no:BitVec 64} {dn hl bd:Int} {ve ak:Bool} {aq:Option Addr} {u:Value} {ob:Bs} (h1:Own8 w7 w1.heap.size u ob) (h2:Stays (·=g) w1 w7) (h3:SesB w7 g no rv dn hl bd ve ak aq) (hg:w7.grownBy w8 u.ownBlock) (hlt:g<w1.heap.size):
 Stays (·=g) w1 w8∧SesB w8 g no rv dn hl bd ve ak aq:=
 ⟨h2.trans (Stays.of_grown (S:=fun k=>u.ownBlock=some k) hg (fun k h=>h)) (fun k hk hS=>by have:=(World.ownsRow.lt h1 k hS).1;omega),
  Blk.stays h3 (Stays.of_grown (S:=fun k=>u.ownBlock=some k) hg (fun k h=>h)) (fun hS=>by have:=(World.ownsRow.lt h1 g hS).1;omega)⟩
theorem feed_small (B g rv:Nat) (v:Value) (s bs:Bs) (er:Int) (p:Option Addr) (n c:Nat) (w:World) (no:BitVec 64) (dn:Int) (x:Gr) (hK:Laid w) (hgB:gTop≤B) (hB:B≤rv∧B≤g)
 (hS:SesB w g no rv dn x.n 0 x.ve x.ak none) (hR:Rd w rv v er) (hv:Sfx8 w B v s) (hs:er≠0→s=[]) (hr:Row8 w p bs) (hn:bs.length=n) (hlen:s.length+n≤1000000000000) (hfn:(feedP s er bs).1.length≤1000000000) (hok:okS x (feedP s er bs).1):
 Calls Tryz.prog 10 #[.pointer (some ⟨g,0,none⟩),.slice p n c] w (FeedQ B v w g rv no dn (feedP s er bs) (if(feedP s er bs).2.2=0 then runS x (feedP s er bs).1 else none)):=by
 have HN:=Lib.hid (Zlz g no rv dn x.n 0 x.ve x.ak none w hS)
 have HBL:=Lib.hid (Zhz ⟨g,6,none⟩ 0 w hS.l.c6)
 have HFE:=Lib.hid (feedE_any rv B v s bs er p n c w hK hgB hB.1 hR hv hs hr hn hlen)
 have hap:=ses_apart hS hR hv
 have c1:=hS.l.c1
 obtain⟨y,hy⟩:∃y,y=feedP s er bs:=⟨_,rfl⟩
 rw[←hy]at HFE hok hfn ⊢
 have HOK:=Lib.hid hok
 have HS:=Lib.hid hS
 have HK:=Lib.hid hK
 have HAP:=Lib.hid hap
 have hBs:B≤w.heap.size:=by have:=hS.lt;omega
 have HVB:Hid (∀k,v.ownBlock=some k→B≤k):=Lib.hid (fun k hk=>(hv.lt k hk).1)
 obtain⟨fs,s',er'⟩:=y
 replace hfn:fs.length≤1000000000:=hfn
 obtain⟨O,hO⟩:∃O,O=(if er'=0 then runS x fs else none):=⟨_,rfl⟩
 have HO:=Lib.hid hO
 show Calls _ _ _ _ (FeedQ B v w g rv no dn (fs,s',er') (if er'=0 then runS x fs else none))
 rw[←hO]
 clear hy hok hS hR hv hs hr hn hap hO hK
 go_enter Tryz.func10,Tryz.ntmps10
 go_wp2_with fail
 refine HN.out.mono ?_
 rintro e w0 ⟨rfl,hw⟩
 replace hw:=hw.symm
 subst hw
 go_wp2_with fail
 refine HBL.out.mono ?_
 rintro e w0 ⟨rfl,hw⟩
 replace hw:=hw.symm
 subst hw
 clear HN HBL
 go_wp2_with fail
 refine HFE.out.mono ?_
 rintro e w1 ⟨l,v1,H,rfl,hH,hf1,hr1,hv1,hst1,hvo⟩
 obtain⟨pf,cf,rfl,hlc,hcm,hfa⟩:=hf1.at
 have HS1:Hid (SesB w1 g no rv dn x.n 0 x.ve x.ak none):=Lib.hid (Blk.stays HS.out hst1 HAP.out)
 have hgl:g<w1.heap.size:=HS1.out.lt
 have hfl:Hid (∀k,1000000<k→True):=Lib.hid (fun _ _=>trivial)
 obtain⟨N,hN⟩:∃N,N=fs.length:=⟨_,rfl⟩
 have HNN:=Lib.hid hN
 have hg0:g<w.heap.size:=HS.out.lt
 rw[←hN]at hlc hfn hf1 ⊢
 have HFR:=Lib.hid hf1
 have hw1:w.heap.size≤w1.heap.size:=hst1.size
 have HBW1:Hid (Below B w w1):=Lib.hid (hst1.below hBs (fun k hk=>by
  rcases hk with rfl|hk
  ·exact hB.1
  ·exact HVB.out k hk))
 have HSTW:Hid (Stays (fun k=>k=g∨k=rv∨v.ownBlock=some k) w w1):=Lib.hid (hst1.mono (fun k _ h=>.inr h))
 have HR1:=Lib.hid hr1
 have HV1:=Lib.hid hv1
 have HAP1:=Lib.hid (ses_apart HS1.out hr1 hv1)
 clear hN hfa hf1 hr1 hv1 hst1 hvo hfl HS HAP HFE HVB c1
 go_upto_block 0 with fail
 go_cut[8,9,10] (fun fv tv ov wx=>∃(flt:Int) (ob:Bs) (z:Gr),fv= .int .i64 flt∧tv= .slice none 0 0∧Hid (Own8 wx w1.heap.size ov ob)∧Hid (Stays (·=g) w1 wx)∧((Hid (flt=0∧O=some (z,ob))∧Hid (SesB wx g no rv dn z.n 0 z.ve z.ak none))∨(Hid (flt≠0∧O=none)∧Hid (∃hl ve ak,SesB wx g no rv dn hl 0 ve ak none))))
 case first=>
  go_wp2_with fail
  go_loopw[8,9,10,36] (fun fv tv ov i wx=>∃(k:Nat) (ob:Bs) (z:Gr),k≤N∧i= .int .i64 k∧fv= .int .i64 er'∧tv= .slice none 0 0∧Hid (Own8 wx w1.heap.size ov ob)∧Hid (ob.length≤32*k)∧Hid (Stays (·=g) w1 wx)∧Hid (SesB wx g no rv dn z.n 0 z.ve z.ak none)∧Hid (okS z (fs.drop k))∧Hid (runS x fs=(runS z (fs.drop k)).map fun r=>(r.1,ob++r.2))) (fun _ _ _ i _=>N-(intOf i).toNat)
  case atStart=>exact⟨0,[],x,by omega,rfl,rfl,rfl,Lib.hid (Own8.nil _ _),Lib.hid (Nat.zero_le _),Lib.hid (Stays.refl _ _),HS1,HOK,Lib.hid (by simp)⟩
  case round=>
   obtain⟨k,ob,z,hk,rfl,rfl,rfl,HO8,HOL,HST,HSS,HOKK,HRUN⟩:=hrel
   by_cases hkn:k<N
   ·have hlt:(k:Int)<(N:Int):=by omega
    obtain⟨f,hf⟩:∃f,fs[k]? =some f:=⟨_,List.getElem?_eq_getElem (by rw[←HNN.out];exact hkn)⟩
    have hfr:FrmRows wr H (.slice pf N cf) fs:=HFR.out.stays HST.out (fun j hj e=>by have:j=g:=e;omega)
    obtain⟨pf',cf',hpe,_,_,hfa⟩:=hfr.at
    obtain⟨rfl,rfl⟩:pf=pf'∧cf=cf':=by injection hpe with a1 _ a3;exact⟨a1,a3⟩
    obtain⟨bf,of,hpf,hltf,hall⟩:=hfa (fun e=>by rw[e]at hf;cases hf)
    subst hpf
    obtain⟨u,cu0,cu1,hsl⟩:=hall k f hf
    obtain⟨pu,nu,cu,rfl,hsl2⟩:=hsl
    have HSL:Hid (Sl wr (.slice pu nu cu) f.2):=Lib.hid ⟨_,_,_,rfl,hsl2⟩
    have hdk:fs.drop k=f ::fs.drop (k+1):=by
     obtain⟨hi,he⟩:=List.getElem?_eq_some_iff.1 hf
     rw[List.drop_eq_getElem_cons hi,he]
    have hokk:=HOKK.out
    rw[hdk]at hokk
    obtain⟨ev,hev,hnx⟩:=hokk
    have hrun:=HRUN.out
    rw[hdk]at hrun
    have hnu:nu=f.2.length:=hsl2.1.symm
    have hel:=ev.len
    rw[←hev]at hel
    obtain⟨wf,hwf⟩:∃W,W=wr.alloc (.cells #[.string (strB f.1),.slice pu nu cu] 82):=⟨_,rfl⟩
    have hbwf:Below wr.heap.size wr wf:=by rw[hwf];exact Q1z wr _
    have HFB:Hid (Blk wf wr.heap.size 82 #[.string (strB f.1),.slice pu nu cu]):=Lib.hid (by rw[hwf];exact Blk.new wr _ _)
    have hdec:=msgDecode_of f.1 pu nu cu f.2 wf (fun _=>by
     rw[hev,ev.kind]
     cases ev with
     |ver _ _=>exact fun D B g z hD hB w s hr hm=>fields_k1 D B g z hD hB w s hr hm
     |ack=>exact fun D B g z hD hB w s hr hm=>fields_k2 D B g z hD hB w s hr hm
     |ping _=>exact fun D B g z hD hB w s hr hm=>fields_k3 D B g z hD hB w s hr hm) (HSL.out.below hbwf (Nat.le_refl _)) (by rw[hnu];omega)
    have hde:=ev.dec
    rw[←hev]at hde
    rw[hde]at hdec
    obtain⟨m,hm⟩:∃m,m=ev.m:=⟨_,rfl⟩
    rw[←hm]at hdec
    have HDEC:=Lib.hid hdec
    have HBWF:=Lib.hid hbwf
    have HRN:=Lib.hid hrun
    have HNX:=Lib.hid hnx
    have HEV:=Lib.hid hev
    have HMM:=Lib.hid hm
    have hz:=zMsg
    obtain⟨Y0,hY0⟩:∃Y,Y=(msgZ 0).toArray:=⟨_,rfl⟩
    rw[←hY0]at hz
    have hzsz:Y0.size=139:=by rw[hY0];exact Xcz 0
    rw[Nat.mul_comm]at cu0 cu1
    clear hf hfr hpe hfa hall hsl2 HSL hdk hrun hnx hev hm hnu hel hbwf hdec hde HOKK HRUN hY0
    go_upto_region 11 with fail
    rw[←hwf]
    clear hwf
    obtain⟨zf,hzf⟩:∃zf,zf=wr.heap.size:=⟨_,rfl⟩
    rw[←hzf]at HFB ⊢
    have lf:=Qfz (cs:=[.string (strB f.1),.slice pu nu cu]) HFB.out
    have HO5:=Lib.hid (HO8.out.fut HBWF.out)
    have HS5:Hid (SesB wf g no rv dn z.n 0 z.ve z.ak none):=Lib.hid (HSS.out.fut HBWF.out)
    have HT5:Hid (Stays (·=g) w1 wf):=Lib.hid (HST.out.trans (Stays.of_below HBWF.out (Nat.le_refl _) (fun _=>False)) (fun _ _ h=>h.elim))
    clear hzf HFB HO8 HSS HST HBWF
    go_wp2_with((with_reducible refine wpList_load_mid (op:=⟨some 41,_,_,_,_,_⟩) ?_ 82 (.tmp 12) ?_ (zf) (0) ?_ ([.string (strB f.1),.slice pu nu cu]) _ (lf) Tryz.underlying82 ?_ ?_ ?_
                 ·rfl
                 ·rfl
                 ·rfl
                 ·rfl
                 ·exact((by kernel_rfl))))
    refine HDEC.out.mono ?_
    rintro e w5 ⟨cs,rfl,ho5,hb5⟩
    have HCL:=Lib.hid ho5.c.len
    have HC5:=Lib.hid ho5.c
    have hone:=ho5.c.one
    have hszc:=ho5.c.size hzsz
    have hbn:=Q1z w5 (.cells Y0 41)
    have HO6:=Lib.hid (HO5.out.fut hb5)
    have HS6:Hid (SesB w5 g no rv dn z.n 0 z.ve z.ak none):=Lib.hid (HS5.out.fut hb5)
    have HT6:Hid (Stays (·=g) w1 w5):=Lib.hid (HT5.out.trans (Stays.of_below hb5 (Nat.le_refl _) (fun _=>False)) (fun _ _ h=>h.elim))
    clear HDEC ho5 hb5 lf HO5 HS5 HT5
    go_upto_region 12 with((with_reducible refine Q4z (o:=⟨none,_,_,_,_,_⟩) ?_ 41 (.tmp 13) (.tmp 43) ?_ (w5.heap.size) 41 (Y0) (cs.toArray) ?_ ?_ (Blk.new w5 _ _) ?_ ?_ ?_ (w5.heap.size) (w5) ?_ ?_ ?_
                            ·rfl
                            ·rfl
                            ·rfl
                            ·rfl
                            ·exact(QWz HCL.out)
                            ·exact(hszc)
                            ·exact(hone)
                            ·exact(hbn)
                            ·exact(Nat.le_refl _)
                            intro w6 hB6 hb6 hg6 hs6))
    try simp only[Qpz]
    obtain⟨zm,hzm⟩:∃z,z=w5.heap.size:=⟨_,rfl⟩
    rw[←hzm]at hB6 ⊢
    have HB6:=Lib.hid hB6.out
    have HC6:=Lib.hid (Qhz _ _ _ _ HC5.out hb6)
    have HO7:=Lib.hid (HO6.out.fut hb6)
    have HS7:Hid (SesB w6 g no rv dn z.n 0 z.ve z.ak none):=Lib.hid (HS6.out.fut hb6)
    have HT7:Hid (Stays (·=g) w1 w6):=Lib.hid (HT6.out.trans (Stays.of_below hb6 (Nat.le_refl _) (fun _=>False)) (fun _ _ h=>h.elim))
    have kc:=msgC_kind HC6.out HB6.out
    clear hzm hB6 hb6 hg6 hs6 hbn hz hzsz hone hszc HC5 HO6 HS6 HT6
    cases ev with
    |ver nv nn=>
     have hmk:m.k=1:=by rw[HMM.out];rfl
     rw[hmk]at kc
     have lm:=Qfz HB6.out
     have hK6:Laid w6:=HK.out.below (HBW1.out.trans (HT7.out.below (by omega) (fun k hk=>by have:k=g:=hk;have:=hB.2;omega))) hgB
     cases hv:z.ve with
     |true=>
      have hgt:Calls Tryz.prog 27 #[.pointer (some ⟨g,0,none⟩),.agg cs.toArray] w6 (GreetP w6 g no rv dn z.n 0 true z.ak none [] false):=
       greet_k1 m cs g no rv dn 0 true z.ak none z.n w6 hK6 (fun h=>by cases h) hmk HC6.out (by have h:=HS7.out;rw[hv]at h;exact h)
      have HGT:=Lib.hid hgt
      clear hgt hK6
      go_upto_region 18 with fail
      go_wp2_with((with_reducible refine wpList_load_mid (op:=⟨some 76,_,_,_,_,_⟩) ?_ 41 (.tmp 13) ?_ (zm) (0) ?_ (cs) _ (lm) Tryz.underlying41 ?_ ?_ ?_
                   ·rfl
                   ·rfl
                   ·rfl
                   ·rfl
                   ·exact((Qkz HCL.out))))
      refine HGT.out.mono ?_
      have hrn:runS x fs=none:=by
       rw[HRN.out,HEV.out,run_ver,if_pos hv]
       rfl
      have HOE:Hid (O=none):=Lib.hid (by rw[HO.out,hrn];split<;>rfl)
      clear hrn
      rintro e w7 ⟨v7,rfl,ho7,hs7,hst7⟩
      obtain⟨q7,m7,c7,rfl,hm7,hmc7,hcm7,hr7⟩:=ho7.open
      have hb8:Below w1.heap.size w7 w7:=Below.refl _ _
      have hob:Own8 w7 w1.heap.size u10 ob:=HO7.out.stays hst7 (fun k hk e=>by have h1:=(World.ownsRow.lt HO7.out k hk).1;have:k=g:=e;omega)
      have hlen:ob.length+([]:Bs).length≤140737488355328:=by have:=HOL.out;simp only[List.length_nil];omega
      have hsz7:w1.heap.size≤w7.heap.size:=Nat.le_trans HT7.out.size hst7.size
      have HT8:=Lib.hid (HT7.out.trans hst7 (fun k _ h=>h))
      have HS8:=Lib.hid hs7
      have HM7:=hm7.out
      clear ho7 hs7 hst7
      go_wp2_with((with_reducible refine Qaz (o:=⟨some 84,_,_,_,_,_⟩) ?_ ((.tmp 82)) ((.tmp 83)) ?_ (w1.heap.size) _ (ob) ?_ (hob) (q7) (m7) (c7) (([]:Bs)) ?_ (HM7) (hr7) ?_ (hsz7) (w1.heap.size) (w7) (hb8) ?_ ?_
                   ·rfl
                   ·rfl
                   ·rfl
                   ·rfl
                   ·exact hlen
                   ·exact Nat.le_refl _
                   intro v8 w8 ho8 hb9 hg8 hs8))
      have hap:=ses_app hob HT8.out HS8.out hg8 hgl
      have HF:Hid (Own8 w8 w1.heap.size v8 (ob++[])∧Stays (·=g) w1 w8∧∃hl ve ak,SesB w8 g no rv dn hl 0 ve ak none):=Lib.hid ⟨ho8,hap.1,_,_,_,hap.2⟩
      clear ho8 hb9 hg8 hs8 hap hob hb8 hr7
      go_meet
      exact⟨201,ob++[],z,rfl,rfl,Lib.hid HF.out.1,Lib.hid HF.out.2.1,.inr ⟨Lib.hid ⟨by decide,HOE.out⟩,Lib.hid HF.out.2.2⟩⟩
     |false=>
      have hgt:Calls Tryz.prog 27 #[.pointer (some ⟨g,0,none⟩),.agg cs.toArray] w6 (GreetP w6 g no rv dn (z.n+1) 0 true z.ak none (QHz 2 0#64) true):=
       greet_k1 m cs g no rv dn 0 false z.ak none z.n w6 hK6 (fun _=>by unfold Gr.n;rw[hv];cases z.ak<;>decide) hmk HC6.out (by have h:=HS7.out;rw[hv]at h;exact h)
      have HGT:=Lib.hid hgt
      clear hgt hK6
      go_upto_region 18 with fail
      go_wp2_with((with_reducible refine wpList_load_mid (op:=⟨some 76,_,_,_,_,_⟩) ?_ 41 (.tmp 13) ?_ (zm) (0) ?_ (cs) _ (lm) Tryz.underlying41 ?_ ?_ ?_
                   ·rfl
                   ·rfl
                   ·rfl
                   ·rfl
                   ·exact((Qkz HCL.out))))
      refine HGT.out.mono ?_
      rintro e w7 ⟨v7,rfl,ho7,hs7,hst7⟩
      obtain⟨q7,m7,c7,rfl,hm7,hmc7,hcm7,hr7⟩:=ho7.open
      have hb8:Below w1.heap.size w7 w7:=Below.refl _ _
      have hob:Own8 w7 w1.heap.size u10 ob:=HO7.out.stays hst7 (fun k hk e=>by have h1:=(World.ownsRow.lt HO7.out k hk).1;have:k=g:=e;omega)
      have hlen:ob.length+(QHz 2 0#64:Bs).length≤140737488355328:=by have:=HOL.out;rw[short2_len];omega
      have hsz7:w1.heap.size≤w7.heap.size:=Nat.le_trans HT7.out.size hst7.size
      have HT8:=Lib.hid (HT7.out.trans hst7 (fun k _ h=>h))
      have HS8:=Lib.hid hs7
      have HM7:=hm7.out
      have HOL2:Hid ((ob++QHz 2 0#64).length≤32*(k+1)):=Lib.hid (by have:=HOL.out;rw[List.length_append];rw[short2_len];omega)
      have HRN2:Hid (runS x fs=(runS (Gr.mk true z.ak) (fs.drop (k+1))).map fun r=>(r.1,(ob++QHz 2 0#64)++r.2)):=Lib.hid (by
       rw[HRN.out,HEV.out,run_ver,if_neg (by rw[hv];decide)]
       cases runS (Gr.mk true z.ak) (fs.drop (k+1))with
       |none=>rfl
       |some r=>simp[List.append_assoc])
      have HOK2:Hid (okS (Gr.mk true z.ak) (fs.drop (k+1))):=Lib.hid (HNX.out hv)
      clear ho7 hs7 hst7
      go_wp2_with((with_reducible refine Qaz (o:=⟨some 84,_,_,_,_,_⟩) ?_ ((.tmp 82)) ((.tmp 83)) ?_ (w1.heap.size) _ (ob) ?_ (hob) (q7) (m7) (c7) ((QHz 2 0#64)) ?_ (HM7) (hr7) ?_ (hsz7) (w1.heap.size) (w7) (hb8) ?_ ?_
                   ·rfl
                   ·rfl
                   ·rfl
                   ·rfl
                   ·exact hlen
                   ·exact Nat.le_refl _
                   intro v8 w8 ho8 hb9 hg8 hs8))
      have hap:=ses_app hob HT8.out HS8.out hg8 hgl
      have HF:Hid (Own8 w8 w1.heap.size v8 (ob++QHz 2 0#64)∧Stays (·=g) w1 w8∧SesB w8 g no rv dn (Gr.n (Gr.mk true z.ak)) 0 (Gr.ve (Gr.mk true z.ak)) (Gr.ak (Gr.mk true z.ak)) none):=Lib.hid ⟨ho8,hap.1,by have h:=hap.2;(rw[show Gr.n (Gr.mk true z.ak)=z.n+1 from by unfold Gr.n;rw[hv];cases z.ak<;>decide];exact h)⟩
      clear ho8 hb9 hg8 hs8 hap hob hb8 hr7
      go_roundw
      case rel=>exact⟨k+1,ob++QHz 2 0#64,Gr.mk true z.ak,by omega,by go_num,rfl,rfl,Lib.hid HF.out.1,HOL2,Lib.hid HF.out.2.1,Lib.hid HF.out.2.2,HOK2,HRN2⟩
      case measure=>simp[intOf];omega
    |ack=>
     have hmk:m.k=2:=by rw[HMM.out];rfl
     rw[hmk]at kc
     have lm:=Qfz HB6.out
     have hK6:Laid w6:=HK.out.below (HBW1.out.trans (HT7.out.below (by omega) (fun k hk=>by have:k=g:=hk;have:=hB.2;omega))) hgB
     cases hv:z.ak with
     |true=>
      have hgt:Calls Tryz.prog 27 #[.pointer (some ⟨g,0,none⟩),.agg cs.toArray] w6 (GreetP w6 g no rv dn z.n 0 z.ve true none [] false):=
       greet_k2 m cs g no rv dn 0 z.ve true none z.n w6 (fun h=>by cases h) hmk HC6.out (by have h:=HS7.out;rw[hv]at h;exact h)
      have HGT:=Lib.hid hgt
      clear hgt hK6
      go_upto_region 18 with fail
      go_wp2_with((with_reducible refine wpList_load_mid (op:=⟨some 76,_,_,_,_,_⟩) ?_ 41 (.tmp 13) ?_ (zm) (0) ?_ (cs) _ (lm) Tryz.underlying41 ?_ ?_ ?_
                   ·rfl
                   ·rfl
                   ·rfl
                   ·rfl
                   ·exact((Qkz HCL.out))))
      refine HGT.out.mono ?_
      have hrn:runS x fs=none:=by
       rw[HRN.out,HEV.out,run_ack,if_pos hv]
       rfl
      have HOE:Hid (O=none):=Lib.hid (by rw[HO.out,hrn];split<;>rfl)
      clear hrn
      rintro e w7 ⟨v7,rfl,ho7,hs7,hst7⟩
      obtain⟨q7,m7,c7,rfl,hm7,hmc7,hcm7,hr7⟩:=ho7.open
      have hb8:Below w1.heap.size w7 w7:=Below.refl _ _
      have hob:Own8 w7 w1.heap.size u10 ob:=HO7.out.stays hst7 (fun k hk e=>by have h1:=(World.ownsRow.lt HO7.out k hk).1;have:k=g:=e;omega)
      have hlen:ob.length+([]:Bs).length≤140737488355328:=by have:=HOL.out;simp only[List.length_nil];omega
      have hsz7:w1.heap.size≤w7.heap.size:=Nat.le_trans HT7.out.size hst7.size
      have HT8:=Lib.hid (HT7.out.trans hst7 (fun k _ h=>h))
      have HS8:=Lib.hid hs7
      have HM7:=hm7.out
      clear ho7 hs7 hst7
      go_wp2_with((with_reducible refine Qaz (o:=⟨some 84,_,_,_,_,_⟩) ?_ ((.tmp 82)) ((.tmp 83)) ?_ (w1.heap.size) _ (ob) ?_ (hob) (q7) (m7) (c7) (([]:Bs)) ?_ (HM7) (hr7) ?_ (hsz7) (w1.heap.size) (w7) (hb8) ?_ ?_
                   ·rfl
                   ·rfl
                   ·rfl
                   ·rfl
                   ·exact hlen
                   ·exact Nat.le_refl _
                   intro v8 w8 ho8 hb9 hg8 hs8))
      have hap:=ses_app hob HT8.out HS8.out hg8 hgl
      have HF:Hid (Own8 w8 w1.heap.size v8 (ob++[])∧Stays (·=g) w1 w8∧∃hl ve ak,SesB w8 g no rv dn hl 0 ve ak none):=Lib.hid ⟨ho8,hap.1,_,_,_,hap.2⟩
      clear ho8 hb9 hg8 hs8 hap hob hb8 hr7
      go_meet
      exact⟨201,ob++[],z,rfl,rfl,Lib.hid HF.out.1,Lib.hid HF.out.2.1,.inr ⟨Lib.hid ⟨by decide,HOE.out⟩,Lib.hid HF.out.2.2⟩⟩
     |false=>
      have hgt:Calls Tryz.prog 27 #[.pointer (some ⟨g,0,none⟩),.agg cs.toArray] w6 (GreetP w6 g no rv dn (z.n+1) 0 z.ve true none [] true):=
       greet_k2 m cs g no rv dn 0 z.ve false none z.n w6 (fun _=>by unfold Gr.n;rw[hv];cases z.ve<;>decide) hmk HC6.out (by have h:=HS7.out;rw[hv]at h;exact h)
      have HGT:=Lib.hid hgt
      clear hgt hK6
      go_upto_region 18 with fail
      go_wp2_with((with_reducible refine wpList_load_mid (op:=⟨some 76,_,_,_,_,_⟩) ?_ 41 (.tmp 13) ?_ (zm) (0) ?_ (cs) _ (lm) Tryz.underlying41 ?_ ?_ ?_
                   ·rfl
                   ·rfl
                   ·rfl
                   ·rfl
                   ·exact((Qkz HCL.out))))
      refine HGT.out.mono ?_
      rintro e w7 ⟨v7,rfl,ho7,hs7,hst7⟩
      obtain⟨q7,m7,c7,rfl,hm7,hmc7,hcm7,hr7⟩:=ho7.open
      have hb8:Below w1.heap.size w7 w7:=Below.refl _ _
      have hob:Own8 w7 w1.heap.size u10 ob:=HO7.out.stays hst7 (fun k hk e=>by have h1:=(World.ownsRow.lt HO7.out k hk).1;have:k=g:=e;omega)
      have hlen:ob.length+([]:Bs).length≤140737488355328:=by have:=HOL.out;simp only[List.length_nil];omega
      have hsz7:w1.heap.size≤w7.heap.size:=Nat.le_trans HT7.out.size hst7.size
      have HT8:=Lib.hid (HT7.out.trans hst7 (fun k _ h=>h))
      have HS8:=Lib.hid hs7
      have HM7:=hm7.out
      have HOL2:Hid ((ob++[]).length≤32*(k+1)):=Lib.hid (by have:=HOL.out;rw[List.length_append];simp only[List.length_nil];omega)
      have HRN2:Hid (runS x fs=(runS (Gr.mk z.ve true) (fs.drop (k+1))).map fun r=>(r.1,(ob++[])++r.2)):=Lib.hid (by
       rw[HRN.out,HEV.out,run_ack,if_neg (by rw[hv];decide)]
       cases runS (Gr.mk z.ve true) (fs.drop (k+1))with
       |none=>rfl
       |some r=>simp)
      have HOK2:Hid (okS (Gr.mk z.ve true) (fs.drop (k+1))):=Lib.hid (HNX.out hv)
      clear ho7 hs7 hst7
      go_wp2_with((with_reducible refine Qaz (o:=⟨some 84,_,_,_,_,_⟩) ?_ ((.tmp 82)) ((.tmp 83)) ?_ (w1.heap.size) _ (ob) ?_ (hob) (q7) (m7) (c7) (([])) ?_ (HM7) (hr7) ?_ (hsz7) (w1.heap.size) (w7) (hb8) ?_ ?_
                   ·rfl
                   ·rfl
                   ·rfl
                   ·rfl
                   ·exact hlen
                   ·exact Nat.le_refl _
                   intro v8 w8 ho8 hb9 hg8 hs8))
      have hap:=ses_app hob HT8.out HS8.out hg8 hgl
      have HF:Hid (Own8 w8 w1.heap.size v8 (ob++[])∧Stays (·=g) w1 w8∧SesB w8 g no rv dn (Gr.n (Gr.mk z.ve true)) 0 (Gr.ve (Gr.mk z.ve true)) (Gr.ak (Gr.mk z.ve true)) none):=Lib.hid ⟨ho8,hap.1,by have h:=hap.2;(rw[show Gr.n (Gr.mk z.ve true)=z.n+1 from by unfold Gr.n;rw[hv];cases z.ve<;>decide];exact h)⟩
      clear ho8 hb9 hg8 hs8 hap hob hb8 hr7
      go_roundw
      case rel=>exact⟨k+1,ob++[],Gr.mk z.ve true,by omega,by go_num,rfl,rfl,Lib.hid HF.out.1,HOL2,Lib.hid HF.out.2.1,Lib.hid HF.out.2.2,HOK2,HRN2⟩
      case measure=>simp[intOf];omega
    |ping nn=>
     obtain⟨hve,hak,hnx⟩:=HNX.out
     have hmk:m.k=3:=by rw[HMM.out];rfl
     have hmn:m.no=nn:=by rw[HMM.out];rfl
     have HNX3:=Lib.hid hnx
     rw[hmk]at kc
     have kn:=msgC_nonce HC6.out HB6.out
     rw[hmn]at kn
     have hK6:Laid w6:=HK.out.below (HBW1.out.trans (HT7.out.below (by omega) (fun k hk=>by have:k=g:=hk;have:=hB.2;omega))) hgB
     have hzn:z.n=2:=by unfold Gr.n;rw[hve,hak];rfl
     have hl5:=i32_load ⟨g,5,none⟩ z.n w6 HS7.out.l.c5
     rw[hzn]at hl5
     have HL5:=Lib.hid hl5
     have hbo:=bytesOf_of (tK 4 0#32 nn) (msgK 4 0#32 nn) w6 (fun V hv=>enc_k4 0#32 nn noHash noHash [] [] [] noBlk _ V hv rfl) hK6 (msgK_o 0 _ 4 0#32 nn).c
     have HBO:=Lib.hid hbo
     have hbt:=built_k4 nn
     obtain⟨M4,hM4⟩:∃M4,M4=(msgK 4 0#32 nn).toArray:=⟨_,rfl⟩
     rw[←hM4]at hbt HBO
     clear hnx hmk hmn hK6 hzn hve hak hl5 hbo hM4
     go_wp2_with fail
     refine HL5.out.mono ?_
     rintro e wq ⟨rfl,hw⟩
     replace hw:=hw.symm
     subst hw
     clear HL5
     go_wp2_with((with_reducible refine Qjz (o:=⟨some 92,_,_,_,_,_⟩) ?_ 41 #[(0,.const (.int .i64 4)),(2,.tmp 91)] ?_ [(0,.int .i64 4),(2,.int .u64 (iv64 nn))] ?_ M4 hbt ?_
                  ·rfl
                  ·rfl
                  ·rfl))
     refine HBO.out.mono ?_
     rintro e w7 ⟨v7,rfl,ho7,hb7⟩
     obtain⟨q7,m7,c7,rfl,hm7,hmc7,hcm7,hr7⟩:=ho7.open
     replace hm7:Hid ((QHz 4 nn).length=m7):=hm7
     replace hr7:Row8 w7 q7 (QHz 4 nn):=hr7
     have hb8:Below w1.heap.size w7 w7:=Below.refl _ _
     have hob:Own8 w7 w1.heap.size u10 ob:=HO7.out.fut hb7
     have hlen:ob.length+(QHz 4 nn).length≤140737488355328:=by have:=HOL.out;rw[short4_len];omega
     have hsz7:w1.heap.size≤w7.heap.size:=Nat.le_trans HT7.out.size hb7.size
     have HT8:Hid (Stays (·=g) w1 w7):=Lib.hid (HT7.out.trans (Stays.of_below hb7 (Nat.le_refl _) (fun _=>False)) (fun _ _ h=>h.elim))
     have HS8:Hid (SesB w7 g no rv dn z.n 0 z.ve z.ak none):=Lib.hid (HS7.out.fut hb7)
     have HM7:=hm7.out
     have HOL2:Hid ((ob++QHz 4 nn).length≤32*(k+1)):=Lib.hid (by have:=HOL.out;rw[List.length_append];rw[short4_len];omega)
     have HRN2:Hid (runS x fs=(runS z (fs.drop (k+1))).map fun r=>(r.1,(ob++QHz 4 nn)++r.2)):=Lib.hid (by
      rw[HRN.out,HEV.out,run_ping]
      cases runS z (fs.drop (k+1))with
      |none=>rfl
      |some r=>simp[List.append_assoc])
     clear ho7 hb7 HBO
     go_wp2_with((with_reducible refine Qaz (o:=⟨some 94,_,_,_,_,_⟩) ?_ ((.tmp 89)) ((.tmp 93)) ?_ (w1.heap.size) _ (ob) ?_ (hob) (q7) (m7) (c7) ((QHz 4 nn)) ?_ (HM7) (hr7) ?_ (hsz7) (w1.heap.size) (w7) (hb8) ?_ ?_
                  ·rfl
                  ·rfl
                  ·rfl
                  ·rfl
                  ·exact hlen
                  ·exact Nat.le_refl _
                  intro v8 w8 ho8 hb9 hg8 hs8))
     have hap:=ses_app hob HT8.out HS8.out hg8 hgl
     have HF:Hid (Own8 w8 w1.heap.size v8 (ob++QHz 4 nn)∧Stays (·=g) w1 w8∧SesB w8 g no rv dn z.n 0 z.ve z.ak none):=Lib.hid ⟨ho8,hap.1,hap.2⟩
     clear ho8 hb9 hg8 hs8 hap hob hb8 hr7
     go_roundw
     case rel=>exact⟨k+1,ob++QHz 4 nn,z,by omega,by go_num,rfl,rfl,Lib.hid HF.out.1,HOL2,Lib.hid HF.out.2.1,Lib.hid HF.out.2.2,HNX3,HRN2⟩
     case measure=>simp[intOf];omega
   ·have hlt:¬(k:Int)<(N:Int):=by omega
    have hdr:fs.drop k=[]:=List.drop_eq_nil_of_le (by rw[←HNN.out];omega)
    have HRN:Hid (runS x fs=some (z,ob)):=Lib.hid (by rw[HRUN.out,hdr];simp[runS])
    clear hdr
    go_wp2_with fail
    go_meet
    by_cases he:er'=0
    ·exact⟨er',ob,z,rfl,rfl,HO8,HST,.inl ⟨Lib.hid ⟨he,by rw[HO.out,if_pos he,HRN.out]⟩,HSS⟩⟩
    ·exact⟨er',ob,z,rfl,rfl,HO8,HST,.inr ⟨Lib.hid ⟨he,by rw[HO.out,if_neg he]⟩,Lib.hid ⟨_,_,_,HSS.out⟩⟩⟩
 case rest=>
 obtain⟨flt,ob,z,rfl,rfl,HO8,HST,hcase⟩:=hcut
 have HBB:Hid (Below B w wc):=Lib.hid (HBW1.out.trans (HST.out.below (by omega) (fun k hk=>by have:k=g:=hk;have:=hB.2;omega)))
 have HSS2:Hid (Stays (fun k=>k=g∨k=rv∨v.ownBlock=some k) w wc):=Lib.hid (HSTW.out.trans HST.out (fun k _ h=>.inl h))
 rcases hcase with⟨HC,HSS⟩|⟨HC,HSS⟩
 ·obtain⟨hf,hoe⟩:=HC.out
  subst hf
  have hr2:Rd wc rv v1 er':=Blk.stays HR1.out HST.out (fun e=>HAP1.out (.inl e.symm))
  have hv2:Sfx8 wc B v1 s':=HV1.out.stays HST.out (fun k hk e=>HAP1.out (.inr (by rw[hk,e])))
  have HQ:Hid (Own8 wc B _ ob∧SesB wc g no rv dn z.n 0 z.ve z.ak none∧Rd wc rv v1 er'∧Sfx8 wc B v1 s'):=Lib.hid ⟨Own8.mono' HO8.out (by omega),HSS.out,hr2,hv2⟩
  have HOE:=Lib.hid hoe
  clear hr2 hv2 hoe HO8 HSS HC HST HR1 HV1
  go_wp2_with fail
  refine bodyPost_ret (results_tmp3 rfl _ _ _) rfl ?_
  rw[HOE.out]
  exact⟨HBB.out,HSS2.out,_,v1,rfl,HQ.out⟩
 ·obtain⟨hf,hoe⟩:=HC.out
  obtain⟨hl,ve,ak,hs⟩:=HSS.out
  have HOE:=Lib.hid hoe
  have hne:(flt != 0)=true:=by simp[hf]
  have hbs:=bool_store ⟨g,6,none⟩ _ wc hs.l.c6 (hs.frozen 6)
  have HBS:=Lib.hid hbs
  have h2:SesB (wc.drew.setCell ⟨g,6,none⟩ (.int .u32 1)) g no rv dn hl 1 ve ak none:=Blk.set (w:=wc.drew) (Blk.drewN hs 1) 6 _
  have H2:=Lib.hid h2
  have h3:Below B w (wc.drew.setCell ⟨g,6,none⟩ (.int .u32 1)):=HBB.out.drew.setCell (p:=⟨g,6,none⟩) hB.2 _
  have H3:=Lib.hid h3
  have H4:Hid (Stays (fun k=>k=g∨k=rv∨v.ownBlock=some k) w (wc.drew.setCell ⟨g,6,none⟩ (.int .u32 1))):=Lib.hid ((HSS2.out.drewN 1).setCell (a:=⟨g,6,none⟩) (fun _=>.inl rfl) _)
  clear hoe hs hf hbs h2 h3 HO8 HSS HC HST HR1 HV1
  go_wp2_with fail
  refine HBS.out.mono ?_
  rintro e w9 ⟨rfl,rfl⟩
  go_wp2_with fail
  refine bodyPost_ret (results_tmp3 rfl _ _ _) rfl ?_
  rw[HOE.out]
  exact⟨H3.out,H4.out,rfl,hl,ve,ak,H2.out⟩
end Go.Proofs.YtjbijcjcejfpcaaGreatDoor
