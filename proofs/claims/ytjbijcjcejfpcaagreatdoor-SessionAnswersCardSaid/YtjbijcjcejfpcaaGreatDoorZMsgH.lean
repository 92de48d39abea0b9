/- message.reader: hashes, and the closure in it: the walks. -/
import Derived.Test.YtjbijcjcejfpcaaGreatDoorZMsgR
namespace Go.Proofs.YtjbijcjcejfpcaaGreatDoor
set_option linter.unusedVariables false
set_option maxRecDepth 100000
set_option maxHeartbeats 16000000
open Go Go.RowKit
theorem hash_infoM:(Tryz.prog.info? 32).map (fun i=>(i.zero,i.size,i.bytes))=some (some (.agg (Q5z (nulls 32)).toArray),32,32):=by kernel_rfl
def AheadB (w:World) (pa:Option Addr) (a:Bs):Prop:=Row8 w pa a∧(a≠[]→∀x,pa=some x→∃cs,Blk w x.block 5 cs)
theorem AheadB.stays {w w':World} {pa:Option Addr} {a:Bs} {S:Nat→Prop} (h:AheadB w pa a) (hs:Stays S w w') (hS:∀k,S k→∃T cs,Blk w k T cs∧T≠5):AheadB w' pa a:=by
 have hn:a≠[]→∀x,pa=some x→¬S x.block:=fun h0 x hx hk=>by
  obtain⟨cs,h1⟩:=h.2 h0 x hx
  obtain⟨T,cs',h2,h3⟩:=hS _ hk
  exact h3 (h2.inj h1).1
 exact⟨h.1.stays hs hn,fun h0 x hx=>by obtain⟨cs,h1⟩:=h.2 h0 x hx;exact⟨cs,h1.stays hs (hn h0 x hx)⟩⟩
theorem AheadB.fut {w w':World} {pa:Option Addr} {a:Bs} (h:AheadB w pa a) (hb:Below w.heap.size w w'):AheadB w' pa a:=h.stays (Stays.of_below hb (Nat.le_refl _) (fun _=>False)) (fun _ h=>h.elim)
theorem AheadB.nil (w:World):AheadB w none []:=⟨fun h=>absurd rfl h,fun h=>absurd rfl h⟩
theorem AheadB.own {w:World} {B n c:Nat} {pa:Option Addr} {a:Bs} (h:Own8 w B (.slice pa n c) a):AheadB w pa a:=by
 obtain⟨q,m,d,e,_,_,_,hr⟩:=h.open
 injection e with e1 e2 e3
 subst e1
 refine⟨hr,fun h0 x hx=>?_⟩
 rcases h.2 with⟨e,h1⟩|⟨g,cap,cur,e,_,hh,_⟩
 ·exact absurd (List.eq_nil_of_length_eq_zero h1) h0
 ·injection e with e1
  rw[hx]at e1
  injection e1 with e1
  rw[e1]
  exact⟨cur,hh⟩
structure HInv (g b3 b5 b7:Nat) (w:World) (pa:Option Addr) (na ca:Nat) (a:Bs) (W:World) (xs:List Bs):Prop where
 x3:Blk W b3 118 #[.pointer (some ⟨g,0,none⟩)]
 x5:Blk W b5 26 #[.slice pa na ca]
 x7:∃lv,Blk W b7 33 #[lv]∧RowO HashE 32 32 w.heap.size W lv xs
 ah:AheadB W pa a
 st:Stays (·=g) w W
theorem HInv.stays {g b3 b5 b7 na ca:Nat} {w W W':World} {pa:Option Addr} {a:Bs} {xs:List Bs} (h:HInv g b3 b5 b7 w pa na ca a W xs) (hap:a≠[]→∀x,pa=some x→x.block≠g) (hn:b3≠g∧b5≠g∧b7≠g) (hgw:g<w.heap.size) (hs:Stays (·=g) W W'):HInv g b3 b5 b7 w pa na ca a W' xs:=by
 obtain⟨x3,x5,⟨lv,x7,x8⟩,ah,st⟩:=h
 exact⟨x3.stays hs hn.1,x5.stays hs hn.2.1,⟨lv,x7.stays hs hn.2.2,x8.sep (Qrz _) hs (Sep.low fun k hk=>by have:k=g:=hk;omega)⟩,⟨ah.1.stays hs hap,fun h0 x hx=>by obtain⟨cs,h1⟩:=ah.2 h0 x hx;exact⟨cs,h1.stays hs (hap h0 x hx)⟩⟩,st.trans hs fun k _ h=>h⟩
theorem hashesC_any (D B g b3 b5 b7:Nat) (hD:D≤B) (w:World) (pa:Option Addr) (na ca:Nat) (a:Bs) (hgw:g<w.heap.size) (hBw:B≤w.heap.size) (hwb:w.heap.size≤b3∧w.heap.size≤b5∧w.heap.size≤b7) (han:a.length=na) (ha4:a.length≤100) (W:World) (xs:List Bs) (s:Bs) (hxl:xs.length<100000)
 (h:MRd 122 D B g W 0 s) (hI:HInv g b3 b5 b7 w pa na ca a W xs):
 Calls Tryz.prog 107 #[.pointer (some ⟨b3,0,none⟩),.pointer (some ⟨b5,0,none⟩),.pointer (some ⟨b7,0,none⟩)] W fun e W'=>e= .returned (.tuple #[])∧∃x er' r,Hid (MRd 122 D B g W' er' r)∧Hid (HInv g b3 b5 b7 w pa na ca a W' (xs++[x]))∧Hid (Step ((Xvz a).bind fun _=>takeZ 32) 0 s x er' r):=by
 obtain⟨x3,x5,⟨lv,x7,x8⟩,ah,st⟩:=hI
 have h':=h
 obtain⟨vr,hgb,_⟩:=h'
 have hca:=Zaz D B g W 0 s pa na ca a h han (by omega) ah.1 (fun h0 x hx e=>by
  obtain⟨cs,h1⟩:=ah.2 h0 x hx
  rw[e]at h1
  exact absurd (h1.inj hgb).1 (by decide))
 have HI:=Lib.hid (HInv.mk x3 x5 ⟨lv,x7,x8⟩ ah st:HInv g b3 b5 b7 w pa na ca a W xs)
 have HGB:=Lib.hid hgb
 have y3:W.cell? ⟨b3,0,none⟩=some (.pointer (some ⟨g,0,none⟩)):=by have:=x3.cell 0;simpa using this
 have y5:W.cell? ⟨b5,0,none⟩=some (.slice pa na ca):=by have:=x5.cell 0;simpa using this
 clear x3 x5 x7 x8 ah st hgb h han
 go_enter Tryz.func107,Tryz.ntmps107
 go_wp2_with fail
 refine hca.mono ?_
 rintro e w1 ⟨rfl,er1,r1,HR1,HS1,HT1⟩
 have HI1:=Lib.hid (HI.out.stays (fun h0 x hx e=>by
  obtain⟨cs,h1⟩:=HI.out.ah.2 h0 x hx
  rw[e]at h1
  exact absurd (h1.inj HGB.out).1 (by decide)) ⟨by omega,by omega,by omega⟩ hgw HS1.out)
 clear HI hca y3 y5 HS1 HGB
 obtain⟨x3,x5,⟨lv,x7,x8⟩,ah,st⟩:=HI1.out
 obtain⟨pl,nl,cl,rfl⟩:∃pl nl cl,lv= .slice pl nl cl:=by
  obtain⟨css,_,h2,_⟩:=x8
  obtain⟨p,c,e,_⟩:=QLz h2
  exact⟨_,_,_,e⟩
 have X3:=Lib.hid x3
 have X7:=Lib.hid x7
 have X8:=Lib.hid x8
 have XS:=Lib.hid (And.intro x5 (And.intro ah st))
 clear HI1 x3 x5 x7 x8 ah st
 go_upto_region 1 with fail
 refine Qdz [qq 0,qq 1,oo 2,oo 3,oo 4] 5 (fun W=>Blk W b3 118 #[.pointer (some ⟨g,0,none⟩)]∧Blk W b7 33 #[.slice pl nl cl]) (by kernel_rfl) (by kernel_rfl) ⟨X3.out.fut (Q0z w1 1),X7.out.fut (Q0z w1 1)⟩ ?_
 refine' Q9z (s:=11) (A1:=_) [0,1] [_,_] _ rfl rfl rfl (fun W hW=>?hq1) _ ⟨X3.out.fut (Q0z w1 1),X7.out.fut (Q0z w1 1)⟩ (fun _=>?hr1)
 case hq1=>
  have e3:∀k,(W.drewN k).cell? ⟨b3,0,none⟩=some (.pointer (some ⟨g,0,none⟩)):=fun k=>by have:=hW.1.cell 0;simpa using this
  have e7:∀k,(W.drewN k).cell? ⟨b7,0,none⟩=some (.slice pl nl cl):=fun k=>by have:=hW.2.cell 0;simpa using this
  simp only[List.getElem_toArray,List.getElem_cons_zero,List.getElem_cons_succ]
  iterate 2 (go_big_quiet_step (fail))
  refine wpQuiet_nil ?_
  rfl
 case hr1=>
 refine Qbz rfl fun k1=>?_
 have hdr:Below w1.heap.size w1 (w1.drew.drewN k1):=Q7z (Below.refl _ _).drew k1
 have HRd:=Lib.hid (HR1.out.fut hdr)
 have HSd:Hid (Stays (·=g) w1 (w1.drew.drewN k1)):=Lib.hid (Stays.of_below hdr (Nat.le_refl _) _)
 clear hdr
 generalize w1.drew.drewN k1=Wd at*
 go_wp2_with fail
 refine(Zfz D B g hD Wd er1 r1 HRd.out).mono ?_
 rintro e W2 ⟨vv,x,er2,r2,rfl,⟨rfl,hx32⟩,HR2,HS2,HT2⟩
 have HX32:=Lib.hid hx32
 have HS12:Hid (Stays (·=g) w1 W2):=Lib.hid (HSd.out.trans HS2.out fun k _ h=>h)
 obtain⟨vr1,hgb1,_⟩:=HR1.out
 have n3:¬b3=g:=fun e=>by have h1:=X3.out;rw[e]at h1;exact absurd (h1.inj hgb1).1 (by decide)
 have n7:¬b7=g:=fun e=>by have h1:=X7.out;rw[e]at h1;exact absurd (h1.inj hgb1).1 (by decide)
 have n5:¬b5=g:=fun e=>by have h1:=XS.out.1;rw[e]at h1;exact absurd (h1.inj hgb1).1 (by decide)
 have X3b:=Lib.hid (X3.out.stays HS12.out n3)
 have X7b:=Lib.hid (X7.out.stays HS12.out n7)
 have X8b:=Lib.hid (X8.out.sep (Qrz _) HS12.out (Sep.low fun k hk=>by have:k=g:=hk;omega))
 have XSb:Hid (Blk W2 b5 26 #[.slice pa na ca]∧AheadB W2 pa a∧Stays (·=g) w W2):=Lib.hid ⟨XS.out.1.stays HS12.out n5,XS.out.2.1.stays HS12.out (fun k hk=>⟨_,_,(show k=g from hk)▸hgb1,by decide⟩),XS.out.2.2.trans HS12.out fun k _ h=>h⟩
 have HTT:=Lib.hid (HT1.out.bind (f:=fun _=>takeZ 32) HT2.out)
 clear HT1 HT2 X3 X7 X8 XS HS12 HSd HS2 HRd HR1 hx32 hgb1 n3 n7 n5
 go_wp2_with fail
 refine Q2z (And.intro ⟨X3b.out,X7b.out⟩ ?_)
 refine Qbz rfl fun k2=>?_
 have hdr:=Q0z W2 k2
 have X3c:=Lib.hid (X3b.out.fut hdr)
 have X7c:=Lib.hid (X7b.out.fut hdr)
 have HRc:=Lib.hid (HR2.out.fut hdr)
 have hst:Stays (fun _=>False) W2 (W2.drewN k2):=Stays.of_below hdr (Nat.le_refl _) _
 have X8c:=Lib.hid (X8b.out.sep (Qrz _) hst (fun _ h=>h.elim))
 have XSc:Hid (Blk (W2.drewN k2) b5 26 #[.slice pa na ca]∧AheadB (W2.drewN k2) pa a∧Stays (·=g) w (W2.drewN k2)):=Lib.hid ⟨XSb.out.1.fut hdr,XSb.out.2.1.fut hdr,XSb.out.2.2.trans hst fun _ _ h=>h.elim⟩
 clear X3b X7b X8b XSb HR2 hdr hst
 generalize W2.drewN k2=Wc at*
 refine wp_lit (o:=⟨some 9,_,_,_,_,_⟩) rfl 33 32 1 #[(0,.tmp 8)] rfl [.agg (Q5z x).toArray] rfl 32 32 _ Tryz.underlying33 hash_infoM (by omega) (fun v hv=>by rw[List.mem_singleton.1 hv];exact Xsz HX32.out) rfl (by omega) (by omega) ?_
 simp only[List.flatMap_cons,List.flatMap_nil,List.append_nil,Value.cells]
 have hnew:=Q1z Wc (.cells (Q5z x).toArray 32)
 have hst:Stays (fun _=>False) Wc (Wc.alloc (.cells (Q5z x).toArray 32)):=Stays.of_below hnew (Nat.le_refl _) _
 have X3d:=Lib.hid (X3c.out.fut hnew)
 have X7d:=Lib.hid (X7c.out.fut hnew)
 have HRd:=Lib.hid (HRc.out.fut hnew)
 have X8d:=Lib.hid (X8c.out.sep (Qrz _) hst (fun _ h=>h.elim))
 have XSd:Hid (Blk (Wc.alloc (.cells (Q5z x).toArray 32)) b5 26 #[.slice pa na ca]∧AheadB (Wc.alloc (.cells (Q5z x).toArray 32)) pa a∧Stays (·=g) w (Wc.alloc (.cells (Q5z x).toArray 32))):=Lib.hid ⟨XSc.out.1.fut hnew,XSc.out.2.1.fut hnew,XSc.out.2.2.trans hst fun _ _ h=>h.elim⟩
 obtain⟨zl,hzl⟩:∃z,z=Wc.heap.size:=⟨_,rfl⟩
 have XL:Hid (Blk (Wc.alloc (.cells (Q5z x).toArray 32)) zl 32 (Q5z x).toArray):=Lib.hid (by rw[hzl];exact Blk.new Wc _ _)
 rw[←hzl]
 clear X3c X7c X8c XSc HRc hst hnew hzl
 generalize Wc.alloc (.cells (Q5z x).toArray 32)=We at*
 go_wp2_with fail
 refine Q2z (And.intro ⟨X3d.out,X7d.out⟩ ?_)
 refine Qbz rfl fun k3=>?_
 have hdr:=Q0z We k3
 have hst:Stays (fun _=>False) We (We.drewN k3):=Stays.of_below hdr (Nat.le_refl _) _
 have X3e:=Lib.hid (X3d.out.fut hdr)
 have X7e:=Lib.hid (X7d.out.fut hdr)
 have HRe:=Lib.hid (HRd.out.fut hdr)
 have XLe:=Lib.hid (XL.out.fut hdr)
 have X8e:=Lib.hid (X8d.out.sep (Qrz _) hst (fun _ h=>h.elim))
 have XSe:Hid (Blk (We.drewN k3) b5 26 #[.slice pa na ca]∧AheadB (We.drewN k3) pa a∧Stays (·=g) w (We.drewN k3)):=Lib.hid ⟨XSd.out.1.fut hdr,XSd.out.2.1.fut hdr,XSd.out.2.2.trans hst fun _ _ h=>h.elim⟩
 clear X3d X7d X8d XSd HRd XL hdr hst
 generalize We.drewN k3=Wf at*
 obtain⟨css,hcl,hown,hcs⟩:=X8e.out
 have hwl:w.heap.size≤Wf.heap.size:=XSe.out.2.2.size
 have HHS:Hid ((Q5z x).length=32):=Lib.hid (by simp[Q5z,HX32.out])
 refine XYz (o:=⟨some 10,_,_,_,_,_⟩) rfl (.tmp 6) (.tmp 9) 33 32 rfl _ 32 32 Tryz.underlying33 hash_infoM rfl (by omega) (by omega) w.heap.size _ xs.length css.flatten rfl hown zl 1 1 (Q5z x) rfl XLe.out HHS.out (one_all (Qzz x)) (by omega) hwl ?_
 intro vb wb hlb hgb hob
 obtain⟨vr2,hgb2,_⟩:=HRe.out
 have hS:=Stays.of_grown (S:=fun k=>Value.ownBlock _=some k) hgb (fun k h=>h)
 have hSB:∀k,(Value.slice pl nl cl).ownBlock=some k→w.heap.size≤k∧∃cs,Blk Wf k 32 cs:=fun k hk=>by
  rcases hown.2 with⟨e,_⟩|⟨q,cap,cur,e,hq,hh,_⟩
  ·rw[e]at hk;cases hk
  ·rw[e]at hk
   injection hk with hk
   have hk':q=k:=hk
   subst hk'
   exact⟨hq,cur,hh⟩
 have nn:∀{z:Nat} {T:TypeId} {cs:Array Value},Blk Wf z T cs→T≠32→¬(Value.slice pl nl cl).ownBlock=some z:=fun hz hT hk=>by
  obtain⟨_,cs,h1⟩:=hSB _ hk
  exact hT (hz.inj h1).1
 have HROW:Hid (RowO HashE 32 32 w.heap.size wb vb (xs++[x])):=Lib.hid (RowO.app hcl hown hcs (Qrz _) (by decide) ⟨rfl,HX32.out⟩ HHS.out hlb hgb)
 have X3f:=Lib.hid (X3e.out.stays hS (nn X3e.out (by decide)))
 have X7f:=Lib.hid (X7e.out.stays hS (nn X7e.out (by decide)))
 have HRf:=Lib.hid (HRe.out.stays hS (fun k hk=>.inr ⟨by have:=(hSB k hk).1;omega,32,(hSB k hk).2.choose,(hSB k hk).2.choose_spec,by decide⟩) (nn hgb2 (by decide)))
 have XSf:Hid (Blk wb b5 26 #[.slice pa na ca]∧AheadB wb pa a∧Stays (·=g) w wb):=Lib.hid ⟨XSe.out.1.stays hS (nn XSe.out.1 (by decide)),XSe.out.2.1.stays hS (fun k hk=>⟨_,_,(hSB k hk).2.choose_spec,by decide⟩),XSe.out.2.2.trans hS fun k hk h=>by have:=(hSB k h).1;omega⟩
 clear X3e X7e X8e XSe HRe XLe hown hcs hcl hlb hgb hob hS hSB nn hgb2
 obtain⟨pb,mb,db,rfl⟩:∃pl nl cl,vb= .slice pl nl cl:=by
  obtain⟨css,_,h2,_⟩:=HROW.out
  obtain⟨p,c,e,_⟩:=QLz h2
  exact⟨_,_,_,e⟩
 go_wp2_with fail
 refine Q2z (And.intro ⟨X3f.out,X7f.out⟩ ?_)
 refine Qnz fun k4=>HeadQ.normal ?_
 have hdr:=Q0z wb k4
 have hst:Stays (fun _=>False) wb (wb.drewN k4):=Stays.of_below hdr (Nat.le_refl _) _
 have X3g:=Lib.hid (X3f.out.fut hdr)
 have X7g:=Lib.hid (X7f.out.fut hdr)
 have HRg:=Lib.hid (HRf.out.fut hdr)
 have HROWg:=Lib.hid (HROW.out.sep (Qrz _) hst (fun _ h=>h.elim))
 have XSg:Hid (Blk (wb.drewN k4) b5 26 #[.slice pa na ca]∧AheadB (wb.drewN k4) pa a∧Stays (·=g) w (wb.drewN k4)):=Lib.hid ⟨XSf.out.1.fut hdr,XSf.out.2.1.fut hdr,XSf.out.2.2.trans hst fun _ _ h=>h.elim⟩
 clear X3f X7f HROW XSf HRf hdr hst
 generalize wb.drewN k4=Wz at*
 have f7:=X7g.out.frozen 0
 have d7:=X7g.out.cell 0
 simp only[List.getElem?_toArray,List.getElem?_cons_zero]at d7
 obtain⟨vr3,hgb3,_⟩:=HRg.out
 have hS:=Stays.set Wz b7 0 (.slice pb mb db)
 have n3:¬b3=b7:=fun e=>by have h1:=X3g.out;rw[e]at h1;exact absurd (h1.inj X7g.out).1 (by decide)
 have n5:¬b5=b7:=fun e=>by have h1:=XSg.out.1;rw[e]at h1;exact absurd (h1.inj X7g.out).1 (by decide)
 have ng:¬g=b7:=fun e=>by rw[e]at hgb3;exact absurd (hgb3.inj X7g.out).1 (by decide)
 have hI:HInv g b3 b5 b7 w pa na ca a (Wz.setCell ⟨b7,0,none⟩ (.slice pb mb db)) (xs++[x]):=by
  refine⟨X3g.out.stays hS n3,XSg.out.1.stays hS n5,⟨.slice pb mb db,?_,HROWg.out.sep (Qrz _) hS (fun k hk=>.inr ⟨_,_,(show k=b7 from hk)▸X7g.out,by decide⟩)⟩,XSg.out.2.1.stays hS (fun k hk=>⟨_,_,(show k=b7 from hk)▸X7g.out,by decide⟩),XSg.out.2.2.trans hS fun k hk h=>by have:k=b7:=h;omega⟩
  have:=X7g.out.set 0 (.slice pb mb db)
  simpa using this
 have hR:MRd 122 D B g (Wz.setCell ⟨b7,0,none⟩ (.slice pb mb db)) er2 r2:=HRg.out.stays hS (fun k hk=>.inr ⟨by have:k=b7:=hk;omega,_,_,(show k=b7 from hk)▸X7g.out,by decide⟩) ng
 have HI:=Lib.hid hI
 have HR:=Lib.hid hR
 clear hI hR hS n3 n5 ng hgb3 X3g X7g HROWg XSg HRg
 go_wp2_with fail
 first|go_end0|refine bodyPost_ret (results_none rfl _ _ _) rfl ?_
 exact⟨rfl,x,er2,r2,HR,HI,HTT⟩
theorem zHashes:∀w,(zeroValue 33).run Tryz.prog w= .ok (.slice none 0 0) w:=zero_ofM (by kernel_rfl)
theorem mHashes_any (D B g most:Nat) (hD:D≤B) (hm:most≤100000) (w:World) (er:Int) (s:Bs) (pa:Option Addr) (na ca:Nat) (a:Bs) (h:MRd 122 D B g w er s) (hA:AheadB w pa a) (han:a.length=na) (ha4:a.length≤100):
 Calls Tryz.prog 79 #[.pointer (some ⟨g,0,none⟩),.int .u64 (most:Int),.slice pa na ca] w (MkP 122 D B g w (hshZ most a) er s fun w' xs v=>RowO HashE 32 32 B w' v xs):=by
 obtain⟨hgB,hBw⟩:=h.gB
 obtain⟨b3,h3⟩:∃b,b=w.heap.size:=⟨_,rfl⟩
 obtain⟨W1,hW1⟩:∃W,W=w.alloc (.cells #[.pointer (some ⟨g,0,none⟩)] 118):=⟨_,rfl⟩
 obtain⟨W2,hW2⟩:∃W,W=W1.alloc (.cells #[.slice pa na ca] 26):=⟨_,rfl⟩
 obtain⟨W3,hW3⟩:∃W,W=W2.alloc (.cells #[.slice none 0 0] 33):=⟨_,rfl⟩
 have z1:W1.heap.size=b3+1:=by rw[hW1,World.size_alloc,h3]
 have z2:W2.heap.size=b3+2:=by rw[hW2,World.size_alloc,z1]
 have k1:Below w.heap.size w W1:=by rw[hW1];exact Q1z w _
 have k2:Below W1.heap.size W1 W2:=by rw[hW2];exact Q1z W1 _
 have k3:Below W2.heap.size W2 W3:=by rw[hW3];exact Q1z W2 _
 have k02:=Q3z k1 k2 (Nat.le_refl _)
 have k03:=Q3z k02 k3 (Nat.le_refl _)
 have B3:Blk W3 b3 118 #[.pointer (some ⟨g,0,none⟩)]:=((show Blk W1 b3 _ _ by rw[hW1,h3];exact Blk.new w _ _).fut k2).fut k3
 have B5:Blk W3 (b3+1) 26 #[.slice pa na ca]:=(show Blk W2 (b3+1) _ _ by rw[hW2,← z1];exact Blk.new W1 _ _).fut k3
 have B7:Blk W3 (b3+2) 33 #[.slice none 0 0]:=by rw[hW3,← z2];exact Blk.new W2 _ _
 have hI:HInv g b3 (b3+1) (b3+2) w pa na ca a W3 []:=⟨B3,B5,⟨_,B7,RowO.nil _ _ _ _ _⟩,hA.fut k03,Stays.of_below k03 (Nat.le_refl _) _⟩
 have hR:=h.fut k03
 have hmf:∀(fn:Fn) (first cap:Array Value) (w:World),(Instr.makeFunc fn first cap).run Tryz.prog w= .ok (.func fn first cap) w:=fun _ _ _ _=>rfl
 have hz:=zHashes
 have hap:a≠[]→∀x,pa=some x→x.block≠g:=fun h0 x hx e=>by
  obtain⟨cs,h1⟩:=hA.2 h0 x hx
  obtain⟨_,hg,_⟩:=h
  rw[e]at h1
  exact absurd (h1.inj hg).1 (by decide)
 have hcall:=mEach_any ((Xvz a).bind fun _=>takeZ 32) D B g most hm 107 (enters_of Tryz.func107 (by kernel_rfl) rfl) #[.pointer (some ⟨b3,0,none⟩),.pointer (some ⟨b3+1,0,none⟩),.pointer (some ⟨b3+2,0,none⟩)] (fun W xs=>HInv g b3 (b3+1) (b3+2) w pa na ca a W xs)
  (fun W W' xs hI hs=>hI.stays hap ⟨by omega,by omega,by omega⟩ (by omega) hs)
  (fun W xs s hx hR hI=>hashesC_any D B g b3 (b3+1) (b3+2) hD w pa na ca a (by omega) hBw ⟨by omega,by omega,by omega⟩ han ha4 W xs s (by omega) hR hI) W3 er s hR hI
 clear k1 k2 k3 k02 k03 B5 B7 hI hR hap h hA han
 have HBW:=Lib.hid hBw
 go_enter Tryz.func79,Tryz.ntmps79
 have c3:W3.cell? ⟨b3,0,none⟩=some (.pointer (some ⟨g,0,none⟩)):=by have:=B3.cell 0;simpa using this
 have HZ:=Lib.hid (And.intro z1 z2)
 have HH3:=Lib.hid h3
 clear B3 z1 z2
 go_upto_region 2 with fail
 rw[←hW1,← hW2,← hW3,← h3]
 clear hW1 hW2 hW3 h3
 go_wp2_with fail
 refine hcall.mono ?_
 rintro e w2 ⟨rfl,xs,er',r',HR,HI,HT⟩
 obtain⟨_,_,⟨lv,x7,x8⟩,_,st⟩:=HI.out
 have c7:w2.cell? ⟨b3+2,0,none⟩=some lv:=by have:=x7.cell 0;simpa using this
 obtain⟨pl,nl,cl,rfl⟩:∃pl nl cl,lv= .slice pl nl cl:=by
  obtain⟨css,_,h2,_⟩:=x8
  obtain⟨p,c,e,_⟩:=QLz h2
  exact⟨_,_,_,e⟩
 have X8:=Lib.hid x8
 have ST:=Lib.hid st
 clear hcall x7 x8 st HI hmf hz c3
 go_wp2_with fail
 go_ret
 exact⟨_,xs,er',r',rfl,X8.out.mono (fun _ _ h=>h) HBW.out,HR,ST,HT⟩
end Go.Proofs.YtjbijcjcejfpcaaGreatDoor
