/- message.reader: a version's fields, headers, sums, a block: the walks. -/
import Derived.Test.YtjbijcjcejfpcaaGreatDoorZMsgF
namespace Go.Proofs.YtjbijcjcejfpcaaGreatDoor
set_option linter.unusedVariables false
set_option maxRecDepth 100000
set_option maxHeartbeats 16000000
open Go Go.RowKit
structure VSt (T D B g z:Nat) (w W:World) (er:Int) (s:Bs) (cs:List Value):Prop where
 ty:T≠41
 rd:MRd T D B g W er s
 ms:Blk W z 41 cs.toArray
 st:Stays (fun k=>k=g∨k=z) w W
theorem VSt.ne {T D B g z:Nat} {w W:World} {er:Int} {s:Bs} {cs:List Value} (h:VSt T D B g z w W er s cs):z≠g:=by
 obtain⟨hT,⟨_,hg,_⟩,ms,_⟩:=h
 exact fun e=>by rw[e]at ms;exact hT (hg.inj ms).1
theorem VSt.call {T D B g z:Nat} {w W W':World} {er er':Int} {s r:Bs} {cs:List Value} (h:VSt T D B g z w W er s cs) (hr:MRd T D B g W' er' r) (hs:Stays (·=g) W W'):VSt T D B g z w W' er' r cs:=
 ⟨h.ty,hr,h.ms.stays hs h.ne,h.st.trans hs fun k _ h=>.inl h⟩
theorem VSt.fut {T D B g z:Nat} {w W W':World} {er:Int} {s:Bs} {cs:List Value} (h:VSt T D B g z w W er s cs) (hb:Below W.heap.size W W'):VSt T D B g z w W' er s cs:=h.call (h.rd.fut hb) (Stays.of_below hb (Nat.le_refl _) _)
theorem VSt.put {T D B g z:Nat} {w W W':World} {er:Int} {s:Bs} {cs cs':List Value} (h:VSt T D B g z w W er s cs) (hD:D≤z) (hm:Blk W' z 41 cs'.toArray) (hs:Stays (·=z) W W'):VSt T D B g z w W' er s cs':=
 ⟨h.ty,h.rd.stays hs (fun k hk=>.inr ⟨(show k=z from hk)▸hD,_,_,(show k=z from hk)▸h.ms,by decide⟩) (fun e=>h.ne e.symm),hm,h.st.trans hs fun k _ h=>.inr h⟩
theorem fz1:QCz 1=(numZ 4).bind fun nu=>(takeZ 68).bind fun _=>(numZ 8).bind fun no=>(textM 256).bind fun _=>(takeZ 4).bind fun _=>oneZ.bind fun _=>Pz.ret { noMsg with k:=1,nu:=nu.setWidth 32,no:=no }:=rfl
theorem take_one {s:Bs} {n:Nat} (h:s.length=n) {a r:Bs} {er er':Int} (h2:Step (takeZ (min n 1)) er s a er' r):Step oneZ er s () er' r:=by
 have e:takeZ (min n 1) s= .ok (s.take (min n 1),s.drop 1):=by
  unfold takeZ
  rw[if_neg (by omega)]
  congr 2
  rcases Nat.lt_or_ge n 1 with h1|h1
  ·have:s=[]:=List.eq_nil_of_length_eq_zero (by omega)
   rw[this];simp
  ·rw[Nat.min_eq_right h1]
 unfold Step at h2 ⊢
 rw[e]at h2
 by_cases he:er=0
 ·rw[if_pos he]at h2 ⊢
  exact⟨h2.1,rfl,h2.2.2⟩
 ·rw[if_neg he]at h2 ⊢
  exact h2
theorem hdrP_80 {bs:Bs} (h:bs.length=80):hdrP bs=(hdrOf bs,bs.drop 80,0):=by unfold hdrP;rw[if_neg (by omega)]
theorem hdr_infoM:(Tryz.prog.info? 36).map (fun i=>(i.zero,i.size,i.bytes))=some (some (.agg noHdr.cells.toArray),68,80):=by kernel_rfl
theorem min_one (n:Nat):min (n:Int) 1=((min n 1:Nat):Int):=by omega
theorem ZBlk_len:ZBlk.length=69:=rfl
theorem BlkO.mono {B B':Nat} {w:World} {b:TBlk} {cs:List Value} (h:BlkO B w b cs) (hB:B'≤B):BlkO B' w b cs:=by obtain⟨v,h1,h2,h3⟩:=h;exact⟨v,h1,h2,h3.mono (fun _ _ h=>h.mono hB) hB⟩
theorem body_step {s:Bs} {b:TBlk} {k:Int} (h:Xtz s=(b,k)):Step bodyBlk 0 s b k []:=by
 unfold Step bodyBlk
 rw[if_pos rfl,h]
 by_cases hk:k=0
 ·rw[if_pos hk];exact⟨hk,rfl,rfl⟩
 ·rw[if_neg hk];exact⟨rfl,hk⟩
def hdMsg (dv:Value):List Value:=Q8z (.int .i64 6) (u32 0#32) (u64 0#64) noHash noHash (.slice none 0 0) dv (.slice none 0 0) ZBlk
structure HdI (g z b2 b3:Nat) (w W:World) (xs:List Hdr) (p:Option Addr) (n c:Nat):Prop where
 x2:Blk W b2 118 #[.pointer (some ⟨g,0,none⟩)]
 x3:Blk W b3 124 #[.pointer (some ⟨z,0,none⟩)]
 ms:Blk W z 41 (hdMsg (.slice p n c)).toArray
 ro:RowO HdrE 36 68 w.heap.size W (.slice p n c) xs
 st:Stays (fun k=>k=g∨k=z) w W
theorem HdI.stays {g z b2 b3 n c:Nat} {w W W':World} {xs:List Hdr} {p:Option Addr} (h:HdI g z b2 b3 w W xs p n c) (hn:b2≠g∧b3≠g∧z≠g) (hg:g<w.heap.size) (hs:Stays (·=g) W W'):HdI g z b2 b3 w W' xs p n c:=by
 obtain⟨x2,x3,m1,m2,st⟩:=h
 exact⟨x2.stays hs hn.1,x3.stays hs hn.2.1,m1.stays hs hn.2.2,m2.sep (Xfz _) hs (Sep.low fun k hk=>by have:k=g:=hk;omega),st.trans hs fun k _ h=>.inl h⟩
theorem HdI.fut {g z b2 b3 n c:Nat} {w W W':World} {xs:List Hdr} {p:Option Addr} (h:HdI g z b2 b3 w W xs p n c) (hb:Below W.heap.size W W'):HdI g z b2 b3 w W' xs p n c:=by
 obtain⟨x2,x3,m1,m2,st⟩:=h
 have hs:Stays (fun _=>False) W W':=Stays.of_below hb (Nat.le_refl _) _
 exact⟨x2.fut hb,x3.fut hb,m1.fut hb,m2.sep (Xfz _) hs (fun _ h=>h.elim),st.trans hs fun _ _ h=>h.elim⟩
theorem HdI.ne {D B g z b2 b3 n c:Nat} {w W:World} {xs:List Hdr} {p:Option Addr} {er:Int} {s:Bs} (h:HdI g z b2 b3 w W xs p n c) (hr:MRd 122 D B g W er s):b2≠g∧b3≠g∧z≠g:=by
 obtain⟨_,hg,_⟩:=hr
 obtain⟨x2,x3,ms,_,_⟩:=h
 refine⟨fun e=>?_,fun e=>?_,fun e=>?_⟩
 ·rw[e]at x2;exact absurd (x2.inj hg).1 (by decide)
 ·rw[e]at x3;exact absurd (x3.inj hg).1 (by decide)
 ·rw[e]at ms;exact absurd (ms.inj hg).1 (by decide)
theorem HdI.own_lt {g z b2 b3 n c:Nat} {w W:World} {xs:List Hdr} {p:Option Addr} (h:HdI g z b2 b3 w W xs p n c) (k:Nat) (hk:(Value.slice p n c).ownBlock=some k):k<W.heap.size:=by
 obtain⟨css,_,h2,_⟩:=h.ro
 exact(World.ownsRow.lt h2 k hk).2
theorem hdrsC_any (D B g z b2 b3:Nat) (hD:D≤B∧D≤z) (hB:g<B∧z<B) (w W:World) (xs:List Hdr) (s:Bs) (hxl:xs.length<1000)
 (h:MRd 122 D B g W 0 s) (pl:Option Addr) (nl cl:Nat) (hgw:g<w.heap.size∧z<w.heap.size∧B≤w.heap.size) (hI:HdI g z b2 b3 w W xs pl nl cl):
 Calls Tryz.prog 82 #[.pointer (some ⟨b2,0,none⟩),.pointer (some ⟨b3,0,none⟩)] W fun e W'=>e= .returned (.tuple #[])∧∃x er' r,Hid (MRd 122 D B g W' er' r)∧Hid (∃p n c,HdI g z b2 b3 w W' (xs++[x]) p n c)∧Hid (Step hdrT 0 s x er' r):=by
 have hca:=Zez D B g 80 (by omega) W 0 s h
 have HN:=Lib.hid (hI.ne h)
 have HI:=Lib.hid hI
 have y2:W.cell? ⟨b2,0,none⟩=some (.pointer (some ⟨g,0,none⟩)):=by have:=hI.x2.cell 0;simpa using this
 clear hI h
 go_enter Tryz.func82,Tryz.ntmps82
 go_wp2_with fail
 refine hca.mono ?_
 rintro e w1 ⟨v1,b,er1,r1,rfl,⟨hd,hl⟩,HR1,HS1,HT1⟩
 obtain⟨p,n,c,rfl,hn,hnc,hcm,hr,hp⟩:=hd.open
 have HI1:=Lib.hid (HI.out.stays HN.out hgw.1 HS1.out)
 have hcall:=hdrDecode_any p n c b w1 hr hn hnc (by omega) (by omega)
 rw[hdrP_80 hl]at hcall
 obtain⟨hd1,hhd⟩:∃x,x=hdrOf b:=⟨_,rfl⟩
 obtain⟨rest,hrest⟩:∃x,x=b.drop 80:=⟨_,rfl⟩
 have hok:hd1.ok:=by rw[hhd];exact hdrOf_ok b (by omega)
 rw[←hhd,← hrest]at hcall
 unfold HdrPost at hcall
 simp only at hcall
 have HHD:=Lib.hid hhd
 have HK:=Lib.hid hok
 have hone:=Hdr.cells_one hd1
 have hsz:=Hdr.cells_size hok
 have HSZ:=Lib.hid hsz
 have hns:noHdr.cells.toArray.size=hd1.cells.toArray.size:=by rw[hsz];exact Hdr.cells_size QGz
 have hzh:=zeroHdr
 clear hd hl hn hr hp hca HI HS1 y2 hhd hrest hsz hok
 go_wp2_with fail
 refine hcall.mono ?_
 rintro e w2 ⟨v2,rfl,ho2,hb2⟩
 have HI2:=Lib.hid (HI1.out.fut hb2)
 have HR2:=Lib.hid (HR1.out.fut hb2)
 have hbn:=Q1z w2 (.cells noHdr.cells.toArray 36)
 clear hcall ho2 hb2 HI1 HR1
 go_upto_region 1 with((with_reducible refine Q4z (o:=⟨none,_,_,_,_,_⟩) ?_ 36 (.tmp 2) (.tmp 11) ?_ (w2.heap.size) 36 (noHdr.cells.toArray) (hd1.cells.toArray) ?_ ?_ (Blk.new w2 _ _) ?_ ?_ ?_ (w2.heap.size) (w2) ?_ ?_ ?_
                        ·rfl
                        ·rfl
                        ·rfl
                        ·rfl
                        ·exact(by rw[List.size_toArray];exact XWz HK.out)
                        ·exact(hns)
                        ·exact(hone)
                        ·exact(hbn)
                        ·exact(Nat.le_refl _)
                        intro w3 hB3 hb3 hg3 hs3))
 try simp only[Qpz]
 have HI3:=Lib.hid (HI2.out.fut hb3)
 have HR3:=Lib.hid (HR2.out.fut hb3)
 have HZ3:=Lib.hid hB3.out
 obtain⟨z4,hz4⟩:∃z,z=w2.heap.size:=⟨_,rfl⟩
 rw[←hz4]at HZ3 ⊢
 have HZG:Hid (B≤z4):=Lib.hid (by rw[hz4];exact HR2.out.gB.2)
 have HLT:Hid (∀k,(Value.slice pl nl cl).ownBlock=some k→k<z4):=Lib.hid (by rw[hz4];exact HI2.out.own_lt)
 clear hz4 hbn hns hone hzh hb3 hg3 hs3 hB3 HI2 HR2
 have y2:w3.cell? ⟨b2,0,none⟩=some (.pointer (some ⟨g,0,none⟩)):=by have:=HI3.out.x2.cell 0;simpa using this
 have hnb:=Q1z w3 (.cells #[.int .u8 (iv8 0#8)] 5)
 have hrow:=new_one w3 0#8
 have hgl:g<w3.heap.size:=by have:=HR3.out.gB;omega
 have HI4:=Lib.hid (HI3.out.fut hnb)
 have HZ4:=Lib.hid (HZ3.out.fut hnb)
 have hth:=Zaz D B g _ er1 r1 _ 1 1 [0#8] (HR3.out.fut hnb) rfl (by omega) hrow (fun _ x hx e=>by injection hx with hx;rw[←hx]at e;simp only at e;omega)
 clear HI3 hnb hrow hgl HR3 HZ3
 go_wp2_with fail
 refine hth.mono ?_
 rintro e w5 ⟨rfl,er5,r5,HR5,HS5,HT5⟩
 have HI5:=Lib.hid (HI4.out.stays HN.out hgw.1 HS5.out)
 have HZ5:=Lib.hid (HZ4.out.stays HS5.out (by have:=HZG.out;omega))
 clear HI4 HZ4 HS5 hth y2
 go_upto_region 2 with fail
 obtain⟨x2,x3,m1,m2,st⟩:=HI5.out
 have X2:=Lib.hid x2
 have X3:=Lib.hid x3
 have XM:=Lib.hid m1
 have X8:=Lib.hid m2
 have XS:=Lib.hid st
 clear HI5 x2 x3 m1 m2 st
 refine Qdz [qq 0,qq 1,qq 2,qq 3,qq 4,qq 5,oo 6,oo 7,qq 8,qq 9] 10 (fun W=>Blk W b3 124 #[.pointer (some ⟨z,0,none⟩)]∧Blk W z 41 (hdMsg (.slice pl nl cl)).toArray∧Blk W z4 36 hd1.cells.toArray) (by kernel_rfl) (by kernel_rfl) ⟨X3.out.fut (Q0z w5 1),XM.out.fut (Q0z w5 1),HZ5.out.fut (Q0z w5 1)⟩ ?_
 refine' Q9z (s:=27) (A1:=_) [0,1,2,3,4,5] [_,_,_,_,_,_] _ rfl rfl rfl (fun W hW=>?hq1) _ ⟨X3.out.fut (Q0z w5 1),XM.out.fut (Q0z w5 1),HZ5.out.fut (Q0z w5 1)⟩ (fun _=>?hr1)
 case hq1=>
  have e3:∀k,(W.drewN k).cell? ⟨b3,0,none⟩=some (.pointer (some ⟨z,0,none⟩)):=fun k=>by have:=hW.1.cell 0;simpa using this
  have e68:∀k,(W.drewN k).cell? ⟨z,68,none⟩=some (.slice pl nl cl):=fun k=>by
   have:=(hW.2.1.msg Q6z Q6z).c68
   simpa using this
  have hrg:∀w',(∃k,w'=W.drewN k)→w'.rangeAt z4 0 hd1.cells:=fun w' ⟨k,hk⟩=>by
   rw[hk]
   exact Qfz (hW.2.2.fut (Q0z W k))
  simp only[List.getElem_toArray,List.getElem_cons_zero,List.getElem_cons_succ]
  iterate 5 (go_big_quiet_step (fail))
  refine Qtz rfl 36 (.tmp 2) rfl z4 0 rfl hd1.cells _ hrg Tryz.underlying36 rfl (XWz HK.out) ?_
  refine wpQuiet_nil ?_
  rfl
 case hr1=>
 refine Qbz rfl fun k1=>?_
 have hdr:Below w5.heap.size w5 (w5.drew.drewN k1):=Q7z (Below.refl _ _).drew k1
 have hst:Stays (fun _=>False) w5 (w5.drew.drewN k1):=Stays.of_below hdr (Nat.le_refl _) _
 have X2a:=Lib.hid (X2.out.fut hdr)
 have X3a:=Lib.hid (X3.out.fut hdr)
 have XMa:=Lib.hid (XM.out.fut hdr)
 have X8a:=Lib.hid (X8.out.sep (Xfz _) hst (fun _ h=>h.elim))
 have XSa:=Lib.hid (XS.out.trans hst fun _ _ h=>h.elim)
 have HRa:=Lib.hid (HR5.out.fut hdr)
 have HZa:=Lib.hid (HZ5.out.fut hdr)
 clear X2 X3 XM X8 XS HR5 HZ5 hdr hst
 generalize w5.drew.drewN k1=Wa at*
 refine wp_lit (o:=⟨some 23,_,_,_,_,_⟩) rfl 34 36 1 #[(0,.tmp 22)] rfl [.agg hd1.cells.toArray] rfl 68 80 _ Tryz.underlying34 hdr_infoM (by omega) (fun v hv=>by rw[List.mem_singleton.1 hv];exact HSZ.out) rfl (by omega) (by omega) ?_
 simp only[List.flatMap_cons,List.flatMap_nil,List.append_nil,Value.cells]
 have hnew:=Q1z Wa (.cells hd1.cells.toArray 36)
 have hst:Stays (fun _=>False) Wa (Wa.alloc (.cells hd1.cells.toArray 36)):=Stays.of_below hnew (Nat.le_refl _) _
 have X2b:=Lib.hid (X2a.out.fut hnew)
 have X3b:=Lib.hid (X3a.out.fut hnew)
 have XMb:=Lib.hid (XMa.out.fut hnew)
 have X8b:=Lib.hid (X8a.out.sep (Xfz _) hst (fun _ h=>h.elim))
 have XSb:=Lib.hid (XSa.out.trans hst fun _ _ h=>h.elim)
 have HRb:=Lib.hid (HRa.out.fut hnew)
 have HZb:=Lib.hid (HZa.out.fut hnew)
 obtain⟨zl,hzl⟩:∃z,z=Wa.heap.size:=⟨_,rfl⟩
 have XL:Hid (Blk (Wa.alloc (.cells hd1.cells.toArray 36)) zl 36 hd1.cells.toArray):=Lib.hid (by rw[hzl];exact Blk.new Wa _ _)
 rw[←hzl]
 clear X2a X3a XMa X8a XSa HRa HZa hst hnew hzl
 generalize Wa.alloc (.cells hd1.cells.toArray 36)=We at*
 go_wp2_with fail
 refine Q2z (And.intro ⟨X3b.out,XMb.out,HZb.out⟩ ?_)
 refine Qbz rfl fun k3=>?_
 have hdr:=Q0z We k3
 have hst:Stays (fun _=>False) We (We.drewN k3):=Stays.of_below hdr (Nat.le_refl _) _
 have X2e:=Lib.hid (X2b.out.fut hdr)
 have X3e:=Lib.hid (X3b.out.fut hdr)
 have XMe:=Lib.hid (XMb.out.fut hdr)
 have X8e:=Lib.hid (X8b.out.sep (Xfz _) hst (fun _ h=>h.elim))
 have XSe:=Lib.hid (XSb.out.trans hst fun _ _ h=>h.elim)
 have HRe:=Lib.hid (HRb.out.fut hdr)
 have HZe:=Lib.hid (HZb.out.fut hdr)
 have XLe:=Lib.hid (XL.out.fut hdr)
 clear X2b X3b XMb X8b XSb HRb HZb XL hdr hst
 generalize We.drewN k3=Wf at*
 obtain⟨css,hcl,hown,hcs⟩:=X8e.out
 have hwl:w.heap.size≤Wf.heap.size:=XSe.out.size
 have HHS:Hid (hd1.cells.length=68):=Lib.hid (Hdr.cells_len HK.out)
 refine XYz (o:=⟨some 24,_,_,_,_,_⟩) rfl (.tmp 21) (.tmp 23) 34 36 rfl _ 68 80 Tryz.underlying34 hdr_infoM rfl (by omega) (by omega) w.heap.size _ xs.length css.flatten rfl hown zl 1 1 hd1.cells rfl XLe.out HHS.out (one_all (Hdr.cells_one hd1)) (by omega) hwl ?_
 intro vb wb hlb hgb hob
 obtain⟨vr2,hgb2,_⟩:=HRe.out
 have hS:=Stays.of_grown (S:=fun k=>Value.ownBlock _=some k) hgb (fun k h=>h)
 have hSB:∀k,(Value.slice pl nl cl).ownBlock=some k→w.heap.size≤k∧∃cs,Blk Wf k 36 cs:=fun k hk=>by
  rcases hown.2 with⟨e,_⟩|⟨q,cap,cur,e,hq,hh,_⟩
  ·rw[e]at hk;cases hk
  ·rw[e]at hk
   injection hk with hk
   have hk':q=k:=hk
   subst hk'
   exact⟨hq,cur,hh⟩
 have nn:∀{z:Nat} {T:TypeId} {cs:Array Value},Blk Wf z T cs→T≠36→¬(Value.slice pl nl cl).ownBlock=some z:=fun hz hT hk=>by
  obtain⟨_,cs,h1⟩:=hSB _ hk
  exact hT (hz.inj h1).1
 have HROW:Hid (RowO HdrE 36 68 w.heap.size wb vb (xs++[hd1])):=Lib.hid (RowO.app hcl hown hcs (Xfz _) (by decide) ⟨rfl,HK.out⟩ HHS.out hlb hgb)
 have X2f:=Lib.hid (X2e.out.stays hS (nn X2e.out (by decide)))
 have X3f:=Lib.hid (X3e.out.stays hS (nn X3e.out (by decide)))
 have XMf:=Lib.hid (XMe.out.stays hS (nn XMe.out (by decide)))
 have HRf:=Lib.hid (HRe.out.stays hS (fun k hk=>.inr ⟨by have:=(hSB k hk).1;omega,36,(hSB k hk).2.choose,(hSB k hk).2.choose_spec,by decide⟩) (nn hgb2 (by decide)))
 have XSf:Hid (Stays (fun k=>k=g∨k=z) w wb):=Lib.hid (XSe.out.trans hS fun k hk h=>absurd (hSB k h).1 (by omega))
 have HZf:Hid (Blk wb z4 36 hd1.cells.toArray):=Lib.hid (HZe.out.stays hS (fun hk=>absurd (HLT.out _ hk) (Nat.lt_irrefl _)))
 clear X2e X3e XMe X8e XSe HRe HZe XLe hown hcs hcl hlb hgb hob hS hSB nn hgb2
 obtain⟨pb,mb,db,rfl⟩:∃pl nl cl,vb= .slice pl nl cl:=by
  obtain⟨css,_,h2,_⟩:=HROW.out
  obtain⟨p,c,e,_⟩:=QLz h2
  exact⟨_,_,_,e⟩
 go_wp2_with fail
 refine Q2z (And.intro ⟨X3f.out,XMf.out,HZf.out⟩ ?_)
 refine' Q9z (s:=27) (A1:=_) (r:=[]) [8,9] [_,_] _ rfl rfl rfl (fun W hW=>?hq2) _ ⟨X3f.out,XMf.out,HZf.out⟩ (fun _=>?hr2)
 case hq2=>
  simp only[List.getElem_toArray,List.getElem_cons_zero,List.getElem_cons_succ]
  iterate 2 (go_big_quiet_step (fail))
  refine wpQuiet_nil ?_
  rfl
 case hr2=>
 refine Qnz fun k4=>HeadQ.normal ?_
 have hdr:=Q0z wb k4
 have hst:Stays (fun _=>False) wb (wb.drewN k4):=Stays.of_below hdr (Nat.le_refl _) _
 have X2g:=Lib.hid (X2f.out.fut hdr)
 have X3g:=Lib.hid (X3f.out.fut hdr)
 have XMg:=Lib.hid (XMf.out.fut hdr)
 have HROWg:=Lib.hid (HROW.out.sep (Xfz _) hst (fun _ h=>h.elim))
 have XSg:=Lib.hid (XSf.out.trans hst fun _ _ h=>h.elim)
 have HRg:=Lib.hid (HRf.out.fut hdr)
 clear X2f X3f XMf HROW XSf HRf HZf hdr hst
 generalize wb.drewN k4=Wz at*
 have MA:=XMg.out.msg Q6z Q6z
 have cz:=MA.c68
 have fz:=XMg.out.frozen 68
 clear MA
 obtain⟨vr3,hgb3,_⟩:=HRg.out
 have hS:=Stays.set Wz z 68 (.slice pb mb db)
 have n2:b2≠z:=fun e=>by have h1:=X2g.out;rw[e]at h1;exact absurd (h1.inj XMg.out).1 (by decide)
 have n3:b3≠z:=fun e=>by have h1:=X3g.out;rw[e]at h1;exact absurd (h1.inj XMg.out).1 (by decide)
 have hI:HdI g z b2 b3 w (Wz.setCell ⟨z,68,none⟩ (.slice pb mb db)) (xs++[hd1]) pb mb db:=by
  refine⟨X2g.out.stays hS n2,X3g.out.stays hS n3,?_,HROWg.out.sep (Xfz _) hS (Qiz XMg.out (by decide)),XSg.out.trans hS fun k hk h=>.inr h⟩
  have h:=XMg.out.set 68 (.slice pb mb db)
  rw[hdMsg,msg_set68 _ _ _ _ _ _ _ Q6z Q6z]at h
  exact h
 have hR:MRd 122 D B g (Wz.setCell ⟨z,68,none⟩ (.slice pb mb db)) er5 r5:=HRg.out.stays hS (fun k hk=>.inr ⟨(show k=z from hk)▸hD.2,_,_,(show k=z from hk)▸XMg.out,by decide⟩) (fun e=>HN.out.2.2 e.symm)
 have HI:=Lib.hid hI
 have HR:=Lib.hid hR
 have HTT:Hid (Step hdrT 0 s hd1 er5 r5):=Lib.hid (by
  rw[HHD.out]
  exact HT1.out.bind (HT5.out.bind (Step.ret _ _ _)))
 clear hI hR hS n2 n3 hgb3 X2g X3g XMg HROWg XSg HRg
 go_wp2_with fail
 first|go_end0|refine bodyPost_ret (results_none rfl _ _ _) rfl ?_
 exact⟨rfl,hd1,er5,r5,HR,Lib.hid ⟨_,_,_,HI.out⟩,HTT⟩
theorem version_any (D B g z:Nat) (hD:D≤B∧D≤z) (w:World) (s:Bs) (hr:MRd 122 D B g w 0 s) (hm:Blk w z 41 (msgZ 1).toArray):
 Calls Tryz.prog 77 #[.pointer (some ⟨g,0,none⟩),.pointer (some ⟨z,0,none⟩)] w (Xkz D B g z w (QCz 1) s):=by
 have HS0:Hid (VSt 122 D B g z w w 0 s (Q8z (.int .i64 1) (u32 0#32) (u64 0#64) noHash noHash (.slice none 0 0) (.slice none 0 0) (.slice none 0 0) ZBlk)):=Lib.hid ⟨by decide,hr,hm,Stays.refl _ _⟩
 clear hr hm
 go_enter Tryz.func77,Tryz.ntmps77
 go_wp2_with fail
 refine(mNum_any D B g 4 (by omega) w 0 s HS0.out.rd).mono ?_
 rintro e W1 ⟨vv1,a1,er1,r1,rfl,rfl,HR1,HT1a,HT1⟩
 have HS1:=Lib.hid (HS0.out.call HR1.out HT1a.out)
 clear HS0 HR1
 have hcut:=Xoz a1
 have MA:=HS1.out.ms.msg Q6z Q6z
 have cz:=MA.c1
 have fz:=HS1.out.ms.frozen 1
 clear MA
 go_upto_region 1 with fail
 have hstz:=Stays.set W1 z 1 (.int .u32 (iv32 (a1.setWidth 32)))
 have hsp:∀Ts,41∉Ts→Sep B Ts W1 (·=z):=fun Ts hT=>Qiz HS1.out.ms hT
 have HS3:Hid (VSt 122 D B g z w (W1.setCell ⟨z,1,none⟩ (.int .u32 (iv32 (a1.setWidth 32)))) er1 r1 (Q8z (.int .i64 1) (.int .u32 (iv32 (a1.setWidth 32))) (u64 0#64) noHash noHash (.slice none 0 0) (.slice none 0 0) (.slice none 0 0) ZBlk)):=Lib.hid (HS1.out.put hD.2 (by have h:=HS1.out.ms.set 1 (.int .u32 (iv32 (a1.setWidth 32)));rw[msg_set1 _ _ _ _ _ _ _ _ _]at h;exact h) hstz)
 clear HS1 cz fz hstz hsp
 generalize W1.setCell ⟨z,1,none⟩ (.int .u32 (iv32 (a1.setWidth 32)))=W3 at*
 clear hcut
 go_wp2_with fail
 refine(Zez D B g 68 (by omega) W3 er1 r1 HS3.out.rd).mono ?_
 rintro e W5 ⟨vv5,a5,er5,r5,rfl,⟨hd5,hl5⟩,HR5,HT5a,HT5⟩
 have HS5:=Lib.hid (HS3.out.call HR5.out HT5a.out)
 clear HS3 HR5
 clear hd5 hl5
 go_upto_region 2 with fail
 go_wp2_with fail
 refine(mNum_any D B g 8 (by omega) W5 er5 r5 HS5.out.rd).mono ?_
 rintro e W7 ⟨vv7,a7,er7,r7,rfl,rfl,HR7,HT7a,HT7⟩
 have HS7:=Lib.hid (HS5.out.call HR7.out HT7a.out)
 clear HS5 HR7
 have MA:=HS7.out.ms.msg Q6z Q6z
 have cz:=MA.c2
 have fz:=HS7.out.ms.frozen 2
 clear MA
 go_upto_region 3 with fail
 have hstz:=Stays.set W7 z 2 (.int .u64 (iv64 a7))
 have hsp:∀Ts,41∉Ts→Sep B Ts W7 (·=z):=fun Ts hT=>Qiz HS7.out.ms hT
 have HS9:Hid (VSt 122 D B g z w (W7.setCell ⟨z,2,none⟩ (.int .u64 (iv64 a7))) er7 r7 (Q8z (.int .i64 1) (.int .u32 (iv32 (a1.setWidth 32))) (.int .u64 (iv64 a7)) noHash noHash (.slice none 0 0) (.slice none 0 0) (.slice none 0 0) ZBlk)):=Lib.hid (HS7.out.put hD.2 (by have h:=HS7.out.ms.set 2 (.int .u64 (iv64 a7));rw[msg_set2 _ _ _ _ _ _ _ _ _]at h;exact h) hstz)
 clear HS7 cz fz hstz hsp
 generalize W7.setCell ⟨z,2,none⟩ (.int .u64 (iv64 a7))=W9 at*
 go_wp2_with fail
 refine(mText_any D B g 256 (by omega) W9 er7 r7 HS9.out.rd).mono ?_
 rintro e W11 ⟨vv11,a11,er11,r11,rfl,ho11,HR11,HT11a,HT11⟩
 have HS11:=Lib.hid (HS9.out.call HR11.out HT11a.out)
 clear HS9 HR11
 clear ho11
 go_upto_region 4 with fail
 go_wp2_with fail
 refine(Zez D B g 4 (by omega) W11 er11 r11 HS11.out.rd).mono ?_
 rintro e W13 ⟨vv13,a13,er13,r13,rfl,⟨hd13,hl13⟩,HR13,HT13a,HT13⟩
 have HS13:=Lib.hid (HS11.out.call HR13.out HT13a.out)
 clear HS11 HR13
 clear hd13 hl13
 go_upto_region 5 with fail
 obtain⟨vr,x1,x2,x3,x4,x5⟩:=HS13.out.rd
 obtain⟨pr,nr,cr,rfl,hnr,_⟩:=x2.open
 have HNR:=Lib.hid hnr
 have X1:=Lib.hid x1
 clear x1 x2 x3 x4 x5 hnr
 refine Qdz [qq 0,qq 1,qq 2,qq 3,qq 4,qq 5,qq 6,qq 7,qq 8,qq 9] 10 (fun W=>Blk W g 122 #[.slice pr nr cr,.int .i64 er13]) (by kernel_rfl) (by kernel_rfl) (X1.out.fut (Q0z W13 1)) ?_
 refine' Q9z (s:=36) (A1:=_) (r:=[]) [0,1,2,3,4,5,6,7,8,9] [_,_,_,_,_,_,_,_,_,_] _ rfl rfl rfl (fun W hW=>?hq15) _ (X1.out.fut (Q0z W13 1)) (fun _=>?hr15)
 case hq15=>
  have e2:∀k,(W.drewN k).cell? ⟨g,0,none⟩=some (.slice pr nr cr):=fun k=>by have:=hW.cell 0;simpa using this
  simp only[List.getElem_toArray,List.getElem_cons_zero,List.getElem_cons_succ]
  iterate 10 (go_big_quiet_step (fail))
  refine wpQuiet_nil ?_
  rfl
 case hr15=>
 clear X1
 rw[min_one]
 refine Qnz fun k16=>HeadQ.normal ?_
 have hdr:Below W13.heap.size W13 (W13.drew.drewN k16):=Q7z (Below.refl _ _).drew k16
 have hstd:Stays (fun _=>False) W13 (W13.drew.drewN k16):=Stays.of_below hdr (Nat.le_refl _) _
 have HS17:=Lib.hid (HS13.out.fut hdr)
 clear HS13 hdr hstd
 generalize W13.drew.drewN k16=W17 at*
 go_wp2_with fail
 refine(Zez D B g (min nr 1) (by omega) W17 er13 r13 HS17.out.rd).mono ?_
 rintro e W19 ⟨vv19,a19,er19,r19,rfl,⟨hd19,hl19⟩,HR19,HT19a,HT19⟩
 have HS19:=Lib.hid (HS17.out.call HR19.out HT19a.out)
 clear HS17 HR19
 clear hd19 hl19
 have HO:=Lib.hid (take_one HNR.out HT19.out)
 clear HT19
 go_wp2_with fail
 first|go_end0|refine bodyPost_ret (results_none rfl _ _ _) rfl ?_
 exact⟨rfl,{ noMsg with k:=1,nu:=a1.setWidth 32,no:=a7 },_,_,_,Lib.hid HS19.out.rd,Lib.hid HS19.out.ms,Lib.hid (⟨_,_,_,_,rfl,Q6z,Q6z,RowO.nil _ _ _ _ _,RowO.nil _ _ _ _ _,Own8.nil _ _,⟨.slice none 0 0,rfl,QGz,RowO.nil _ _ _ _ _⟩⟩),Lib.hid HS19.out.st,Lib.hid (by rw[fz1];exact(HT1.out).bind ((HT5.out).bind ((HT7.out).bind ((HT11.out).bind ((HT13.out).bind ((HO.out).bind (Step.ret _ _ _)))))))⟩
theorem fields_k1 (D B g z:Nat) (hD:D≤B∧D≤z) (hB:g<B∧z<B) (w:World) (s:Bs) (hr:MRd 122 D B g w 0 s) (hm:Blk w z 41 (msgZ 1).toArray):
 Calls Tryz.prog 47 #[.pointer (some ⟨g,0,none⟩),.pointer (some ⟨z,0,none⟩)] w (Xkz D B g z w (QCz 1) s):=by
 obtain⟨b2,h2⟩:∃b,b=w.heap.size:=⟨_,rfl⟩
 obtain⟨V1,hV1⟩:∃W,W=w.alloc (.cells #[.pointer (some ⟨g,0,none⟩)] 118):=⟨_,rfl⟩
 obtain⟨V2,hV2⟩:∃W,W=V1.alloc (.cells #[.pointer (some ⟨z,0,none⟩)] 124):=⟨_,rfl⟩
 have z1:V1.heap.size=b2+1:=by rw[hV1,World.size_alloc,h2]
 have k1:Below w.heap.size w V1:=by rw[hV1];exact Q1z w _
 have k2:Below V1.heap.size V1 V2:=by rw[hV2];exact Q1z V1 _
 have k02:=Q3z k1 k2 (Nat.le_refl _)
 obtain⟨b3,h3⟩:∃b,b=b2+1:=⟨_,rfl⟩
 have hcall:=version_any D B g z hD V2 s (hr.fut k02) (hm.fut k02)
 have HST:Hid (Stays (fun k=>k=g∨k=z) w V2):=Lib.hid (Stays.of_below k02 (Nat.le_refl _) _)
 have c3:V2.cell? ⟨b3,0,none⟩=some (.pointer (some ⟨z,0,none⟩)):=by have:=(show Blk V2 b3 124 #[.pointer (some ⟨z,0,none⟩)] by rw[hV2,h3,← z1];exact Blk.new V1 _ _).cell 0;simpa using this
 have c2:V2.cell? ⟨b2,0,none⟩=some (.pointer (some ⟨g,0,none⟩)):=by have:=((show Blk V1 b2 118 #[.pointer (some ⟨g,0,none⟩)] by rw[hV1,h2];exact Blk.new w _ _).fut k2).cell 0;simpa using this
 have cz:V2.cell? ⟨z,0,none⟩=some (.int .i64 1):=by have:=(hm.fut k02).cell 0;rw[List.getElem?_toArray]at this;exact this
 clear k1 k2 k02 z1 hr hm
 go_enter Tryz.func47,Tryz.ntmps47
 go_upto_region 1 with fail
 rw[←hV1,← hV2,← h2,← h3]
 clear hV1 hV2 h2 h3
 go_wp2_with fail
 refine hcall.mono ?_
 rintro e w2 ⟨rfl,m,cs,er,r,h1,h2,h3,h4,h5⟩
 clear hcall c2 c3 cz
 go_wp2_with fail
 first|go_end0|refine bodyPost_ret (results_none rfl _ _ _) rfl ?_
 exact⟨rfl,m,cs,er,r,h1,h2,h3,Lib.hid (HST.out.trans h4.out fun _ _ h=>h),h5⟩
theorem fields_k8 (D B g z:Nat) (hD:D≤B∧D≤z) (hB:g<B∧z<B) (w:World) (s:Bs) (hr:MRd 122 D B g w 0 s) (hm:Blk w z 41 (msgZ 8).toArray):
 Calls Tryz.prog 47 #[.pointer (some ⟨g,0,none⟩),.pointer (some ⟨z,0,none⟩)] w (Xkz D B g z w (QCz 8) s):=by
 obtain⟨b2,h2⟩:∃b,b=w.heap.size:=⟨_,rfl⟩
 obtain⟨V1,hV1⟩:∃W,W=w.alloc (.cells #[.pointer (some ⟨g,0,none⟩)] 118):=⟨_,rfl⟩
 obtain⟨V2,hV2⟩:∃W,W=V1.alloc (.cells #[.pointer (some ⟨z,0,none⟩)] 124):=⟨_,rfl⟩
 have z1:V1.heap.size=b2+1:=by rw[hV1,World.size_alloc,h2]
 have k1:Below w.heap.size w V1:=by rw[hV1];exact Q1z w _
 have k2:Below V1.heap.size V1 V2:=by rw[hV2];exact Q1z V1 _
 have k02:=Q3z k1 k2 (Nat.le_refl _)
 obtain⟨b3,h3⟩:∃b,b=b2+1:=⟨_,rfl⟩
 have HS0:Hid (FSt D B g z b2 b3 w V2 0 s (Q8z (.int .i64 8) (u32 0#32) (u64 0#64) noHash noHash (.slice none 0 0) (.slice none 0 0) (.slice none 0 0) ZBlk)):=Lib.hid ⟨hr.fut k02,(show Blk V1 b2 _ _ by rw[hV1,h2];exact Blk.new w _ _).fut k2,(by rw[hV2,h3,← z1];exact Blk.new V1 _ _),hm.fut k02,Stays.of_below k02 (Nat.le_refl _) _⟩
 have c3:V2.cell? ⟨b3,0,none⟩=some (.pointer (some ⟨z,0,none⟩)):=by have:=HS0.out.x3.cell 0;simpa using this
 have cz:V2.cell? ⟨z,0,none⟩=some (.int .i64 8):=by have:=HS0.out.ms.cell 0;rw[List.getElem?_toArray]at this;exact this
 have hzg:z≠g:=HS0.out.ne.2.2.1
 clear k1 k2 k02 z1 hr hm
 go_enter Tryz.func47,Tryz.ntmps47
 go_upto_region 1 with fail
 rw[←hV1,← hV2,← h2,← h3]
 clear hV1 hV2 h2 h3
 go_upto_region 2 with fail
 clear c3 cz
 go_upto_region 19 with fail
 have c2:V2.cell? ⟨b2,0,none⟩=some (.pointer (some ⟨g,0,none⟩)):=by have:=HS0.out.x2.cell 0;simpa using this
 have hnb:=Q1z V2 (.cells #[.int .u8 (iv8 0#8)] 5)
 have hrow:=new_one V2 0#8
 have hgl:g<V2.heap.size:=by have:=HS0.out.rd.gB;omega
 have hstd:Stays (fun _=>False) V2 (V2.alloc (.cells #[.int .u8 (iv8 0#8)] 5)):=Stays.of_below hnb (Nat.le_refl _) _
 have HS21:=Lib.hid (HS0.out.fut hnb)
 have hth:=Zaz D B g _ 0 s _ 1 1 [0#8] HS21.out.rd rfl (by omega) hrow (fun _ x hx e=>by injection hx with hx;rw[←hx]at e;simp only at e;omega)
 clear HS0 hnb hrow hgl hstd
 go_wp2_with fail
 refine hth.mono ?_
 rintro e W23 ⟨rfl,er23,r23,HR23,HT23a,HT23⟩
 have HS23:=Lib.hid (HS21.out.call HR23.out HT23a.out)
 clear HS21 HR23 hth c2
 go_upto_region 20 with fail
 refine QAz [qq 0,qq 1,qq 2,qq 4,oo 3,oo 5,qq 6,qq 7,oo 8,qq 9,qq 10,oo 11] (fun W=>Blk W b2 118 #[.pointer (some ⟨g,0,none⟩)]∧Blk W b3 124 #[.pointer (some ⟨z,0,none⟩)]) (by kernel_rfl) (by kernel_rfl) ⟨HS23.out.x2.fut (Q0z W23 1),HS23.out.x3.fut (Q0z W23 1)⟩ ?_
 refine' Q9z (s:=127) (A1:=_) [0,1,2,4] [_,_,_,_] _ rfl rfl rfl (fun W hW=>?hqa25) _ ⟨HS23.out.x2.fut (Q0z W23 1),HS23.out.x3.fut (Q0z W23 1)⟩ (fun _=>?hra25)
 case hqa25=>
  have e2:∀k,(W.drewN k).cell? ⟨b2,0,none⟩=some (.pointer (some ⟨g,0,none⟩)):=fun k=>by have:=hW.1.cell 0;simpa using this
  have e3:∀k,(W.drewN k).cell? ⟨b3,0,none⟩=some (.pointer (some ⟨z,0,none⟩)):=fun k=>by have:=hW.2.cell 0;simpa using this
  simp only[List.getElem_toArray,List.getElem_cons_zero,List.getElem_cons_succ]
  iterate 4 (go_big_quiet_step (fail))
  refine wpQuiet_nil ?_
  rfl
 case hra25=>
 refine Qbz rfl fun k26=>?_
 have hdr:Below W23.heap.size W23 (W23.drew.drewN k26):=Q7z (Below.refl _ _).drew k26
 have hstd:Stays (fun _=>False) W23 (W23.drew.drewN k26):=Stays.of_below hdr (Nat.le_refl _) _
 have HS27:=Lib.hid (HS23.out.fut hdr)
 clear HS23 hdr hstd
 generalize W23.drew.drewN k26=W27 at*
 go_wp2_with fail
 refine(Zfz D B g hD.1 W27 er23 r23 HS27.out.rd).mono ?_
 rintro e W29 ⟨vv29,a29,er29,r29,rfl,⟨rfl,hl29⟩,HR29,HT29a,HT29⟩
 have HS29:=Lib.hid (HS27.out.call HR29.out HT29a.out)
 clear HS27 HR29
 have HL29:=Lib.hid hl29
 clear hl29
 go_wp2_with fail
 refine Q2z (And.intro ⟨HS29.out.x2,HS29.out.x3⟩ ?_)
 refine Qbz rfl fun k31=>?_
 have hdr:Below W29.heap.size W29 (W29.drewN k31):=Q0z W29 k31
 have hstd:Stays (fun _=>False) W29 (W29.drewN k31):=Stays.of_below hdr (Nat.le_refl _) _
 have HS32:=Lib.hid (HS29.out.fut hdr)
 clear HS29 hdr hstd
 generalize W29.drewN k31=W32 at*
 go_wp2_with fail
 refine(Zfz D B g hD.1 W32 er29 r29 HS32.out.rd).mono ?_
 rintro e W34 ⟨vv34,a34,er34,r34,rfl,⟨rfl,hl34⟩,HR34,HT34a,HT34⟩
 have HS34:=Lib.hid (HS32.out.call HR34.out HT34a.out)
 clear HS32 HR34
 have HL34:=Lib.hid hl34
 clear hl34
 go_wp2_with fail
 refine Q2z (And.intro ⟨HS34.out.x2,HS34.out.x3⟩ ?_)
 refine' Q9z (s:=127) (A1:=_) [6,7] [_,_] _ rfl rfl rfl (fun W hW=>?hqb25) _ ⟨HS34.out.x2,HS34.out.x3⟩ (fun _=>?hrb25)
 case hqb25=>
  simp only[List.getElem_toArray,List.getElem_cons_zero,List.getElem_cons_succ]
  iterate 2 (go_big_quiet_step (fail))
  refine wpQuiet_nil ?_
  rfl
 case hrb25=>
 refine Qbz rfl fun k36=>?_
 have hdr:Below W34.heap.size W34 (W34.drewN k36):=Q0z W34 k36
 have hstd:Stays (fun _=>False) W34 (W34.drewN k36):=Stays.of_below hdr (Nat.le_refl _) _
 have HS38:=Lib.hid (HS34.out.fut hdr)
 clear HS34 hdr hstd
 generalize W34.drewN k36=W38 at*
 refine Xqz (op:=⟨none,_,_,_,_,_⟩) rfl 32 (.tmp 73) (.tmp 69) rfl z 35 (Q5z a29) rfl rfl 41 (Q8z (.int .i64 8) (u32 0#32) (u64 0#64) noHash noHash (.slice none 0 0) (.slice none 0 0) (.slice none 0 0) ZBlk).toArray HS38.out.ms (by rw[QVz _ _ _ _ _ _ Q6z Q6z rfl,QMz HL29.out];omega) (Qsz HL29.out) (Qzz _) ?_
 intro W37 hm37 hg37
 have hstz:=Stays.of_grown (S:=fun k=>k=z) hg37.out (fun k h=>by injection h with h;exact h.symm)
 have hsp:∀Ts,41∉Ts→Sep B Ts W38 (·=z):=fun Ts hT=>Qiz HS38.out.ms hT
 have HS37:Hid (FSt D B g z b2 b3 w W37 er34 r34 (Q8z (.int .i64 8) (u32 0#32) (u64 0#64) noHash a29 (.slice none 0 0) (.slice none 0 0) (.slice none 0 0) ZBlk)):=Lib.hid (HS38.out.put hD.2 (by have h:=hm37.out;rw[msg_set35 _ _ _ _ _ _ _ Q6z Q6z HL29.out]at h;exact h) hstz)
 clear HS38 hstz hsp hm37 hg37
 go_wp2_with fail
 refine Q2z (And.intro ⟨HS37.out.x2,HS37.out.x3⟩ ?_)
 refine' Q9z (s:=127) (A1:=_) [9,10] [_,_] _ rfl rfl rfl (fun W hW=>?hqc25) _ ⟨HS37.out.x2,HS37.out.x3⟩ (fun _=>?hrc25)
 case hqc25=>
  simp only[List.getElem_toArray,List.getElem_cons_zero,List.getElem_cons_succ]
  iterate 2 (go_big_quiet_step (fail))
  refine wpQuiet_nil ?_
  rfl
 case hrc25=>
 refine Qbz rfl fun k41=>?_
 have hdr:Below W37.heap.size W37 (W37.drewN k41):=Q0z W37 k41
 have hstd:Stays (fun _=>False) W37 (W37.drewN k41):=Stays.of_below hdr (Nat.le_refl _) _
 have HS43:=Lib.hid (HS37.out.fut hdr)
 clear HS37 hdr hstd
 generalize W37.drewN k41=W43 at*
 refine Xqz (op:=⟨none,_,_,_,_,_⟩) rfl 32 (.tmp 75) (.tmp 71) rfl z 3 (Q5z a34) rfl rfl 41 (Q8z (.int .i64 8) (u32 0#32) (u64 0#64) noHash a29 (.slice none 0 0) (.slice none 0 0) (.slice none 0 0) ZBlk).toArray HS43.out.ms (by rw[QVz _ _ _ _ _ _ Q6z HL29.out rfl,QMz HL34.out];omega) (Qsz HL34.out) (Qzz _) ?_
 intro W42 hm42 hg42
 have hstz:=Stays.of_grown (S:=fun k=>k=z) hg42.out (fun k h=>by injection h with h;exact h.symm)
 have hsp:∀Ts,41∉Ts→Sep B Ts W43 (·=z):=fun Ts hT=>Qiz HS43.out.ms hT
 have HS42:Hid (FSt D B g z b2 b3 w W42 er34 r34 (Q8z (.int .i64 8) (u32 0#32) (u64 0#64) a34 a29 (.slice none 0 0) (.slice none 0 0) (.slice none 0 0) ZBlk)):=Lib.hid (HS43.out.put hD.2 (by have h:=hm42.out;rw[msg_set3 _ _ _ _ _ _ _ _ Q6z HL34.out]at h;exact h) hstz)
 clear HS43 hstz hsp hm42 hg42
 go_wp2_with fail
 refine Q2z (And.intro ⟨HS42.out.x2,HS42.out.x3⟩ ?_)
 refine Qnz fun k46=>NoPanic.normal ?_
 have hdr:Below W42.heap.size W42 (W42.drewN k46):=Q0z W42 k46
 have hstd:Stays (fun _=>False) W42 (W42.drewN k46):=Stays.of_below hdr (Nat.le_refl _) _
 have HS47:=Lib.hid (HS42.out.fut hdr)
 clear HS42 hdr hstd
 generalize W42.drewN k46=W47 at*
 go_upto_region 21 with fail
 refine Qdz [qq 0,qq 1,oo 2,qq 3,qq 4] 5 (fun W=>Blk W b2 118 #[.pointer (some ⟨g,0,none⟩)]∧Blk W b3 124 #[.pointer (some ⟨z,0,none⟩)]) (by kernel_rfl) (by kernel_rfl) ⟨HS47.out.x2.fut (Q0z W47 1),HS47.out.x3.fut (Q0z W47 1)⟩ ?_
 refine' Q9z (s:=127) (A1:=_) [0,1] [_,_] _ rfl rfl rfl (fun W hW=>?hqa49) _ ⟨HS47.out.x2.fut (Q0z W47 1),HS47.out.x3.fut (Q0z W47 1)⟩ (fun _=>?hra49)
 case hqa49=>
  have e2:∀k,(W.drewN k).cell? ⟨b2,0,none⟩=some (.pointer (some ⟨g,0,none⟩)):=fun k=>by have:=hW.1.cell 0;simpa using this
  have e3:∀k,(W.drewN k).cell? ⟨b3,0,none⟩=some (.pointer (some ⟨z,0,none⟩)):=fun k=>by have:=hW.2.cell 0;simpa using this
  simp only[List.getElem_toArray,List.getElem_cons_zero,List.getElem_cons_succ]
  iterate 2 (go_big_quiet_step (fail))
  refine wpQuiet_nil ?_
  rfl
 case hra49=>
 refine Qbz rfl fun k50=>?_
 have hdr:Below W47.heap.size W47 (W47.drew.drewN k50):=Q7z (Below.refl _ _).drew k50
 have hstd:Stays (fun _=>False) W47 (W47.drew.drewN k50):=Stays.of_below hdr (Nat.le_refl _) _
 have HS51:=Lib.hid (HS47.out.fut hdr)
 clear HS47 hdr hstd
 generalize W47.drew.drewN k50=W51 at*
 go_wp2_with fail
 refine(mHashes_any D B g 2000 hD.1 (by omega) W51 er34 r34 none 0 0 [] HS51.out.rd (AheadB.nil _) rfl (by simp)).mono ?_
 rintro e W53 ⟨vv53,a53,er53,r53,rfl,hv53,HR53,HT53a,HT53⟩
 have HS53:=Lib.hid (HS51.out.call HR53.out HT53a.out)
 clear HS51 HR53
 have HV53:=Lib.hid hv53
 clear hv53
 obtain⟨ph53,nh53,ch53,rfl⟩:=HV53.out.opens
 go_wp2_with fail
 refine Q2z (And.intro ⟨HS53.out.x2,HS53.out.x3⟩ ?_)
 refine' Q9z (s:=127) (A1:=_) (r:=[]) [3,4] [_,_] _ rfl rfl rfl (fun W hW=>?hqb49) _ ⟨HS53.out.x2,HS53.out.x3⟩ (fun _=>?hrb49)
 case hqb49=>
  simp only[List.getElem_toArray,List.getElem_cons_zero,List.getElem_cons_succ]
  iterate 2 (go_big_quiet_step (fail))
  refine wpQuiet_nil ?_
  rfl
 case hrb49=>
 refine Qnz fun k55=>HeadQ.normal ?_
 have hdr:Below W53.heap.size W53 (W53.drewN k55):=Q0z W53 k55
 have hstd:Stays (fun _=>False) W53 (W53.drewN k55):=Stays.of_below hdr (Nat.le_refl _) _
 have HV53_57:=Lib.hid (HV53.out.sep (Qrz _) hstd (fun _ h=>h.elim))
 clear HV53
 have HS56:=Lib.hid (HS53.out.fut hdr)
 clear HS53 hdr hstd
 generalize W53.drewN k55=W56 at*
 have MA:=HS56.out.ms.msg HL34.out HL29.out
 have cz:=MA.c67
 have fz:=HS56.out.ms.frozen 67
 clear MA
 go_wp2_with fail
 have hstz:=Stays.set W56 z 67 (Value.slice ph53 nh53 ch53)
 have hsp:∀Ts,41∉Ts→Sep B Ts W56 (·=z):=fun Ts hT=>Qiz HS56.out.ms hT
 have HS58:Hid (FSt D B g z b2 b3 w (W56.setCell ⟨z,67,none⟩ (Value.slice ph53 nh53 ch53)) er53 r53 (Q8z (.int .i64 8) (u32 0#32) (u64 0#64) a34 a29 (Value.slice ph53 nh53 ch53) (.slice none 0 0) (.slice none 0 0) ZBlk)):=Lib.hid (HS56.out.put hD.2 (by have h:=HS56.out.ms.set 67 (Value.slice ph53 nh53 ch53);rw[msg_set67 _ _ _ _ _ _ _ HL34.out HL29.out]at h;exact h) hstz)
 have HV53_59:=Lib.hid (HV53_57.out.sep (Qrz _) hstz (hsp _ (by decide)))
 clear HV53_57
 clear HS56 cz fz hstz hsp
 generalize W56.setCell ⟨z,67,none⟩ (Value.slice ph53 nh53 ch53)=W58 at*
 first|go_end0|refine bodyPost_ret (results_none rfl _ _ _) rfl ?_
 exact⟨rfl,{ noMsg with k:=8,st:=a29,pv:=a34,hs:=a53 },_,_,_,Lib.hid HS58.out.rd,Lib.hid HS58.out.ms,Lib.hid (⟨_,_,_,_,rfl,HL34.out,HL29.out,HV53_59.out,RowO.nil _ _ _ _ _,Own8.nil _ _,⟨.slice none 0 0,rfl,QGz,RowO.nil _ _ _ _ _⟩⟩),Lib.hid HS58.out.st,Lib.hid (by rw[fz8];exact(HT23.out).bind ((HT29.out).bind ((HT34.out).bind ((HT53.out).bind (Step.ret _ _ _)))))⟩
theorem fields_k6 (D B g z:Nat) (hD:D≤B∧D≤z) (hB:g<B∧z<B) (w:World) (s:Bs) (hr:MRd 122 D B g w 0 s) (hm:Blk w z 41 (msgZ 6).toArray):
 Calls Tryz.prog 47 #[.pointer (some ⟨g,0,none⟩),.pointer (some ⟨z,0,none⟩)] w (Xkz D B g z w (QCz 6) s):=by
 obtain⟨b2,h2⟩:∃b,b=w.heap.size:=⟨_,rfl⟩
 obtain⟨V1,hV1⟩:∃W,W=w.alloc (.cells #[.pointer (some ⟨g,0,none⟩)] 118):=⟨_,rfl⟩
 obtain⟨V2,hV2⟩:∃W,W=V1.alloc (.cells #[.pointer (some ⟨z,0,none⟩)] 124):=⟨_,rfl⟩
 have z1:V1.heap.size=b2+1:=by rw[hV1,World.size_alloc,h2]
 have k1:Below w.heap.size w V1:=by rw[hV1];exact Q1z w _
 have k2:Below V1.heap.size V1 V2:=by rw[hV2];exact Q1z V1 _
 have k02:=Q3z k1 k2 (Nat.le_refl _)
 obtain⟨b3,h3⟩:∃b,b=b2+1:=⟨_,rfl⟩
 have HS0:Hid (FSt D B g z b2 b3 w V2 0 s (Q8z (.int .i64 6) (u32 0#32) (u64 0#64) noHash noHash (.slice none 0 0) (.slice none 0 0) (.slice none 0 0) ZBlk)):=Lib.hid ⟨hr.fut k02,(show Blk V1 b2 _ _ by rw[hV1,h2];exact Blk.new w _ _).fut k2,(by rw[hV2,h3,← z1];exact Blk.new V1 _ _),hm.fut k02,Stays.of_below k02 (Nat.le_refl _) _⟩
 have c3:V2.cell? ⟨b3,0,none⟩=some (.pointer (some ⟨z,0,none⟩)):=by have:=HS0.out.x3.cell 0;simpa using this
 have cz:V2.cell? ⟨z,0,none⟩=some (.int .i64 6):=by have:=HS0.out.ms.cell 0;rw[List.getElem?_toArray]at this;exact this
 have hzg:z≠g:=HS0.out.ne.2.2.1
 have HN0:=HS0.out.ne
 have hgB:=HS0.out.rd.gB
 have hmf:∀(fn:Fn) (first cap:Array Value) (w:World),(Instr.makeFunc fn first cap).run Tryz.prog w= .ok (.func fn first cap) w:=fun _ _ _ _=>rfl
 have hBw:z<V2.heap.size:=HS0.out.ms.lt
 have hcall:=mEach_any hdrT D B g 100 (by omega) 82 (enters_of Tryz.func82 (by kernel_rfl) rfl) #[.pointer (some ⟨b2,0,none⟩),.pointer (some ⟨b3,0,none⟩)] (fun W xs=>∃p n c,HdI g z b2 b3 V2 W xs p n c)
  (fun W W' xs hI hs=>by obtain⟨p,n,c,h⟩:=hI;exact⟨p,n,c,h.stays ⟨HN0.1,HN0.2.1,HN0.2.2.1⟩ (by omega) hs⟩)
  (fun W xs s hx hR hI=>by obtain⟨p,n,c,h⟩:=hI;exact hdrsC_any D B g z b2 b3 hD hB V2 W xs s (by omega) hR p n c ⟨by omega,hBw,hgB.2⟩ h) V2 0 s HS0.out.rd ⟨_,_,_,HS0.out.x2,HS0.out.x3,HS0.out.ms,RowO.nil _ _ _ _ _,Stays.refl _ _⟩
 have c2:V2.cell? ⟨b2,0,none⟩=some (.pointer (some ⟨g,0,none⟩)):=by have:=HS0.out.x2.cell 0;simpa using this
 have HBV:=Lib.hid hgB.2
 clear k1 k2 k02 z1 hr hm HN0 hgB hBw
 go_enter Tryz.func47,Tryz.ntmps47
 go_upto_region 1 with fail
 rw[←hV1,← hV2,← h2,← h3]
 clear hV1 hV2 h2 h3
 go_wp2_with fail
 clear c3 cz
 refine hcall.mono ?_
 rintro e w2 ⟨rfl,xs,er',r',HR,HI,HT⟩
 clear hcall c2 hmf
 go_wp2_with fail
 first|go_end0|refine bodyPost_ret (results_none rfl _ _ _) rfl ?_
 obtain⟨p,n,c,h⟩:=HI.out
 exact⟨rfl,{ noMsg with k:=6,hd:=xs },_,_,_,HR,Lib.hid h.ms,Lib.hid (⟨_,_,_,_,rfl,Q6z,Q6z,RowO.nil _ _ _ _ _,h.ro.mono (fun _ _ h=>h) HBV.out,Own8.nil _ _,⟨.slice none 0 0,rfl,QGz,RowO.nil _ _ _ _ _⟩⟩),Lib.hid (HS0.out.st.trans h.st fun _ _ h=>h),Lib.hid (by rw[fz6];exact HT.out.bind (Step.ret _ _ _))⟩
theorem fields_k12 (D B g z:Nat) (hD:D≤B∧D≤z) (hB:g<B∧z<B) (w:World) (s:Bs) (hr:MRd 122 D B g w 0 s) (hm:Blk w z 41 (msgZ 12).toArray):
 Calls Tryz.prog 47 #[.pointer (some ⟨g,0,none⟩),.pointer (some ⟨z,0,none⟩)] w (Xkz D B g z w (QCz 12) s):=by
 obtain⟨b2,h2⟩:∃b,b=w.heap.size:=⟨_,rfl⟩
 obtain⟨V1,hV1⟩:∃W,W=w.alloc (.cells #[.pointer (some ⟨g,0,none⟩)] 118):=⟨_,rfl⟩
 obtain⟨V2,hV2⟩:∃W,W=V1.alloc (.cells #[.pointer (some ⟨z,0,none⟩)] 124):=⟨_,rfl⟩
 have z1:V1.heap.size=b2+1:=by rw[hV1,World.size_alloc,h2]
 have k1:Below w.heap.size w V1:=by rw[hV1];exact Q1z w _
 have k2:Below V1.heap.size V1 V2:=by rw[hV2];exact Q1z V1 _
 have k02:=Q3z k1 k2 (Nat.le_refl _)
 obtain⟨b3,h3⟩:∃b,b=b2+1:=⟨_,rfl⟩
 have HS0:Hid (FSt D B g z b2 b3 w V2 0 s (Q8z (.int .i64 12) (u32 0#32) (u64 0#64) noHash noHash (.slice none 0 0) (.slice none 0 0) (.slice none 0 0) ZBlk)):=Lib.hid ⟨hr.fut k02,(show Blk V1 b2 _ _ by rw[hV1,h2];exact Blk.new w _ _).fut k2,(by rw[hV2,h3,← z1];exact Blk.new V1 _ _),hm.fut k02,Stays.of_below k02 (Nat.le_refl _) _⟩
 have c3:V2.cell? ⟨b3,0,none⟩=some (.pointer (some ⟨z,0,none⟩)):=by have:=HS0.out.x3.cell 0;simpa using this
 have cz:V2.cell? ⟨z,0,none⟩=some (.int .i64 12):=by have:=HS0.out.ms.cell 0;rw[List.getElem?_toArray]at this;exact this
 have hzg:z≠g:=HS0.out.ne.2.2.1
 clear k1 k2 k02 z1 hr hm
 go_enter Tryz.func47,Tryz.ntmps47
 go_upto_region 1 with fail
 rw[←hV1,← hV2,← h2,← h3]
 clear hV1 hV2 h2 h3
 go_upto_region 2 with fail
 clear c3 cz
 go_upto_region 30 with fail
 obtain⟨vr,x1,x2,x3,x4,x5⟩:=HS0.out.rd
 obtain⟨pr,nr,cr,rfl,hnr,hncr,hcmr,hrr,hpr⟩:=x2.open
 have HNR:=Lib.hid hnr
 have HRR:=Lib.hid hrr
 have X1:=Lib.hid x1
 have hsl:=Lib.hid x3
 clear x1 x2 x3 x4 x5 hnr hrr hpr
 refine QAz [qq 0,qq 1,qq 2,qq 3,qq 4,qq 5,qq 6,oo 7,qq 8,qq 9,qq 10,qq 11,qq 12,oo 13,qq 14,qq 15,qq 16,oo 17] (fun W=>Blk W b2 118 #[.pointer (some ⟨g,0,none⟩)]∧Blk W b3 124 #[.pointer (some ⟨z,0,none⟩)]∧∃er,Blk W g 122 #[.slice pr nr cr,.int .i64 er]) (by kernel_rfl) (by kernel_rfl) ⟨HS0.out.x2.fut (Q0z V2 1),HS0.out.x3.fut (Q0z V2 1),_,X1.out.fut (Q0z V2 1)⟩ ?_
 refine' Q9z (s:=127) (A1:=_) [0,1,2,3,4,5,6] [_,_,_,_,_,_,_] _ rfl rfl rfl (fun W hW=>?hqa60) _ ⟨HS0.out.x2.fut (Q0z V2 1),HS0.out.x3.fut (Q0z V2 1),_,X1.out.fut (Q0z V2 1)⟩ (fun _=>?hra60)
 case hqa60=>
  have e2:∀k,(W.drewN k).cell? ⟨b2,0,none⟩=some (.pointer (some ⟨g,0,none⟩)):=fun k=>by have:=hW.1.cell 0;simpa using this
  have e3:∀k,(W.drewN k).cell? ⟨b3,0,none⟩=some (.pointer (some ⟨z,0,none⟩)):=fun k=>by have:=hW.2.1.cell 0;simpa using this
  have eg:∀k,(W.drewN k).cell? ⟨g,0,none⟩=some (.slice pr nr cr):=fun k=>by obtain⟨er,h⟩:=hW.2.2;have:=h.cell 0;simpa using this
  simp only[List.getElem_toArray,List.getElem_cons_zero,List.getElem_cons_succ]
  iterate 7 (go_big_quiet_step (fail))
  refine wpQuiet_nil ?_
  rfl
 case hra60=>
 refine Qbz rfl fun k61=>?_
 have hdq:Below V2.heap.size V2 (V2.drew.drewN k61):=Q7z (Below.refl _ _).drew k61
 have X1a:=Lib.hid (X1.out.fut hdq)
 have HRRa:=Lib.hid (HRR.out.fut hdq)
 clear X1 HRR hdq
 have hdr:Below V2.heap.size V2 (V2.drew.drewN k61):=Q7z (Below.refl _ _).drew k61
 have hstd:Stays (fun _=>False) V2 (V2.drew.drewN k61):=Stays.of_below hdr (Nat.le_refl _) _
 have HS62:=Lib.hid (HS0.out.fut hdr)
 clear HS0 hdr hstd
 generalize V2.drew.drewN k61=W62 at*
 have hdec:=blkDecode_any pr nr cr s W62 HRRa.out HNR.out hncr (by omega)
 obtain⟨x,hx⟩:∃x,x=Xtz s:=⟨_,rfl⟩
 rw[←hx]at hdec
 obtain⟨bl,kd⟩:=x
 have HX:=Lib.hid hx.symm
 unfold BlkDec at hdec
 simp only at hdec
 clear hx
 go_wp2_with fail
 refine hdec.mono ?_
 rintro e W64 ⟨bc,rfl,hbo,hbb⟩
 have HS64:=Lib.hid (HS62.out.fut hbb)
 have X1b:=Lib.hid (X1a.out.fut hbb)
 have HBO:Hid (BlkO B W64 bl bc):=Lib.hid (hbo.mono HS62.out.rd.gB.2)
 clear HS62 X1a hbo HRRa hdec
 clear hbb
 go_wp2_with fail
 refine Q2z (And.intro ⟨HS64.out.x2,HS64.out.x3,_,X1b.out⟩ ?_)
 refine' Q9z (s:=127) (A1:=_) [8,9,10,11,12] [_,_,_,_,_] _ rfl rfl rfl (fun W hW=>?hqb60) _ ⟨HS64.out.x2,HS64.out.x3,_,X1b.out⟩ (fun _=>?hrb60)
 case hqb60=>
  simp only[List.getElem_toArray,List.getElem_cons_zero,List.getElem_cons_succ]
  iterate 5 (go_big_quiet_step (fail))
  refine wpQuiet_nil ?_
  rfl
 case hrb60=>
 refine Qbz rfl fun k65=>?_
 have X1c:=Lib.hid (X1b.out.fut (Q0z W64 k65))
 clear X1b
 have hdr:Below W64.heap.size W64 (W64.drewN k65):=Q0z W64 k65
 have hstd:Stays (fun _=>False) W64 (W64.drewN k65):=Stays.of_below hdr (Nat.le_refl _) _
 have HBO_67:=Lib.hid (XTz B _ _ _ _ _ HBO.out hstd (fun _ h=>h.elim))
 clear HBO
 have HS66:=Lib.hid (HS64.out.fut hdr)
 clear HS64 hdr hstd
 generalize W64.drewN k65=W66 at*
 have hbl:bc.length=69:=HBO_67.out.c.len
 have HBL:=Lib.hid hbl
 clear hbl
 refine Xqz (op:=⟨none,_,_,_,_,_⟩) rfl 39 (.tmp 119) (.tmp 116) rfl z 70 bc rfl rfl 41 (Q8z (.int .i64 12) (u32 0#32) (u64 0#64) noHash noHash (.slice none 0 0) (.slice none 0 0) (.slice none 0 0) ZBlk).toArray HS66.out.ms (by rw[QVz _ _ _ _ _ _ Q6z Q6z rfl,HBL.out];omega) (by rw[List.size_toArray];exact QSz HBL.out) HBO_67.out.c.one ?_
 intro W68 hm68 hg68
 have hstz:=Stays.of_grown (S:=fun k=>k=z) hg68.out (fun k h=>by injection h with h;exact h.symm)
 have hsp:∀Ts,41∉Ts→Sep B Ts W66 (·=z):=fun Ts hT=>Qiz HS66.out.ms hT
 have X1d:=Lib.hid (X1c.out.stays hstz (fun e=>hzg e.symm))
 clear X1c
 have HS68:Hid (FSt D B g z b2 b3 w W68 0 s (Q8z (.int .i64 12) (u32 0#32) (u64 0#64) noHash noHash (.slice none 0 0) (.slice none 0 0) (.slice none 0 0) bc)):=Lib.hid (HS66.out.put hD.2 (by have h:=hm68.out;rw[msg_set70 _ _ _ _ _ _ _ _ Q6z Q6z ZBlk_len HBL.out]at h;exact h) hstz)
 have HBO_69:=Lib.hid (XTz B _ _ _ _ _ HBO_67.out hstz (hsp _ (by decide)))
 clear HBO_67
 clear HS66 hstz hsp hm68 hg68
 go_wp2_with fail
 refine Q2z (And.intro ⟨HS68.out.x2,HS68.out.x3,_,X1d.out⟩ ?_)
 refine' Q9z (s:=127) (A1:=_) [14,15,16] [_,_,_] _ rfl rfl rfl (fun W hW=>?hqc60) _ ⟨HS68.out.x2,HS68.out.x3,_,X1d.out⟩ (fun _=>?hrc60)
 case hqc60=>
  simp only[List.getElem_toArray,List.getElem_cons_zero,List.getElem_cons_succ]
  iterate 3 (go_big_quiet_step (fail))
  refine wpQuiet_nil ?_
  rfl
 case hrc60=>
 refine Qbz rfl fun k70=>?_
 have X1e:=Lib.hid (X1d.out.fut (Q0z W68 k70))
 clear X1d
 have hdr:Below W68.heap.size W68 (W68.drewN k70):=Q0z W68 k70
 have hstd:Stays (fun _=>False) W68 (W68.drewN k70):=Stays.of_below hdr (Nat.le_refl _) _
 have HBO_72:=Lib.hid (XTz B _ _ _ _ _ HBO_69.out hstd (fun _ h=>h.elim))
 clear HBO_69
 have HS71:=Lib.hid (HS68.out.fut hdr)
 clear HS68 hdr hstd
 generalize W68.drewN k70=W71 at*
 obtain⟨d0,d1,f0,f1⟩:=cell2 X1e.out
 go_wp2_with fail
 have hR:MRd 122 D B g (W71.setCell ⟨g,1,none⟩ (.int .i64 kd)) kd s:=by
  obtain⟨v,y1,y2,y3,y4,y5⟩:=HS71.out.rd
  exact MRd.mark y1 y2 y3 y4 y5
 have hstg:=Stays.set W71 g 1 (.int .i64 kd)
 have X1f:Hid (Blk (W71.setCell ⟨g,1,none⟩ (.int .i64 kd)) g 122 #[.slice pr nr cr,.int .i64 kd]):=Lib.hid (by have h:=X1e.out.set 1 (.int .i64 kd);simpa using h)
 have HBO_74:=Lib.hid (XTz B _ _ _ _ _ HBO_72.out hstg (Sep.low fun k hk=>by have:k=g:=hk;omega))
 clear HBO_72
 have HS73:=Lib.hid (HS71.out.call hR hstg)
 clear HS71 hR hstg X1e d0 d1 f0 f1
 generalize W71.setCell ⟨g,1,none⟩ (.int .i64 kd)=W73 at*
 refine Q2z (And.intro ⟨HS73.out.x2,HS73.out.x3,_,X1f.out⟩ ?_)
 refine Qnz fun k75=>NoPanic.normal ?_
 have X1g:=Lib.hid (X1f.out.fut (Q0z W73 k75))
 clear X1f
 have hdr:Below W73.heap.size W73 (W73.drewN k75):=Q0z W73 k75
 have hstd:Stays (fun _=>False) W73 (W73.drewN k75):=Stays.of_below hdr (Nat.le_refl _) _
 have HBO_77:=Lib.hid (XTz B _ _ _ _ _ HBO_74.out hstd (fun _ h=>h.elim))
 clear HBO_74
 have HS76:=Lib.hid (HS73.out.fut hdr)
 clear HS73 hdr hstd
 generalize W73.drewN k75=W76 at*
 obtain⟨d0,d1,f0,f1⟩:=cell2 X1g.out
 have c2:W76.cell? ⟨b2,0,none⟩=some (.pointer (some ⟨g,0,none⟩)):=by have:=HS76.out.x2.cell 0;simpa using this
 go_wp2_with fail
 first|go_end0|refine bodyPost_ret (results_none rfl _ _ _) rfl ?_
 have hR:MRd 122 D B g (W76.setCell ⟨g,0,none⟩ (.slice none 0 0)) kd []:=MRd.move X1g.out (Dat.ownD (Own8.nil _ _) hB.1) (by simp) hB.1 HS76.out.rd.gB.2
 have hstg:=Stays.set W76 g 0 (.slice none 0 0)
 have HBO_78:=Lib.hid (XTz B _ _ _ _ _ HBO_77.out hstg (Sep.low fun k hk=>by have:k=g:=hk;omega))
 clear HBO_77
 have HSz:=HS76.out.call hR hstg
 exact⟨rfl,{ noMsg with k:=12,bl:=bl },_,_,_,Lib.hid HSz.rd,Lib.hid HSz.ms,Lib.hid (⟨_,_,_,_,rfl,Q6z,Q6z,RowO.nil _ _ _ _ _,RowO.nil _ _ _ _ _,Own8.nil _ _,HBO_78.out⟩),Lib.hid HSz.st,Lib.hid (by rw[fz12];exact(body_step HX.out).bind (Step.ret _ _ _))⟩
end Go.Proofs.YtjbijcjcejfpcaaGreatDoor
