/- message.reader: fields, by kinds: the walks. -/
import Derived.Test.YtjbijcjcejfpcaaGreatDoorZMsgH
import Derived.Test.YtjbijcjcejfpcaaGreatDoorZStoreIn
import Derived.Test.YtjbijcjcejfpcaaGreatDoorZMsgC
namespace Go.Proofs.YtjbijcjcejfpcaaGreatDoor
set_option linter.unusedVariables false
set_option maxRecDepth 100000
set_option maxHeartbeats 16000000
open Go Go.RowKit
theorem RowO.opens {α:Type} {E:World→α→List Value→Prop} {T N B:Nat} {w:World} {v:Value} {xs:List α} (h:RowO E T N B w v xs):∃p n c,v= .slice p n c:=by
 obtain⟨css,_,h2,_⟩:=h
 obtain⟨p,c,e,_⟩:=QLz h2
 exact⟨_,_,_,e⟩
theorem msg_set1 (k nu no:Value) (pv st:Bs) (hv dv bv:Value) (bc:List Value) (x:Value):(Q8z k nu no pv st hv dv bv bc).toArray.setIfInBounds 1 x=(Q8z k x no pv st hv dv bv bc).toArray:=rfl
theorem msg_set2 (k nu no:Value) (pv st:Bs) (hv dv bv:Value) (bc:List Value) (x:Value):(Q8z k nu no pv st hv dv bv bc).toArray.setIfInBounds 2 x=(Q8z k nu x pv st hv dv bv bc).toArray:=rfl
theorem QMz {x:Bs} (h:x.length=32):(Q5z x).length=32:=by simp[Q5z,h]
theorem msg_set3 (k nu no:Value) {pv pv':Bs} (st:Bs) (hv dv bv:Value) (bc:List Value) (h:pv.length=32) (h':pv'.length=32):Z5z (Q8z k nu no pv st hv dv bv bc).toArray 3 (Q5z pv')=(Q8z k nu no pv' st hv dv bv bc).toArray:=
 setAll_mid (Q5z pv') [k,nu,no] (Q5z pv) _ (by rw[QMz h,QMz h'])
theorem msg_set35 (k nu no:Value) {pv st st':Bs} (hv dv bv:Value) (bc:List Value) (h:pv.length=32) (h1:st.length=32) (h':st'.length=32):Z5z (Q8z k nu no pv st hv dv bv bc).toArray 35 (Q5z st')=(Q8z k nu no pv st' hv dv bv bc).toArray:=by
 have e:∀st:Bs,Q8z k nu no pv st hv dv bv bc=([k,nu,no]++Q5z pv)++(Q5z st++([hv,dv,bv]++bc)):=fun st=>by unfold Q8z;simp
 have:=setAll_mid (Q5z st') ([k,nu,no]++Q5z pv) (Q5z st) ([hv,dv,bv]++bc) (by rw[QMz h1,QMz h'])
 rw[show([k,nu,no]++Q5z pv).length=35 by simp[Q5z,h]]at this
 rw[e st,e st']
 exact this
theorem msg_set67 (k nu no:Value) {pv st:Bs} (hv dv bv:Value) (bc:List Value) (h:pv.length=32) (h1:st.length=32) (x:Value):(Q8z k nu no pv st hv dv bv bc).toArray.setIfInBounds 67 x=(Q8z k nu no pv st x dv bv bc).toArray:=by
 have e:∀hv,Q8z k nu no pv st hv dv bv bc=([k,nu,no]++(Q5z pv++Q5z st))++hv ::(dv ::bv ::bc):=fun hv=>by unfold Q8z;simp
 have:=set_midL ([k,nu,no]++(Q5z pv++Q5z st)) (dv ::bv ::bc) hv x
 rw[show([k,nu,no]++(Q5z pv++Q5z st)).length=67 by simp[Q5z,h,h1]]at this
 rw[e hv,e x]
 exact this
theorem msg_set68 (k nu no:Value) {pv st:Bs} (hv dv bv:Value) (bc:List Value) (h:pv.length=32) (h1:st.length=32) (x:Value):(Q8z k nu no pv st hv dv bv bc).toArray.setIfInBounds 68 x=(Q8z k nu no pv st hv x bv bc).toArray:=by
 have e:∀dv,Q8z k nu no pv st hv dv bv bc=([k,nu,no]++(Q5z pv++(Q5z st++[hv])))++dv ::(bv ::bc):=fun hv=>by unfold Q8z;simp
 have:=set_midL ([k,nu,no]++(Q5z pv++(Q5z st++[hv]))) (bv ::bc) dv x
 rw[show([k,nu,no]++(Q5z pv++(Q5z st++[hv]))).length=68 by simp[Q5z,h,h1]]at this
 rw[e dv,e x]
 exact this
theorem msg_set69 (k nu no:Value) {pv st:Bs} (hv dv bv:Value) (bc:List Value) (h:pv.length=32) (h1:st.length=32) (x:Value):(Q8z k nu no pv st hv dv bv bc).toArray.setIfInBounds 69 x=(Q8z k nu no pv st hv dv x bc).toArray:=by
 have e:∀bv,Q8z k nu no pv st hv dv bv bc=([k,nu,no]++(Q5z pv++(Q5z st++[hv,dv])))++bv ::bc:=fun hv=>by unfold Q8z;simp
 have:=set_midL ([k,nu,no]++(Q5z pv++(Q5z st++[hv,dv]))) bc bv x
 rw[show([k,nu,no]++(Q5z pv++(Q5z st++[hv,dv]))).length=69 by simp[Q5z,h,h1]]at this
 rw[e bv,e x]
 exact this
theorem msg_set70 (k nu no:Value) {pv st:Bs} (hv dv bv:Value) (bc bc':List Value) (h:pv.length=32) (h1:st.length=32) (hb:bc.length=69) (hb':bc'.length=69):Z5z (Q8z k nu no pv st hv dv bv bc).toArray 70 bc'=(Q8z k nu no pv st hv dv bv bc').toArray:=by
 have e:∀bc:List Value,Q8z k nu no pv st hv dv bv bc=([k,nu,no]++(Q5z pv++(Q5z st++[hv,dv,bv])))++(bc++[]):=fun st=>by unfold Q8z;simp
 have:=setAll_mid bc' ([k,nu,no]++(Q5z pv++(Q5z st++[hv,dv,bv]))) bc [] (by rw[hb,hb'])
 rw[show([k,nu,no]++(Q5z pv++(Q5z st++[hv,dv,bv]))).length=70 by simp[Q5z,h,h1]]at this
 rw[e bc,e bc']
 exact this
theorem Q6z:noHash.length=32:=rfl
theorem QVz (k nu no:Value) {pv st:Bs} (hv dv bv:Value) {bc:List Value} (h1:pv.length=32) (h2:st.length=32) (h3:bc.length=69):(Q8z k nu no pv st hv dv bv bc).toArray.size=139:=by rw[List.size_toArray];exact msgCells_len _ _ _ _ _ _ h1 h2 h3
def msgZ (k:Int):List Value:=Q8z (.int .i64 k) (u32 0#32) (u64 0#64) noHash noHash (.slice none 0 0) (.slice none 0 0) (.slice none 0 0) ZBlk
structure FSt (D B g z b2 b3:Nat) (w W:World) (er:Int) (s:Bs) (cs:List Value):Prop where
 rd:MRd 122 D B g W er s
 x2:Blk W b2 118 #[.pointer (some ⟨g,0,none⟩)]
 x3:Blk W b3 124 #[.pointer (some ⟨z,0,none⟩)]
 ms:Blk W z 41 cs.toArray
 st:Stays (fun k=>k=g∨k=z) w W
theorem FSt.ne {D B g z b2 b3:Nat} {w W:World} {er:Int} {s:Bs} {cs:List Value} (h:FSt D B g z b2 b3 w W er s cs):b2≠g∧b3≠g∧z≠g∧b2≠z∧b3≠z:=by
 obtain⟨⟨_,hg,_⟩,x2,x3,ms,_⟩:=h
 refine⟨fun e=>?_,fun e=>?_,fun e=>?_,fun e=>?_,fun e=>?_⟩
 ·rw[e]at x2;exact absurd (x2.inj hg).1 (by decide)
 ·rw[e]at x3;exact absurd (x3.inj hg).1 (by decide)
 ·rw[e]at ms;exact absurd (ms.inj hg).1 (by decide)
 ·rw[e]at x2;exact absurd (x2.inj ms).1 (by decide)
 ·rw[e]at x3;exact absurd (x3.inj ms).1 (by decide)
theorem FSt.call {D B g z b2 b3:Nat} {w W W':World} {er er':Int} {s r:Bs} {cs:List Value} (h:FSt D B g z b2 b3 w W er s cs) (hr:MRd 122 D B g W' er' r) (hs:Stays (·=g) W W'):FSt D B g z b2 b3 w W' er' r cs:=by
 obtain⟨n1,n2,n3,_,_⟩:=h.ne
 exact⟨hr,h.x2.stays hs n1,h.x3.stays hs n2,h.ms.stays hs n3,h.st.trans hs fun k _ h=>.inl h⟩
theorem FSt.fut {D B g z b2 b3:Nat} {w W W':World} {er:Int} {s:Bs} {cs:List Value} (h:FSt D B g z b2 b3 w W er s cs) (hb:Below W.heap.size W W'):FSt D B g z b2 b3 w W' er s cs:=h.call (h.rd.fut hb) (Stays.of_below hb (Nat.le_refl _) _)
theorem FSt.put {D B g z b2 b3:Nat} {w W W':World} {er:Int} {s:Bs} {cs cs':List Value} (h:FSt D B g z b2 b3 w W er s cs) (hD:D≤z) (hm:Blk W' z 41 cs'.toArray) (hs:Stays (·=z) W W'):FSt D B g z b2 b3 w W' er s cs':=by
 obtain⟨_,_,n3,n4,n5⟩:=h.ne
 exact⟨h.rd.stays hs (fun k hk=>.inr ⟨(show k=z from hk)▸hD,_,_,(show k=z from hk)▸h.ms,by decide⟩) (fun e=>n3 e.symm),h.x2.stays hs n4,h.x3.stays hs n5,hm,h.st.trans hs fun k _ h=>.inr h⟩
def Xkz (D B g z:Nat) (w:World) (p:Pz TMsg) (s:Bs) (e:Ending) (w':World):Prop:=e= .returned (.tuple #[])∧∃m cs er r,Hid (MRd 122 D B g w' er r)∧Hid (Blk w' z 41 cs.toArray)∧Hid (MsgO B w' m cs)∧Hid (Stays (fun k=>k=g∨k=z) w w')∧Hid (Step p 0 s m er r)
theorem fields_k2 (D B g z:Nat) (hD:D≤B∧D≤z) (hB:g<B∧z<B) (w:World) (s:Bs) (hr:MRd 122 D B g w 0 s) (hm:Blk w z 41 (msgZ 2).toArray):
 Calls Tryz.prog 47 #[.pointer (some ⟨g,0,none⟩),.pointer (some ⟨z,0,none⟩)] w (Xkz D B g z w (QCz 2) s):=by
 obtain⟨b2,h2⟩:∃b,b=w.heap.size:=⟨_,rfl⟩
 obtain⟨V1,hV1⟩:∃W,W=w.alloc (.cells #[.pointer (some ⟨g,0,none⟩)] 118):=⟨_,rfl⟩
 obtain⟨V2,hV2⟩:∃W,W=V1.alloc (.cells #[.pointer (some ⟨z,0,none⟩)] 124):=⟨_,rfl⟩
 have z1:V1.heap.size=b2+1:=by rw[hV1,World.size_alloc,h2]
 have k1:Below w.heap.size w V1:=by rw[hV1];exact Q1z w _
 have k2:Below V1.heap.size V1 V2:=by rw[hV2];exact Q1z V1 _
 have k02:=Q3z k1 k2 (Nat.le_refl _)
 obtain⟨b3,h3⟩:∃b,b=b2+1:=⟨_,rfl⟩
 have HS0:Hid (FSt D B g z b2 b3 w V2 0 s (Q8z (.int .i64 2) (u32 0#32) (u64 0#64) noHash noHash (.slice none 0 0) (.slice none 0 0) (.slice none 0 0) ZBlk)):=Lib.hid ⟨hr.fut k02,(show Blk V1 b2 _ _ by rw[hV1,h2];exact Blk.new w _ _).fut k2,(by rw[hV2,h3,← z1];exact Blk.new V1 _ _),hm.fut k02,Stays.of_below k02 (Nat.le_refl _) _⟩
 have c3:V2.cell? ⟨b3,0,none⟩=some (.pointer (some ⟨z,0,none⟩)):=by have:=HS0.out.x3.cell 0;simpa using this
 have cz:V2.cell? ⟨z,0,none⟩=some (.int .i64 2):=by have:=HS0.out.ms.cell 0;rw[List.getElem?_toArray]at this;exact this
 have hzg:z≠g:=HS0.out.ne.2.2.1
 clear k1 k2 k02 z1 hr hm
 go_enter Tryz.func47,Tryz.ntmps47
 go_upto_region 1 with fail
 rw[←hV1,← hV2,← h2,← h3]
 clear hV1 hV2 h2 h3
 go_upto_region 2 with fail
 clear c3 cz
 go_wp2_with fail
 first|go_end0|refine bodyPost_ret (results_none rfl _ _ _) rfl ?_
 exact⟨rfl,{ noMsg with k:=2 },_,_,_,Lib.hid HS0.out.rd,Lib.hid HS0.out.ms,Lib.hid (⟨_,_,_,_,rfl,Q6z,Q6z,RowO.nil _ _ _ _ _,RowO.nil _ _ _ _ _,Own8.nil _ _,⟨.slice none 0 0,rfl,QGz,RowO.nil _ _ _ _ _⟩⟩),Lib.hid HS0.out.st,Lib.hid (by rw[show QCz 2=Pz.ret { noMsg with k:=2 } from rfl];exact Step.ret _ _ _)⟩
theorem fields_k3 (D B g z:Nat) (hD:D≤B∧D≤z) (hB:g<B∧z<B) (w:World) (s:Bs) (hr:MRd 122 D B g w 0 s) (hm:Blk w z 41 (msgZ 3).toArray):
 Calls Tryz.prog 47 #[.pointer (some ⟨g,0,none⟩),.pointer (some ⟨z,0,none⟩)] w (Xkz D B g z w (QCz 3) s):=by
 obtain⟨b2,h2⟩:∃b,b=w.heap.size:=⟨_,rfl⟩
 obtain⟨V1,hV1⟩:∃W,W=w.alloc (.cells #[.pointer (some ⟨g,0,none⟩)] 118):=⟨_,rfl⟩
 obtain⟨V2,hV2⟩:∃W,W=V1.alloc (.cells #[.pointer (some ⟨z,0,none⟩)] 124):=⟨_,rfl⟩
 have z1:V1.heap.size=b2+1:=by rw[hV1,World.size_alloc,h2]
 have k1:Below w.heap.size w V1:=by rw[hV1];exact Q1z w _
 have k2:Below V1.heap.size V1 V2:=by rw[hV2];exact Q1z V1 _
 have k02:=Q3z k1 k2 (Nat.le_refl _)
 obtain⟨b3,h3⟩:∃b,b=b2+1:=⟨_,rfl⟩
 have HS0:Hid (FSt D B g z b2 b3 w V2 0 s (Q8z (.int .i64 3) (u32 0#32) (u64 0#64) noHash noHash (.slice none 0 0) (.slice none 0 0) (.slice none 0 0) ZBlk)):=Lib.hid ⟨hr.fut k02,(show Blk V1 b2 _ _ by rw[hV1,h2];exact Blk.new w _ _).fut k2,(by rw[hV2,h3,← z1];exact Blk.new V1 _ _),hm.fut k02,Stays.of_below k02 (Nat.le_refl _) _⟩
 have c3:V2.cell? ⟨b3,0,none⟩=some (.pointer (some ⟨z,0,none⟩)):=by have:=HS0.out.x3.cell 0;simpa using this
 have cz:V2.cell? ⟨z,0,none⟩=some (.int .i64 3):=by have:=HS0.out.ms.cell 0;rw[List.getElem?_toArray]at this;exact this
 have hzg:z≠g:=HS0.out.ne.2.2.1
 clear k1 k2 k02 z1 hr hm
 go_enter Tryz.func47,Tryz.ntmps47
 go_upto_region 1 with fail
 rw[←hV1,← hV2,← h2,← h3]
 clear hV1 hV2 h2 h3
 go_upto_region 2 with fail
 clear c3 cz
 go_upto_region 6 with fail
 refine Qdz [qq 0,qq 1,oo 2,qq 3,qq 4] 5 (fun W=>Blk W b2 118 #[.pointer (some ⟨g,0,none⟩)]∧Blk W b3 124 #[.pointer (some ⟨z,0,none⟩)]) (by kernel_rfl) (by kernel_rfl) ⟨HS0.out.x2.fut (Q0z V2 1),HS0.out.x3.fut (Q0z V2 1)⟩ ?_
 refine' Q9z (s:=127) (A1:=_) [0,1] [_,_] _ rfl rfl rfl (fun W hW=>?hqa1) _ ⟨HS0.out.x2.fut (Q0z V2 1),HS0.out.x3.fut (Q0z V2 1)⟩ (fun _=>?hra1)
 case hqa1=>
  have e2:∀k,(W.drewN k).cell? ⟨b2,0,none⟩=some (.pointer (some ⟨g,0,none⟩)):=fun k=>by have:=hW.1.cell 0;simpa using this
  have e3:∀k,(W.drewN k).cell? ⟨b3,0,none⟩=some (.pointer (some ⟨z,0,none⟩)):=fun k=>by have:=hW.2.cell 0;simpa using this
  simp only[List.getElem_toArray,List.getElem_cons_zero,List.getElem_cons_succ]
  iterate 2 (go_big_quiet_step (fail))
  refine wpQuiet_nil ?_
  rfl
 case hra1=>
 refine Qbz rfl fun k2=>?_
 have hdr:Below V2.heap.size V2 (V2.drew.drewN k2):=Q7z (Below.refl _ _).drew k2
 have hstd:Stays (fun _=>False) V2 (V2.drew.drewN k2):=Stays.of_below hdr (Nat.le_refl _) _
 have HS3:=Lib.hid (HS0.out.fut hdr)
 clear HS0 hdr hstd
 generalize V2.drew.drewN k2=W3 at*
 go_wp2_with fail
 refine(mNum_any D B g 8 (by omega) W3 0 s HS3.out.rd).mono ?_
 rintro e W5 ⟨vv5,a5,er5,r5,rfl,rfl,HR5,HT5a,HT5⟩
 have HS5:=Lib.hid (HS3.out.call HR5.out HT5a.out)
 clear HS3 HR5
 go_wp2_with fail
 refine Q2z (And.intro ⟨HS5.out.x2,HS5.out.x3⟩ ?_)
 refine' Q9z (s:=127) (A1:=_) (r:=[]) [3,4] [_,_] _ rfl rfl rfl (fun W hW=>?hqb1) _ ⟨HS5.out.x2,HS5.out.x3⟩ (fun _=>?hrb1)
 case hqb1=>
  simp only[List.getElem_toArray,List.getElem_cons_zero,List.getElem_cons_succ]
  iterate 2 (go_big_quiet_step (fail))
  refine wpQuiet_nil ?_
  rfl
 case hrb1=>
 refine Qnz fun k7=>HeadQ.normal ?_
 have hdr:Below W5.heap.size W5 (W5.drewN k7):=Q0z W5 k7
 have hstd:Stays (fun _=>False) W5 (W5.drewN k7):=Stays.of_below hdr (Nat.le_refl _) _
 have HS8:=Lib.hid (HS5.out.fut hdr)
 clear HS5 hdr hstd
 generalize W5.drewN k7=W8 at*
 have MA:=HS8.out.ms.msg Q6z Q6z
 have cz:=MA.c2
 have fz:=HS8.out.ms.frozen 2
 clear MA
 go_wp2_with fail
 have hstz:=Stays.set W8 z 2 (.int .u64 (iv64 a5))
 have hsp:∀Ts,41∉Ts→Sep B Ts W8 (·=z):=fun Ts hT=>Qiz HS8.out.ms hT
 have HS10:Hid (FSt D B g z b2 b3 w (W8.setCell ⟨z,2,none⟩ (.int .u64 (iv64 a5))) er5 r5 (Q8z (.int .i64 3) (u32 0#32) (.int .u64 (iv64 a5)) noHash noHash (.slice none 0 0) (.slice none 0 0) (.slice none 0 0) ZBlk)):=Lib.hid (HS8.out.put hD.2 (by have h:=HS8.out.ms.set 2 (.int .u64 (iv64 a5));rw[msg_set2 _ _ _ _ _ _ _ _ _]at h;exact h) hstz)
 clear HS8 cz fz hstz hsp
 generalize W8.setCell ⟨z,2,none⟩ (.int .u64 (iv64 a5))=W10 at*
 first|go_end0|refine bodyPost_ret (results_none rfl _ _ _) rfl ?_
 exact⟨rfl,{ noMsg with k:=3,no:=a5 },_,_,_,Lib.hid HS10.out.rd,Lib.hid HS10.out.ms,Lib.hid (⟨_,_,_,_,rfl,Q6z,Q6z,RowO.nil _ _ _ _ _,RowO.nil _ _ _ _ _,Own8.nil _ _,⟨.slice none 0 0,rfl,QGz,RowO.nil _ _ _ _ _⟩⟩),Lib.hid HS10.out.st,Lib.hid (by rw[show QCz 3=(numZ 8).bind fun no=>Pz.ret { noMsg with k:=3,no:=no } from rfl];exact(HT5.out).bind (Step.ret _ _ _))⟩
theorem fields_k4 (D B g z:Nat) (hD:D≤B∧D≤z) (hB:g<B∧z<B) (w:World) (s:Bs) (hr:MRd 122 D B g w 0 s) (hm:Blk w z 41 (msgZ 4).toArray):
 Calls Tryz.prog 47 #[.pointer (some ⟨g,0,none⟩),.pointer (some ⟨z,0,none⟩)] w (Xkz D B g z w (QCz 4) s):=by
 obtain⟨b2,h2⟩:∃b,b=w.heap.size:=⟨_,rfl⟩
 obtain⟨V1,hV1⟩:∃W,W=w.alloc (.cells #[.pointer (some ⟨g,0,none⟩)] 118):=⟨_,rfl⟩
 obtain⟨V2,hV2⟩:∃W,W=V1.alloc (.cells #[.pointer (some ⟨z,0,none⟩)] 124):=⟨_,rfl⟩
 have z1:V1.heap.size=b2+1:=by rw[hV1,World.size_alloc,h2]
 have k1:Below w.heap.size w V1:=by rw[hV1];exact Q1z w _
 have k2:Below V1.heap.size V1 V2:=by rw[hV2];exact Q1z V1 _
 have k02:=Q3z k1 k2 (Nat.le_refl _)
 obtain⟨b3,h3⟩:∃b,b=b2+1:=⟨_,rfl⟩
 have HS0:Hid (FSt D B g z b2 b3 w V2 0 s (Q8z (.int .i64 4) (u32 0#32) (u64 0#64) noHash noHash (.slice none 0 0) (.slice none 0 0) (.slice none 0 0) ZBlk)):=Lib.hid ⟨hr.fut k02,(show Blk V1 b2 _ _ by rw[hV1,h2];exact Blk.new w _ _).fut k2,(by rw[hV2,h3,← z1];exact Blk.new V1 _ _),hm.fut k02,Stays.of_below k02 (Nat.le_refl _) _⟩
 have c3:V2.cell? ⟨b3,0,none⟩=some (.pointer (some ⟨z,0,none⟩)):=by have:=HS0.out.x3.cell 0;simpa using this
 have cz:V2.cell? ⟨z,0,none⟩=some (.int .i64 4):=by have:=HS0.out.ms.cell 0;rw[List.getElem?_toArray]at this;exact this
 have hzg:z≠g:=HS0.out.ne.2.2.1
 clear k1 k2 k02 z1 hr hm
 go_enter Tryz.func47,Tryz.ntmps47
 go_upto_region 1 with fail
 rw[←hV1,← hV2,← h2,← h3]
 clear hV1 hV2 h2 h3
 go_upto_region 2 with fail
 clear c3 cz
 go_upto_region 6 with fail
 refine Qdz [qq 0,qq 1,oo 2,qq 3,qq 4] 5 (fun W=>Blk W b2 118 #[.pointer (some ⟨g,0,none⟩)]∧Blk W b3 124 #[.pointer (some ⟨z,0,none⟩)]) (by kernel_rfl) (by kernel_rfl) ⟨HS0.out.x2.fut (Q0z V2 1),HS0.out.x3.fut (Q0z V2 1)⟩ ?_
 refine' Q9z (s:=127) (A1:=_) [0,1] [_,_] _ rfl rfl rfl (fun W hW=>?hqa12) _ ⟨HS0.out.x2.fut (Q0z V2 1),HS0.out.x3.fut (Q0z V2 1)⟩ (fun _=>?hra12)
 case hqa12=>
  have e2:∀k,(W.drewN k).cell? ⟨b2,0,none⟩=some (.pointer (some ⟨g,0,none⟩)):=fun k=>by have:=hW.1.cell 0;simpa using this
  have e3:∀k,(W.drewN k).cell? ⟨b3,0,none⟩=some (.pointer (some ⟨z,0,none⟩)):=fun k=>by have:=hW.2.cell 0;simpa using this
  simp only[List.getElem_toArray,List.getElem_cons_zero,List.getElem_cons_succ]
  iterate 2 (go_big_quiet_step (fail))
  refine wpQuiet_nil ?_
  rfl
 case hra12=>
 refine Qbz rfl fun k13=>?_
 have hdr:Below V2.heap.size V2 (V2.drew.drewN k13):=Q7z (Below.refl _ _).drew k13
 have hstd:Stays (fun _=>False) V2 (V2.drew.drewN k13):=Stays.of_below hdr (Nat.le_refl _) _
 have HS14:=Lib.hid (HS0.out.fut hdr)
 clear HS0 hdr hstd
 generalize V2.drew.drewN k13=W14 at*
 go_wp2_with fail
 refine(mNum_any D B g 8 (by omega) W14 0 s HS14.out.rd).mono ?_
 rintro e W16 ⟨vv16,a16,er16,r16,rfl,rfl,HR16,HT16a,HT16⟩
 have HS16:=Lib.hid (HS14.out.call HR16.out HT16a.out)
 clear HS14 HR16
 go_wp2_with fail
 refine Q2z (And.intro ⟨HS16.out.x2,HS16.out.x3⟩ ?_)
 refine' Q9z (s:=127) (A1:=_) (r:=[]) [3,4] [_,_] _ rfl rfl rfl (fun W hW=>?hqb12) _ ⟨HS16.out.x2,HS16.out.x3⟩ (fun _=>?hrb12)
 case hqb12=>
  simp only[List.getElem_toArray,List.getElem_cons_zero,List.getElem_cons_succ]
  iterate 2 (go_big_quiet_step (fail))
  refine wpQuiet_nil ?_
  rfl
 case hrb12=>
 refine Qnz fun k18=>HeadQ.normal ?_
 have hdr:Below W16.heap.size W16 (W16.drewN k18):=Q0z W16 k18
 have hstd:Stays (fun _=>False) W16 (W16.drewN k18):=Stays.of_below hdr (Nat.le_refl _) _
 have HS19:=Lib.hid (HS16.out.fut hdr)
 clear HS16 hdr hstd
 generalize W16.drewN k18=W19 at*
 have MA:=HS19.out.ms.msg Q6z Q6z
 have cz:=MA.c2
 have fz:=HS19.out.ms.frozen 2
 clear MA
 go_wp2_with fail
 have hstz:=Stays.set W19 z 2 (.int .u64 (iv64 a16))
 have hsp:∀Ts,41∉Ts→Sep B Ts W19 (·=z):=fun Ts hT=>Qiz HS19.out.ms hT
 have HS21:Hid (FSt D B g z b2 b3 w (W19.setCell ⟨z,2,none⟩ (.int .u64 (iv64 a16))) er16 r16 (Q8z (.int .i64 4) (u32 0#32) (.int .u64 (iv64 a16)) noHash noHash (.slice none 0 0) (.slice none 0 0) (.slice none 0 0) ZBlk)):=Lib.hid (HS19.out.put hD.2 (by have h:=HS19.out.ms.set 2 (.int .u64 (iv64 a16));rw[msg_set2 _ _ _ _ _ _ _ _ _]at h;exact h) hstz)
 clear HS19 cz fz hstz hsp
 generalize W19.setCell ⟨z,2,none⟩ (.int .u64 (iv64 a16))=W21 at*
 first|go_end0|refine bodyPost_ret (results_none rfl _ _ _) rfl ?_
 exact⟨rfl,{ noMsg with k:=4,no:=a16 },_,_,_,Lib.hid HS21.out.rd,Lib.hid HS21.out.ms,Lib.hid (⟨_,_,_,_,rfl,Q6z,Q6z,RowO.nil _ _ _ _ _,RowO.nil _ _ _ _ _,Own8.nil _ _,⟨.slice none 0 0,rfl,QGz,RowO.nil _ _ _ _ _⟩⟩),Lib.hid HS21.out.st,Lib.hid (by rw[show QCz 4=(numZ 8).bind fun no=>Pz.ret { noMsg with k:=4,no:=no } from rfl];exact(HT16.out).bind (Step.ret _ _ _))⟩
theorem fields_k5 (D B g z:Nat) (hD:D≤B∧D≤z) (hB:g<B∧z<B) (w:World) (s:Bs) (hr:MRd 122 D B g w 0 s) (hm:Blk w z 41 (msgZ 5).toArray):
 Calls Tryz.prog 47 #[.pointer (some ⟨g,0,none⟩),.pointer (some ⟨z,0,none⟩)] w (Xkz D B g z w (QCz 5) s):=by
 obtain⟨b2,h2⟩:∃b,b=w.heap.size:=⟨_,rfl⟩
 obtain⟨V1,hV1⟩:∃W,W=w.alloc (.cells #[.pointer (some ⟨g,0,none⟩)] 118):=⟨_,rfl⟩
 obtain⟨V2,hV2⟩:∃W,W=V1.alloc (.cells #[.pointer (some ⟨z,0,none⟩)] 124):=⟨_,rfl⟩
 have z1:V1.heap.size=b2+1:=by rw[hV1,World.size_alloc,h2]
 have k1:Below w.heap.size w V1:=by rw[hV1];exact Q1z w _
 have k2:Below V1.heap.size V1 V2:=by rw[hV2];exact Q1z V1 _
 have k02:=Q3z k1 k2 (Nat.le_refl _)
 obtain⟨b3,h3⟩:∃b,b=b2+1:=⟨_,rfl⟩
 have HS0:Hid (FSt D B g z b2 b3 w V2 0 s (Q8z (.int .i64 5) (u32 0#32) (u64 0#64) noHash noHash (.slice none 0 0) (.slice none 0 0) (.slice none 0 0) ZBlk)):=Lib.hid ⟨hr.fut k02,(show Blk V1 b2 _ _ by rw[hV1,h2];exact Blk.new w _ _).fut k2,(by rw[hV2,h3,← z1];exact Blk.new V1 _ _),hm.fut k02,Stays.of_below k02 (Nat.le_refl _) _⟩
 have c3:V2.cell? ⟨b3,0,none⟩=some (.pointer (some ⟨z,0,none⟩)):=by have:=HS0.out.x3.cell 0;simpa using this
 have cz:V2.cell? ⟨z,0,none⟩=some (.int .i64 5):=by have:=HS0.out.ms.cell 0;rw[List.getElem?_toArray]at this;exact this
 have hzg:z≠g:=HS0.out.ne.2.2.1
 clear k1 k2 k02 z1 hr hm
 go_enter Tryz.func47,Tryz.ntmps47
 go_upto_region 1 with fail
 rw[←hV1,← hV2,← h2,← h3]
 clear hV1 hV2 h2 h3
 go_upto_region 2 with fail
 clear c3 cz
 go_upto_region 8 with fail
 refine Qdz [qq 0,qq 1,oo 2,qq 3,qq 4,qq 5] 6 (fun W=>Blk W b2 118 #[.pointer (some ⟨g,0,none⟩)]∧Blk W b3 124 #[.pointer (some ⟨z,0,none⟩)]) (by kernel_rfl) (by kernel_rfl) ⟨HS0.out.x2.fut (Q0z V2 1),HS0.out.x3.fut (Q0z V2 1)⟩ ?_
 refine' Q9z (s:=127) (A1:=_) [0,1] [_,_] _ rfl rfl rfl (fun W hW=>?hqa23) _ ⟨HS0.out.x2.fut (Q0z V2 1),HS0.out.x3.fut (Q0z V2 1)⟩ (fun _=>?hra23)
 case hqa23=>
  have e2:∀k,(W.drewN k).cell? ⟨b2,0,none⟩=some (.pointer (some ⟨g,0,none⟩)):=fun k=>by have:=hW.1.cell 0;simpa using this
  have e3:∀k,(W.drewN k).cell? ⟨b3,0,none⟩=some (.pointer (some ⟨z,0,none⟩)):=fun k=>by have:=hW.2.cell 0;simpa using this
  simp only[List.getElem_toArray,List.getElem_cons_zero,List.getElem_cons_succ]
  iterate 2 (go_big_quiet_step (fail))
  refine wpQuiet_nil ?_
  rfl
 case hra23=>
 refine Qbz rfl fun k24=>?_
 have hdr:Below V2.heap.size V2 (V2.drew.drewN k24):=Q7z (Below.refl _ _).drew k24
 have hstd:Stays (fun _=>False) V2 (V2.drew.drewN k24):=Stays.of_below hdr (Nat.le_refl _) _
 have HS25:=Lib.hid (HS0.out.fut hdr)
 clear HS0 hdr hstd
 generalize V2.drew.drewN k24=W25 at*
 go_wp2_with fail
 refine(mNum_any D B g 4 (by omega) W25 0 s HS25.out.rd).mono ?_
 rintro e W27 ⟨vv27,a27,er27,r27,rfl,rfl,HR27,HT27a,HT27⟩
 have HS27:=Lib.hid (HS25.out.call HR27.out HT27a.out)
 clear HS25 HR27
 have hcut:=Xoz a27
 go_wp2_with fail
 refine Q2z (And.intro ⟨HS27.out.x2,HS27.out.x3⟩ ?_)
 refine' Q9z (s:=127) (A1:=_) (r:=[]) [3,4,5] [_,_,_] _ rfl rfl rfl (fun W hW=>?hqb23) _ ⟨HS27.out.x2,HS27.out.x3⟩ (fun _=>?hrb23)
 case hqb23=>
  simp only[List.getElem_toArray,List.getElem_cons_zero,List.getElem_cons_succ]
  iterate 3 (go_big_quiet_step (fail))
  refine wpQuiet_nil ?_
  rfl
 case hrb23=>
 refine Qnz fun k29=>HeadQ.normal ?_
 have hdr:Below W27.heap.size W27 (W27.drewN k29):=Q0z W27 k29
 have hstd:Stays (fun _=>False) W27 (W27.drewN k29):=Stays.of_below hdr (Nat.le_refl _) _
 have HS30:=Lib.hid (HS27.out.fut hdr)
 clear HS27 hdr hstd
 generalize W27.drewN k29=W30 at*
 have MA:=HS30.out.ms.msg Q6z Q6z
 have cz:=MA.c1
 have fz:=HS30.out.ms.frozen 1
 clear MA
 go_upto_region 9 with fail
 have hstz:=Stays.set W30 z 1 (.int .u32 (iv32 (a27.setWidth 32)))
 have hsp:∀Ts,41∉Ts→Sep B Ts W30 (·=z):=fun Ts hT=>Qiz HS30.out.ms hT
 have HS32:Hid (FSt D B g z b2 b3 w (W30.setCell ⟨z,1,none⟩ (.int .u32 (iv32 (a27.setWidth 32)))) er27 r27 (Q8z (.int .i64 5) (.int .u32 (iv32 (a27.setWidth 32))) (u64 0#64) noHash noHash (.slice none 0 0) (.slice none 0 0) (.slice none 0 0) ZBlk)):=Lib.hid (HS30.out.put hD.2 (by have h:=HS30.out.ms.set 1 (.int .u32 (iv32 (a27.setWidth 32)));rw[msg_set1 _ _ _ _ _ _ _ _ _]at h;exact h) hstz)
 clear HS30 cz fz hstz hsp
 generalize W30.setCell ⟨z,1,none⟩ (.int .u32 (iv32 (a27.setWidth 32)))=W32 at*
 clear hcut
 go_upto_region 9 with fail
 refine Qdz [qq 0,qq 1,oo 2,qq 3,qq 4] 5 (fun W=>Blk W b2 118 #[.pointer (some ⟨g,0,none⟩)]∧Blk W b3 124 #[.pointer (some ⟨z,0,none⟩)]) (by kernel_rfl) (by kernel_rfl) ⟨HS32.out.x2.fut (Q0z W32 1),HS32.out.x3.fut (Q0z W32 1)⟩ ?_
 refine' Q9z (s:=127) (A1:=_) [0,1] [_,_] _ rfl rfl rfl (fun W hW=>?hqa34) _ ⟨HS32.out.x2.fut (Q0z W32 1),HS32.out.x3.fut (Q0z W32 1)⟩ (fun _=>?hra34)
 case hqa34=>
  have e2:∀k,(W.drewN k).cell? ⟨b2,0,none⟩=some (.pointer (some ⟨g,0,none⟩)):=fun k=>by have:=hW.1.cell 0;simpa using this
  have e3:∀k,(W.drewN k).cell? ⟨b3,0,none⟩=some (.pointer (some ⟨z,0,none⟩)):=fun k=>by have:=hW.2.cell 0;simpa using this
  simp only[List.getElem_toArray,List.getElem_cons_zero,List.getElem_cons_succ]
  iterate 2 (go_big_quiet_step (fail))
  refine wpQuiet_nil ?_
  rfl
 case hra34=>
 refine Qbz rfl fun k35=>?_
 have hdr:Below W32.heap.size W32 (W32.drew.drewN k35):=Q7z (Below.refl _ _).drew k35
 have hstd:Stays (fun _=>False) W32 (W32.drew.drewN k35):=Stays.of_below hdr (Nat.le_refl _) _
 have HS36:=Lib.hid (HS32.out.fut hdr)
 clear HS32 hdr hstd
 generalize W32.drew.drewN k35=W36 at*
 go_wp2_with fail
 refine(mHashes_any D B g 101 hD.1 (by omega) W36 er27 r27 none 0 0 [] HS36.out.rd (AheadB.nil _) rfl (by simp)).mono ?_
 rintro e W38 ⟨vv38,a38,er38,r38,rfl,hv38,HR38,HT38a,HT38⟩
 have HS38:=Lib.hid (HS36.out.call HR38.out HT38a.out)
 clear HS36 HR38
 have HV38:=Lib.hid hv38
 clear hv38
 obtain⟨ph38,nh38,ch38,rfl⟩:=HV38.out.opens
 go_wp2_with fail
 refine Q2z (And.intro ⟨HS38.out.x2,HS38.out.x3⟩ ?_)
 refine' Q9z (s:=127) (A1:=_) (r:=[]) [3,4] [_,_] _ rfl rfl rfl (fun W hW=>?hqb34) _ ⟨HS38.out.x2,HS38.out.x3⟩ (fun _=>?hrb34)
 case hqb34=>
  simp only[List.getElem_toArray,List.getElem_cons_zero,List.getElem_cons_succ]
  iterate 2 (go_big_quiet_step (fail))
  refine wpQuiet_nil ?_
  rfl
 case hrb34=>
 refine Qnz fun k40=>HeadQ.normal ?_
 have hdr:Below W38.heap.size W38 (W38.drewN k40):=Q0z W38 k40
 have hstd:Stays (fun _=>False) W38 (W38.drewN k40):=Stays.of_below hdr (Nat.le_refl _) _
 have HV38_42:=Lib.hid (HV38.out.sep (Qrz _) hstd (fun _ h=>h.elim))
 clear HV38
 have HS41:=Lib.hid (HS38.out.fut hdr)
 clear HS38 hdr hstd
 generalize W38.drewN k40=W41 at*
 have MA:=HS41.out.ms.msg Q6z Q6z
 have cz:=MA.c67
 have fz:=HS41.out.ms.frozen 67
 clear MA
 go_upto_region 10 with fail
 have hstz:=Stays.set W41 z 67 (Value.slice ph38 nh38 ch38)
 have hsp:∀Ts,41∉Ts→Sep B Ts W41 (·=z):=fun Ts hT=>Qiz HS41.out.ms hT
 have HS43:Hid (FSt D B g z b2 b3 w (W41.setCell ⟨z,67,none⟩ (Value.slice ph38 nh38 ch38)) er38 r38 (Q8z (.int .i64 5) (.int .u32 (iv32 (a27.setWidth 32))) (u64 0#64) noHash noHash (Value.slice ph38 nh38 ch38) (.slice none 0 0) (.slice none 0 0) ZBlk)):=Lib.hid (HS41.out.put hD.2 (by have h:=HS41.out.ms.set 67 (Value.slice ph38 nh38 ch38);rw[msg_set67 _ _ _ _ _ _ _ Q6z Q6z]at h;exact h) hstz)
 have HV38_44:=Lib.hid (HV38_42.out.sep (Qrz _) hstz (hsp _ (by decide)))
 clear HV38_42
 clear HS41 cz fz hstz hsp
 generalize W41.setCell ⟨z,67,none⟩ (Value.slice ph38 nh38 ch38)=W43 at*
 go_upto_region 10 with fail
 refine Qdz [qq 0,qq 1,oo 2,qq 3,qq 4] 5 (fun W=>Blk W b2 118 #[.pointer (some ⟨g,0,none⟩)]∧Blk W b3 124 #[.pointer (some ⟨z,0,none⟩)]) (by kernel_rfl) (by kernel_rfl) ⟨HS43.out.x2.fut (Q0z W43 1),HS43.out.x3.fut (Q0z W43 1)⟩ ?_
 refine' Q9z (s:=127) (A1:=_) [0,1] [_,_] _ rfl rfl rfl (fun W hW=>?hqa45) _ ⟨HS43.out.x2.fut (Q0z W43 1),HS43.out.x3.fut (Q0z W43 1)⟩ (fun _=>?hra45)
 case hqa45=>
  have e2:∀k,(W.drewN k).cell? ⟨b2,0,none⟩=some (.pointer (some ⟨g,0,none⟩)):=fun k=>by have:=hW.1.cell 0;simpa using this
  have e3:∀k,(W.drewN k).cell? ⟨b3,0,none⟩=some (.pointer (some ⟨z,0,none⟩)):=fun k=>by have:=hW.2.cell 0;simpa using this
  simp only[List.getElem_toArray,List.getElem_cons_zero,List.getElem_cons_succ]
  iterate 2 (go_big_quiet_step (fail))
  refine wpQuiet_nil ?_
  rfl
 case hra45=>
 refine Qbz rfl fun k46=>?_
 have hdr:Below W43.heap.size W43 (W43.drew.drewN k46):=Q7z (Below.refl _ _).drew k46
 have hstd:Stays (fun _=>False) W43 (W43.drew.drewN k46):=Stays.of_below hdr (Nat.le_refl _) _
 have HV38_48:=Lib.hid (HV38_44.out.sep (Qrz _) hstd (fun _ h=>h.elim))
 clear HV38_44
 have HS47:=Lib.hid (HS43.out.fut hdr)
 clear HS43 hdr hstd
 generalize W43.drew.drewN k46=W47 at*
 go_wp2_with fail
 refine(Zfz D B g hD.1 W47 er38 r38 HS47.out.rd).mono ?_
 rintro e W49 ⟨vv49,a49,er49,r49,rfl,⟨rfl,hl49⟩,HR49,HT49a,HT49⟩
 have HV38_50:=Lib.hid (HV38_48.out.sep (Qrz _) HT49a.out (Sep.low fun k hk=>by have:k=g:=hk;omega))
 clear HV38_48
 have HS49:=Lib.hid (HS47.out.call HR49.out HT49a.out)
 clear HS47 HR49
 have HL49:=Lib.hid hl49
 clear hl49
 go_wp2_with fail
 refine Q2z (And.intro ⟨HS49.out.x2,HS49.out.x3⟩ ?_)
 refine' Q9z (s:=127) (A1:=_) (r:=[]) [3,4] [_,_] _ rfl rfl rfl (fun W hW=>?hqb45) _ ⟨HS49.out.x2,HS49.out.x3⟩ (fun _=>?hrb45)
 case hqb45=>
  simp only[List.getElem_toArray,List.getElem_cons_zero,List.getElem_cons_succ]
  iterate 2 (go_big_quiet_step (fail))
  refine wpQuiet_nil ?_
  rfl
 case hrb45=>
 refine Qnz fun k51=>HeadQ.normal ?_
 have hdr:Below W49.heap.size W49 (W49.drewN k51):=Q0z W49 k51
 have hstd:Stays (fun _=>False) W49 (W49.drewN k51):=Stays.of_below hdr (Nat.le_refl _) _
 have HV38_53:=Lib.hid (HV38_50.out.sep (Qrz _) hstd (fun _ h=>h.elim))
 clear HV38_50
 have HS52:=Lib.hid (HS49.out.fut hdr)
 clear HS49 hdr hstd
 generalize W49.drewN k51=W52 at*
 simp only[List.drop_succ_cons,List.drop_zero]
 go_wp2_with((with_reducible refine Xqz (op:=⟨none,_,_,_,_,_⟩) ?_ 32 (.tmp 38) (.tmp 36) ?_ (z) (35) (Q5z a49) ?_ ?_ 41 ((Q8z (.int .i64 5) (.int .u32 (iv32 (a27.setWidth 32))) (u64 0#64) noHash noHash (Value.slice ph38 nh38 ch38) (.slice none 0 0) (.slice none 0 0) ZBlk).toArray) (HS52.out.ms) ?_ ?_ ?_ ?_
              ·rfl
              ·rfl
              ·rfl
              ·rfl
              ·rw[QVz _ _ _ _ _ _ Q6z Q6z rfl,QMz HL49.out];omega
              ·exact(Qsz HL49.out)
              ·exact(Qzz _)
              intro W54 hm54 hg54))
 try simp only[Qpz]
 have hstz:=Stays.of_grown (S:=fun k=>k=z) hg54.out (fun k h=>by injection h with h;exact h.symm)
 have hsp:∀Ts,41∉Ts→Sep B Ts W52 (·=z):=fun Ts hT=>Qiz HS52.out.ms hT
 have HS54:Hid (FSt D B g z b2 b3 w W54 er49 r49 (Q8z (.int .i64 5) (.int .u32 (iv32 (a27.setWidth 32))) (u64 0#64) noHash a49 (Value.slice ph38 nh38 ch38) (.slice none 0 0) (.slice none 0 0) ZBlk)):=Lib.hid (HS52.out.put hD.2 (by have h:=hm54.out;rw[msg_set35 _ _ _ _ _ _ _ Q6z Q6z HL49.out]at h;exact h) hstz)
 have HV38_55:=Lib.hid (HV38_53.out.sep (Qrz _) hstz (hsp _ (by decide)))
 clear HV38_53
 clear HS52 hstz hsp hm54 hg54
 first|go_end0|refine bodyPost_ret (results_none rfl _ _ _) rfl ?_
 exact⟨rfl,{ noMsg with k:=5,nu:=a27.setWidth 32,hs:=a38,st:=a49 },_,_,_,Lib.hid HS54.out.rd,Lib.hid HS54.out.ms,Lib.hid (⟨_,_,_,_,rfl,Q6z,HL49.out,HV38_55.out,RowO.nil _ _ _ _ _,Own8.nil _ _,⟨.slice none 0 0,rfl,QGz,RowO.nil _ _ _ _ _⟩⟩),Lib.hid HS54.out.st,Lib.hid (by rw[fz5];exact(HT27.out).bind ((HT38.out).bind ((HT49.out).bind (Step.ret _ _ _))))⟩
theorem fields_k7 (D B g z:Nat) (hD:D≤B∧D≤z) (hB:g<B∧z<B) (w:World) (s:Bs) (hr:MRd 122 D B g w 0 s) (hm:Blk w z 41 (msgZ 7).toArray):
 Calls Tryz.prog 47 #[.pointer (some ⟨g,0,none⟩),.pointer (some ⟨z,0,none⟩)] w (Xkz D B g z w (QCz 7) s):=by
 obtain⟨b2,h2⟩:∃b,b=w.heap.size:=⟨_,rfl⟩
 obtain⟨V1,hV1⟩:∃W,W=w.alloc (.cells #[.pointer (some ⟨g,0,none⟩)] 118):=⟨_,rfl⟩
 obtain⟨V2,hV2⟩:∃W,W=V1.alloc (.cells #[.pointer (some ⟨z,0,none⟩)] 124):=⟨_,rfl⟩
 have z1:V1.heap.size=b2+1:=by rw[hV1,World.size_alloc,h2]
 have k1:Below w.heap.size w V1:=by rw[hV1];exact Q1z w _
 have k2:Below V1.heap.size V1 V2:=by rw[hV2];exact Q1z V1 _
 have k02:=Q3z k1 k2 (Nat.le_refl _)
 obtain⟨b3,h3⟩:∃b,b=b2+1:=⟨_,rfl⟩
 have HS0:Hid (FSt D B g z b2 b3 w V2 0 s (Q8z (.int .i64 7) (u32 0#32) (u64 0#64) noHash noHash (.slice none 0 0) (.slice none 0 0) (.slice none 0 0) ZBlk)):=Lib.hid ⟨hr.fut k02,(show Blk V1 b2 _ _ by rw[hV1,h2];exact Blk.new w _ _).fut k2,(by rw[hV2,h3,← z1];exact Blk.new V1 _ _),hm.fut k02,Stays.of_below k02 (Nat.le_refl _) _⟩
 have c3:V2.cell? ⟨b3,0,none⟩=some (.pointer (some ⟨z,0,none⟩)):=by have:=HS0.out.x3.cell 0;simpa using this
 have cz:V2.cell? ⟨z,0,none⟩=some (.int .i64 7):=by have:=HS0.out.ms.cell 0;rw[List.getElem?_toArray]at this;exact this
 have hzg:z≠g:=HS0.out.ne.2.2.1
 clear k1 k2 k02 z1 hr hm
 go_enter Tryz.func47,Tryz.ntmps47
 go_upto_region 1 with fail
 rw[←hV1,← hV2,← h2,← h3]
 clear hV1 hV2 h2 h3
 go_upto_region 2 with fail
 clear c3 cz
 go_upto_region 15 with fail
 have c2:V2.cell? ⟨b2,0,none⟩=some (.pointer (some ⟨g,0,none⟩)):=by have:=HS0.out.x2.cell 0;simpa using this
 have hnb:=Q1z V2 (.cells #[.int .u8 (iv8 0#8)] 5)
 have hrow:=new_one V2 0#8
 have hgl:g<V2.heap.size:=by have:=HS0.out.rd.gB;omega
 have hstd:Stays (fun _=>False) V2 (V2.alloc (.cells #[.int .u8 (iv8 0#8)] 5)):=Stays.of_below hnb (Nat.le_refl _) _
 have HS56:=Lib.hid (HS0.out.fut hnb)
 have hth:=Zaz D B g _ 0 s _ 1 1 [0#8] HS56.out.rd rfl (by omega) hrow (fun _ x hx e=>by injection hx with hx;rw[←hx]at e;simp only at e;omega)
 clear HS0 hnb hrow hgl hstd
 go_wp2_with fail
 refine hth.mono ?_
 rintro e W58 ⟨rfl,er58,r58,HR58,HT58a,HT58⟩
 have HS58:=Lib.hid (HS56.out.call HR58.out HT58a.out)
 clear HS56 HR58 hth c2
 go_upto_region 16 with fail
 go_upto_region 16 with fail
 refine Qdz [qq 0,qq 1,oo 2,qq 3,qq 4,qq 5] 6 (fun W=>Blk W b2 118 #[.pointer (some ⟨g,0,none⟩)]∧Blk W b3 124 #[.pointer (some ⟨z,0,none⟩)]) (by kernel_rfl) (by kernel_rfl) ⟨HS58.out.x2.fut (Q0z W58 1),HS58.out.x3.fut (Q0z W58 1)⟩ ?_
 refine' Q9z (s:=127) (A1:=_) [0,1] [_,_] _ rfl rfl rfl (fun W hW=>?hqa60) _ ⟨HS58.out.x2.fut (Q0z W58 1),HS58.out.x3.fut (Q0z W58 1)⟩ (fun _=>?hra60)
 case hqa60=>
  have e2:∀k,(W.drewN k).cell? ⟨b2,0,none⟩=some (.pointer (some ⟨g,0,none⟩)):=fun k=>by have:=hW.1.cell 0;simpa using this
  have e3:∀k,(W.drewN k).cell? ⟨b3,0,none⟩=some (.pointer (some ⟨z,0,none⟩)):=fun k=>by have:=hW.2.cell 0;simpa using this
  simp only[List.getElem_toArray,List.getElem_cons_zero,List.getElem_cons_succ]
  iterate 2 (go_big_quiet_step (fail))
  refine wpQuiet_nil ?_
  rfl
 case hra60=>
 refine Qbz rfl fun k61=>?_
 have hdr:Below W58.heap.size W58 (W58.drew.drewN k61):=Q7z (Below.refl _ _).drew k61
 have hstd:Stays (fun _=>False) W58 (W58.drew.drewN k61):=Stays.of_below hdr (Nat.le_refl _) _
 have HS62:=Lib.hid (HS58.out.fut hdr)
 clear HS58 hdr hstd
 generalize W58.drew.drewN k61=W62 at*
 go_wp2_with fail
 refine(mNum_any D B g 4 (by omega) W62 er58 r58 HS62.out.rd).mono ?_
 rintro e W64 ⟨vv64,a64,er64,r64,rfl,rfl,HR64,HT64a,HT64⟩
 have HS64:=Lib.hid (HS62.out.call HR64.out HT64a.out)
 clear HS62 HR64
 have hcut:=Xoz a64
 go_wp2_with fail
 refine Q2z (And.intro ⟨HS64.out.x2,HS64.out.x3⟩ ?_)
 refine' Q9z (s:=127) (A1:=_) (r:=[]) [3,4,5] [_,_,_] _ rfl rfl rfl (fun W hW=>?hqb60) _ ⟨HS64.out.x2,HS64.out.x3⟩ (fun _=>?hrb60)
 case hqb60=>
  simp only[List.getElem_toArray,List.getElem_cons_zero,List.getElem_cons_succ]
  iterate 3 (go_big_quiet_step (fail))
  refine wpQuiet_nil ?_
  rfl
 case hrb60=>
 refine Qnz fun k66=>HeadQ.normal ?_
 have hdr:Below W64.heap.size W64 (W64.drewN k66):=Q0z W64 k66
 have hstd:Stays (fun _=>False) W64 (W64.drewN k66):=Stays.of_below hdr (Nat.le_refl _) _
 have HS67:=Lib.hid (HS64.out.fut hdr)
 clear HS64 hdr hstd
 generalize W64.drewN k66=W67 at*
 have MA:=HS67.out.ms.msg Q6z Q6z
 have cz:=MA.c1
 have fz:=HS67.out.ms.frozen 1
 clear MA
 go_upto_region 17 with fail
 have hstz:=Stays.set W67 z 1 (.int .u32 (iv32 (a64.setWidth 32)))
 have hsp:∀Ts,41∉Ts→Sep B Ts W67 (·=z):=fun Ts hT=>Qiz HS67.out.ms hT
 have HS69:Hid (FSt D B g z b2 b3 w (W67.setCell ⟨z,1,none⟩ (.int .u32 (iv32 (a64.setWidth 32)))) er64 r64 (Q8z (.int .i64 7) (.int .u32 (iv32 (a64.setWidth 32))) (u64 0#64) noHash noHash (.slice none 0 0) (.slice none 0 0) (.slice none 0 0) ZBlk)):=Lib.hid (HS67.out.put hD.2 (by have h:=HS67.out.ms.set 1 (.int .u32 (iv32 (a64.setWidth 32)));rw[msg_set1 _ _ _ _ _ _ _ _ _]at h;exact h) hstz)
 clear HS67 cz fz hstz hsp
 generalize W67.setCell ⟨z,1,none⟩ (.int .u32 (iv32 (a64.setWidth 32)))=W69 at*
 clear hcut
 go_upto_region 17 with fail
 refine Qdz [qq 0,qq 1,oo 2,qq 3,qq 4] 5 (fun W=>Blk W b2 118 #[.pointer (some ⟨g,0,none⟩)]∧Blk W b3 124 #[.pointer (some ⟨z,0,none⟩)]) (by kernel_rfl) (by kernel_rfl) ⟨HS69.out.x2.fut (Q0z W69 1),HS69.out.x3.fut (Q0z W69 1)⟩ ?_
 refine' Q9z (s:=127) (A1:=_) [0,1] [_,_] _ rfl rfl rfl (fun W hW=>?hqa71) _ ⟨HS69.out.x2.fut (Q0z W69 1),HS69.out.x3.fut (Q0z W69 1)⟩ (fun _=>?hra71)
 case hqa71=>
  have e2:∀k,(W.drewN k).cell? ⟨b2,0,none⟩=some (.pointer (some ⟨g,0,none⟩)):=fun k=>by have:=hW.1.cell 0;simpa using this
  have e3:∀k,(W.drewN k).cell? ⟨b3,0,none⟩=some (.pointer (some ⟨z,0,none⟩)):=fun k=>by have:=hW.2.cell 0;simpa using this
  simp only[List.getElem_toArray,List.getElem_cons_zero,List.getElem_cons_succ]
  iterate 2 (go_big_quiet_step (fail))
  refine wpQuiet_nil ?_
  rfl
 case hra71=>
 refine Qbz rfl fun k72=>?_
 have hdr:Below W69.heap.size W69 (W69.drew.drewN k72):=Q7z (Below.refl _ _).drew k72
 have hstd:Stays (fun _=>False) W69 (W69.drew.drewN k72):=Stays.of_below hdr (Nat.le_refl _) _
 have HS73:=Lib.hid (HS69.out.fut hdr)
 clear HS69 hdr hstd
 generalize W69.drew.drewN k72=W73 at*
 go_wp2_with fail
 refine(Zfz D B g hD.1 W73 er64 r64 HS73.out.rd).mono ?_
 rintro e W75 ⟨vv75,a75,er75,r75,rfl,⟨rfl,hl75⟩,HR75,HT75a,HT75⟩
 have HS75:=Lib.hid (HS73.out.call HR75.out HT75a.out)
 clear HS73 HR75
 have HL75:=Lib.hid hl75
 clear hl75
 go_wp2_with fail
 refine Q2z (And.intro ⟨HS75.out.x2,HS75.out.x3⟩ ?_)
 refine' Q9z (s:=127) (A1:=_) (r:=[]) [3,4] [_,_] _ rfl rfl rfl (fun W hW=>?hqb71) _ ⟨HS75.out.x2,HS75.out.x3⟩ (fun _=>?hrb71)
 case hqb71=>
  simp only[List.getElem_toArray,List.getElem_cons_zero,List.getElem_cons_succ]
  iterate 2 (go_big_quiet_step (fail))
  refine wpQuiet_nil ?_
  rfl
 case hrb71=>
 refine Qnz fun k77=>HeadQ.normal ?_
 have hdr:Below W75.heap.size W75 (W75.drewN k77):=Q0z W75 k77
 have hstd:Stays (fun _=>False) W75 (W75.drewN k77):=Stays.of_below hdr (Nat.le_refl _) _
 have HS78:=Lib.hid (HS75.out.fut hdr)
 clear HS75 hdr hstd
 generalize W75.drewN k77=W78 at*
 simp only[List.drop_succ_cons,List.drop_zero]
 go_wp2_with((with_reducible refine Xqz (op:=⟨none,_,_,_,_,_⟩) ?_ 32 (.tmp 60) (.tmp 58) ?_ (z) (35) (Q5z a75) ?_ ?_ 41 ((Q8z (.int .i64 7) (.int .u32 (iv32 (a64.setWidth 32))) (u64 0#64) noHash noHash (.slice none 0 0) (.slice none 0 0) (.slice none 0 0) ZBlk).toArray) (HS78.out.ms) ?_ ?_ ?_ ?_
              ·rfl
              ·rfl
              ·rfl
              ·rfl
              ·rw[QVz _ _ _ _ _ _ Q6z Q6z rfl,QMz HL75.out];omega
              ·exact(Qsz HL75.out)
              ·exact(Qzz _)
              intro W80 hm80 hg80))
 try simp only[Qpz]
 have hstz:=Stays.of_grown (S:=fun k=>k=z) hg80.out (fun k h=>by injection h with h;exact h.symm)
 have hsp:∀Ts,41∉Ts→Sep B Ts W78 (·=z):=fun Ts hT=>Qiz HS78.out.ms hT
 have HS80:Hid (FSt D B g z b2 b3 w W80 er75 r75 (Q8z (.int .i64 7) (.int .u32 (iv32 (a64.setWidth 32))) (u64 0#64) noHash a75 (.slice none 0 0) (.slice none 0 0) (.slice none 0 0) ZBlk)):=Lib.hid (HS78.out.put hD.2 (by have h:=hm80.out;rw[msg_set35 _ _ _ _ _ _ _ Q6z Q6z HL75.out]at h;exact h) hstz)
 clear HS78 hstz hsp hm80 hg80
 first|go_end0|refine bodyPost_ret (results_none rfl _ _ _) rfl ?_
 exact⟨rfl,{ noMsg with k:=7,nu:=a64.setWidth 32,st:=a75 },_,_,_,Lib.hid HS80.out.rd,Lib.hid HS80.out.ms,Lib.hid (⟨_,_,_,_,rfl,Q6z,HL75.out,RowO.nil _ _ _ _ _,RowO.nil _ _ _ _ _,Own8.nil _ _,⟨.slice none 0 0,rfl,QGz,RowO.nil _ _ _ _ _⟩⟩),Lib.hid HS80.out.st,Lib.hid (by rw[fz7];exact(HT58.out).bind ((HT64.out).bind ((HT75.out).bind (Step.ret _ _ _))))⟩
theorem fields_k9 (D B g z:Nat) (hD:D≤B∧D≤z) (hB:g<B∧z<B) (w:World) (s:Bs) (hr:MRd 122 D B g w 0 s) (hm:Blk w z 41 (msgZ 9).toArray):
 Calls Tryz.prog 47 #[.pointer (some ⟨g,0,none⟩),.pointer (some ⟨z,0,none⟩)] w (Xkz D B g z w (QCz 9) s):=by
 obtain⟨b2,h2⟩:∃b,b=w.heap.size:=⟨_,rfl⟩
 obtain⟨V1,hV1⟩:∃W,W=w.alloc (.cells #[.pointer (some ⟨g,0,none⟩)] 118):=⟨_,rfl⟩
 obtain⟨V2,hV2⟩:∃W,W=V1.alloc (.cells #[.pointer (some ⟨z,0,none⟩)] 124):=⟨_,rfl⟩
 have z1:V1.heap.size=b2+1:=by rw[hV1,World.size_alloc,h2]
 have k1:Below w.heap.size w V1:=by rw[hV1];exact Q1z w _
 have k2:Below V1.heap.size V1 V2:=by rw[hV2];exact Q1z V1 _
 have k02:=Q3z k1 k2 (Nat.le_refl _)
 obtain⟨b3,h3⟩:∃b,b=b2+1:=⟨_,rfl⟩
 have HS0:Hid (FSt D B g z b2 b3 w V2 0 s (Q8z (.int .i64 9) (u32 0#32) (u64 0#64) noHash noHash (.slice none 0 0) (.slice none 0 0) (.slice none 0 0) ZBlk)):=Lib.hid ⟨hr.fut k02,(show Blk V1 b2 _ _ by rw[hV1,h2];exact Blk.new w _ _).fut k2,(by rw[hV2,h3,← z1];exact Blk.new V1 _ _),hm.fut k02,Stays.of_below k02 (Nat.le_refl _) _⟩
 have c3:V2.cell? ⟨b3,0,none⟩=some (.pointer (some ⟨z,0,none⟩)):=by have:=HS0.out.x3.cell 0;simpa using this
 have cz:V2.cell? ⟨z,0,none⟩=some (.int .i64 9):=by have:=HS0.out.ms.cell 0;rw[List.getElem?_toArray]at this;exact this
 have hzg:z≠g:=HS0.out.ne.2.2.1
 clear k1 k2 k02 z1 hr hm
 go_enter Tryz.func47,Tryz.ntmps47
 go_upto_region 1 with fail
 rw[←hV1,← hV2,← h2,← h3]
 clear hV1 hV2 h2 h3
 go_upto_region 2 with fail
 clear c3 cz
 go_upto_region 15 with fail
 have c2:V2.cell? ⟨b2,0,none⟩=some (.pointer (some ⟨g,0,none⟩)):=by have:=HS0.out.x2.cell 0;simpa using this
 have hnb:=Q1z V2 (.cells #[.int .u8 (iv8 0#8)] 5)
 have hrow:=new_one V2 0#8
 have hgl:g<V2.heap.size:=by have:=HS0.out.rd.gB;omega
 have hstd:Stays (fun _=>False) V2 (V2.alloc (.cells #[.int .u8 (iv8 0#8)] 5)):=Stays.of_below hnb (Nat.le_refl _) _
 have HS82:=Lib.hid (HS0.out.fut hnb)
 have hth:=Zaz D B g _ 0 s _ 1 1 [0#8] HS82.out.rd rfl (by omega) hrow (fun _ x hx e=>by injection hx with hx;rw[←hx]at e;simp only at e;omega)
 clear HS0 hnb hrow hgl hstd
 go_wp2_with fail
 refine hth.mono ?_
 rintro e W84 ⟨rfl,er84,r84,HR84,HT84a,HT84⟩
 have HS84:=Lib.hid (HS82.out.call HR84.out HT84a.out)
 clear HS82 HR84 hth c2
 go_upto_region 16 with fail
 go_upto_region 16 with fail
 refine Qdz [qq 0,qq 1,oo 2,qq 3,qq 4,qq 5] 6 (fun W=>Blk W b2 118 #[.pointer (some ⟨g,0,none⟩)]∧Blk W b3 124 #[.pointer (some ⟨z,0,none⟩)]) (by kernel_rfl) (by kernel_rfl) ⟨HS84.out.x2.fut (Q0z W84 1),HS84.out.x3.fut (Q0z W84 1)⟩ ?_
 refine' Q9z (s:=127) (A1:=_) [0,1] [_,_] _ rfl rfl rfl (fun W hW=>?hqa86) _ ⟨HS84.out.x2.fut (Q0z W84 1),HS84.out.x3.fut (Q0z W84 1)⟩ (fun _=>?hra86)
 case hqa86=>
  have e2:∀k,(W.drewN k).cell? ⟨b2,0,none⟩=some (.pointer (some ⟨g,0,none⟩)):=fun k=>by have:=hW.1.cell 0;simpa using this
  have e3:∀k,(W.drewN k).cell? ⟨b3,0,none⟩=some (.pointer (some ⟨z,0,none⟩)):=fun k=>by have:=hW.2.cell 0;simpa using this
  simp only[List.getElem_toArray,List.getElem_cons_zero,List.getElem_cons_succ]
  iterate 2 (go_big_quiet_step (fail))
  refine wpQuiet_nil ?_
  rfl
 case hra86=>
 refine Qbz rfl fun k87=>?_
 have hdr:Below W84.heap.size W84 (W84.drew.drewN k87):=Q7z (Below.refl _ _).drew k87
 have hstd:Stays (fun _=>False) W84 (W84.drew.drewN k87):=Stays.of_below hdr (Nat.le_refl _) _
 have HS88:=Lib.hid (HS84.out.fut hdr)
 clear HS84 hdr hstd
 generalize W84.drew.drewN k87=W88 at*
 go_wp2_with fail
 refine(mNum_any D B g 4 (by omega) W88 er84 r84 HS88.out.rd).mono ?_
 rintro e W90 ⟨vv90,a90,er90,r90,rfl,rfl,HR90,HT90a,HT90⟩
 have HS90:=Lib.hid (HS88.out.call HR90.out HT90a.out)
 clear HS88 HR90
 have hcut:=Xoz a90
 go_wp2_with fail
 refine Q2z (And.intro ⟨HS90.out.x2,HS90.out.x3⟩ ?_)
 refine' Q9z (s:=127) (A1:=_) (r:=[]) [3,4,5] [_,_,_] _ rfl rfl rfl (fun W hW=>?hqb86) _ ⟨HS90.out.x2,HS90.out.x3⟩ (fun _=>?hrb86)
 case hqb86=>
  simp only[List.getElem_toArray,List.getElem_cons_zero,List.getElem_cons_succ]
  iterate 3 (go_big_quiet_step (fail))
  refine wpQuiet_nil ?_
  rfl
 case hrb86=>
 refine Qnz fun k92=>HeadQ.normal ?_
 have hdr:Below W90.heap.size W90 (W90.drewN k92):=Q0z W90 k92
 have hstd:Stays (fun _=>False) W90 (W90.drewN k92):=Stays.of_below hdr (Nat.le_refl _) _
 have HS93:=Lib.hid (HS90.out.fut hdr)
 clear HS90 hdr hstd
 generalize W90.drewN k92=W93 at*
 have MA:=HS93.out.ms.msg Q6z Q6z
 have cz:=MA.c1
 have fz:=HS93.out.ms.frozen 1
 clear MA
 go_upto_region 17 with fail
 have hstz:=Stays.set W93 z 1 (.int .u32 (iv32 (a90.setWidth 32)))
 have hsp:∀Ts,41∉Ts→Sep B Ts W93 (·=z):=fun Ts hT=>Qiz HS93.out.ms hT
 have HS95:Hid (FSt D B g z b2 b3 w (W93.setCell ⟨z,1,none⟩ (.int .u32 (iv32 (a90.setWidth 32)))) er90 r90 (Q8z (.int .i64 9) (.int .u32 (iv32 (a90.setWidth 32))) (u64 0#64) noHash noHash (.slice none 0 0) (.slice none 0 0) (.slice none 0 0) ZBlk)):=Lib.hid (HS93.out.put hD.2 (by have h:=HS93.out.ms.set 1 (.int .u32 (iv32 (a90.setWidth 32)));rw[msg_set1 _ _ _ _ _ _ _ _ _]at h;exact h) hstz)
 clear HS93 cz fz hstz hsp
 generalize W93.setCell ⟨z,1,none⟩ (.int .u32 (iv32 (a90.setWidth 32)))=W95 at*
 clear hcut
 go_upto_region 17 with fail
 refine Qdz [qq 0,qq 1,oo 2,qq 3,qq 4] 5 (fun W=>Blk W b2 118 #[.pointer (some ⟨g,0,none⟩)]∧Blk W b3 124 #[.pointer (some ⟨z,0,none⟩)]) (by kernel_rfl) (by kernel_rfl) ⟨HS95.out.x2.fut (Q0z W95 1),HS95.out.x3.fut (Q0z W95 1)⟩ ?_
 refine' Q9z (s:=127) (A1:=_) [0,1] [_,_] _ rfl rfl rfl (fun W hW=>?hqa97) _ ⟨HS95.out.x2.fut (Q0z W95 1),HS95.out.x3.fut (Q0z W95 1)⟩ (fun _=>?hra97)
 case hqa97=>
  have e2:∀k,(W.drewN k).cell? ⟨b2,0,none⟩=some (.pointer (some ⟨g,0,none⟩)):=fun k=>by have:=hW.1.cell 0;simpa using this
  have e3:∀k,(W.drewN k).cell? ⟨b3,0,none⟩=some (.pointer (some ⟨z,0,none⟩)):=fun k=>by have:=hW.2.cell 0;simpa using this
  simp only[List.getElem_toArray,List.getElem_cons_zero,List.getElem_cons_succ]
  iterate 2 (go_big_quiet_step (fail))
  refine wpQuiet_nil ?_
  rfl
 case hra97=>
 refine Qbz rfl fun k98=>?_
 have hdr:Below W95.heap.size W95 (W95.drew.drewN k98):=Q7z (Below.refl _ _).drew k98
 have hstd:Stays (fun _=>False) W95 (W95.drew.drewN k98):=Stays.of_below hdr (Nat.le_refl _) _
 have HS99:=Lib.hid (HS95.out.fut hdr)
 clear HS95 hdr hstd
 generalize W95.drew.drewN k98=W99 at*
 go_wp2_with fail
 refine(Zfz D B g hD.1 W99 er90 r90 HS99.out.rd).mono ?_
 rintro e W101 ⟨vv101,a101,er101,r101,rfl,⟨rfl,hl101⟩,HR101,HT101a,HT101⟩
 have HS101:=Lib.hid (HS99.out.call HR101.out HT101a.out)
 clear HS99 HR101
 have HL101:=Lib.hid hl101
 clear hl101
 go_wp2_with fail
 refine Q2z (And.intro ⟨HS101.out.x2,HS101.out.x3⟩ ?_)
 refine' Q9z (s:=127) (A1:=_) (r:=[]) [3,4] [_,_] _ rfl rfl rfl (fun W hW=>?hqb97) _ ⟨HS101.out.x2,HS101.out.x3⟩ (fun _=>?hrb97)
 case hqb97=>
  simp only[List.getElem_toArray,List.getElem_cons_zero,List.getElem_cons_succ]
  iterate 2 (go_big_quiet_step (fail))
  refine wpQuiet_nil ?_
  rfl
 case hrb97=>
 refine Qnz fun k103=>HeadQ.normal ?_
 have hdr:Below W101.heap.size W101 (W101.drewN k103):=Q0z W101 k103
 have hstd:Stays (fun _=>False) W101 (W101.drewN k103):=Stays.of_below hdr (Nat.le_refl _) _
 have HS104:=Lib.hid (HS101.out.fut hdr)
 clear HS101 hdr hstd
 generalize W101.drewN k103=W104 at*
 simp only[List.drop_succ_cons,List.drop_zero]
 go_wp2_with((with_reducible refine Xqz (op:=⟨none,_,_,_,_,_⟩) ?_ 32 (.tmp 60) (.tmp 58) ?_ (z) (35) (Q5z a101) ?_ ?_ 41 ((Q8z (.int .i64 9) (.int .u32 (iv32 (a90.setWidth 32))) (u64 0#64) noHash noHash (.slice none 0 0) (.slice none 0 0) (.slice none 0 0) ZBlk).toArray) (HS104.out.ms) ?_ ?_ ?_ ?_
              ·rfl
              ·rfl
              ·rfl
              ·rfl
              ·rw[QVz _ _ _ _ _ _ Q6z Q6z rfl,QMz HL101.out];omega
              ·exact(Qsz HL101.out)
              ·exact(Qzz _)
              intro W106 hm106 hg106))
 try simp only[Qpz]
 have hstz:=Stays.of_grown (S:=fun k=>k=z) hg106.out (fun k h=>by injection h with h;exact h.symm)
 have hsp:∀Ts,41∉Ts→Sep B Ts W104 (·=z):=fun Ts hT=>Qiz HS104.out.ms hT
 have HS106:Hid (FSt D B g z b2 b3 w W106 er101 r101 (Q8z (.int .i64 9) (.int .u32 (iv32 (a90.setWidth 32))) (u64 0#64) noHash a101 (.slice none 0 0) (.slice none 0 0) (.slice none 0 0) ZBlk)):=Lib.hid (HS104.out.put hD.2 (by have h:=hm106.out;rw[msg_set35 _ _ _ _ _ _ _ Q6z Q6z HL101.out]at h;exact h) hstz)
 clear HS104 hstz hsp hm106 hg106
 first|go_end0|refine bodyPost_ret (results_none rfl _ _ _) rfl ?_
 exact⟨rfl,{ noMsg with k:=9,nu:=a90.setWidth 32,st:=a101 },_,_,_,Lib.hid HS106.out.rd,Lib.hid HS106.out.ms,Lib.hid (⟨_,_,_,_,rfl,Q6z,HL101.out,RowO.nil _ _ _ _ _,RowO.nil _ _ _ _ _,Own8.nil _ _,⟨.slice none 0 0,rfl,QGz,RowO.nil _ _ _ _ _⟩⟩),Lib.hid HS106.out.st,Lib.hid (by rw[fz9];exact(HT84.out).bind ((HT90.out).bind ((HT101.out).bind (Step.ret _ _ _))))⟩
theorem fields_k10 (D B g z:Nat) (hD:D≤B∧D≤z) (hB:g<B∧z<B) (w:World) (s:Bs) (hr:MRd 122 D B g w 0 s) (hm:Blk w z 41 (msgZ 10).toArray):
 Calls Tryz.prog 47 #[.pointer (some ⟨g,0,none⟩),.pointer (some ⟨z,0,none⟩)] w (Xkz D B g z w (QCz 10) s):=by
 obtain⟨b2,h2⟩:∃b,b=w.heap.size:=⟨_,rfl⟩
 obtain⟨V1,hV1⟩:∃W,W=w.alloc (.cells #[.pointer (some ⟨g,0,none⟩)] 118):=⟨_,rfl⟩
 obtain⟨V2,hV2⟩:∃W,W=V1.alloc (.cells #[.pointer (some ⟨z,0,none⟩)] 124):=⟨_,rfl⟩
 have z1:V1.heap.size=b2+1:=by rw[hV1,World.size_alloc,h2]
 have k1:Below w.heap.size w V1:=by rw[hV1];exact Q1z w _
 have k2:Below V1.heap.size V1 V2:=by rw[hV2];exact Q1z V1 _
 have k02:=Q3z k1 k2 (Nat.le_refl _)
 obtain⟨b3,h3⟩:∃b,b=b2+1:=⟨_,rfl⟩
 have HS0:Hid (FSt D B g z b2 b3 w V2 0 s (Q8z (.int .i64 10) (u32 0#32) (u64 0#64) noHash noHash (.slice none 0 0) (.slice none 0 0) (.slice none 0 0) ZBlk)):=Lib.hid ⟨hr.fut k02,(show Blk V1 b2 _ _ by rw[hV1,h2];exact Blk.new w _ _).fut k2,(by rw[hV2,h3,← z1];exact Blk.new V1 _ _),hm.fut k02,Stays.of_below k02 (Nat.le_refl _) _⟩
 have c3:V2.cell? ⟨b3,0,none⟩=some (.pointer (some ⟨z,0,none⟩)):=by have:=HS0.out.x3.cell 0;simpa using this
 have cz:V2.cell? ⟨z,0,none⟩=some (.int .i64 10):=by have:=HS0.out.ms.cell 0;rw[List.getElem?_toArray]at this;exact this
 have hzg:z≠g:=HS0.out.ne.2.2.1
 clear k1 k2 k02 z1 hr hm
 go_enter Tryz.func47,Tryz.ntmps47
 go_upto_region 1 with fail
 rw[←hV1,← hV2,← h2,← h3]
 clear hV1 hV2 h2 h3
 go_upto_region 2 with fail
 clear c3 cz
 go_upto_region 23 with fail
 have c2:V2.cell? ⟨b2,0,none⟩=some (.pointer (some ⟨g,0,none⟩)):=by have:=HS0.out.x2.cell 0;simpa using this
 have hnb:=Q1z V2 (.cells #[.int .u8 (iv8 0#8)] 5)
 have hrow:=new_one V2 0#8
 have hgl:g<V2.heap.size:=by have:=HS0.out.rd.gB;omega
 have hstd:Stays (fun _=>False) V2 (V2.alloc (.cells #[.int .u8 (iv8 0#8)] 5)):=Stays.of_below hnb (Nat.le_refl _) _
 have HS108:=Lib.hid (HS0.out.fut hnb)
 have hth:=Zaz D B g _ 0 s _ 1 1 [0#8] HS108.out.rd rfl (by omega) hrow (fun _ x hx e=>by injection hx with hx;rw[←hx]at e;simp only at e;omega)
 clear HS0 hnb hrow hgl hstd
 go_wp2_with fail
 refine hth.mono ?_
 rintro e W110 ⟨rfl,er110,r110,HR110,HT110a,HT110⟩
 have HS110:=Lib.hid (HS108.out.call HR110.out HT110a.out)
 clear HS108 HR110 hth c2
 go_upto_region 24 with fail
 go_upto_region 24 with fail
 refine Qdz [qq 0,qq 1,oo 2,qq 3,qq 4] 5 (fun W=>Blk W b2 118 #[.pointer (some ⟨g,0,none⟩)]∧Blk W b3 124 #[.pointer (some ⟨z,0,none⟩)]) (by kernel_rfl) (by kernel_rfl) ⟨HS110.out.x2.fut (Q0z W110 1),HS110.out.x3.fut (Q0z W110 1)⟩ ?_
 refine' Q9z (s:=127) (A1:=_) [0,1] [_,_] _ rfl rfl rfl (fun W hW=>?hqa112) _ ⟨HS110.out.x2.fut (Q0z W110 1),HS110.out.x3.fut (Q0z W110 1)⟩ (fun _=>?hra112)
 case hqa112=>
  have e2:∀k,(W.drewN k).cell? ⟨b2,0,none⟩=some (.pointer (some ⟨g,0,none⟩)):=fun k=>by have:=hW.1.cell 0;simpa using this
  have e3:∀k,(W.drewN k).cell? ⟨b3,0,none⟩=some (.pointer (some ⟨z,0,none⟩)):=fun k=>by have:=hW.2.cell 0;simpa using this
  simp only[List.getElem_toArray,List.getElem_cons_zero,List.getElem_cons_succ]
  iterate 2 (go_big_quiet_step (fail))
  refine wpQuiet_nil ?_
  rfl
 case hra112=>
 refine Qbz rfl fun k113=>?_
 have hdr:Below W110.heap.size W110 (W110.drew.drewN k113):=Q7z (Below.refl _ _).drew k113
 have hstd:Stays (fun _=>False) W110 (W110.drew.drewN k113):=Stays.of_below hdr (Nat.le_refl _) _
 have HS114:=Lib.hid (HS110.out.fut hdr)
 clear HS110 hdr hstd
 generalize W110.drew.drewN k113=W114 at*
 go_wp2_with fail
 refine(Zfz D B g hD.1 W114 er110 r110 HS114.out.rd).mono ?_
 rintro e W116 ⟨vv116,a116,er116,r116,rfl,⟨rfl,hl116⟩,HR116,HT116a,HT116⟩
 have HS116:=Lib.hid (HS114.out.call HR116.out HT116a.out)
 clear HS114 HR116
 have HL116:=Lib.hid hl116
 clear hl116
 go_wp2_with fail
 refine Q2z (And.intro ⟨HS116.out.x2,HS116.out.x3⟩ ?_)
 refine' Q9z (s:=127) (A1:=_) (r:=[]) [3,4] [_,_] _ rfl rfl rfl (fun W hW=>?hqb112) _ ⟨HS116.out.x2,HS116.out.x3⟩ (fun _=>?hrb112)
 case hqb112=>
  simp only[List.getElem_toArray,List.getElem_cons_zero,List.getElem_cons_succ]
  iterate 2 (go_big_quiet_step (fail))
  refine wpQuiet_nil ?_
  rfl
 case hrb112=>
 refine Qnz fun k118=>HeadQ.normal ?_
 have hdr:Below W116.heap.size W116 (W116.drewN k118):=Q0z W116 k118
 have hstd:Stays (fun _=>False) W116 (W116.drewN k118):=Stays.of_below hdr (Nat.le_refl _) _
 have HS119:=Lib.hid (HS116.out.fut hdr)
 clear HS116 hdr hstd
 generalize W116.drewN k118=W119 at*
 simp only[List.drop_succ_cons,List.drop_zero]
 go_upto_region 25 with((with_reducible refine Xqz (op:=⟨none,_,_,_,_,_⟩) ?_ 32 (.tmp 90) (.tmp 88) ?_ (z) (35) (Q5z a116) ?_ ?_ 41 ((Q8z (.int .i64 10) (u32 0#32) (u64 0#64) noHash noHash (.slice none 0 0) (.slice none 0 0) (.slice none 0 0) ZBlk).toArray) (HS119.out.ms) ?_ ?_ ?_ ?_
                         ·rfl
                         ·rfl
                         ·rfl
                         ·rfl
                         ·rw[QVz _ _ _ _ _ _ Q6z Q6z rfl,QMz HL116.out];omega
                         ·exact(Qsz HL116.out)
                         ·exact(Qzz _)
                         intro W121 hm121 hg121))
 try simp only[Qpz]
 have hstz:=Stays.of_grown (S:=fun k=>k=z) hg121.out (fun k h=>by injection h with h;exact h.symm)
 have hsp:∀Ts,41∉Ts→Sep B Ts W119 (·=z):=fun Ts hT=>Qiz HS119.out.ms hT
 have HS121:Hid (FSt D B g z b2 b3 w W121 er116 r116 (Q8z (.int .i64 10) (u32 0#32) (u64 0#64) noHash a116 (.slice none 0 0) (.slice none 0 0) (.slice none 0 0) ZBlk)):=Lib.hid (HS119.out.put hD.2 (by have h:=hm121.out;rw[msg_set35 _ _ _ _ _ _ _ Q6z Q6z HL116.out]at h;exact h) hstz)
 clear HS119 hstz hsp hm121 hg121
 go_upto_region 25 with fail
 refine Qdz [qq 0,qq 1,oo 2,qq 3,qq 4] 5 (fun W=>Blk W b2 118 #[.pointer (some ⟨g,0,none⟩)]∧Blk W b3 124 #[.pointer (some ⟨z,0,none⟩)]) (by kernel_rfl) (by kernel_rfl) ⟨HS121.out.x2.fut (Q0z W121 1),HS121.out.x3.fut (Q0z W121 1)⟩ ?_
 refine' Q9z (s:=127) (A1:=_) [0,1] [_,_] _ rfl rfl rfl (fun W hW=>?hqa123) _ ⟨HS121.out.x2.fut (Q0z W121 1),HS121.out.x3.fut (Q0z W121 1)⟩ (fun _=>?hra123)
 case hqa123=>
  have e2:∀k,(W.drewN k).cell? ⟨b2,0,none⟩=some (.pointer (some ⟨g,0,none⟩)):=fun k=>by have:=hW.1.cell 0;simpa using this
  have e3:∀k,(W.drewN k).cell? ⟨b3,0,none⟩=some (.pointer (some ⟨z,0,none⟩)):=fun k=>by have:=hW.2.cell 0;simpa using this
  simp only[List.getElem_toArray,List.getElem_cons_zero,List.getElem_cons_succ]
  iterate 2 (go_big_quiet_step (fail))
  refine wpQuiet_nil ?_
  rfl
 case hra123=>
 refine Qbz rfl fun k124=>?_
 have hdr:Below W121.heap.size W121 (W121.drew.drewN k124):=Q7z (Below.refl _ _).drew k124
 have hstd:Stays (fun _=>False) W121 (W121.drew.drewN k124):=Stays.of_below hdr (Nat.le_refl _) _
 have HS125:=Lib.hid (HS121.out.fut hdr)
 clear HS121 hdr hstd
 generalize W121.drew.drewN k124=W125 at*
 go_wp2_with fail
 refine(mText_any D B g 199950 (by omega) W125 er116 r116 HS125.out.rd).mono ?_
 rintro e W127 ⟨vv127,a127,er127,r127,rfl,hv127,HR127,HT127a,HT127⟩
 have HS127:=Lib.hid (HS125.out.call HR127.out HT127a.out)
 clear HS125 HR127
 have HX127:=Lib.hid hv127
 clear hv127
 obtain⟨ph127,nh127,ch127,rfl,_⟩:=HX127.out.open
 go_wp2_with fail
 refine Q2z (And.intro ⟨HS127.out.x2,HS127.out.x3⟩ ?_)
 refine' Q9z (s:=127) (A1:=_) (r:=[]) [3,4] [_,_] _ rfl rfl rfl (fun W hW=>?hqb123) _ ⟨HS127.out.x2,HS127.out.x3⟩ (fun _=>?hrb123)
 case hqb123=>
  simp only[List.getElem_toArray,List.getElem_cons_zero,List.getElem_cons_succ]
  iterate 2 (go_big_quiet_step (fail))
  refine wpQuiet_nil ?_
  rfl
 case hrb123=>
 refine Qnz fun k129=>HeadQ.normal ?_
 have hdr:Below W127.heap.size W127 (W127.drewN k129):=Q0z W127 k129
 have hstd:Stays (fun _=>False) W127 (W127.drewN k129):=Stays.of_below hdr (Nat.le_refl _) _
 have HX127_131:=Lib.hid (HX127.out.sep hstd (fun _ h=>h.elim))
 clear HX127
 have HS130:=Lib.hid (HS127.out.fut hdr)
 clear HS127 hdr hstd
 generalize W127.drewN k129=W130 at*
 have MA:=HS130.out.ms.msg Q6z HL116.out
 have cz:=MA.c69
 have fz:=HS130.out.ms.frozen 69
 clear MA
 go_wp2_with fail
 have hstz:=Stays.set W130 z 69 (Value.slice ph127 nh127 ch127)
 have hsp:∀Ts,41∉Ts→Sep B Ts W130 (·=z):=fun Ts hT=>Qiz HS130.out.ms hT
 have HS132:Hid (FSt D B g z b2 b3 w (W130.setCell ⟨z,69,none⟩ (Value.slice ph127 nh127 ch127)) er127 r127 (Q8z (.int .i64 10) (u32 0#32) (u64 0#64) noHash a116 (.slice none 0 0) (.slice none 0 0) (Value.slice ph127 nh127 ch127) ZBlk)):=Lib.hid (HS130.out.put hD.2 (by have h:=HS130.out.ms.set 69 (Value.slice ph127 nh127 ch127);rw[msg_set69 _ _ _ _ _ _ _ Q6z HL116.out]at h;exact h) hstz)
 have HX127_133:=Lib.hid (HX127_131.out.sep hstz (hsp _ (by decide)))
 clear HX127_131
 clear HS130 cz fz hstz hsp
 generalize W130.setCell ⟨z,69,none⟩ (Value.slice ph127 nh127 ch127)=W132 at*
 first|go_end0|refine bodyPost_ret (results_none rfl _ _ _) rfl ?_
 exact⟨rfl,{ noMsg with k:=10,st:=a116,tx:=a127 },_,_,_,Lib.hid HS132.out.rd,Lib.hid HS132.out.ms,Lib.hid (⟨_,_,_,_,rfl,Q6z,HL116.out,RowO.nil _ _ _ _ _,RowO.nil _ _ _ _ _,HX127_133.out,⟨.slice none 0 0,rfl,QGz,RowO.nil _ _ _ _ _⟩⟩),Lib.hid HS132.out.st,Lib.hid (by rw[fz10];exact(HT110.out).bind ((HT116.out).bind ((HT127.out).bind (Step.ret _ _ _))))⟩
theorem fields_k11 (D B g z:Nat) (hD:D≤B∧D≤z) (hB:g<B∧z<B) (w:World) (s:Bs) (hr:MRd 122 D B g w 0 s) (hm:Blk w z 41 (msgZ 11).toArray):
 Calls Tryz.prog 47 #[.pointer (some ⟨g,0,none⟩),.pointer (some ⟨z,0,none⟩)] w (Xkz D B g z w (QCz 11) s):=by
 obtain⟨b2,h2⟩:∃b,b=w.heap.size:=⟨_,rfl⟩
 obtain⟨V1,hV1⟩:∃W,W=w.alloc (.cells #[.pointer (some ⟨g,0,none⟩)] 118):=⟨_,rfl⟩
 obtain⟨V2,hV2⟩:∃W,W=V1.alloc (.cells #[.pointer (some ⟨z,0,none⟩)] 124):=⟨_,rfl⟩
 have z1:V1.heap.size=b2+1:=by rw[hV1,World.size_alloc,h2]
 have k1:Below w.heap.size w V1:=by rw[hV1];exact Q1z w _
 have k2:Below V1.heap.size V1 V2:=by rw[hV2];exact Q1z V1 _
 have k02:=Q3z k1 k2 (Nat.le_refl _)
 obtain⟨b3,h3⟩:∃b,b=b2+1:=⟨_,rfl⟩
 have HS0:Hid (FSt D B g z b2 b3 w V2 0 s (Q8z (.int .i64 11) (u32 0#32) (u64 0#64) noHash noHash (.slice none 0 0) (.slice none 0 0) (.slice none 0 0) ZBlk)):=Lib.hid ⟨hr.fut k02,(show Blk V1 b2 _ _ by rw[hV1,h2];exact Blk.new w _ _).fut k2,(by rw[hV2,h3,← z1];exact Blk.new V1 _ _),hm.fut k02,Stays.of_below k02 (Nat.le_refl _) _⟩
 have c3:V2.cell? ⟨b3,0,none⟩=some (.pointer (some ⟨z,0,none⟩)):=by have:=HS0.out.x3.cell 0;simpa using this
 have cz:V2.cell? ⟨z,0,none⟩=some (.int .i64 11):=by have:=HS0.out.ms.cell 0;rw[List.getElem?_toArray]at this;exact this
 have hzg:z≠g:=HS0.out.ne.2.2.1
 clear k1 k2 k02 z1 hr hm
 go_enter Tryz.func47,Tryz.ntmps47
 go_upto_region 1 with fail
 rw[←hV1,← hV2,← h2,← h3]
 clear hV1 hV2 h2 h3
 go_upto_region 2 with fail
 clear c3 cz
 go_upto_region 28 with fail
 refine Qdz [qq 0,qq 1,oo 2,oo 3,qq 4,qq 5] 6 (fun W=>Blk W b2 118 #[.pointer (some ⟨g,0,none⟩)]∧Blk W b3 124 #[.pointer (some ⟨z,0,none⟩)]) (by kernel_rfl) (by kernel_rfl) ⟨HS0.out.x2.fut (Q0z V2 1),HS0.out.x3.fut (Q0z V2 1)⟩ ?_
 refine' Q9z (s:=127) (A1:=_) [0,1] [_,_] _ rfl rfl rfl (fun W hW=>?hqa134) _ ⟨HS0.out.x2.fut (Q0z V2 1),HS0.out.x3.fut (Q0z V2 1)⟩ (fun _=>?hra134)
 case hqa134=>
  have e2:∀k,(W.drewN k).cell? ⟨b2,0,none⟩=some (.pointer (some ⟨g,0,none⟩)):=fun k=>by have:=hW.1.cell 0;simpa using this
  have e3:∀k,(W.drewN k).cell? ⟨b3,0,none⟩=some (.pointer (some ⟨z,0,none⟩)):=fun k=>by have:=hW.2.cell 0;simpa using this
  simp only[List.getElem_toArray,List.getElem_cons_zero,List.getElem_cons_succ]
  iterate 2 (go_big_quiet_step (fail))
  refine wpQuiet_nil ?_
  rfl
 case hra134=>
 refine Qbz rfl fun k135=>?_
 have hdr:Below V2.heap.size V2 (V2.drew.drewN k135):=Q7z (Below.refl _ _).drew k135
 have hstd:Stays (fun _=>False) V2 (V2.drew.drewN k135):=Stays.of_below hdr (Nat.le_refl _) _
 have HS136:=Lib.hid (HS0.out.fut hdr)
 clear HS0 hdr hstd
 generalize V2.drew.drewN k135=W136 at*
 go_wp2_with fail
 refine(want_any W136).mono ?_
 rintro e W138 ⟨vw138,rfl,how138,hbw138⟩
 obtain⟨pw138,nw138,cw138,rfl,hnw138,_⟩:=how138.open
 have HA138:=Lib.hid (AheadB.own how138)
 have HS138:=Lib.hid (HS136.out.fut hbw138)
 clear HS136 hbw138 how138
 go_wp2_with fail
 refine Q2z (And.intro ⟨HS138.out.x2,HS138.out.x3⟩ ?_)
 refine Qbz rfl fun k139=>?_
 have HA138b:=Lib.hid (HA138.out.fut (Q0z W138 k139))
 clear HA138
 have hdr:Below W138.heap.size W138 (W138.drewN k139):=Q0z W138 k139
 have hstd:Stays (fun _=>False) W138 (W138.drewN k139):=Stays.of_below hdr (Nat.le_refl _) _
 have HS140:=Lib.hid (HS138.out.fut hdr)
 clear HS138 hdr hstd
 generalize W138.drewN k139=W140 at*
 go_wp2_with fail
 refine(mHashes_any D B g 1000 hD.1 (by omega) W140 0 s pw138 nw138 cw138 wantB HS140.out.rd HA138b.out hnw138.out (by decide)).mono ?_
 rintro e W142 ⟨vv142,a142,er142,r142,rfl,hv142,HR142,HT142a,HT142⟩
 have HS142:=Lib.hid (HS140.out.call HR142.out HT142a.out)
 clear HS140 HR142
 have HV142:=Lib.hid hv142
 clear hv142
 obtain⟨ph142,nh142,ch142,rfl⟩:=HV142.out.opens
 go_wp2_with fail
 refine Q2z (And.intro ⟨HS142.out.x2,HS142.out.x3⟩ ?_)
 refine' Q9z (s:=127) (A1:=_) (r:=[]) [4,5] [_,_] _ rfl rfl rfl (fun W hW=>?hqb134) _ ⟨HS142.out.x2,HS142.out.x3⟩ (fun _=>?hrb134)
 case hqb134=>
  simp only[List.getElem_toArray,List.getElem_cons_zero,List.getElem_cons_succ]
  iterate 2 (go_big_quiet_step (fail))
  refine wpQuiet_nil ?_
  rfl
 case hrb134=>
 refine Qnz fun k144=>HeadQ.normal ?_
 have hdr:Below W142.heap.size W142 (W142.drewN k144):=Q0z W142 k144
 have hstd:Stays (fun _=>False) W142 (W142.drewN k144):=Stays.of_below hdr (Nat.le_refl _) _
 have HV142_146:=Lib.hid (HV142.out.sep (Qrz _) hstd (fun _ h=>h.elim))
 clear HV142
 have HS145:=Lib.hid (HS142.out.fut hdr)
 clear HS142 hdr hstd
 generalize W142.drewN k144=W145 at*
 have MA:=HS145.out.ms.msg Q6z Q6z
 have cz:=MA.c67
 have fz:=HS145.out.ms.frozen 67
 clear MA
 go_wp2_with fail
 have hstz:=Stays.set W145 z 67 (Value.slice ph142 nh142 ch142)
 have hsp:∀Ts,41∉Ts→Sep B Ts W145 (·=z):=fun Ts hT=>Qiz HS145.out.ms hT
 have HS147:Hid (FSt D B g z b2 b3 w (W145.setCell ⟨z,67,none⟩ (Value.slice ph142 nh142 ch142)) er142 r142 (Q8z (.int .i64 11) (u32 0#32) (u64 0#64) noHash noHash (Value.slice ph142 nh142 ch142) (.slice none 0 0) (.slice none 0 0) ZBlk)):=Lib.hid (HS145.out.put hD.2 (by have h:=HS145.out.ms.set 67 (Value.slice ph142 nh142 ch142);rw[msg_set67 _ _ _ _ _ _ _ Q6z Q6z]at h;exact h) hstz)
 have HV142_148:=Lib.hid (HV142_146.out.sep (Qrz _) hstz (hsp _ (by decide)))
 clear HV142_146
 clear HS145 cz fz hstz hsp
 generalize W145.setCell ⟨z,67,none⟩ (Value.slice ph142 nh142 ch142)=W147 at*
 first|go_end0|refine bodyPost_ret (results_none rfl _ _ _) rfl ?_
 exact⟨rfl,{ noMsg with k:=11,hs:=a142 },_,_,_,Lib.hid HS147.out.rd,Lib.hid HS147.out.ms,Lib.hid (⟨_,_,_,_,rfl,Q6z,Q6z,HV142_148.out,RowO.nil _ _ _ _ _,Own8.nil _ _,⟨.slice none 0 0,rfl,QGz,RowO.nil _ _ _ _ _⟩⟩),Lib.hid HS147.out.st,Lib.hid (by rw[fz11];exact(HT142.out).bind (Step.ret _ _ _))⟩
theorem fields_k13 (D B g z:Nat) (hD:D≤B∧D≤z) (hB:g<B∧z<B) (w:World) (s:Bs) (hr:MRd 122 D B g w 0 s) (hm:Blk w z 41 (msgZ 13).toArray):
 Calls Tryz.prog 47 #[.pointer (some ⟨g,0,none⟩),.pointer (some ⟨z,0,none⟩)] w (Xkz D B g z w (QCz 13) s):=by
 obtain⟨b2,h2⟩:∃b,b=w.heap.size:=⟨_,rfl⟩
 obtain⟨V1,hV1⟩:∃W,W=w.alloc (.cells #[.pointer (some ⟨g,0,none⟩)] 118):=⟨_,rfl⟩
 obtain⟨V2,hV2⟩:∃W,W=V1.alloc (.cells #[.pointer (some ⟨z,0,none⟩)] 124):=⟨_,rfl⟩
 have z1:V1.heap.size=b2+1:=by rw[hV1,World.size_alloc,h2]
 have k1:Below w.heap.size w V1:=by rw[hV1];exact Q1z w _
 have k2:Below V1.heap.size V1 V2:=by rw[hV2];exact Q1z V1 _
 have k02:=Q3z k1 k2 (Nat.le_refl _)
 obtain⟨b3,h3⟩:∃b,b=b2+1:=⟨_,rfl⟩
 have HS0:Hid (FSt D B g z b2 b3 w V2 0 s (Q8z (.int .i64 13) (u32 0#32) (u64 0#64) noHash noHash (.slice none 0 0) (.slice none 0 0) (.slice none 0 0) ZBlk)):=Lib.hid ⟨hr.fut k02,(show Blk V1 b2 _ _ by rw[hV1,h2];exact Blk.new w _ _).fut k2,(by rw[hV2,h3,← z1];exact Blk.new V1 _ _),hm.fut k02,Stays.of_below k02 (Nat.le_refl _) _⟩
 have c3:V2.cell? ⟨b3,0,none⟩=some (.pointer (some ⟨z,0,none⟩)):=by have:=HS0.out.x3.cell 0;simpa using this
 have cz:V2.cell? ⟨z,0,none⟩=some (.int .i64 13):=by have:=HS0.out.ms.cell 0;rw[List.getElem?_toArray]at this;exact this
 have hzg:z≠g:=HS0.out.ne.2.2.1
 clear k1 k2 k02 z1 hr hm
 go_enter Tryz.func47,Tryz.ntmps47
 go_upto_region 1 with fail
 rw[←hV1,← hV2,← h2,← h3]
 clear hV1 hV2 h2 h3
 go_upto_region 2 with fail
 clear c3 cz
 go_upto_region 28 with fail
 refine Qdz [qq 0,qq 1,oo 2,oo 3,qq 4,qq 5] 6 (fun W=>Blk W b2 118 #[.pointer (some ⟨g,0,none⟩)]∧Blk W b3 124 #[.pointer (some ⟨z,0,none⟩)]) (by kernel_rfl) (by kernel_rfl) ⟨HS0.out.x2.fut (Q0z V2 1),HS0.out.x3.fut (Q0z V2 1)⟩ ?_
 refine' Q9z (s:=127) (A1:=_) [0,1] [_,_] _ rfl rfl rfl (fun W hW=>?hqa149) _ ⟨HS0.out.x2.fut (Q0z V2 1),HS0.out.x3.fut (Q0z V2 1)⟩ (fun _=>?hra149)
 case hqa149=>
  have e2:∀k,(W.drewN k).cell? ⟨b2,0,none⟩=some (.pointer (some ⟨g,0,none⟩)):=fun k=>by have:=hW.1.cell 0;simpa using this
  have e3:∀k,(W.drewN k).cell? ⟨b3,0,none⟩=some (.pointer (some ⟨z,0,none⟩)):=fun k=>by have:=hW.2.cell 0;simpa using this
  simp only[List.getElem_toArray,List.getElem_cons_zero,List.getElem_cons_succ]
  iterate 2 (go_big_quiet_step (fail))
  refine wpQuiet_nil ?_
  rfl
 case hra149=>
 refine Qbz rfl fun k150=>?_
 have hdr:Below V2.heap.size V2 (V2.drew.drewN k150):=Q7z (Below.refl _ _).drew k150
 have hstd:Stays (fun _=>False) V2 (V2.drew.drewN k150):=Stays.of_below hdr (Nat.le_refl _) _
 have HS151:=Lib.hid (HS0.out.fut hdr)
 clear HS0 hdr hstd
 generalize V2.drew.drewN k150=W151 at*
 go_wp2_with fail
 refine(want_any W151).mono ?_
 rintro e W153 ⟨vw153,rfl,how153,hbw153⟩
 obtain⟨pw153,nw153,cw153,rfl,hnw153,_⟩:=how153.open
 have HA153:=Lib.hid (AheadB.own how153)
 have HS153:=Lib.hid (HS151.out.fut hbw153)
 clear HS151 hbw153 how153
 go_wp2_with fail
 refine Q2z (And.intro ⟨HS153.out.x2,HS153.out.x3⟩ ?_)
 refine Qbz rfl fun k154=>?_
 have HA153b:=Lib.hid (HA153.out.fut (Q0z W153 k154))
 clear HA153
 have hdr:Below W153.heap.size W153 (W153.drewN k154):=Q0z W153 k154
 have hstd:Stays (fun _=>False) W153 (W153.drewN k154):=Stays.of_below hdr (Nat.le_refl _) _
 have HS155:=Lib.hid (HS153.out.fut hdr)
 clear HS153 hdr hstd
 generalize W153.drewN k154=W155 at*
 go_wp2_with fail
 refine(mHashes_any D B g 1000 hD.1 (by omega) W155 0 s pw153 nw153 cw153 wantB HS155.out.rd HA153b.out hnw153.out (by decide)).mono ?_
 rintro e W157 ⟨vv157,a157,er157,r157,rfl,hv157,HR157,HT157a,HT157⟩
 have HS157:=Lib.hid (HS155.out.call HR157.out HT157a.out)
 clear HS155 HR157
 have HV157:=Lib.hid hv157
 clear hv157
 obtain⟨ph157,nh157,ch157,rfl⟩:=HV157.out.opens
 go_wp2_with fail
 refine Q2z (And.intro ⟨HS157.out.x2,HS157.out.x3⟩ ?_)
 refine' Q9z (s:=127) (A1:=_) (r:=[]) [4,5] [_,_] _ rfl rfl rfl (fun W hW=>?hqb149) _ ⟨HS157.out.x2,HS157.out.x3⟩ (fun _=>?hrb149)
 case hqb149=>
  simp only[List.getElem_toArray,List.getElem_cons_zero,List.getElem_cons_succ]
  iterate 2 (go_big_quiet_step (fail))
  refine wpQuiet_nil ?_
  rfl
 case hrb149=>
 refine Qnz fun k159=>HeadQ.normal ?_
 have hdr:Below W157.heap.size W157 (W157.drewN k159):=Q0z W157 k159
 have hstd:Stays (fun _=>False) W157 (W157.drewN k159):=Stays.of_below hdr (Nat.le_refl _) _
 have HV157_161:=Lib.hid (HV157.out.sep (Qrz _) hstd (fun _ h=>h.elim))
 clear HV157
 have HS160:=Lib.hid (HS157.out.fut hdr)
 clear HS157 hdr hstd
 generalize W157.drewN k159=W160 at*
 have MA:=HS160.out.ms.msg Q6z Q6z
 have cz:=MA.c67
 have fz:=HS160.out.ms.frozen 67
 clear MA
 go_wp2_with fail
 have hstz:=Stays.set W160 z 67 (Value.slice ph157 nh157 ch157)
 have hsp:∀Ts,41∉Ts→Sep B Ts W160 (·=z):=fun Ts hT=>Qiz HS160.out.ms hT
 have HS162:Hid (FSt D B g z b2 b3 w (W160.setCell ⟨z,67,none⟩ (Value.slice ph157 nh157 ch157)) er157 r157 (Q8z (.int .i64 13) (u32 0#32) (u64 0#64) noHash noHash (Value.slice ph157 nh157 ch157) (.slice none 0 0) (.slice none 0 0) ZBlk)):=Lib.hid (HS160.out.put hD.2 (by have h:=HS160.out.ms.set 67 (Value.slice ph157 nh157 ch157);rw[msg_set67 _ _ _ _ _ _ _ Q6z Q6z]at h;exact h) hstz)
 have HV157_163:=Lib.hid (HV157_161.out.sep (Qrz _) hstz (hsp _ (by decide)))
 clear HV157_161
 clear HS160 cz fz hstz hsp
 generalize W160.setCell ⟨z,67,none⟩ (Value.slice ph157 nh157 ch157)=W162 at*
 first|go_end0|refine bodyPost_ret (results_none rfl _ _ _) rfl ?_
 exact⟨rfl,{ noMsg with k:=13,hs:=a157 },_,_,_,Lib.hid HS162.out.rd,Lib.hid HS162.out.ms,Lib.hid (⟨_,_,_,_,rfl,Q6z,Q6z,HV157_163.out,RowO.nil _ _ _ _ _,Own8.nil _ _,⟨.slice none 0 0,rfl,QGz,RowO.nil _ _ _ _ _⟩⟩),Lib.hid HS162.out.st,Lib.hid (by rw[fz13];exact(HT157.out).bind (Step.ret _ _ _))⟩
end Go.Proofs.YtjbijcjcejfpcaaGreatDoor
