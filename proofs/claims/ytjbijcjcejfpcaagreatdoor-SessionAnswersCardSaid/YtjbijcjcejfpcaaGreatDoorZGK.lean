/- Blocks, plain: their bytes, and what bytes say; their cells. · block.Encode: the -/
import Derived.Test.YtjbijcjcejfpcaaGreatDoorZTxRe
namespace Go.Proofs.YtjbijcjcejfpcaaGreatDoor
set_option linter.unusedVariables false
set_option maxRecDepth 100000
set_option maxHeartbeats 16000000
section
open Go Go.RowKit
structure TBlk where
 h:Hdr
 ts:List TTx
def txsB (ts:List TTx):Bs:=(ts.map fun t=>txB t (hasWs t.is)).flatten
def blkB (b:TBlk):Bs:=b.h.bytes++(cntB b.ts.length++txsB b.ts)
def blkP (b:TBlk):Bs × Int:=if 2000<b.ts.length then([],1)else if b.ts.all canTx then(if 200000<(blkB b).length then([],91)else(blkB b,0))else([],1)
def noBlk:TBlk:=⟨noHdr,[]⟩
def hdrZ:Pz Hdr:=fun s=>if s.length<80 then .error 50 else .ok (hdrOf s,s.drop 80)
def blkZ:Pz TBlk:=hdrZ.bind fun h=>(cntZ 2000).bind fun n=>(manyZ txZ n).bind fun ts=>Pz.ret ⟨h,ts⟩
def endB (x:Except Int (TBlk × Bs)):TBlk × Int:=match x with
 | .error k=>(noBlk,k)
 | .ok (b,r)=>if r=[]then(b,0)else(noBlk,70)
def Xtz (s:Bs):TBlk × Int:=if 200000<s.length then(noBlk,91)else endB (blkZ s)
theorem reads_hdr (h:Hdr) (hk:h.ok):Reads hdrZ h h.bytes:=fun r=>by
 have h4:=hdrP_bytes h hk r
 unfold hdrP at h4
 rw[if_neg (by rw[List.length_append,Hdr.bytes_len hk];omega)]at h4
 injection h4 with h5 h6
 injection h6 with h6
 unfold hdrZ
 rw[if_neg (by rw[List.length_append,Hdr.bytes_len hk];omega),h5,h6]
theorem reads_blk (b:TBlk) (hk:b.h.ok) (hn:b.ts.length≤2000) (hc:∀t∈b.ts,canTx t=true) (ho:∀t∈b.ts,okTx t):Reads blkZ b (blkB b):=by
 unfold blkZ blkB
 refine(reads_hdr b.h hk).bind ((reads_cnt b.ts.length 2000 hn (by omega)).bind (Reads.last (reads_many txZ (fun t=>txB t (hasWs t.is)) b.ts fun t ht=>reads_tx t (hc t ht) (ho t ht)) (Reads.ret _)))
theorem blk_dec (b:TBlk) (hk:b.h.ok) (hn:b.ts.length≤2000) (hc:∀t∈b.ts,canTx t=true) (ho:∀t∈b.ts,okTx t) (r:Bs):blkZ (blkB b++r)= .ok (b,r):=reads_blk b hk hn hc ho r
def BlkC (w:World) (b:TBlk) (cs:List Value):Prop:=∃v,cs=b.h.cells++[v]∧b.h.ok∧ESl TxC 4 w v b.ts
def BlkO (B:Nat) (w:World) (b:TBlk) (cs:List Value):Prop:=∃v,cs=b.h.cells++[v]∧b.h.ok∧RowO (TxO B) 171 4 B w v b.ts
theorem blkC_keeps:Keeps BlkC:=fun w w' x cs ⟨v,h1,h2,h3⟩ hb=>⟨v,h1,h2,h3.fut txC_keeps hb⟩
theorem XTz (B:Nat):KeepsO B [171,5,26,209,204] (BlkO B):=fun w w' S x cs ⟨v,h1,h2,h3⟩ hs hp=>⟨v,h1,h2,h3.sep (QJz B) hs hp⟩
theorem BlkO.c {B:Nat} {w:World} {b:TBlk} {cs:List Value} (h:BlkO B w b cs):BlkC w b cs:=by
 obtain⟨v,h1,h2,h3⟩:=h
 exact⟨v,h1,h2,h3.e fun _ _ h=>h.c⟩
theorem BlkC.len {w:World} {b:TBlk} {cs:List Value} (h:BlkC w b cs):cs.length=69:=by
 obtain⟨v,rfl,hk,_⟩:=h
 rw[List.length_append,Hdr.cells_len hk]
 rfl
theorem BlkC.one {w:World} {b:TBlk} {cs:List Value} (h:BlkC w b cs):cs.toArray.all (·.oneCell')=true:=by
 obtain⟨v,rfl,hk,hv⟩:=h
 have:=Hdr.cells_one b.h
 rw[List.all_toArray]at this ⊢
 rw[List.all_append,this]
 simp only[List.all_cons,List.all_nil,Bool.and_true,Bool.true_and]
 exact hv.one
theorem BlkC.ok {w:World} {b:TBlk} {cs:List Value} (h:BlkC w b cs):∀t∈b.ts,okTx t:=fun t ht=>by
 obtain⟨v,_,_,hv⟩:=h
 obtain⟨cs,hc⟩:=hv.mem ht
 exact hc.ok
theorem QSz {cs:List Value} (h:cs.length=69):(Tryz.prog.info? 39).map (·.size)=some cs.length:=by rw[h];kernel_rfl
theorem Blk.hdr {w:World} {g:Nat} {t:TypeId} {h:Hdr} {v:Value} (hb:Blk w g t (h.cells++[v]).toArray):w.rangeAt g 0 h.cells:=fun j u hj=>by
 rw[Nat.zero_add,hb.cell,List.getElem?_toArray,List.getElem?_append_left]
 ·exact hj
 ·exact(List.getElem?_eq_some_iff.1 hj).1
theorem txB_le {t:TTx} (h:canTx t=true) {w:World} {cs:List Value} (hc:TxC w t cs):(txB t (hasWs t.is)).length≤10000000000:=txB_big h hc _
theorem blkP_cases (b:TBlk):(∃k,k≠0∧blkP b=([],k))∨(blkP b=(blkB b,0)∧b.ts.length≤2000∧(∀t∈b.ts,canTx t=true)∧(blkB b).length≤200000):=by
 unfold blkP
 split
 ·exact .inl ⟨1,by decide,rfl⟩
 ·split
  ·rename_i h1 h2
   rw[List.all_eq_true]at h2
   split
   ·exact .inl ⟨91,by decide,rfl⟩
   ·rename_i h3
    exact .inr ⟨rfl,by omega,h2,by omega⟩
  ·exact .inl ⟨1,by decide,rfl⟩
theorem BlkC.hok {w:World} {b:TBlk} {cs:List Value} (h:BlkC w b cs):b.h.ok:=by obtain⟨_,_,h,_⟩:=h;exact h
def HashE (w:World) (x:Bs) (cs:List Value):Prop:=cs=Q5z x∧x.length=32
theorem Qrz (B:Nat):KeepsO B [] HashE:=fun _ _ _ _ _ h _ _=>h
end
section
open Go Go.RowKit
theorem blkP_many {b:TBlk} (h:2000<b.ts.length):blkP b=([],1):=by unfold blkP;rw[if_pos h]
theorem blkP_bad {b:TBlk} (h:¬2000<b.ts.length) {k:Nat} {t:TTx} (ht:b.ts[k]? =some t) (hc:canTx t=false):blkP b=([],1):=by
 unfold blkP
 rw[if_neg h,if_neg]
 rw[all_miss canTx b.ts k t ht hc]
 simp
theorem blkP_long {b:TBlk} (h:¬2000<b.ts.length) (hc:b.ts.all canTx=true) (hl:200000<(blkB b).length):blkP b=([],91):=by
 unfold blkP
 rw[if_neg h,if_pos hc,if_pos hl]
theorem blkP_fine {b:TBlk} (h:¬2000<b.ts.length) (hc:b.ts.all canTx=true) (hl:¬200000<(blkB b).length):blkP b=(blkB b,0):=by
 unfold blkP
 rw[if_neg h,if_pos hc,if_neg hl]
end
section
open Go Go.RowKit
theorem refBlkEncode_any (b:TBlk) (cs:List Value) (w:World) (hc:BlkC w b cs):Calls Tryz.prog 70 #[.agg cs.toArray] w (OutB w (blkP b)):=by
 obtain⟨P,hP⟩:∃P,P=blkP b:=⟨_,rfl⟩
 rw[←hP]
 have HP:=Lib.hid hP
 have hlen:=hc.len
 obtain⟨v,hcs,hk,hv⟩:=hc
 obtain⟨pt,n,ct,rfl⟩:=hv.opens
 obtain⟨hn,hnc,hcm⟩:=hv.slen
 have HCS:=Lib.hid hcs
 have HK:=Lib.hid hk
 have HV:=Lib.hid hv
 have HN:=Lib.hid hn
 have HLEN:=Lib.hid hlen
 have hb1:=Q1z w (.cells cs.toArray 39)
 have HB:=Lib.hid (Blk.new w 39 cs.toArray)
 clear hP hcs hk hv hn hlen
 go_enter Tryz.func70,Tryz.ntmps70
 go_upto_region 1 with fail
 generalize w.alloc (.cells cs.toArray 39)=w1 at*
 have HB01:=Lib.hid hb1
 obtain⟨z,hz⟩:∃z,z=w.heap.size:=⟨_,rfl⟩
 rw[←hz]at HB ⊢
 have hlt:=HB.out.lt
 have HLT:=Lib.hid hlt
 have HAT:Hid (cs.toArray[68]? =some (.slice pt n ct)):=Lib.hid (by
  rw[HCS.out,List.getElem?_toArray,List.getElem?_append_right (by rw[Hdr.cells_len HK.out];exact Nat.le_refl _),Hdr.cells_len HK.out]
  rfl)
 clear hz hb1 hlt
 have c68:w1.cell? ⟨z,68,none⟩=some (.slice pt n ct):=by rw[HB.out.cell];exact HAT.out
 by_cases h2:2000<n
 ·have hl:(2000:Int)<(n:Int):=by omega
  have HP2:Hid (P=([],1)):=Lib.hid (by rw[HP.out];exact blkP_many (by have:=HN.out;omega))
  go_wp2_with fail
  go_ret2
  exact OutB.of HP2 ⟨rfl,.inl ⟨rfl,rfl⟩⟩ HB01.out
 have hl:¬(2000:Int)<(n:Int):=by omega
 have hn2:n≤2000:=by omega
 have HN2:Hid (¬2000<b.ts.length):=Lib.hid (by have:=HN.out;omega)
 go_upto_region 3 with fail
 clear hl h2 c68
 have hiv:=Zmz n (by omega)
 refine QAz [qq 0,qq 1,qq 3,qq 4,qq 5,qq 6,oo 2,oo 7,oo 8,qq 9] (fun W=>Blk W z 39 cs.toArray) (by kernel_rfl) (by kernel_rfl) (HB.out.fut (Q0z w1 1)) ?_
 refine' Q9z (s:=45) (A1:=_) [0,1,3,4,5,6] [_,_,_,_,_,_] _ rfl rfl rfl (fun W hW=>?hq1) _ (HB.out.fut (Q0z w1 1)) (fun _=>?hr1)
 case hq1=>
  have c68:∀k,(W.drewN k).cell? ⟨z,68,none⟩=some (.slice pt n ct):=fun k=>by have:=hW.cell 68;rw[HAT.out]at this;exact this
  try simp only[List.getElem_toArray,List.getElem_cons_zero,List.getElem_cons_succ]
  iterate 1 (go_big_quiet_step (fail))
  refine Qtz rfl 36 (.tmp 13) rfl z 0 rfl b.h.cells _ (fun w hw=>?_) Tryz.underlying36 rfl (XWz HK.out) ?_
  ·obtain⟨k,rfl⟩:=hw
   exact Blk.hdr (h:=b.h) (v:=.slice pt n ct) (HCS.out▸hW.drewN k)
  simp only[X4z,List.setIfInBounds_toArray,List.set_cons_succ,List.set_cons_zero]
  iterate 4 (go_big_quiet_step (fail))
  refine wpQuiet_nil ?_
  rfl
 case hr1=>
 refine Qbz rfl fun k1=>?_
 have hdr:Below w1.heap.size w1 (w1.drew.drewN k1):=Q7z (Below.refl _ _).drew k1
 have HWa:=Lib.hid hdr
 have hFa:=HB.out.fut hdr
 clear hdr
 generalize w1.drew.drewN k1=Wa at*
 go_wp2_with fail
 refine(refHdrEncode_any b.h HK.out Wa).mono ?_
 rintro e Wb ⟨vh,rfl,hoh,hbb⟩
 replace hoh:Own8 Wb Wa.heap.size vh b.h.bytes:=hoh
 have HH:=Lib.hid (Qmz hoh HWa.out.size:Own8 Wb w1.heap.size vh b.h.bytes)
 have HWb:Hid (Below w1.heap.size w1 Wb):=Lib.hid (Q3z HWa.out hbb (Nat.le_refl _))
 have hFb:=hFa.fut hbb
 clear hoh hbb hFa HWa
 go_wp2_with fail
 refine Q2z (And.intro hFb ?_)
 refine Qbz rfl fun k2=>?_
 have hdr:=Q0z Wb k2
 have HHn:=Lib.hid (Own8.fut HH.out hdr)
 have HH2:=HHn
 have HWc:Hid (Below w1.heap.size w1 (Wb.drewN k2)):=Lib.hid (Q3z HWb.out hdr (Nat.le_refl _))
 have hFc:=hFb.fut hdr
 clear HH HHn HWb hFb hdr
 generalize Wb.drewN k2=Wc at*
 go_wp2_with fail
 refine(Zkz n (by omega) Wc).mono ?_
 rintro e W3 ⟨vn,rfl,hon,hb3⟩
 replace hon:Own8 W3 Wc.heap.size vn (cntB n):=hon
 obtain⟨pn,nn,cn,rfl,hnn,hnnc,hcmn,hrn⟩:=hon.open
 have HH3:=Lib.hid (Own8.fut HH2.out hb3)
 have HW3:Hid (Below w1.heap.size w1 W3):=Lib.hid (Q3z HWc.out hb3 (Nat.le_refl _))
 have hF3:=hFc.fut hb3
 clear hon hb3 HH2 HWc hFc
 go_wp2_with fail
 refine Q2z (And.intro hF3 ?_)
 refine Qbz rfl fun k3=>?_
 have hdr:=Q0z W3 k3
 have HH3n:=Lib.hid (Own8.fut HH3.out hdr)
 have HH4:=HH3n
 have HWd:Hid (Below w1.heap.size w1 (W3.drewN k3)):=Lib.hid (Q3z HW3.out hdr (Nat.le_refl _))
 have hFd:=hF3.fut hdr
 have hrn4:=hrn.fut hdr
 clear HH3 HH3n HW3 hF3 hrn hdr
 generalize W3.drewN k3=Wd at*
 refine Qaz (o:=⟨some 21,_,_,_,_,_⟩) rfl (.tmp 15) (.tmp 20) rfl w1.heap.size vh b.h.bytes rfl HH4.out pn nn cn (cntB n) rfl hnn.out hrn4 (by rw[Hdr.bytes_len HK.out];have:=QXz n;omega) HWd.out.size w1.heap.size w1 HWd.out (Nat.le_refl _) ?_
 intro v5 We ho5 hb5 hg5 _
 have HW5:Hid (Wr w1 We v5 (b.h.bytes++cntB n)):=Lib.hid ⟨hb5,ho5⟩
 have hFe:=hFd.stays (Stays.of_grown (S:=fun k=>vh.ownBlock=some k) hg5 fun k h=>h) ((Sfx8.of HH4.out).apart hFd (by decide))
 clear ho5 hb5 hg5
 clear HH4 HWd hFd hrn4
 go_wp2_with fail
 refine Q2z (And.intro hFe ?_)
 refine' Q9z (s:=45) (A1:=_) (r:=[]) [9] [_] _ rfl rfl rfl (fun W hW=>?hq2) _ hFe (fun _=>?hr2)
 case hq2=>
  try simp only[List.getElem_toArray,List.getElem_cons_zero,List.getElem_cons_succ]
  iterate 1 (go_big_quiet_step (fail))
  refine wpQuiet_nil ?_
  rfl
 case hr2=>
 refine Qnz fun k4=>NoPanic.normal ?_
 have HW6:=Lib.hid (HW5.out.fut (Q0z We k4))
 have hF6:=hFe.fut (Q0z We k4)
 clear HW5 hFe
 generalize We.drewN k4=W6 at*
 have c68:W6.cell? ⟨z,68,none⟩=some (.slice pt n ct):=by rw[hF6.cell];exact HAT.out
 go_upto_region 5 with fail
 clear c68 hF6 hiv
 obtain⟨Y,hY⟩:∃Y:Bs,Y=b.h.bytes++cntB n:=⟨_,rfl⟩
 rw[←hY]at HW6
 have HYL:Hid (Y.length≤100):=Lib.hid (by rw[hY,List.length_append,Hdr.bytes_len HK.out];have:=QXz n;omega)
 have HY:=Lib.hid hY
 clear hY
 have HAL:Hid (∀k,(∀j t,b.ts[j]? =some t→j<k→canTx t=true)→(preB (fun t=>txB t (hasWs t.is)) b.ts k).length≤2000*10000000000):=Lib.hid fun k hk=>by
  have hx:∀t∈b.ts.take k,(txB t (hasWs t.is)).length≤10000000000:=fun t ht=>by
   obtain⟨j,hj,e⟩:=List.mem_take_iff_getElem.1 ht
   have hm:b.ts[j]? =some t:=by rw[List.getElem?_eq_getElem (by omega),e]
   obtain⟨cs,hE⟩:=HV.out.mem (List.mem_of_getElem? hm)
   exact txB_le (hk j t hm (by omega)) hE
  have h1:=flat_le (fun t:TTx=>txB t (hasWs t.is)) 10000000000 (b.ts.take k) hx
  have h2:(b.ts.take k).length≤2000:=by rw[List.length_take];have:=HN.out;omega
  exact Nat.le_trans h1 (Nat.mul_le_mul h2 (Nat.le_refl _))
 go_loopw[4,25] (fun v i wr=>∃k:Nat,k≤n∧i= .int .i64 k∧Hid (∀j t,b.ts[j]? =some t→j<k→canTx t=true)∧Hid (Wr w1 wr v (Y++preB (fun t=>txB t (hasWs t.is)) b.ts k))) (fun _ i _=>n-(intOf i).toNat)
 case atStart=>exact⟨0,by omega,rfl,Lib.hid (by intro j t _ hj;omega),Lib.hid (by rw[preB_zero,List.append_nil];exact HW6.out)⟩
 case round=>
  clear HW6
  obtain⟨k,hk,rfl,HAk,HWk⟩:=hrel
  by_cases hkn:k<n
  case neg=>
   obtain rfl:k=n:=by omega
   have hall:b.ts.all canTx=true:=by
    rw[List.all_eq_true]
    intro t ht
    obtain⟨j,hj⟩:=List.getElem?_of_mem ht
    exact HAk.out j t hj (by have:=(List.getElem?_eq_some_iff.1 hj).1;have:=HN.out;omega)
   have hbb:blkB b=Y++preB (fun t=>txB t (hasWs t.is)) b.ts k:=by
    rw[preB_all _ _ _ (by have:=HN.out;omega),HY.out]
    unfold blkB txsB
    rw[HN.out,List.append_assoc]
   have hge:¬(k:Int)<(k:Int):=by omega
   rw[←hbb]at HWk
   obtain⟨B,hB⟩:∃B:Bs,B=blkB b:=⟨_,rfl⟩
   rw[←hB]at HWk
   have hlong:=blkP_long (b:=b) HN2.out hall
   have hfine:=blkP_fine (b:=b) HN2.out hall
   rw[←HP.out,← hB]at hlong hfine
   obtain⟨q5,m5,d5,rfl,hm5,_⟩:=HWk.out.own.open
   have HLO:=Lib.hid hlong
   have HFI:=Lib.hid hfine
   have HM5:=Lib.hid hm5.out
   clear hall hbb hB hlong hfine hm5
   by_cases hlong:200000<m5
   ·have hli:(200000:Int)<(m5:Int):=by omega
    have HP2:Hid (P=([],91)):=Lib.hid (HLO.out (by have:=HM5.out;omega))
    have HW:=Lib.hid HWk.out.below
    clear HWk
    go_wp2_with fail
    go_ret2
    exact OutB.of HP2 ⟨rfl,.inl ⟨rfl,rfl⟩⟩ (HB01.out.trans (HW.out.mono HB01.out.size))
   ·have hli:¬(200000:Int)<(m5:Int):=by omega
    have HP2:Hid (P=(B,0)):=Lib.hid (HFI.out (by have:=HM5.out;omega))
    go_wp2_with fail
    go_ret2
    exact OutB.of HP2 (Qmz HWk.out.own HB01.out.size) (HB01.out.trans (HWk.out.below.mono HB01.out.size))
  have hlt:(k:Int)<(n:Int):=by omega
  obtain⟨bb,off,cs2,t,rfl,hx,hE,l2⟩:=HV.out.at (Q3z HB01.out HWk.out.below (Nat.le_refl _)) hkn
  have hl4:cs2.length=4:=by obtain⟨_,_,rfl,_⟩:=hE;rfl
  have H3:=Lib.hid hl4
  have H1:=Lib.hid hE.one
  have HX:=Lib.hid hx
  have HE:=Lib.hid hE
  have hz:=zTx
  have hbr:=Q1z wr (.cells ZTx.toArray 171)
  have hzs:ZTx.toArray.size=cs2.toArray.size:=by rw[List.size_toArray,List.size_toArray,hl4];rfl
  obtain⟨qk,mk,dk,rfl⟩:=HWk.out.opens
  clear hx hl4 hE
  go_upto_region 7 with(first
   |(with_reducible refine wpList_load_mid (op:=⟨some 28,_,_,_,_,_⟩) ?_ 171 (.tmp 27) ?_ (bb) (off+k*4) ?_ (cs2) _ (l2) Tryz.underlying171 ?_ ?_ ?_
     ·rfl
     ·rfl
     ·rfl
     ·rfl
     ·exact((QIz H3.out)))
   |(with_reducible refine Q4z (o:=⟨none,_,_,_,_,_⟩) ?_ 171 (.tmp 6) (.tmp 28) ?_ (wr.heap.size) 171 (ZTx.toArray) (cs2.toArray) ?_ ?_ (Blk.new wr _ _) ?_ ?_ ?_ (wr.heap.size) (wr) ?_ ?_ ?_
     ·rfl
     ·rfl
     ·rfl
     ·rfl
     ·exact(by rw[List.size_toArray];exact QIz H3.out)
     ·exact(hzs)
     ·exact(H1.out)
     ·exact(hbr)
     ·exact(Nat.le_refl _)
     intro w6 hB6 hb6 hg6 hs6))
  have HW6:=Lib.hid (HWk.out.fut hb6)
  have l6:=Qfz hB6.out
  have hC6:=txC_keeps _ _ _ _ HE.out (Q3z HB01.out HW6.out.below (Nat.le_refl _))
  have hcall:=refTxEncode_any t cs2 true w6 hC6
  obtain⟨g,hg⟩:∃g,g=wr.heap.size:=⟨_,rfl⟩
  rw[←hg]at l6 ⊢
  have hPt:txP t true=(if canTx t then(txB t (hasWs t.is),0)else([],1)):=by unfold txP;simp
  clear hb6 hg6 hs6 hB6 l2 hbr hz hg HWk hzs
  try simp only[Qpz]
  by_cases hcan:canTx t=true
  case neg=>
   have hcf:canTx t=false:=by cases h:canTx t<;>simp_all
   rw[hPt,if_neg hcan]at hcall
   unfold OutB at hcall
   simp only at hcall
   have HP2:Hid (P=([],1)):=Lib.hid (by rw[HP.out];exact blkP_bad HN2.out HX.out hcf)
   clear hcan hcf hPt
   go_wp2_with(first
    |(with_reducible refine wpList_load_mid (op:=⟨some 30,_,_,_,_,_⟩) ?_ 171 (.tmp 6) ?_ (g) (0) ?_ (cs2) _ (l6) Tryz.underlying171 ?_ ?_ ?_
      ·rfl
      ·rfl
      ·rfl
      ·rfl
      ·exact((QIz H3.out)))
    |(with_reducible refine hcall.mono ?_;rintro e w7 ⟨v7,rfl,ho7,hb7⟩))
   have HB7:=Lib.hid (HW6.out.fut hb7).below
   clear ho7 hb7
   go_ret2
   exact OutB.of HP2 ⟨rfl,.inl ⟨rfl,rfl⟩⟩ (HB01.out.trans (HB7.out.mono HB01.out.size))
  rw[hPt,if_pos hcan]at hcall
  unfold OutB at hcall
  simp only at hcall
  have hbl:=txB_le hcan hC6
  obtain⟨X,hX⟩:∃X:Bs,X=txB t (hasWs t.is):=⟨_,rfl⟩
  rw[←hX]at hcall hbl
  have HXX:=Lib.hid hX
  have HBL:=Lib.hid hbl
  have HCAN:=Lib.hid hcan
  clear hPt hX hbl hcan hC6
  go_upto_region 10 with(first
   |(with_reducible refine wpList_load_mid (op:=⟨some 30,_,_,_,_,_⟩) ?_ 171 (.tmp 6) ?_ (g) (0) ?_ (cs2) _ (l6) Tryz.underlying171 ?_ ?_ ?_
     ·rfl
     ·rfl
     ·rfl
     ·rfl
     ·exact((QIz H3.out)))
   |(with_reducible refine hcall.mono ?_;rintro e w7 ⟨v7,rfl,ho7,hb7⟩))
  obtain⟨p7,n7,c7,rfl,hn7,hnc7,hcm7,hr7⟩:=ho7.open
  have HW7:=Lib.hid (HW6.out.fut hb7)
  have hlk:=HAL.out k HAk.out
  have hL:(Y++preB (fun t=>txB t (hasWs t.is)) b.ts k).length≤30000000000000:=by rw[List.length_append];have:=HYL.out;omega
  have HL:=Lib.hid hL
  have ho8:=HW7.out.own
  have hb8:=HW7.out.below
  have hs8:=hb8.size
  clear ho7 hb7 hlk hL hcall l6 HW6
  go_upto_region 11 with((with_reducible refine Qaz (o:=⟨some 39,_,_,_,_,_⟩) ?_ (.tmp 37) (.tmp 38) ?_ (w1.heap.size) _ (_) ?_ (ho8) (p7) (n7) (c7) (X) ?_ (hn7.out) (hr7) ?_ (hs8) (w1.heap.size) (w1) (hb8) ?_ ?_
                          ·rfl
                          ·rfl
                          ·rfl
                          ·rfl
                          ·have:=HL.out;have:=HBL.out;omega
                          ·exact Nat.le_refl _
                          intro v9 w9 ho9 hb9 hg9 hk9))
  have HW9:Hid (Wr w1 w9 v9 (Y++preB (fun t=>txB t (hasWs t.is)) b.ts (k+1))):=Lib.hid (by
   have:=HW7.out.grew ho9 (Grew.of_app hg9 hk9)
   rw[HXX.out,List.append_assoc]at this
   rw[preB_succ (fun t:TTx=>txB t (hasWs t.is)) b.ts k t HX.out]
   exact this)
  have HA9:Hid (∀j t,b.ts[j]? =some t→j<k+1→canTx t=true):=Lib.hid fun j t' hj hlt=>by
   rcases Nat.lt_or_ge j k with h|h
   ·exact HAk.out j t' hj h
   ·obtain rfl:j=k:=by omega
    rw[HX.out]at hj
    injection hj with hj
    rw[←hj]
    exact HCAN.out
  clear ho9 hb9 hg9 hk9 ho8 hb8 hs8 hr7 HW7
  go_wp2_with fail
  go_roundw
  case rel=>exact⟨k+1,by omega,by go_num,HA9,HW9⟩
  case measure=>simp[intOf];omega
end
section
open Go Go.RowKit
def ZBlk:List Value:=noHdr.cells++[.slice none 0 0]
theorem zBlk:∀w,(zeroValue 39).run Tryz.prog w= .ok (.agg ZBlk.toArray) w:=zero_of (by kernel_rfl)
theorem built_blk0:Tryz.prog.built 39 []=some ZBlk.toArray:=by kernel_rfl
theorem zBlk_one:ZBlk.toArray.all (·.oneCell')=true:=by rw[List.all_toArray];rfl
theorem built_blkh (h:Hdr) (hk:h.ok):Tryz.prog.built 39 [(0,.agg h.cells.toArray)]=some (h.cells++[Value.slice none 0 0]).toArray:=by
 obtain⟨v,p,m,t,b,n⟩:=h
 obtain⟨hp,hm⟩:=hk
 simp only at hp hm
 obtain⟨x,rfl⟩:=asFn p 32 hp
 obtain⟨y,rfl⟩:=asFn m 32 hm
 kernel_rfl
def BlkDec (w:World) (x:TBlk × Int) (e:Ending) (w':World):Prop:=∃cs,e= .returned (.tuple #[.agg cs.toArray,.int .i64 x.2])∧BlkO w.heap.size w' x.1 cs∧Below w.heap.size w w'
theorem BlkDec.bad {w w':World} {x:TBlk × Int} {k:Int} (h:Hid (x=(noBlk,k))) (hb:Below w.heap.size w w'):BlkDec w x (.returned (.tuple #[.agg ZBlk.toArray,.int .i64 k])) w':=by
 rw[h.out]
 exact⟨ZBlk,rfl,⟨.slice none 0 0,rfl,QGz,RowO.nil _ _ _ _ _⟩,hb⟩
theorem tx_row:(Tryz.prog.info? 171).map (fun i=>(i.zero,i.size,i.bytes))=some (some (.agg ZTx.toArray),4,64):=by kernel_rfl
theorem TxO.len {B:Nat} {w:World} {t:TTx} {cs:List Value} (h:TxO B w t cs):cs.length=4:=by obtain⟨_,_,rfl,_⟩:=h;rfl
def restB (h:Hdr) (xs:List TTx) (m:Nat) (s:Bs):TBlk × Int:=endB (((contP xs txZ m).bind fun ts=>Pz.ret (⟨h,ts⟩:TBlk)) s)
theorem blkDec_long {s:Bs} (h:200000<s.length):Xtz s=(noBlk,91):=by unfold Xtz;rw[if_pos h]
theorem blkDec_hdr {s:Bs} (h:¬200000<s.length) {k:Int} (he:(hdrP s).2.2=k) (hk:k≠0):Xtz s=(noBlk,k):=by
 unfold Xtz
 rw[if_neg h]
 unfold hdrP at he
 by_cases hl:s.length<80
 ·rw[if_pos hl]at he
  have:hdrZ s= .error 50:=by unfold hdrZ;rw[if_pos hl]
  unfold blkZ
  rw[Pz.bind_err this,← he]
  rfl
 ·rw[if_neg hl]at he
  exact absurd he.symm hk
theorem blkDec_cnt {s r:Bs} {hd:Hdr} (h:¬200000<s.length) (he:hdrP s=(hd,r,0)):Xtz s=endB (((cntZ 2000).bind fun n=>(manyZ txZ n).bind fun ts=>Pz.ret (⟨hd,ts⟩:TBlk)) r):=by
 unfold Xtz
 rw[if_neg h]
 unfold hdrP at he
 by_cases hl:s.length<80
 ·rw[if_pos hl]at he
  exact absurd (congrArg (fun x=>x.2.2) he) (by show ¬(50:Int)=0;decide)
 ·rw[if_neg hl]at he
  injection he with h1 h2
  injection h2 with h2
  have:hdrZ s= .ok (hd,r):=by unfold hdrZ;rw[if_neg hl,h1,h2]
  unfold blkZ
  rw[Pz.bind_ok this]
theorem cnt_err {s r:Bs} {n:BitVec 64} {k:Int} (h:cutP s=(n,r,k)) (hk:k≠0) (f:Nat→Pz TBlk):endB (((cntZ 2000).bind f) s)=(noBlk,k):=by
 have:cntZ 2000 s= .error k:=by
  unfold cntZ
  rw[h]
  exact if_pos hk
 rw[Pz.bind_err this]
 rfl
theorem cnt_full {s r:Bs} {n:BitVec 64} (h:cutP s=(n,r,0)) (hn:2000<n.toNat) (f:Nat→Pz TBlk):endB (((cntZ 2000).bind f) s)=(noBlk,4):=by
 have:cntZ 2000 s= .error 4:=by
  unfold cntZ
  rw[h]
  simp[hn]
 rw[Pz.bind_err this]
 rfl
theorem cnt_fine {s r:Bs} {n:BitVec 64} (h:cutP s=(n,r,0)) (hn:¬2000<n.toNat) (hd:Hdr):endB (((cntZ 2000).bind fun n=>(manyZ txZ n).bind fun ts=>Pz.ret (⟨hd,ts⟩:TBlk)) s)=restB hd [] n.toNat r:=by
 have:cntZ 2000 s= .ok (n.toNat,r):=by
  unfold cntZ
  rw[h]
  simp[hn]
 rw[Pz.bind_ok this]
 unfold restB
 rw[contP_start]
theorem restB_err {hd:Hdr} {xs:List TTx} {m:Nat} {s:Bs} {k:Int} (h:txZ s= .error k):restB hd xs (m+1) s=(noBlk,k):=by
 unfold restB
 have:contP xs txZ (m+1) s= .error k:=contM_bad h
 rw[Pz.bind_err this]
 rfl
theorem restB_ok {hd:Hdr} {xs:List TTx} {m:Nat} {s r:Bs} {t:TTx} (h:txZ s= .ok (t,r)):restB hd xs (m+1) s=restB hd (xs++[t]) m r:=by
 unfold restB
 have:contP xs txZ (m+1) s=contP (xs++[t]) txZ m r:=contM_ok h
 unfold Pz.bind
 rw[this]
theorem restB_end {hd:Hdr} {xs:List TTx} {s:Bs}:restB hd xs 0 s=if s=[]then(⟨hd,xs⟩,0)else(noBlk,70):=by
 unfold restB
 have:contP xs txZ 0 s= .ok (xs,s):=contM_end xs txZ s
 rw[Pz.bind_ok this]
 rfl
theorem cut_len {s r:Bs} {n:BitVec 64} {k:Int} (h:cutP s=(n,r,k)):r.length≤s.length:=by
 have:=Xgz s
 rw[h]at this
 exact this
theorem txZ_len {s r:Bs} {t:TTx} (h:txZ s= .ok (t,r)):r.length≤s.length:=by
 obtain⟨h1,_⟩:=txZ_ok h
 rw[h1,List.length_append]
 omega
theorem hdr_len {s r:Bs} {hd:Hdr} (he:hdrP s=(hd,r,0)):r.length≤s.length∧hd.ok:=by
 unfold hdrP at he
 by_cases hl:s.length<80
 ·rw[if_pos hl]at he
  exact absurd (congrArg (fun x=>x.2.2) he) (by show ¬(50:Int)=0;decide)
 ·rw[if_neg hl]at he
  injection he with h1 h2
  injection h2 with h2
  subst h1 h2
  exact⟨by rw[List.length_drop];omega,hdrOf_ok s (by omega)⟩
theorem hdr_set (h:Hdr) (hk:h.ok) (u v:Value):(h.cells++[u]).toArray.setIfInBounds 68 v=(h.cells++[v]).toArray:=by
 rw[List.setIfInBounds_toArray,List.set_append_right _ _ (by rw[Hdr.cells_len hk];exact Nat.le_refl _),Hdr.cells_len hk]
 rfl
theorem blkDecode_any (p:Option Addr) (n c:Nat) (s:Bs) (w:World) (hr:Row8 w p s) (hn:s.length=n) (hl:n≤c) (hb:c≤9223372036854775807):
 Calls Tryz.prog 87 #[.slice p n c] w (BlkDec w (Xtz s)):=by
 obtain⟨P,hP⟩:∃P,P=Xtz s:=⟨_,rfl⟩
 rw[←hP]
 have HP:=Lib.hid hP
 have HR:=Lib.hid hr
 have HN:=Lib.hid hn
 have hz:=zBlk
 have hbt:=built_blk0
 have hzo:=zBlk_one
 clear hP hr hn
 go_enter Tryz.func87,Tryz.ntmps87
 go_upto_region 1 with fail
 have hb1:=Q1z w (.cells ZBlk.toArray 39)
 have HZ2:=Lib.hid (Blk.new w 39 ZBlk.toArray)
 generalize w.alloc (.cells ZBlk.toArray 39)=w1 at*
 obtain⟨z2,hz2⟩:∃z,z=w.heap.size:=⟨_,rfl⟩
 rw[←hz2]at HZ2 ⊢
 have hlt:=HZ2.out.lt
 have HB01:=Lib.hid hb1
 have HLT:=Lib.hid hlt
 have HZZ:=Lib.hid hz2
 clear hb1 hlt hz2
 by_cases hlong:200000<n
 ·have hli:(200000:Int)<(n:Int):=by omega
  have HP2:Hid (P=(noBlk,91)):=Lib.hid (by rw[HP.out];exact blkDec_long (by have:=HN.out;omega))
  go_wp2_with(first
   |(with_reducible refine Qjz (o:=⟨some 12,_,_,_,_,_⟩) ?_ 39 #[] ?_ [] ?_ ZBlk.toArray hbt ?_
     ·rfl
     ·rfl
     ·rfl)
   |(with_reducible refine Q4z (o:=⟨none,_,_,_,_,_⟩) ?_ 39 (.tmp 2) (.tmp 12) ?_ (z2) 39 (ZBlk.toArray) (ZBlk.toArray) ?_ ?_ (HZ2.out) ?_ ?_ ?_ (z2) (w1) ?_ ?_ ?_
     ·rfl
     ·rfl
     ·rfl
     ·rfl
     ·exact(by rw[List.size_toArray];exact QSz rfl)
     ·exact(rfl)
     ·exact(hzo)
     ·exact(Below.refl _ _)
     ·exact(Nat.le_refl _)
     intro wf hBf hbf hgf hsf))
  refine bodyPost_ret (Qoz rfl _ _ _ z2 _ ZBlk _ rfl hBf.out Tryz.underlying39 rfl (QSz rfl)) rfl ?_
  exact BlkDec.bad HP2 ((HB01.out).trans (hbf.mono (by have:=HZZ.out;omega)))
 have hli:¬(200000:Int)<(n:Int):=by omega
 have hn2:n≤200000:=by omega
 have HNL:Hid (¬200000<s.length):=Lib.hid (by have:=HN.out;omega)
 have hD:=hdrDecode_any p n c s w1 (HR.out.fut HB01.out) HN.out hl hb (by omega)
 obtain⟨x,hx⟩:∃x,x=hdrP s:=⟨_,rfl⟩
 rw[←hx]at hD
 obtain⟨hd,s1,k1⟩:=x
 unfold HdrPost at hD
 simp only at hD
 have HX:=Lib.hid hx.symm
 have hzh:=zeroHdr
 have hhc:hd.ok∨k1≠0:=by
  by_cases h:k1=0
  ·subst h;exact .inl (hdr_len hx.symm).2
  ·exact .inr h
 have hdok:hd.ok:=by
  have h1:hd=(hdrP s).1:=by rw[←hx]
  rw[h1]
  unfold hdrP
  split
  ·exact QGz
  ·exact hdrOf_ok s (by omega)
 have HK:=Lib.hid hdok
 have hone:=Hdr.cells_one hd
 have hsz:=Hdr.cells_size hdok
 have HSZ:=Lib.hid hsz
 have hns:noHdr.cells.toArray.size=hd.cells.toArray.size:=by rw[hsz];exact Hdr.cells_size QGz
 clear hx hhc hdok hlong hli hsz
 go_upto_region 4 with(first
  |(with_reducible refine hD.mono ?_
    rintro e w2 ⟨v1,rfl,ho1,hb2⟩
    have HO1:=Lib.hid ho1
    have HB2:=Lib.hid hb2
    have hbn:=Q1z w2 (.cells noHdr.cells.toArray 36)
    clear ho1 hb2)
  |(with_reducible refine Q4z (o:=⟨none,_,_,_,_,_⟩) ?_ 36 (.tmp 4) (.tmp 16) ?_ (w2.heap.size) 36 (noHdr.cells.toArray) (hd.cells.toArray) ?_ ?_ (Blk.new w2 _ _) ?_ ?_ ?_ (w2.heap.size) (w2) ?_ ?_ ?_
    ·rfl
    ·rfl
    ·rfl
    ·rfl
    ·exact(by rw[List.size_toArray];exact XWz HK.out)
    ·exact(hns)
    ·exact(hone)
    ·exact(hbn)
    ·exact(Nat.le_refl _)
    intro w3 hB3 hb3 hg3 hs3))
 have HB3:=Lib.hid (Q3z HB2.out hb3 (Nat.le_refl _))
 have HF3:=Lib.hid hB3.out
 obtain⟨z4,hz4⟩:∃z,z=w2.heap.size:=⟨_,rfl⟩
 rw[←hz4]at HF3 ⊢
 have HO3:Hid (Own8 w3 w1.heap.size v1 s1):=Lib.hid (Own8.fut HO1.out hb3)
 have HZ3:=Lib.hid (HZ2.out.below HB3.out HLT.out)
 have HWW3:Hid (Below w.heap.size w w3):=Lib.hid (HB01.out.trans (HB3.out.mono HB01.out.size))
 have H14:Hid (w1.heap.size≤z4):=Lib.hid (by rw[hz4];exact HB2.out.size)
 clear hz4 hbn hns hone hzh hb3 hg3 hs3 hB3 hD HO1 HB2
 try simp only[Qpz]
 obtain⟨p1,n1,c1,rfl,hn1,hnc1,hcm1,hr1⟩:=HO3.out.open
 have HR1:=Lib.hid hr1
 clear hr1
 by_cases hk1:k1=0
 case neg=>
  have hki:(k1 != 0)=true:=by simp[hk1]
  have HP2:Hid (P=(noBlk,k1)):=Lib.hid (by rw[HP.out];exact blkDec_hdr HNL.out (by rw[HX.out]) hk1)
  clear HZ2
  have HZ2:=HZ3
  go_wp2_with(first
   |(with_reducible refine Qjz (o:=⟨some 21,_,_,_,_,_⟩) ?_ 39 #[] ?_ [] ?_ ZBlk.toArray hbt ?_
     ·rfl
     ·rfl
     ·rfl)
   |(with_reducible refine Q4z (o:=⟨none,_,_,_,_,_⟩) ?_ 39 (.tmp 2) (.tmp 21) ?_ (z2) 39 (ZBlk.toArray) (ZBlk.toArray) ?_ ?_ (HZ2.out) ?_ ?_ ?_ (z2) (w3) ?_ ?_ ?_
     ·rfl
     ·rfl
     ·rfl
     ·rfl
     ·exact(by rw[List.size_toArray];exact QSz rfl)
     ·exact(rfl)
     ·exact(hzo)
     ·exact(Below.refl _ _)
     ·exact(Nat.le_refl _)
     intro wf hBf hbf hgf hsf))
  refine bodyPost_ret (Qoz rfl _ _ _ z2 _ ZBlk _ rfl hBf.out Tryz.underlying39 rfl (QSz rfl)) rfl ?_
  exact BlkDec.bad HP2 ((HWW3.out).trans (hbf.mono (by have:=HZZ.out;omega)))
 subst hk1
 have HP3:Hid (P=endB (((cntZ 2000).bind fun n=>(manyZ txZ n).bind fun ts=>Pz.ret (⟨hd,ts⟩:TBlk)) s1)):=Lib.hid (by rw[HP.out];exact blkDec_cnt HNL.out HX.out)
 have HL1:Hid (s1.length≤200000):=Lib.hid (by have:=(hdr_len HX.out).1;have:=HN.out;omega)
 have hS:=fun(W:World) (hb:Below w3.heap.size w3 W)=>decode_any p1 n1 c1 s1 W (Row8.fut HR1.out hb) hn1.out hnc1 hcm1 (by have:=HL1.out;have:=hn1.out;omega)
 obtain⟨y,hy⟩:∃y,y=cutP s1:=⟨_,rfl⟩
 rw[←hy]at hS
 obtain⟨cn,s2,k2⟩:=y
 unfold DecPost at hS
 simp only at hS
 have hcn:iv64 cn=(cn.toNat:Int):=rfl
 rw[hcn]at hS
 have HY:=Lib.hid hy.symm
 obtain⟨m,hm⟩:∃m,m=cn.toNat:=⟨_,rfl⟩
 rw[←hm]at hS
 have HM:=Lib.hid hm
 have hS3:=hS w3 (Below.refl _ _)
 clear hy hcn hm hS HP HX HNL
 go_upto_region 7 with(with_reducible refine hS3.mono ?_;rintro e w5 ⟨v2,rfl,ho2,hb5⟩)
 have HO5:Hid (Own8 w5 w1.heap.size v2 s2):=Lib.hid (Qmz ho2 HB3.out.size)
 have HB5:=Lib.hid (Q3z HB3.out hb5 (Nat.le_refl _))
 have HF5:=Lib.hid (HF3.out.fut hb5)
 have HZ5:=Lib.hid (HZ3.out.fut hb5)
 have HWW5:=Lib.hid (Q3z HWW3.out hb5 (Nat.le_refl _))
 clear hS3 ho2 hb5 HO3 HB3 HF3 HZ3 HWW3 HR1
 by_cases hk2:k2=0
 case neg=>
  have hki:(k2 != 0)=true:=by simp[hk2]
  have HP2:Hid (P=(noBlk,k2)):=Lib.hid (by rw[HP3.out];exact cnt_err HY.out hk2 _)
  clear HZ2
  have HZ2:=HZ5
  go_wp2_with(first
   |(with_reducible refine Qjz (o:=⟨some 32,_,_,_,_,_⟩) ?_ 39 #[] ?_ [] ?_ ZBlk.toArray hbt ?_
     ·rfl
     ·rfl
     ·rfl)
   |(with_reducible refine Q4z (o:=⟨none,_,_,_,_,_⟩) ?_ 39 (.tmp 2) (.tmp 32) ?_ (z2) 39 (ZBlk.toArray) (ZBlk.toArray) ?_ ?_ (HZ2.out) ?_ ?_ ?_ (z2) (w5) ?_ ?_ ?_
     ·rfl
     ·rfl
     ·rfl
     ·rfl
     ·exact(by rw[List.size_toArray];exact QSz rfl)
     ·exact(rfl)
     ·exact(hzo)
     ·exact(Below.refl _ _)
     ·exact(Nat.le_refl _)
     intro wf hBf hbf hgf hsf))
  refine bodyPost_ret (Qoz rfl _ _ _ z2 _ ZBlk _ rfl hBf.out Tryz.underlying39 rfl (QSz rfl)) rfl ?_
  exact BlkDec.bad HP2 ((HWW5.out).trans (hbf.mono (by have:=HZZ.out;omega)))
 subst hk2
 by_cases hm2:2000<m
 ·have hmi:(2000:Int)<(m:Int):=by omega
  have HP2:Hid (P=(noBlk,4)):=Lib.hid (by rw[HP3.out];exact cnt_full HY.out (by have:=HM.out;omega) _)
  clear HZ2
  have HZ2:=HZ5
  go_wp2_with(first
   |(with_reducible refine Qjz (o:=⟨some 37,_,_,_,_,_⟩) ?_ 39 #[] ?_ [] ?_ ZBlk.toArray hbt ?_
     ·rfl
     ·rfl
     ·rfl)
   |(with_reducible refine Q4z (o:=⟨none,_,_,_,_,_⟩) ?_ 39 (.tmp 2) (.tmp 37) ?_ (z2) 39 (ZBlk.toArray) (ZBlk.toArray) ?_ ?_ (HZ2.out) ?_ ?_ ?_ (z2) (w5) ?_ ?_ ?_
     ·rfl
     ·rfl
     ·rfl
     ·rfl
     ·exact(by rw[List.size_toArray];exact QSz rfl)
     ·exact(rfl)
     ·exact(hzo)
     ·exact(Below.refl _ _)
     ·exact(Nat.le_refl _)
     intro wf hBf hbf hgf hsf))
  refine bodyPost_ret (Qoz rfl _ _ _ z2 _ ZBlk _ rfl hBf.out Tryz.underlying39 rfl (QSz rfl)) rfl ?_
  exact BlkDec.bad HP2 ((HWW5.out).trans (hbf.mono (by have:=HZZ.out;omega)))
 have hmi:¬(2000:Int)<(m:Int):=by omega
 have hm3:m≤2000:=by omega
 have HP4:Hid (P=restB hd [] m s2):=Lib.hid (by rw[HP3.out,HM.out];exact cnt_fine HY.out (by have:=HM.out;omega) hd)
 have HL2:Hid (s2.length≤200000):=Lib.hid (by have:=cut_len HY.out;have:=HL1.out;omega)
 go_upto_region 11 with fail
 clear hm2 hmi HP3 HY HM HZ2
 have l4:=Qfz HF5.out
 have hbh:=built_blkh hd HK.out
 have hoh:(hd.cells++[Value.slice none 0 0]).toArray.all (·.oneCell')=true:=by
  have h1:=Hdr.cells_one hd
  rw[List.all_toArray]at h1 ⊢
  rw[List.all_append,h1]
  rfl
 have hlh:(hd.cells++[Value.slice none 0 0]).length=69:=by rw[List.length_append,Hdr.cells_len HK.out];rfl
 have HLH:=Lib.hid hlh
 have hsh:ZBlk.toArray.size=(hd.cells++[Value.slice none 0 0]).toArray.size:=by rw[List.size_toArray,List.size_toArray,hlh];rfl
 have hbn:=Q1z w5 (.cells ZBlk.toArray 39)
 clear hlh
 obtain⟨q2,n2,c2,rfl⟩:∃q n c,v2= .slice q n c:=by obtain⟨q,n,c,e,_⟩:=HO5.out.open;exact⟨_,_,_,e⟩
 go_upto_region 13 with(first
  |(with_reducible refine wpList_load_mid (op:=⟨some 38,_,_,_,_,_⟩) ?_ 36 (.tmp 4) ?_ (z4) (0) ?_ (hd.cells) _ (l4) Tryz.underlying36 ?_ ?_ ?_
    ·rfl
    ·rfl
    ·rfl
    ·rfl
    ·exact(XWz HK.out))
  |(with_reducible refine Qjz (o:=⟨some 39,_,_,_,_,_⟩) ?_ 39 #[(0,.tmp 38)] ?_ [(0,.agg hd.cells.toArray)] ?_ (hd.cells++[Value.slice none 0 0]).toArray hbh ?_
    ·rfl
    ·rfl
    ·rfl)
  |(with_reducible refine Q4z (o:=⟨none,_,_,_,_,_⟩) ?_ 39 (.tmp 7) (.tmp 39) ?_ (w5.heap.size) 39 (ZBlk.toArray) ((hd.cells++[Value.slice none 0 0]).toArray) ?_ ?_ (Blk.new w5 _ _) ?_ ?_ ?_ (w5.heap.size) (w5) ?_ ?_ ?_
    ·rfl
    ·rfl
    ·rfl
    ·rfl
    ·exact(by rw[List.size_toArray];exact QSz HLH.out)
    ·exact(hsh)
    ·exact(hoh)
    ·exact(hbn)
    ·exact(Nat.le_refl _)
    intro w6 hB6 hb6 hg6 hs6))
 have HO6:=Lib.hid (Own8.fut HO5.out hb6)
 have HB6:=Lib.hid (Q3z HB5.out hb6 (Nat.le_refl _))
 have HZ6:=Lib.hid (HZ5.out.fut hb6)
 have HX6:=Lib.hid hB6.out
 obtain⟨z7,hz7⟩:∃z,z=w5.heap.size:=⟨_,rfl⟩
 have H17:Hid (w1.heap.size≤z7):=Lib.hid (by rw[hz7];exact HB5.out.size)
 rw[←hz7]at HX6 ⊢
 clear hz7 hbn hsh hoh hbh l4 hb6 hg6 hs6 hB6 HO5 HB5 HZ5 HF5 HWW5
 try simp only[Qpz]
 go_loopw[0,41] (fun u i wr=>∃(k:Nat) (sr:Bs) (xs:List TTx) (v7:Value),k≤m∧i= .int .u64 k∧Hid (xs.length=k)∧Hid (P=restB hd xs (m-k) sr)∧Hid (sr.length≤200000)∧Hid (Own8 wr w1.heap.size u sr)∧Hid (Below w1.heap.size w1 wr)∧Hid (Blk wr z2 39 ZBlk.toArray)∧Hid (Blk wr z7 39 (hd.cells++[v7]).toArray)∧Hid (RowO (TxO w1.heap.size) 171 4 w1.heap.size wr v7 xs)) (fun _ i _=>m-(intOf i).toNat)
 case atStart=>exact⟨0,s2,[],.slice none 0 0,by omega,rfl,Lib.hid rfl,HP4,HL2,HO6,HB6,HZ6,HX6,Lib.hid (RowO.nil _ _ _ _ _)⟩
 case round=>
  clear HP4 HL2 HO6 HB6 HZ6 HX6
  obtain⟨k,sr,xs,v7,hkm,rfl,HXL,HPk,HLk,HOk,HBk,HZk,HXk,HTk⟩:=hrel
  obtain⟨qk,nk,ck,rfl,hnk,hnck,hcmk,hrk⟩:=HOk.out.open
  have HNK:=Lib.hid hnk.out
  have HWWk:Hid (Below w.heap.size w wr):=Lib.hid (HB01.out.trans (HBk.out.mono HB01.out.size))
  by_cases hkn:k<m
  case neg=>
   obtain rfl:k=m:=by omega
   have hge:¬(k:Int)<(k:Int):=by omega
   have hPe:P=if sr=[]then(⟨hd,xs⟩,0)else(noBlk,70):=by rw[HPk.out,Nat.sub_self];exact restB_end
   by_cases hnk0:0<nk
   ·have hni:(0:Int)<(nk:Int):=by omega
    have HP2:Hid (P=(noBlk,70)):=Lib.hid (by rw[hPe,if_neg];intro e;have:=HNK.out;rw[e]at this;simp at this;omega)
    clear hPe hrk hnk
    have HZ2:=HZk
    go_wp2_with(first
     |(with_reducible refine Qjz (o:=⟨some 63,_,_,_,_,_⟩) ?_ 39 #[] ?_ [] ?_ ZBlk.toArray hbt ?_
       ·rfl
       ·rfl
       ·rfl)
     |(with_reducible refine Q4z (o:=⟨none,_,_,_,_,_⟩) ?_ 39 (.tmp 2) (.tmp 63) ?_ (z2) 39 (ZBlk.toArray) (ZBlk.toArray) ?_ ?_ (HZ2.out) ?_ ?_ ?_ (z2) (wr) ?_ ?_ ?_
       ·rfl
       ·rfl
       ·rfl
       ·rfl
       ·exact(by rw[List.size_toArray];exact QSz rfl)
       ·exact(rfl)
       ·exact(hzo)
       ·exact(Below.refl _ _)
       ·exact(Nat.le_refl _)
       intro wf hBf hbf hgf hsf))
    refine bodyPost_ret (Qoz rfl _ _ _ z2 _ ZBlk _ rfl hBf.out Tryz.underlying39 rfl (QSz rfl)) rfl ?_
    exact BlkDec.bad HP2 ((HWWk.out).trans (hbf.mono (by have:=HZZ.out;omega)))
   ·have hni:¬(0:Int)<(nk:Int):=by omega
    have HP2:Hid (P=(⟨hd,xs⟩,0)):=Lib.hid (by rw[hPe,if_pos];exact List.eq_nil_of_length_eq_zero (by have:=HNK.out;omega))
    clear hPe hrk hnk
    obtain⟨bc,hbc⟩:∃bc:List Value,bc=hd.cells++[v7]:=⟨_,rfl⟩
    have HBC:=Lib.hid hbc
    have hbl:bc.length=69:=by rw[hbc,List.length_append,Hdr.cells_len HK.out];rfl
    have HBL:=Lib.hid hbl
    have hX:Blk wr z7 39 bc.toArray:=by rw[hbc];exact HXk.out
    have l7:=Qfz hX
    have hoX:bc.toArray.all (·.oneCell')=true:=by
     have h1:=Hdr.cells_one hd
     rw[List.all_toArray]at h1 ⊢
     rw[hbc,List.all_append,h1]
     simp only[List.all_cons,List.all_nil,Bool.and_true,Bool.true_and]
     exact(HTk.out.e (E':=TxC) fun _ _ h=>h.c).one
    have hsX:ZBlk.toArray.size=bc.toArray.size:=by rw[List.size_toArray,List.size_toArray,hbl];rfl
    clear hbc hbl hX
    go_wp2_with(first
     |(with_reducible refine wpList_load_mid (op:=⟨some 64,_,_,_,_,_⟩) ?_ 39 (.tmp 7) ?_ (z7) (0) ?_ (bc) _ (l7) Tryz.underlying39 ?_ ?_ ?_
       ·rfl
       ·rfl
       ·rfl
       ·rfl
       ·exact(QSz HBL.out))
     |(with_reducible refine Q4z (o:=⟨none,_,_,_,_,_⟩) ?_ 39 (.tmp 2) (.tmp 64) ?_ (z2) 39 (ZBlk.toArray) (bc.toArray) ?_ ?_ (HZk.out) ?_ ?_ ?_ (z2) (wr) ?_ ?_ ?_
       ·rfl
       ·rfl
       ·rfl
       ·rfl
       ·exact(by rw[List.size_toArray];exact QSz HBL.out)
       ·exact(hsX)
       ·exact(hoX)
       ·exact(Below.refl _ _)
       ·exact(Nat.le_refl _)
       intro wf hBf hbf hgf hsf))
    refine bodyPost_ret (Qoz rfl _ _ _ z2 _ bc _ rfl hBf.out Tryz.underlying39 rfl (QSz HBL.out)) rfl ?_
    rw[HP2.out]
    have hst:=Stays.of_grown (S:=fun k=>k=z2) hgf.out (fun k h=>by injection h with h;exact h.symm)
    refine⟨bc,rfl,⟨v7,HBC.out,HK.out,?_⟩,HWWk.out.trans (hbf.mono (by have:=HZZ.out;omega))⟩
    exact(HTk.out.sep (QJz _) hst (Sep.low fun k hk=>by have:k=z2:=hk;have:=HLT.out;omega)).mono (fun _ _ h=>h.mono HB01.out.size) HB01.out.size
  have hlt:(k:Int)<(m:Int):=by omega
  have hk63:(k:Int)+1≤9223372036854775807:=by omega
  have hzt:=zTx
  have hqk:qk=none→ck=0:=by
   obtain⟨p',n',c',e,_,_,_,_,h6⟩:=HOk.out.sl
   injection e with e1 e2 e3
   subst e1 e2 e3
   exact h6
  have hD:=fun(W:World) (hb:Below wr.heap.size wr W)=>txDecode_any qk nk ck sr W (hrk.fut hb) HNK.out hnck hcmk (by have:=HLk.out;have:=HNK.out;omega) hqk
  obtain⟨T,r,kk,hT,hTk⟩:∃T r kk,txDecP sr=(T,r,kk)∧(kk≠0∧txZ sr= .error kk∨kk=0∧txZ sr= .ok (T,r)):=by
   unfold txDecP
   cases h:txZ sr with
   |error k=>exact⟨_,_,k,rfl,.inl ⟨nz_tx sr k h,rfl⟩⟩
   |ok x=>obtain⟨t,r⟩:=x;exact⟨t,r,0,rfl,.inr ⟨rfl,rfl⟩⟩
  have HTK:=Lib.hid hTk
  clear hTk hrk hnk
  go_upto_region 15 with fail
  have hbn:=Q1z wr (.cells ZTx.toArray 171)
  have HG14:=Lib.hid (Blk.new wr 171 ZTx.toArray)
  have hD14:=hD _ hbn
  have HS14:Hid (wr.heap.size<(wr.alloc (.cells ZTx.toArray 171)).heap.size):=Lib.hid (by rw[World.size_alloc];omega)
  generalize wr.alloc (.cells ZTx.toArray 171)=w14 at*
  obtain⟨g8,hg8⟩:∃z,z=wr.heap.size:=⟨_,rfl⟩
  have HG8:Hid (wr.heap.size≤g8):=Lib.hid (by omega)
  rw[←hg8]at HG14 HS14 ⊢
  have HGE:=Lib.hid hg8
  clear hg8
  go_upto_region 16 with(first
   |(with_reducible refine hD14.mono ?_
     rintro e w15 ⟨cs,vr,rfl,hO,hov,hb15⟩
     simp only[hT]at hO hov ⊢
     have hot:=hO.c.one
     have hcl:=hO.len
     have HCL:=Lib.hid hcl
     have hzs:ZTx.toArray.size=cs.toArray.size:=by rw[List.size_toArray,List.size_toArray,hcl];rfl
     have HG15:=Lib.hid (HG14.out.fut hb15)
     have HO15:=Lib.hid hO
     have HV15:=Lib.hid hov
     have HB15:=Lib.hid hb15
     clear hO hov hb15 hcl)
   |(with_reducible refine Q4z (o:=⟨none,_,_,_,_,_⟩) ?_ 171 (.tmp 8) (.tmp 46) ?_ (g8) 171 (ZTx.toArray) (cs.toArray) ?_ ?_ (HG15.out) ?_ ?_ ?_ (g8) (w15) ?_ ?_ ?_
     ·rfl
     ·rfl
     ·rfl
     ·rfl
     ·exact(by rw[List.size_toArray];exact QIz HCL.out)
     ·exact(hzs)
     ·exact(hot)
     ·exact(Below.refl _ _)
     ·exact(Nat.le_refl _)
     intro w16 hB16 hb16 hg16 hs16))
  have HB16:=Lib.hid hB16.out
  have hst:=Stays.of_grown (S:=fun k=>k=g8) hg16.out (fun k h=>by injection h with h;exact h.symm)
  have hlow:∀k,k=g8→k<w14.heap.size:=fun k h=>by have:=HS14.out;omega
  have hBW:Below wr.heap.size wr w16:=(Q3z hbn HB15.out (Nat.le_refl _)).trans (hst.below (by have:=hbn.size;have:=HB15.out.size;omega) (fun k h=>by have:=HG8.out;omega))
  have hO16:=QJz _ _ _ _ _ _ HO15.out hst (Sep.low hlow)
  have hV16:=HV15.out.sep hst (Sep.low hlow)
  have hle:w1.heap.size≤w14.heap.size:=Nat.le_trans HBk.out.size hbn.size
  have HO16:=Lib.hid (hO16.mono hle:TxO w1.heap.size w16 T cs)
  have HV16:Hid (Own8 w16 w1.heap.size vr r):=Lib.hid (Qmz hV16 hle)
  clear hle hlow hst hO16 hV16 hbn hzs hot hB16 hb16 hg16 hs16 HB15 HO15 HV15 HG15 HG14 HS14 HGE hD14
  try simp only[Qpz]
  have HBW:=Lib.hid hBW
  have HZn:=Lib.hid (HZk.out.fut hBW)
  have HXn:=Lib.hid (HXk.out.fut hBW)
  have HTn:=Lib.hid (HTk.out.sep (QJz _) (Stays.of_below hBW (Nat.le_refl _) (fun _=>False)) (fun _ h=>h.elim))
  have HBn:Hid (Below w1.heap.size w1 w16):=Lib.hid (Q3z HBk.out hBW (Nat.le_refl _))
  have HWWn:Hid (Below w.heap.size w w16):=Lib.hid (HB01.out.trans (HBn.out.mono HB01.out.size))
  clear hBW hD hT HZk HXk HTk HBk HWWk hzt
  by_cases hkk:kk=0
  case neg=>
   have hki:(kk != 0)=true:=by simp[hkk]
   have HP2:Hid (P=(noBlk,kk)):=Lib.hid (by
    rcases HTK.out with⟨_,h⟩|⟨h,_⟩
    ·rw[HPk.out,show m-k=(m-k-1)+1 by omega]
     exact restB_err h
    ·exact absurd h hkk)
   have HZ2:=HZn
   go_wp2_with(first
    |(with_reducible refine Qjz (o:=⟨some 51,_,_,_,_,_⟩) ?_ 39 #[] ?_ [] ?_ ZBlk.toArray hbt ?_
      ·rfl
      ·rfl
      ·rfl)
    |(with_reducible refine Q4z (o:=⟨none,_,_,_,_,_⟩) ?_ 39 (.tmp 2) (.tmp 51) ?_ (z2) 39 (ZBlk.toArray) (ZBlk.toArray) ?_ ?_ (HZ2.out) ?_ ?_ ?_ (z2) (w16) ?_ ?_ ?_
      ·rfl
      ·rfl
      ·rfl
      ·rfl
      ·exact(by rw[List.size_toArray];exact QSz rfl)
      ·exact(rfl)
      ·exact(hzo)
      ·exact(Below.refl _ _)
      ·exact(Nat.le_refl _)
      intro wf hBf hbf hgf hsf))
   refine bodyPost_ret (Qoz rfl _ _ _ z2 _ ZBlk _ rfl hBf.out Tryz.underlying39 rfl (QSz rfl)) rfl ?_
   exact BlkDec.bad HP2 ((HWWn.out).trans (hbf.mono (by have:=HZZ.out;omega)))
  subst hkk
  have hok:txZ sr= .ok (T,r):=by
   rcases HTK.out with⟨h,_⟩|⟨_,h⟩
   ·exact absurd rfl h
   ·exact h
  have HPn:Hid (P=restB hd (xs++[T]) (m-(k+1)) r):=Lib.hid (by
   rw[HPk.out,show m-k=(m-(k+1))+1 by omega]
   exact restB_ok hok)
  have HLn:Hid (r.length≤200000):=Lib.hid (by have:=txZ_len hok;have:=HLk.out;omega)
  clear hok HTK HPk HLk
  obtain⟨css,hcl,hown,hcs⟩:=HTn.out
  have hxl:xs.length=k:=HXL.out
  have l8:=Qfz HB16.out
  have hl5:=HO16.out.len
  have H5:=Lib.hid hl5
  have ho5:=HO16.out.c.one
  have hB1:w1.heap.size≤w16.heap.size:=HBn.out.size
  have hz7n:v7.ownBlock≠some z7:=fun h=>by
   rcases hown.2 with⟨e',_⟩|⟨b',_,cur',e',_,hh,_⟩
   ·rw[e']at h;cases h
   ·rw[e']at h
    injection h with h
    have h':b'=z7:=h
    rw[h']at hh
    exact absurd (Blk.inj HXn.out (show Blk w16 z7 171 cur' from hh)).1 (by decide)
  have c68:w16.cell? ⟨z7,68,none⟩=some v7:=by
   rw[HXn.out.cell,List.getElem?_toArray,List.getElem?_append_right (by rw[Hdr.cells_len HK.out];exact Nat.le_refl _),Hdr.cells_len HK.out]
   rfl
  obtain⟨pv,nv,cv,rfl⟩:∃pv nv cv,v7= .slice pv nv cv:=by
   obtain⟨p,c,e,_⟩:=QLz hown
   exact⟨_,_,_,e⟩
  have HZ7N:=Lib.hid hz7n
  have HOWN:=Lib.hid hown
  have HCS:=Lib.hid hcs
  have HCLL:=Lib.hid hcl
  clear hown hcs hcl hz7n
  go_wp2_with(first
   |(with_reducible refine wpList_load_mid (op:=⟨some 55,_,_,_,_,_⟩) ?_ 171 (.tmp 8) ?_ (g8) (0) ?_ (cs) _ (l8) Tryz.underlying171 ?_ ?_ ?_
     ·rfl
     ·rfl
     ·rfl
     ·rfl
     ·exact(QIz H5.out))
   |(with_reducible refine wp_lit (o:=⟨some 56,_,_,_,_,_⟩) ?_ 37 171 1 #[(0,.tmp 55)] ?_ [.agg cs.toArray] ?_ 4 64 _ Tryz.underlying37 tx_row ?_ ?_ ?_ ?_ ?_ ?_
     ·rfl
     ·rfl
     ·rfl
     ·omega
     ·exact(fun v hv=>by rw[List.mem_singleton.1 hv];show cs.toArray.size=4;rw[List.size_toArray];exact hl5)
     ·rfl
     ·omega
     ·omega
     simp only[List.flatMap_cons,List.flatMap_nil,List.append_nil,Value.cells])
   |(with_reducible refine XYz (o:=⟨some 57,_,_,_,_,_⟩) ?_ (.tmp 54) (.tmp 56) 37 171 ?_ _ 4 64 Tryz.underlying37 tx_row ?_ ?_ ?_ w1.heap.size _ xs.length css.flatten ?_ (World.ownsRow.alloc HOWN.out _) w16.heap.size 1 1 cs ?_ (Blk.new w16 _ _) ?_ ?_ ?_ ?_ ?_
     ·rfl
     ·rfl
     ·rfl
     ·omega
     ·omega
     ·rfl
     ·rfl
     ·omega
     ·exact one_all ho5
     ·omega
     ·rw[World.size_alloc];omega
     intro v8 w8 hl8 hg8 ho8
     have hX8:Blk w8 z7 39 (hd.cells++[Value.slice pv nv cv]).toArray:=(hg8.block z7 (HXn.out.alloc _).lt (Ne.symm HZ7N.out)).trans (HXn.out.alloc _)
     have c68n:w8.cell? ⟨z7,68,none⟩=some (.slice pv nv cv):=by
      rw[hX8.cell,List.getElem?_toArray,List.getElem?_append_right (by rw[Hdr.cells_len HK.out];exact Nat.le_refl _),Hdr.cells_len HK.out]
      rfl
     have f68n:=hX8.frozen 68
     have HX8:=Lib.hid hX8
     clear hX8
     obtain⟨p8,n8,c8,rfl⟩:∃p8 n8 c8,v8= .slice p8 n8 c8:=by
      obtain⟨p,c,e,_⟩:=QLz hl8
      exact⟨_,_,_,e⟩))
  have hnew:=Q1z w16 (.cells cs.toArray 171)
  have hst:Stays (fun _=>False) w16 (w16.alloc (.cells cs.toArray 171)):=Stays.of_below hnew (Nat.le_refl _) _
  have hS8:=Stays.of_grown (S:=fun k=>Value.ownBlock _=some k) hg8 (fun k h=>h)
  have hS78:=Stays.set w8 z7 68 (.slice p8 n8 c8)
  have hROW:=RowO.app HCLL.out (World.ownsRow.alloc HOWN.out _) (fun i y hy=>by
   obtain⟨cs',h6,h7,h8⟩:=HCS.out i y hy
   exact⟨cs',h6,QJz _ _ _ _ _ _ h7 hst (fun _ h=>h.elim),h8⟩) (QJz w1.heap.size) (by decide) (QJz _ _ _ _ _ _ HO16.out hst (fun _ h=>h.elim)) hl5 hl8 hg8
  have HROW:=Lib.hid (hROW.sep (QJz _) hS78 (Qiz HX8.out (by decide)))
  have hz2n:¬(Value.slice pv nv cv).ownBlock=some z2:=fun h=>by have:=(own_ge HOWN.out _ h).1;have:=HLT.out;omega
  have HZ8:=Lib.hid (((HZn.out.fut hnew).stays hS8 hz2n).stays hS78 (by have:=H17.out;have:=HLT.out;omega))
  have HV8:=Lib.hid (((HV16.out.sep hst (fun _ h=>h.elim)).sep hS8 (own_sep (World.ownsRow.alloc HOWN.out _) (by decide))).sep hS78 (Qiz HX8.out (by decide)))
  have HXX:Hid (Blk (w8.setCell ⟨z7,68,none⟩ (.slice p8 n8 c8)) z7 39 (hd.cells++[Value.slice p8 n8 c8]).toArray):=Lib.hid (by
   have:=HX8.out.set 68 (.slice p8 n8 c8)
   rwa [hdr_set hd HK.out]at this)
  have HBB:Hid (Below w1.heap.size w1 (w8.setCell ⟨z7,68,none⟩ (.slice p8 n8 c8))):=Lib.hid (((Q3z HBn.out hnew (Nat.le_refl _)).trans (hS8.below (by have:=hnew.size;omega) fun k hk=>(own_ge HOWN.out k hk).1)).trans (hS78.below (by have:=hnew.size;have:=hS8.size;omega) fun k hk=>by have:k=z7:=hk;have:=H17.out;omega))
  clear hnew hst hS8 hS78 hROW hz2n hl8 hg8 ho8 c68n f68n c68 l8 hl5 ho5 hB1
  try go_wp2_with fail
  go_roundw
  case rel=>exact⟨k+1,r,xs++[T],.slice p8 n8 c8,by omega,by go_num,Lib.hid (by rw[List.length_append,hxl];rfl),HPn,HLn,HV8,HBB,HZ8,HXX,HROW⟩
  case measure=>simp[intOf];omega
end
section
open Go Go.ChangeShapes Go.WideShapes Go.ChangeAt Go.RowKit
theorem blk_cells {H:Type} {enc:TypeId × Value→H} {W:World} {fuel:Nat} {cs:List Value} {x:DataW H × List MemPlace} (h:DataW.trod enc Tryz.prog W 0 (fun _=>true) true fuel 39 cs=some x):cs.length=69∧∃b,BlkC W b cs:=by
 have hl:cs.length=69:=by rw[trod_len Tryz.underlying39 h];kernel_rfl
 obtain⟨n0,y0,h0⟩:=Qgz Tryz.underlying39 h 0 _ rfl 68 (by kernel_rfl)
 obtain⟨n1,y1,h1⟩:=Qgz Tryz.underlying39 h 1 _ rfl 1 (by kernel_rfl)
 obtain⟨hd,hk,e0⟩:=header_cells h0
 obtain⟨a1,l1,c1,e1⟩:=XLz Tryz.underlying37 h1
 have e1':(cs.drop 68).take 1=[.slice a1 l1 c1]:=e1
 have h1':DataW.trod enc Tryz.prog W 0 (fun _=>true) true n1 37 ((cs.drop 68).take 1)=some y1:=h1
 rw[e1']at h1'
 obtain⟨ts,ht⟩:=XOz (enc:=enc) (W:=W) (d0:=y1.1) (p:=y1.2) TxC (by omega) Tryz.underlying37 (by kernel_rfl) (fun fuel cs x h=>tx_cells h) ⟨n1,h1'⟩
 refine⟨hl,⟨hd,ts⟩,_,?_,hk,ht⟩
 have q1:=parts2 cs 68 1 (by omega)
 have a0:(cs.drop 0).take 68=hd.cells:=e0
 rw[a0,e1']at q1
 exact q1
end
end Go.Proofs.YtjbijcjcejfpcaaGreatDoor
