/- sporranref07.Encode: the walk. -/
import Derived.Test.YtjbijcjcejfpcaaGreatDoorZGE
namespace Go.Proofs.YtjbijcjcejfpcaaGreatDoor
set_option linter.unusedVariables false
set_option maxRecDepth 100000
set_option maxHeartbeats 16000000
open Go Go.RowKit
theorem Wr.apart {w0 w:World} {v:Value} {ys:Bs} {g:Nat} {t:TypeId} {cs:Array Value} (h:Wr w0 w v ys) (hg:Blk w g t cs) (ht:t≠5):v.ownBlock≠some g:=(Sfx8.of h.own).apart hg ht
def preB {α:Type} (f:α→Bs) (xs:List α) (k:Nat):Bs:=((xs.take k).map f).flatten
theorem preB_zero {α:Type} (f:α→Bs) (xs:List α):preB f xs 0=[]:=rfl
theorem preB_succ {α:Type} (f:α→Bs) (xs:List α) (k:Nat) (x:α) (h:xs[k]? =some x):preB f xs (k+1)=preB f xs k++f x:=by
 unfold preB
 rw[List.take_add_one,h,List.map_append,List.flatten_append]
 simp
theorem preB_all {α:Type} (f:α→Bs) (xs:List α) (k:Nat) (h:xs.length≤k):preB f xs k=(xs.map f).flatten:=by
 unfold preB
 rw[List.take_of_length_le h]
theorem preB_len {α:Type} (f:α→Bs) (xs:List α) (k M N:Nat) (hf:∀x∈xs,(f x).length≤M) (hn:xs.length≤N):(preB f xs k).length≤N*M:=by
 have h1:=flat_le f M (xs.take k) fun x hx=>hf x (List.mem_of_mem_take hx)
 have h2:(xs.take k).length≤N:=by rw[List.length_take];omega
 exact Nat.le_trans h1 (Nat.mul_le_mul h2 (Nat.le_refl _))
theorem Sl.r8 {w:World} {p:Option Addr} {n c:Nat} {bs:Bs} (h:Sl w (.slice p n c) bs):Row8 w p bs:=by
 obtain⟨p',n',c',e,h1,h2,h3,h4,h5⟩:=h
 injection e with e1 e2 e3
 subst e1 e2 e3
 exact h4
theorem Zkz (n:Nat) (hn:n<18446744073709551616) (W:World):Calls Tryz.prog 67 #[.int .u64 (n:Int)] W (GivesOwn W (cntB n)):=by
 have:=refEncode_any (BitVec.ofNat 64 n) W
 rw[Zmz n hn]at this
 exact this
theorem refTxEncode_any (t:TTx) (cs:List Value) (m:Bool) (w:World) (hc:TxC w t cs):Calls Tryz.prog 95 #[.agg cs.toArray,.bool m] w (OutB w (txP t m)):=by
 obtain⟨P,hP⟩:∃P,P=txP t m:=⟨_,rfl⟩
 rw[←hP]
 have HP:=Lib.hid hP
 have HC:=Lib.hid hc
 obtain⟨iv,ov,rfl,hi,ho⟩:=hc
 obtain⟨pi,n,ci,rfl⟩:=hi.opens
 obtain⟨po,no,co,rfl⟩:=ho.opens
 obtain⟨hn,hnc,hcm⟩:=hi.slen
 obtain⟨hno,hnoc,hcmo⟩:=ho.slen
 have HI:=Lib.hid hi
 have HO:=Lib.hid ho
 have HN:=Lib.hid hn
 have HNO:=Lib.hid hno
 have hb1:=Q1z w (.cells #[u32 t.ve,.slice pi n ci,.slice po no co,u32 t.lo] 171)
 have HB:=Lib.hid (Blk.new w 171 #[u32 t.ve,.slice pi n ci,.slice po no co,u32 t.lo])
 obtain⟨vv,hvv⟩:∃v,v=u32 t.ve:=⟨_,rfl⟩
 obtain⟨vl,hvl⟩:∃v,v=u32 t.lo:=⟨_,rfl⟩
 rw[←hvv,← hvl]at hb1 HB HC ⊢
 have HVV:=Lib.hid hvv
 have HVL:=Lib.hid hvl
 clear hP hi ho hn hno hvv hvl
 go_enter Tryz.func95,Tryz.ntmps95
 go_upto_region 1 with fail
 generalize w.alloc (.cells #[vv,.slice pi n ci,.slice po no co,vl] 171)=w1 at*
 have l1:=Qfz HB.out
 have HC1:=Lib.hid (txC_keeps _ _ _ _ HC.out hb1)
 have HB01:=Lib.hid hb1
 have hlt:=HB.out.lt
 obtain⟨z2,hz2⟩:∃z,z=w.heap.size:=⟨_,rfl⟩
 rw[←hz2]at HB hlt l1 ⊢
 have HZ2:=Lib.hid hz2
 have HLT:=Lib.hid hlt
 have hcan:=refCan_any t _ w1 HC1.out
 obtain⟨r,hr⟩:∃r,r=canTx t:=⟨_,rfl⟩
 rw[←hr]at hcan
 have HR:=Lib.hid hr
 clear hr hz2 hlt hb1
 go_wp2_with((with_reducible refine wpList_load_mid (op:=⟨some 15,_,_,_,_,_⟩) ?_ 171 (.tmp 2) ?_ (z2) (0) ?_ ([vv,.slice pi n ci,.slice po no co,vl]) _ (l1) Tryz.underlying171 ?_ ?_ ?_
              ·rfl
              ·rfl
              ·rfl
              ·rfl
              ·exact((QIz rfl))))
 refine hcan.mono ?_
 rintro e w2 ⟨rfl,hb2⟩
 cases r with
 |false=>
  have HP2:Hid (P=([],1)):=Lib.hid (by rw[HP.out];unfold txP;rw[←HR.out];rfl)
  go_wp2_with fail
  go_ret2
  exact OutB.of HP2 ⟨rfl,.inl ⟨rfl,rfl⟩⟩ (Q3z HB01.out hb2 (Nat.le_refl _))
 |true=>
 have hcan':canTx t=true:=HR.out.symm
 obtain⟨mm,hmm⟩:∃mm,mm=(m&&hasWs t.is):=⟨_,rfl⟩
 have HMM:=Lib.hid hmm
 have HP2:Hid (P=(txB t mm,0)):=Lib.hid (by rw[HP.out];unfold txP;rw[hcan',hmm];rfl)
 have HB2:=Lib.hid (HB.out.fut hb2)
 have HC2:=Lib.hid (txC_keeps _ _ _ _ HC1.out hb2)
 have HW2:Hid (Below w1.heap.size w1 w2):=Lib.hid hb2
 have hwt:=refHas_any t _ w2 HC2.out
 clear hb2 l1 hcan hmm HP
 have l2:=Qfz HB2.out
 obtain⟨hc1,hc2,hc3,hc4,hc5⟩:=canTx_all hcan'
 have HC4:=Lib.hid hc4
 have HC5:=Lib.hid hc5
 have hn1:n≤2000:=by have:=HN.out;omega
 have hn0:0<n:=by have:=HN.out;omega
 have hno1:no≤2000:=by have:=HNO.out;omega
 clear hc1 hc2 hc3 hc4 hc5
 go_upto_region 3 with fail
 go_cut[1] (fun s1 wx=>s1= .bool mm∧Hid (Below w1.heap.size w1 wx))
 case first=>
  cases m with
  |false=>
   have hm:mm=false:=HMM.out
   go_wp2_with fail
   go_meet
   case rel=>exact⟨by rw[hm],HW2⟩
  |true=>
   go_wp2_with((with_reducible refine Qlz (op:=⟨some 20,_,_,_,_,_⟩) ?_ 171 (.tmp 2) ?_ (z2) (0) ?_ ([vv,.slice pi n ci,.slice po no co,vl]) _ (l2) Tryz.underlying171 ?_ ?_ ?_
                ·rfl
                ·rfl
                ·rfl
                ·rfl
                ·exact((QIz rfl))))
   refine hwt.mono ?_
   rintro e w3 ⟨rfl,hb3⟩
   have HB3:=Lib.hid (Q3z HW2.out hb3 (Nat.le_refl _))
   have HM2:Hid (mm=hasWs t.is):=HMM
   clear hb3 l2 hwt HMM
   go_wp2_with fail
   go_meet
   case rel=>exact⟨by rw[HM2.out],HB3⟩
 case rest=>
 obtain⟨rfl,HW3⟩:=hcut
 clear l2 hwt HB2 HC2 HW2 HMM
 generalize wc=w3 at*
 have c0:w3.cell? ⟨z2,0,none⟩=some (.int .u32 (iv32 t.ve)):=by
  have:=(HB.out.below HW3.out HLT.out).cell 0
  simp only[List.getElem?_toArray,List.getElem?_cons_zero]at this
  rw[this,HVV.out]
 have e0:=Xnz t.ve
 go_upto_region 4 with fail
 go_wp2_with fail
 refine(QFz (t.ve.setWidth 64) 4 (by omega) _).mono ?_
 rintro e w4 ⟨v4,rfl,ho4,hb4⟩
 replace ho4:Own8 w4 w3.heap.size v4 (le32 t.ve):=ho4
 have HW4:Hid (Wr w1 w4 v4 (le32 t.ve)):=Lib.hid ⟨Q3z HW3.out hb4 (Nat.le_refl _),Qmz ho4 HW3.out.size⟩
 clear ho4 hb4 c0 e0 HW3
 obtain⟨Y,hY⟩:∃Y:Bs,Y=le32 t.ve++(if mm then[0#8,1#8]else[]):=⟨_,rfl⟩
 have HY:=Lib.hid hY
 have HYL:Hid (Y.length≤6):=Lib.hid (by rw[hY,List.length_append,QEz];cases mm<;>simp)
 clear hY
 obtain⟨q4,m4,d4,rfl⟩:=HW4.out.opens
 go_upto_if 27 with(fail)
 go_cut[6] (fun v wx=>Hid (Wr w1 wx v Y))
 case first=>
  cases mm with
  |false=>
   have hy:Y=le32 t.ve:=by rw[HY.out];simp
   go_wp2_with fail
   go_meet
   case rel=>rw[hy];exact HW4
  |true=>
   have hy:Y=le32 t.ve++[0#8,1#8]:=by rw[HY.out];rfl
   have HYY:=Lib.hid hy
   clear hy
   have hB:Blk (w4.alloc (.cells #[.int .u8 0,.int .u8 1] 5)) w4.heap.size 5 (Q5z [0#8,1#8]).toArray:=Blk.new w4 _ _
   have HR2:=Lib.hid (QOz hB)
   have HW5:=Lib.hid (HW4.out.fut (Q1z w4 (.cells #[.int .u8 0,.int .u8 1] 5)))
   have HL4:Hid ((le32 t.ve).length+2≤140737488355328):=Lib.hid (by rw[QEz];omega)
   clear hB
   go_wp2_with(with_reducible refine Qaz (o:=⟨some 30,_,_,_,_,_⟩) ?_ (.tmp 28) (.tmp 29) ?_ w1.heap.size _ _ ?_ HW5.out.own (some ⟨w4.heap.size,0,none⟩) 2 2 [0#8,1#8] ?_ rfl ?_ ?_ ?_ w1.heap.size w1 ?_ ?_ ?_
               ·rfl
               ·rfl
               ·rfl
               ·rfl
               ·exact HR2.out
               ·exact HL4.out
               ·exact HW5.out.below.size
               ·exact HW5.out.below
               ·exact Nat.le_refl _
               intro v5 w5 ho _ hg hk)
   have HW6:=Lib.hid (HW5.out.grew ho (Grew.of_app hg hk))
   clear ho hg hk
   go_wp2_with fail
   go_meet
   case rel=>rw[HYY.out];exact HW6
 case rest=>
 have HW5:=Lib.hid hcut.out
 have HYE:=HY
 clear hcut HW4 HY
 generalize wc=w5 at*
 obtain⟨q5,m5,d5,rfl⟩:=HW5.out.opens
 have c1:w5.cell? ⟨z2,1,none⟩=some (.slice pi n ci):=by
  have:=(HB.out.below HW5.out.below HLT.out).cell 1
  simpa using this
 have hcl:=QXz n
 have HL5:=HYL.out
 go_upto_region 7 with fail
 go_wp2_with fail
 refine(Zkz n (by omega) w5).mono ?_
 rintro e W1 ⟨vz1,rfl,ho,hb⟩
 replace ho:Own8 W1 w5.heap.size vz1 (cntB n):=ho
 obtain⟨pz1,nz1,cz1,rfl,hn1,hnc1,hcm1,hr1⟩:=ho.open
 have HW1:=Lib.hid (HW5.out.fut hb)
 have ho1:=HW1.out.own
 have hbl1:=HW1.out.below
 have hbs1:=hbl1.size
 clear HW5 ho hb
 go_upto_region 8 with((with_reducible refine Qaz (o:=⟨some 37,_,_,_,_,_⟩) ?_ (.tmp 31) (.tmp 36) ?_ (w1.heap.size) _ (_) ?_ (ho1) (pz1) (nz1) (cz1) (cntB n) ?_ (hn1.out) (hr1) ?_ (hbs1) (w1.heap.size) (w1) (hbl1) ?_ ?_
                        ·rfl
                        ·rfl
                        ·rfl
                        ·rfl
                        ·omega
                        ·exact Nat.le_refl _
                        intro vz2 W2 ho hb hg hk))
 have HW2:=Lib.hid (HW1.out.grew ho (Grew.of_app hg hk))
 clear HW1 ho1 hbl1 hbs1 ho hb hg hk hr1
 clear c1 hcl HL5
 obtain⟨Y1,hY1⟩:∃Y1:Bs,Y1=Y++cntB n:=⟨_,rfl⟩
 have HY1L:Hid (Y1.length≤20):=Lib.hid (by rw[hY1,List.length_append];have:=QXz n;have:=HYL.out;omega)
 have HW8:Hid (Wr w1 W2 vz2 Y1):=Lib.hid (by rw[hY1];exact HW2.out)
 have HY1:=Lib.hid hY1
 clear HW2 hY1
 generalize W2=w8 at*
 have c1:w8.cell? ⟨z2,1,none⟩=some (.slice pi n ci):=by
  have:=(HB.out.below HW8.out.below HLT.out).cell 1
  simpa using this
 go_upto_region 9 with fail
 clear c1
 have HLI:Hid (∀k,(preB inB t.is k).length≤2000*10049):=Lib.hid fun k=>preB_len inB t.is k 10049 2000 (fun x hx=>by
  obtain⟨cs,hE⟩:=HI.out.mem hx
  obtain⟨_,_,_,hid,_⟩:=hE
  have:=text_le (HC4.out x hx).1
  unfold inB
  rw[List.length_append,List.length_append,List.length_append,hid,le32,le32,Qez,Qez]
  omega) (by have:=HN.out;omega)
 go_loopw[6,41] (fun v i wr=>∃k:Nat,k≤n∧i= .int .i64 k∧Hid (Wr w1 wr v (Y1++preB inB t.is k))) (fun _ i _=>n-(intOf i).toNat)
 case atStart=>exact⟨0,by omega,rfl,Lib.hid (by rw[preB_zero,List.append_nil];exact HW8.out)⟩
 case round=>
  obtain⟨k,hk,rfl,HWk⟩:=hrel
  clear HW8
  by_cases hkn:k<n
  case neg=>
   obtain rfl:k=n:=by omega
   obtain⟨Y2,hY2⟩:∃Y2:Bs,Y2=Y1++(t.is.map inB).flatten:=⟨_,rfl⟩
   have HY2:=Lib.hid hY2
   rw[preB_all inB t.is k (by have:=HN.out;omega),← hY2]at HWk
   have HY2L:Hid (Y2.length≤20100000):=Lib.hid (by
    have h1:=HLI.out k
    rw[preB_all inB t.is k (by have:=HN.out;omega)]at h1
    have h2:=HY1L.out
    rw[hY2,List.length_append]
    omega)
   clear hY2 HLI
   obtain⟨q8,m8,d8,rfl⟩:=HWk.out.opens
   have fc2:wr.cell? ⟨z2,2,none⟩=some (.slice po no co):=by
    have:=(HB.out.below HWk.out.below HLT.out).cell 2
    simpa using this
   have hiv:=Zmz no (by omega)
   have hcl:=QXz no
   have hge:¬(k:Int)<(k:Int):=by omega
   have HL8:=HY2L.out
   go_upto_region 14 with fail
   go_wp2_with fail
   refine(Zkz no (by omega) wr).mono ?_
   rintro e W3 ⟨vz3,rfl,ho,hb⟩
   replace ho:Own8 W3 wr.heap.size vz3 (cntB no):=ho
   obtain⟨pz3,nz3,cz3,rfl,hn3,hnc3,hcm3,hr3⟩:=ho.open
   have HW3:=Lib.hid (HWk.out.fut hb)
   have ho3:=HW3.out.own
   have hbl3:=HW3.out.below
   have hbs3:=hbl3.size
   clear HWk ho hb
   go_upto_region 15 with((with_reducible refine Qaz (o:=⟨some 73,_,_,_,_,_⟩) ?_ (.tmp 67) (.tmp 72) ?_ (w1.heap.size) _ (_) ?_ (ho3) (pz3) (nz3) (cz3) (cntB no) ?_ (hn3.out) (hr3) ?_ (hbs3) (w1.heap.size) (w1) (hbl3) ?_ ?_
                           ·rfl
                           ·rfl
                           ·rfl
                           ·rfl
                           ·omega
                           ·exact Nat.le_refl _
                           intro vz4 W4 ho hb hg hk))
   have HW4:=Lib.hid (HW3.out.grew ho (Grew.of_app hg hk))
   clear HW3 ho3 hbl3 hbs3 ho hb hg hk hr3
   clear fc2 hcl HL8 hiv hge
   obtain⟨Y3,hY3⟩:∃Y3:Bs,Y3=Y2++cntB no:=⟨_,rfl⟩
   have HY3L:Hid (Y3.length≤20100010):=Lib.hid (by rw[hY3,List.length_append];have:=QXz no;have:=HY2L.out;omega)
   have HW8:Hid (Wr w1 W4 vz4 Y3):=Lib.hid (by rw[hY3];exact HW4.out)
   have HY3:=Lib.hid hY3
   clear HW4 hY3
   generalize W4=w8 at*
   have fc2:w8.cell? ⟨z2,2,none⟩=some (.slice po no co):=by
    have:=(HB.out.below HW8.out.below HLT.out).cell 2
    simpa using this
   go_upto_region 16 with fail
   clear fc2
   have HLO:Hid (∀k,(preB outB t.os k).length≤2000*10049):=Lib.hid fun k=>preB_len outB t.os k 10049 2000 (fun x hx=>by
    have:=text_le (HC5.out x hx).2
    unfold outB
    rw[List.length_append,Qez]
    omega) (by have:=HNO.out;omega)
   go_loopw[6,77] (fun v i wr=>∃j:Nat,j≤no∧i= .int .i64 j∧Hid (Wr w1 wr v (Y3++preB outB t.os j))) (fun _ i _=>no-(intOf i).toNat)
   case atStart=>exact⟨0,by omega,rfl,Lib.hid (by rw[preB_zero,List.append_nil];exact HW8.out)⟩
   case round=>
    clear HW8
    obtain⟨j,hj,rfl,HWk⟩:=hrel
    by_cases hjn:j<no
    case neg=>
     obtain rfl:j=no:=by omega
     obtain⟨Y4,hY4⟩:∃Y4:Bs,Y4=Y3++(t.os.map outB).flatten:=⟨_,rfl⟩
     have HY4:=Lib.hid hY4
     rw[preB_all outB t.os j (by have:=HNO.out;omega),← hY4]at HWk
     have HY4L:Hid (Y4.length≤40300000):=Lib.hid (by
      have h1:=HLO.out j
      rw[preB_all outB t.os j (by have:=HNO.out;omega)]at h1
      have h2:=HY3L.out
      rw[hY4,List.length_append]
      omega)
     clear hY4 HLO
     have hgej:¬(j:Int)<(j:Int):=by omega
     have fc1:wr.cell? ⟨z2,1,none⟩=some (.slice pi k ci):=by
      have:=(HB.out.below HWk.out.below HLT.out).cell 1
      simpa using this
     have HE4:Hid (Y4=le32 t.ve++((if mm then[0#8,1#8]else[])++(insB t.is++outsB t.os))):=Lib.hid (by
      rw[HY4.out,HY3.out,HY2.out,HY1.out,HYE.out]
      unfold insB outsB
      rw[HN.out,HNO.out]
      simp only[List.append_assoc])
     go_upto_region 21 with fail
     clear fc1 hgej
     cases mm with
     |false=>
      have HE5:Hid (txB t false=Y4++le32 t.lo):=Lib.hid (by
       rw[HE4.out]
       unfold txB
       simp only[List.append_assoc,Bool.false_eq_true,if_false,List.nil_append])
      go_loopw[6,95] (fun v i wr=>i= .int .i64 0∧Hid (Wr w1 wr v Y4)) (fun _ i _=>0)
      case atStart=>exact⟨rfl,HWk⟩
      case round=>
       clear HWk
       obtain⟨rfl,HWk⟩:=hrel
       have hlt:(0:Int)<(k:Int):=by omega
       obtain⟨b,off,cs2,x,rfl,hx,hE,l2⟩:=HI.out.at (Q3z HB01.out HWk.out.below (Nat.le_refl _)) hn0
       have H3:=Lib.hid hE.len
       have H1:=Lib.hid hE.one
       have l3:wr.rangeAt b off cs2:=by simpa using l2
       obtain⟨Z,hZl,hz⟩:=zeroIn
       have HZ:=Lib.hid hZl
       have hbr:=Q1z wr (.cells Z 209)
       obtain⟨qk,mk,dk,rfl⟩:=HWk.out.opens
       clear hx hZl hE l2
       go_upto_region 23 with(first
        |(with_reducible refine wpList_load_mid (op:=⟨some 98,_,_,_,_,_⟩) ?_ 209 (.tmp 97) ?_ (b) (off) ?_ (cs2) _ (l3) Tryz.underlying209 ?_ ?_ ?_
          ·rfl
          ·rfl
          ·rfl
          ·rfl
          ·exact((QRz H3.out)))
        |(with_reducible refine Q4z (o:=⟨none,_,_,_,_,_⟩) ?_ 209 (.tmp 12) (.tmp 98) ?_ (wr.heap.size) 209 (Z) (cs2.toArray) ?_ ?_ (Blk.new wr _ _) ?_ ?_ ?_ (wr.heap.size) (wr) ?_ ?_ ?_
          ·rfl
          ·rfl
          ·rfl
          ·rfl
          ·exact(by rw[List.size_toArray];exact QRz H3.out)
          ·exact(HZ.out.trans (by rw[List.size_toArray];exact H3.out.symm))
          ·exact(H1.out)
          ·exact(hbr)
          ·exact(Nat.le_refl _)
          intro w6 hB6 hb6 hg6 hs6))
       have HW6:=Lib.hid (HWk.out.fut hb6)
       clear hb6 hg6 hs6 hB6 l3 hbr hz HWk
       try simp only[Qpz]
       go_upto_region 31 with fail
       have c3:w6.cell? ⟨z2,3,none⟩=some (.int .u32 (iv32 t.lo)):=by
        have:=(HB.out.below HW6.out.below HLT.out).cell 3
        simp only[List.getElem?_toArray,List.getElem?_cons_zero,List.getElem?_cons_succ]at this
        rw[this,HVL.out]
       have e9:=Xnz t.lo
       go_wp2_with fail
       refine(QFz (t.lo.setWidth 64) 4 (by omega) w6).mono ?_
       rintro e W20 ⟨vz20,rfl,ho,hb⟩
       replace ho:Own8 W20 w6.heap.size vz20 (le32 t.lo):=ho
       obtain⟨pz20,nz20,cz20,rfl,hn20,hnc20,hcm20,hr20⟩:=ho.open
       have HW20:=Lib.hid (HW6.out.fut hb)
       have ho20:=HW20.out.own
       have hbl20:=HW20.out.below
       have hbs20:=hbl20.size
       clear HW6 ho hb
       go_wp2_with((with_reducible refine Qaz (o:=⟨some 126,_,_,_,_,_⟩) ?_ (.tmp 121) (.tmp 125) ?_ (w1.heap.size) _ (_) ?_ (ho20) (pz20) (nz20) (cz20) (le32 t.lo) ?_ (hn20.out) (hr20) ?_ (hbs20) (w1.heap.size) (w1) (hbl20) ?_ ?_
                    ·rfl
                    ·rfl
                    ·rfl
                    ·rfl
                    ·rw[QEz];have:=HY4L.out;omega
                    ·exact Nat.le_refl _
                    intro vz21 W21 ho hb hg hk))
       have HW21:=Lib.hid (HW20.out.grew ho (Grew.of_app hg hk))
       clear HW20 ho20 hbl20 hbs20 ho hb hg hk hr20
       go_ret2
       refine OutB.of HP2 ?_ (HB01.out.trans (HW21.out.below.mono HB01.out.size))
       have e:txB t _=_:=HE5.out
       rw[e]
       exact Qmz HW21.out.own HB01.out.size
     |true=>
      have HLW:Hid (∀k,(preB (fun x:TIn=>witB x.wi) t.is k).length≤2000*1001000):=Lib.hid fun k=>preB_len (fun x:TIn=>witB x.wi) t.is k 1001000 2000 (fun x hx=>by
       have hy2:=HC4.out x hx
       have h3:=flat_le text 10009 x.wi (fun b hb=>text_le (hy2.2.2 b hb))
       have h4:=QXz x.wi.length
       show(witB x.wi).length≤_
       unfold witB
       rw[List.length_append]
       have h5:=Nat.mul_le_mul hy2.2.1 (Nat.le_refl 10009)
       omega) (by have:=HN.out;omega)
      go_loopw[6,95] (fun v i wr=>∃l:Nat,l≤k∧i= .int .i64 l∧Hid (Wr w1 wr v (Y4++preB (fun x:TIn=>witB x.wi) t.is l))) (fun _ i _=>k-(intOf i).toNat)
      case atStart=>exact⟨0,by omega,rfl,Lib.hid (by rw[preB_zero,List.append_nil];exact HWk.out)⟩
      case round=>
       clear HWk
       obtain⟨l,hl,rfl,HWk⟩:=hrel
       by_cases hln:l<k
       case neg=>
        obtain rfl:l=k:=by omega
        have hgel:¬(l:Int)<(l:Int):=by omega
        have HE5:Hid (txB t true=(Y4++preB (fun x:TIn=>witB x.wi) t.is l)++le32 t.lo):=Lib.hid (by
         rw[HE4.out,preB_all _ t.is l (by have:=HN.out;omega)]
         unfold txB witsB
         simp only[List.append_assoc,if_true])
        have HY5L:Hid ((Y4++preB (fun x:TIn=>witB x.wi) t.is l).length≤2100000000):=Lib.hid (by rw[List.length_append];have:=HLW.out l;have:=HY4L.out;omega)
        obtain⟨Y5,hY5⟩:∃Y5:Bs,Y5=Y4++preB (fun x:TIn=>witB x.wi) t.is l:=⟨_,rfl⟩
        rw[←hY5]at HWk HE5 HY5L
        clear hY5
        go_upto_region 31 with fail
        have c3:wr.cell? ⟨z2,3,none⟩=some (.int .u32 (iv32 t.lo)):=by
         have:=(HB.out.below HWk.out.below HLT.out).cell 3
         simp only[List.getElem?_toArray,List.getElem?_cons_zero,List.getElem?_cons_succ]at this
         rw[this,HVL.out]
        have e9:=Xnz t.lo
        obtain⟨qe,me,de,rfl⟩:=HWk.out.opens
        go_wp2_with fail
        refine(QFz (t.lo.setWidth 64) 4 (by omega) wr).mono ?_
        rintro e W14 ⟨vz14,rfl,ho,hb⟩
        replace ho:Own8 W14 wr.heap.size vz14 (le32 t.lo):=ho
        obtain⟨pz14,nz14,cz14,rfl,hn14,hnc14,hcm14,hr14⟩:=ho.open
        have HW14:=Lib.hid (HWk.out.fut hb)
        have ho14:=HW14.out.own
        have hbl14:=HW14.out.below
        have hbs14:=hbl14.size
        clear HWk ho hb
        go_wp2_with((with_reducible refine Qaz (o:=⟨some 126,_,_,_,_,_⟩) ?_ (.tmp 121) (.tmp 125) ?_ (w1.heap.size) _ (_) ?_ (ho14) (pz14) (nz14) (cz14) (le32 t.lo) ?_ (hn14.out) (hr14) ?_ (hbs14) (w1.heap.size) (w1) (hbl14) ?_ ?_
                     ·rfl
                     ·rfl
                     ·rfl
                     ·rfl
                     ·rw[QEz];have:=HY5L.out;omega
                     ·exact Nat.le_refl _
                     intro vz15 W15 ho hb hg hk))
        have HW15:=Lib.hid (HW14.out.grew ho (Grew.of_app hg hk))
        clear HW14 ho14 hbl14 hbs14 ho hb hg hk hr14
        go_ret2
        refine OutB.of HP2 ?_ (HB01.out.trans (HW15.out.below.mono HB01.out.size))
        have e:txB t _=_:=HE5.out
        rw[e]
        exact Qmz HW15.out.own HB01.out.size
       have hlt:(l:Int)<(k:Int):=by omega
       obtain⟨b,off,cs2,x,rfl,hx,hE,l2⟩:=HI.out.at (Q3z HB01.out HWk.out.below (Nat.le_refl _)) hln
       obtain⟨sv,wv,k32,k33,k34,k35,hsv,hwv⟩:=hE.cell
       obtain⟨pw,nw,cw,rfl⟩:=hwv.opens
       obtain⟨hnw,hnwc,hcwm⟩:=hwv.slen
       have HX:=Lib.hid hx
       have HWV:=Lib.hid hwv
       have K35:=Lib.hid k35
       have H3:=Lib.hid hE.len
       have H1:=Lib.hid hE.one
       have HNW:=Lib.hid hnw
       have HXW:=Lib.hid (HC4.out x (List.mem_of_getElem? hx)).2
       have hnw1:nw≤100:=by have:=HXW.out.1;omega
       have HLk:Hid ((Y4++preB (fun x:TIn=>witB x.wi) t.is l).length≤2100000000):=Lib.hid (by rw[List.length_append];have:=HLW.out l;have:=HY4L.out;omega)
       obtain⟨X,hX⟩:∃X:Bs,X=Y4++preB (fun x:TIn=>witB x.wi) t.is l:=⟨_,rfl⟩
       rw[←hX]at HWk HLk
       have HXX:=Lib.hid hX
       obtain⟨Z,hZl,hz⟩:=zeroIn
       have HZ:=Lib.hid hZl
       have hbr:=Q1z wr (.cells Z 209)
       obtain⟨qk,mk,dk,rfl⟩:=HWk.out.opens
       clear hx hsv hwv k32 k33 k34 k35 hnw hZl hX hE
       go_upto_region 23 with(first
        |(with_reducible refine wpList_load_mid (op:=⟨some 98,_,_,_,_,_⟩) ?_ 209 (.tmp 97) ?_ (b) (off+l*36) ?_ (cs2) _ (l2) Tryz.underlying209 ?_ ?_ ?_
          ·rfl
          ·rfl
          ·rfl
          ·rfl
          ·exact((QRz H3.out)))
        |(with_reducible refine Q4z (o:=⟨none,_,_,_,_,_⟩) ?_ 209 (.tmp 12) (.tmp 98) ?_ (wr.heap.size) 209 (Z) (cs2.toArray) ?_ ?_ (Blk.new wr _ _) ?_ ?_ ?_ (wr.heap.size) (wr) ?_ ?_ ?_
          ·rfl
          ·rfl
          ·rfl
          ·rfl
          ·exact(by rw[List.size_toArray];exact QRz H3.out)
          ·exact(HZ.out.trans (by rw[List.size_toArray];exact H3.out.symm))
          ·exact(H1.out)
          ·exact(hbr)
          ·exact(Nat.le_refl _)
          intro w6 hB6 hb6 hg6 hs6))
       have HW6:=Lib.hid (HWk.out.fut hb6)
       obtain⟨g,hg⟩:∃g,g=wr.heap.size:=⟨_,rfl⟩
       have HF6:=Lib.hid hB6.out
       rw[←hg]at HF6 ⊢
       clear hb6 hg6 hs6 hB6 l2 hbr hz hg HWk
       try simp only[Qpz]
       have fc35:w6.cell? ⟨g,35,none⟩=some (.slice pw nw cw):=by rw[HF6.out.cell,List.getElem?_toArray];exact K35.out
       have hivw:=Zmz nw (by omega)
       have hcl:=QXz nw
       have HL8:=HLk.out
       go_upto_region 24 with fail
       go_wp2_with fail
       refine(Zkz nw (by omega) w6).mono ?_
       rintro e W16 ⟨vz16,rfl,ho,hb⟩
       replace ho:Own8 W16 w6.heap.size vz16 (cntB nw):=ho
       obtain⟨pz16,nz16,cz16,rfl,hn16,hnc16,hcm16,hr16⟩:=ho.open
       have HW16:=Lib.hid (HW6.out.fut hb)
       have ho16:=HW16.out.own
       have hbl16:=HW16.out.below
       have hbs16:=hbl16.size
       have HFp16:=Lib.hid (HF6.out.fut hb)
       clear HF6
       clear HW6 ho hb
       go_upto_region 25 with((with_reducible refine Qaz (o:=⟨some 107,_,_,_,_,_⟩) ?_ (.tmp 101) (.tmp 106) ?_ (w1.heap.size) _ (_) ?_ (ho16) (pz16) (nz16) (cz16) (cntB nw) ?_ (hn16.out) (hr16) ?_ (hbs16) (w1.heap.size) (w1) (hbl16) ?_ ?_
                               ·rfl
                               ·rfl
                               ·rfl
                               ·rfl
                               ·omega
                               ·exact Nat.le_refl _
                               intro vz17 W17 ho hb hg hk))
       have HW17:=Lib.hid (HW16.out.grew ho (Grew.of_app hg hk))
       have HFq16:=Lib.hid ((Grew.of_app hg hk).blk HFp16.out (HW16.out.apart HFp16.out (by decide)))
       clear HFp16
       clear HW16 ho16 hbl16 hbs16 ho hb hg hk hr16
       clear fc35 hcl hivw HL8
       have fc35:W17.cell? ⟨g,35,none⟩=some (.slice pw nw cw):=by rw[HFq16.out.cell,List.getElem?_toArray];exact K35.out
       obtain⟨X1,hX1⟩:∃X1:Bs,X1=X++cntB nw:=⟨_,rfl⟩
       have HX1L:Hid (X1.length≤2100000010):=Lib.hid (by rw[hX1,List.length_append];have:=QXz nw;have:=HLk.out;omega)
       have HW8:Hid (Wr w1 W17 vz17 X1):=Lib.hid (by rw[hX1];exact HW17.out)
       have HX1:=Lib.hid hX1
       clear HW17 hX1
       have HLT2:Hid (∀i,(preB text x.wi i).length≤100*10009):=Lib.hid fun i=>preB_len text x.wi i 10009 100 (fun b hb=>text_le (HXW.out.2 b hb)) HXW.out.1
       go_upto_region 26 with fail
       clear fc35 HFq16
       go_loopw[6,111] (fun v i wr=>∃i':Nat,i'≤nw∧i= .int .i64 i'∧Hid (Wr w1 wr v (X1++preB text x.wi i'))) (fun _ i _=>nw-(intOf i).toNat)
       case atStart=>exact⟨0,by omega,rfl,Lib.hid (by rw[preB_zero,List.append_nil];exact HW8.out)⟩
       case round=>
        clear HW8
        obtain⟨i,hi',rfl,HWi⟩:=hrel
        by_cases hin:i<nw
        case neg=>
         obtain rfl:i=nw:=by omega
         have hgei:¬(i:Int)<(i:Int):=by omega
         have HWn:Hid (Wr w1 wr _ (Y4++preB (fun x:TIn=>witB x.wi) t.is (l+1))):=Lib.hid (by
          have:=HWi.out
          rw[preB_all text x.wi i (by have:=HNW.out;omega),HX1.out,HXX.out,← HNW.out]at this
          rw[preB_succ (fun x:TIn=>witB x.wi) t.is l x HX.out,show witB x.wi=cntB x.wi.length++(x.wi.map text).flatten from rfl]
          simpa only[List.append_assoc]using this)
         go_wp2_with fail
         go_roundw
         case rel=>exact⟨l+1,by omega,by go_num,HWn⟩
         case measure=>simp[intOf];omega
        have hlti:(i:Int)<(nw:Int):=by omega
        obtain⟨b2,off2,cs3,y,rfl,hy,⟨vy,rfl,hsy⟩,l3⟩:=HWV.out.at (Q3z HB01.out HWi.out.below (Nat.le_refl _)) hin
        obtain⟨py,ny,cy,rfl⟩:=hsy.opens
        obtain⟨hny,hnyc,hcym⟩:=hsy.slen
        have cy1:wr.cell? ⟨b2,off2+i,none⟩=some (.slice py ny cy):=by
         have:=l3 0 _ rfl
         rwa [Nat.mul_one,Nat.add_zero]at this
        have HY:=Lib.hid hy
        have HSY:=Lib.hid hsy
        have HNY:=Lib.hid hny
        have HTY:Hid ((text y).length≤10009):=Lib.hid (text_le (HXW.out.2 y (List.mem_of_getElem? hy)))
        have HNYB:Hid (ny≤10000):=Lib.hid (by have:=HXW.out.2 y (List.mem_of_getElem? hy);omega)
        have HLi:Hid ((X1++preB text x.wi i).length≤2200000000):=Lib.hid (by rw[List.length_append];have:=HLT2.out i;have:=HX1L.out;omega)
        obtain⟨q9,m9,d9,rfl⟩:=HWi.out.opens
        obtain⟨X2,hX2⟩:∃X2:Bs,X2=X1++preB text x.wi i:=⟨_,rfl⟩
        rw[←hX2]at HWi HLi
        have HXX2:=Lib.hid hX2
        clear hy hsy l3 hny hX2
        go_upto_region 28 with fail
        clear cy1
        go_wp2_with fail
        refine(refText_any py ny cy y wr (HSY.out.below (Q3z HB01.out HWi.out.below (Nat.le_refl _)) (Nat.le_refl _)).r8 HNY.out (by have:=HNYB.out;omega)).mono ?_
        rintro e W18 ⟨vz18,rfl,ho,hb⟩
        replace ho:Own8 W18 wr.heap.size vz18 (text y):=ho
        obtain⟨pz18,nz18,cz18,rfl,hn18,hnc18,hcm18,hr18⟩:=ho.open
        have HW18:=Lib.hid (HWi.out.fut hb)
        have ho18:=HW18.out.own
        have hbl18:=HW18.out.below
        have hbs18:=hbl18.size
        clear HWi ho hb
        go_upto_region 29 with((with_reducible refine Qaz (o:=⟨some 118,_,_,_,_,_⟩) ?_ (.tmp 115) (.tmp 117) ?_ (w1.heap.size) _ (_) ?_ (ho18) (pz18) (nz18) (cz18) (text y) ?_ (hn18.out) (hr18) ?_ (hbs18) (w1.heap.size) (w1) (hbl18) ?_ ?_
                                ·rfl
                                ·rfl
                                ·rfl
                                ·rfl
                                ·have:=HLi.out;have:=HTY.out;omega
                                ·exact Nat.le_refl _
                                intro vz19 W19 ho hb hg hk))
        have HW19:=Lib.hid (HW18.out.grew ho (Grew.of_app hg hk))
        clear HW18 ho18 hbl18 hbs18 ho hb hg hk hr18
        have HWn:Hid (Wr w1 W19 vz19 (X1++preB text x.wi (i+1))):=Lib.hid (by
         have:=HW19.out
         rw[HXX2.out]at this
         rw[preB_succ text x.wi i y HY.out]
         simpa only[List.append_assoc]using this)
        clear HW19
        go_wp2_with fail
        go_roundw
        case rel=>exact⟨i+1,by omega,by go_num,HWn⟩
        case measure=>simp[intOf];omega
    have hlt:(j:Int)<(no:Int):=by omega
    obtain⟨b,off,cs2,x,rfl,hx,hE,l2⟩:=HO.out.at (Q3z HB01.out HWk.out.below (Nat.le_refl _)) hjn
    have H3:=Lib.hid hE.len
    have H1:=Lib.hid hE.one
    obtain⟨sv,hcs2,hsv⟩:=hE
    obtain⟨ps,ns,cs',rfl⟩:=hsv.opens
    obtain⟨hns,hnsc,hcsm⟩:=hsv.slen
    have hV:=wrap_toInt x.va
    obtain⟨V,hVe⟩:∃V,V=x.va.toInt:=⟨_,rfl⟩
    rw[←hVe]at hV hcs2
    have HX:=Lib.hid hx
    have HSV:=Lib.hid hsv
    have K0:Hid (cs2[0]? =some (.int .i64 V)):=Lib.hid (by rw[hcs2];rfl)
    have K1:Hid (cs2[1]? =some (.slice ps ns cs')):=Lib.hid (by rw[hcs2];rfl)
    have HNS:=Lib.hid hns
    have HSC:Hid (ns≤10000):=Lib.hid (by have:=(HC5.out x (List.mem_of_getElem? hx)).2;omega)
    have HLk:Hid ((Y3++preB outB t.os j).length≤40200000):=Lib.hid (by rw[List.length_append];have:=HLO.out j;have:=HY3L.out;omega)
    have HTX:Hid ((text x.sc).length≤10009):=Lib.hid (text_le (HC5.out x (List.mem_of_getElem? hx)).2)
    obtain⟨Z,hZl,hz⟩:=zeroOut
    have HZ:=Lib.hid hZl
    have hbr:=Q1z wr (.cells Z 204)
    obtain⟨qk,mk,dk,rfl⟩:=HWk.out.opens
    clear hx hsv hcs2 hns hZl hVe
    go_upto_region 18 with(first
     |(with_reducible refine wpList_load_mid (op:=⟨some 80,_,_,_,_,_⟩) ?_ 204 (.tmp 79) ?_ (b) (off+j*2) ?_ (cs2) _ (l2) Tryz.underlying204 ?_ ?_ ?_
       ·rfl
       ·rfl
       ·rfl
       ·rfl
       ·exact((info_Outs H3.out)))
     |(with_reducible refine Q4z (o:=⟨none,_,_,_,_,_⟩) ?_ 204 (.tmp 10) (.tmp 80) ?_ (wr.heap.size) 204 (Z) (cs2.toArray) ?_ ?_ (Blk.new wr _ _) ?_ ?_ ?_ (wr.heap.size) (wr) ?_ ?_ ?_
       ·rfl
       ·rfl
       ·rfl
       ·rfl
       ·exact(by rw[List.size_toArray];exact info_Outs H3.out)
       ·exact(HZ.out.trans (by rw[List.size_toArray];exact H3.out.symm))
       ·exact(H1.out)
       ·exact(hbr)
       ·exact(Nat.le_refl _)
       intro w6 hB6 hb6 hg6 hs6))
    have HW6:=Lib.hid (HWk.out.fut hb6)
    obtain⟨g,hg⟩:∃g,g=wr.heap.size:=⟨_,rfl⟩
    have HF6:=Lib.hid hB6.out
    rw[←hg]at HF6 ⊢
    clear hb6 hg6 hs6 hB6 l2 hbr hz hg HWk
    try simp only[Qpz]
    obtain⟨X,hX⟩:∃X:Bs,X=Y3++preB outB t.os j:=⟨_,rfl⟩
    rw[←hX]at HW6 HLk
    have HXX:=Lib.hid hX
    clear hX
    go_upto_region 18 with fail
    refine QAz [qq 0,qq 1,qq 2,qq 3,qq 6,qq 7,oo 4,oo 5,oo 8,oo 9,qq 10] (fun W=>Blk W g 204 cs2.toArray) (by kernel_rfl) (by kernel_rfl) (HF6.out.fut (Q0z w6 1)) ?_
    refine' Q9z (s:=127) (A1:=_) [0,1,2,3,6,7] [_,_,_,_,_,_] _ rfl rfl rfl (fun W hW=>?hqe) _ (HF6.out.fut (Q0z w6 1)) (fun _=>?hre)
    case hqe=>
     have c0:∀k,(W.drewN k).cell? ⟨g,0,none⟩=some (.int .i64 V):=fun k=>by have:=hW.cell 0;rw[List.getElem?_toArray]at this;exact this.trans K0.out
     have c1:∀k,(W.drewN k).cell? ⟨g,1,none⟩=some (.slice ps ns cs'):=fun k=>by have:=hW.cell 1;rw[List.getElem?_toArray]at this;exact this.trans K1.out
     try simp only[List.getElem_toArray,List.getElem_cons_zero,List.getElem_cons_succ]
     iterate 6 (go_big_quiet_step (fail))
     refine wpQuiet_nil ?_
     rfl
    case hre=>
    refine Qbz rfl fun k6=>?_
    have hdr:Below w6.heap.size w6 (w6.drew.drewN k6):=Q7z (Below.refl _ _).drew k6
    have HWd6:=Lib.hid (HW6.out.fut hdr)
    have hFd6:=HF6.out.fut hdr
    clear HW6 HF6 hdr
    generalize w6.drew.drewN k6=Wd6 at*
    go_wp2_with fail
    refine(QFz x.va 8 (by omega) Wd6).mono ?_
    rintro e W5 ⟨vz5,rfl,ho,hb⟩
    replace ho:Own8 W5 Wd6.heap.size vz5 (low x.va 8):=ho
    obtain⟨pz5,nz5,cz5,rfl,hn5,hnc5,hcm5,hr5⟩:=ho.open
    have HW5:=Lib.hid (HWd6.out.fut hb)
    have hF5:=hFd6.fut hb
    clear HWd6 hFd6 ho hb
    go_wp2_with fail
    refine Q2z (And.intro hF5 ?_)
    have hrd7:=fun k=>hr5.fut (Q0z W5 k)
    refine Qbz rfl fun k8=>?_
    have hdr:Below W5.heap.size W5 (W5.drewN k8):=Q0z W5 k8
    have HWd8:=Lib.hid (HW5.out.fut hdr)
    have hFd8:=hF5.fut hdr
    have hrr7:=hrd7 k8
    clear hrd7 HW5 hF5 hdr
    generalize W5.drewN k8=Wd8 at*
    refine Qaz (o:=⟨some 86,_,_,_,_,_⟩) rfl (.tmp 81) (.tmp 85) rfl w1.heap.size _ _ rfl HWd8.out.own pz5 nz5 cz5 (low x.va 8) rfl hn5.out hrr7 (by rw[Qez];have:=HLk.out;omega) HWd8.out.below.size w1.heap.size w1 HWd8.out.below (Nat.le_refl _) ?_
    intro vz7 W7 ho _ hg hk
    have HW7:=Lib.hid (HWd8.out.grew ho (Grew.of_app hg hk))
    have hF7:=(Grew.of_app hg hk).blk hFd8 (HWd8.out.apart hFd8 (by decide))
    clear HWd8 hFd8 ho hg hk hrr7
    go_wp2_with fail
    refine Q2z (And.intro hF7 ?_)
    refine Qbz rfl fun k10=>?_
    have hdr:Below W7.heap.size W7 (W7.drewN k10):=Q0z W7 k10
    have HWd10:=Lib.hid (HW7.out.fut hdr)
    have hFd10:=hF7.fut hdr
    clear HW7 hF7 hdr
    generalize W7.drewN k10=Wd10 at*
    go_wp2_with fail
    refine(refText_any ps ns cs' x.sc Wd10 (HSV.out.below (Q3z HB01.out HWd10.out.below (Nat.le_refl _)) (Nat.le_refl _)).r8 HNS.out (by have:=HSC.out;omega)).mono ?_
    rintro e W9 ⟨vz9,rfl,ho,hb⟩
    replace ho:Own8 W9 Wd10.heap.size vz9 (text x.sc):=ho
    obtain⟨pz9,nz9,cz9,rfl,hn9,hnc9,hcm9,hr9⟩:=ho.open
    have HW9:=Lib.hid (HWd10.out.fut hb)
    have hF9:=hFd10.fut hb
    clear HWd10 hFd10 ho hb
    go_wp2_with fail
    refine Q2z (And.intro hF9 ?_)
    have hrd11:=fun k=>hr9.fut (Q0z W9 k)
    refine Qbz rfl fun k12=>?_
    have hdr:Below W9.heap.size W9 (W9.drewN k12):=Q0z W9 k12
    have HWd12:=Lib.hid (HW9.out.fut hdr)
    have hFd12:=hF9.fut hdr
    have hrr11:=hrd11 k12
    clear hrd11 HW9 hF9 hdr
    generalize W9.drewN k12=Wd12 at*
    refine Qaz (o:=⟨some 90,_,_,_,_,_⟩) rfl (.tmp 86) (.tmp 89) rfl w1.heap.size _ _ rfl HWd12.out.own pz9 nz9 cz9 (text x.sc) rfl hn9.out hrr11 (by rw[List.length_append,Qez];have:=HLk.out;have:=HTX.out;omega) HWd12.out.below.size w1.heap.size w1 HWd12.out.below (Nat.le_refl _) ?_
    intro vz11 W11 ho _ hg hk
    have HW11:=Lib.hid (HWd12.out.grew ho (Grew.of_app hg hk))
    have hF11:=(Grew.of_app hg hk).blk hFd12 (HWd12.out.apart hFd12 (by decide))
    clear HWd12 hFd12 ho hg hk hrr11
    go_wp2_with fail
    refine Q2z (And.intro hF11 ?_)
    refine' Q9z (s:=127) (A1:=_) (r:=[]) [10] [_] _ rfl rfl rfl (fun W hW=>?hqf) _ hF11 (fun _=>?hrf)
    case hqf=>
     try simp only[List.getElem_toArray,List.getElem_cons_zero,List.getElem_cons_succ]
     iterate 1 (go_big_quiet_step (fail))
     refine wpQuiet_nil ?_
     rfl
    case hrf=>
    refine Qnz fun k13=>NoPanic.normal ?_
    have hdr:=Q0z W11 k13
    have HWz13:=Lib.hid (HW11.out.fut hdr)
    have HFz13:=Lib.hid (hF11.fut hdr)
    clear HW11 hF11 hdr
    generalize W11.drewN k13=Wz13 at*
    have HWn:Hid (Wr w1 Wz13 vz11 (Y3++preB outB t.os (j+1))):=Lib.hid (by
     have:=HWz13.out
     rw[HXX.out]at this
     rw[preB_succ outB t.os j x HX.out]
     rw[show outB x=low x.va 8++text x.sc from rfl]
     simpa only[List.append_assoc]using this)
    clear HWz13 HFz13
    go_wp2_with fail
    go_roundw
    case rel=>exact⟨j+1,by omega,by go_num,HWn⟩
    case measure=>simp[intOf];omega
  have hlt:(k:Int)<(n:Int):=by omega
  obtain⟨b,off,cs2,x,rfl,hx,hE,l2⟩:=HI.out.at (Q3z HB01.out HWk.out.below (Nat.le_refl _)) hkn
  obtain⟨sv,wv,k32,k33,k34,k35,hsv,hwv⟩:=hE.cell
  have hid:x.id.length=32:=by obtain⟨_,_,_,h,_⟩:=hE;exact h
  obtain⟨ps,ns,cs',rfl⟩:=hsv.opens
  obtain⟨hns,hnsc,hcsm⟩:=hsv.slen
  have HX:=Lib.hid hx
  have HSV:=Lib.hid hsv
  have K32:Hid (cs2[32]? =some (.int .u32 (iv32 x.ix))):=Lib.hid k32
  have K33:=Lib.hid k33
  have K34:Hid (cs2[34]? =some (.int .u32 (iv32 x.sq))):=Lib.hid k34
  have H3:=Lib.hid hE.len
  have H1:=Lib.hid hE.one
  have HID:=Lib.hid hid
  have HNS:=Lib.hid hns
  have HSC:Hid (ns≤10000):=Lib.hid (by have:=(HC4.out x (List.mem_of_getElem? hx)).1;omega)
  have HTX:Hid ((text x.sc).length≤10009):=Lib.hid (text_le (HC4.out x (List.mem_of_getElem? hx)).1)
  have HLk:Hid ((Y1++preB inB t.is k).length≤20100000):=Lib.hid (by rw[List.length_append];have:=HLI.out k;have:=HY1L.out;omega)
  obtain⟨Z,hZl,hz⟩:=zeroIn
  have HZ:=Lib.hid hZl
  have hbr:=Q1z wr (.cells Z 209)
  obtain⟨qk,mk,dk,rfl⟩:=HWk.out.opens
  clear hx hsv hwv k32 k33 k34 k35 hid hns hZl
  go_upto_region 11 with(first
   |(with_reducible refine wpList_load_mid (op:=⟨some 44,_,_,_,_,_⟩) ?_ 209 (.tmp 43) ?_ (b) (off+k*36) ?_ (cs2) _ (l2) Tryz.underlying209 ?_ ?_ ?_
     ·rfl
     ·rfl
     ·rfl
     ·rfl
     ·exact((QRz H3.out)))
   |(with_reducible refine Q4z (o:=⟨none,_,_,_,_,_⟩) ?_ 209 (.tmp 8) (.tmp 44) ?_ (wr.heap.size) 209 (Z) (cs2.toArray) ?_ ?_ (Blk.new wr _ _) ?_ ?_ ?_ (wr.heap.size) (wr) ?_ ?_ ?_
     ·rfl
     ·rfl
     ·rfl
     ·rfl
     ·exact(by rw[List.size_toArray];exact QRz H3.out)
     ·exact(HZ.out.trans (by rw[List.size_toArray];exact H3.out.symm))
     ·exact(H1.out)
     ·exact(hbr)
     ·exact(Nat.le_refl _)
     intro w6 hB6 hb6 hg6 hs6))
  have HW6:=Lib.hid (HWk.out.fut hb6)
  obtain⟨g,hg⟩:∃g,g=wr.heap.size:=⟨_,rfl⟩
  have HF6:=Lib.hid hB6.out
  rw[←hg]at HF6 ⊢
  have HIDR:Hid (∀w',Blk w' g 209 cs2.toArray→Row8 w' (some ⟨g,0,none⟩) x.id):=Lib.hid fun w' h=>hE.id h
  clear hb6 hg6 hs6 hB6 l2 hbr hz hg hE HWk
  try simp only[Qpz]
  obtain⟨X,hX⟩:∃X:Bs,X=Y1++preB inB t.is k:=⟨_,rfl⟩
  rw[←hX]at HW6 HLk
  have HXX:=Lib.hid hX
  clear hX
  have e1:=Xnz x.ix
  have e2:=Xnz x.sq
  go_upto_region 11 with fail
  refine QAz [qq 0,qq 1,qq 2,qq 3,qq 5,qq 6,qq 7,qq 8,oo 4,oo 9,oo 10,qq 11] (fun W=>Blk W g 209 cs2.toArray) (by kernel_rfl) (by kernel_rfl) (HF6.out.fut (Q0z w6 1)) ?_
  refine' Q9z (s:=127) (A1:=_) [0,1,2,3,5,6,7,8] [_,_,_,_,_,_,_,_] _ rfl rfl rfl (fun W hW=>?hqa) _ (HF6.out.fut (Q0z w6 1)) (fun _=>?hra)
  case hqa=>
   have c32:∀k,(W.drewN k).cell? ⟨g,32,none⟩=some (.int .u32 (iv32 x.ix)):=fun k=>by have:=hW.cell 32;rw[List.getElem?_toArray]at this;exact this.trans K32.out
   try simp only[List.getElem_toArray,List.getElem_cons_zero,List.getElem_cons_succ]
   iterate 8 (go_big_quiet_step (fail))
   refine wpQuiet_nil ?_
   rfl
  case hra=>
  refine Qbz rfl fun k22=>?_
  have hdr:Below w6.heap.size w6 (w6.drew.drewN k22):=Q7z (Below.refl _ _).drew k22
  have HWd22:=Lib.hid (HW6.out.fut hdr)
  have hFd22:=HF6.out.fut hdr
  clear HW6 HF6 hdr
  generalize w6.drew.drewN k22=Wd22 at*
  refine Qaz (o:=⟨some 49,_,_,_,_,_⟩) rfl (.tmp 45) (.tmp 48) rfl w1.heap.size _ _ rfl HWd22.out.own (some ⟨g,0,none⟩) 32 32 (x.id) rfl HID.out (HIDR.out _ hFd22) (by rw[HID.out];have:=HLk.out;omega) HWd22.out.below.size w1.heap.size w1 HWd22.out.below (Nat.le_refl _) ?_
  intro vz23 W23 ho _ hg hk
  have HW23:=Lib.hid (HWd22.out.grew ho (Grew.of_app hg hk))
  have hF23:=(Grew.of_app hg hk).blk hFd22 (HWd22.out.apart hFd22 (by decide))
  clear HWd22 hFd22 ho hg hk
  go_wp2_with fail
  refine Q2z (And.intro hF23 ?_)
  refine Qbz rfl fun k25=>?_
  have hdr:Below W23.heap.size W23 (W23.drewN k25):=Q0z W23 k25
  have HWd25:=Lib.hid (HW23.out.fut hdr)
  have hFd25:=hF23.fut hdr
  clear HW23 hF23 hdr
  generalize W23.drewN k25=Wd25 at*
  go_wp2_with fail
  refine(QFz (x.ix.setWidth 64) 4 (by omega) Wd25).mono ?_
  rintro e W24 ⟨vz24,rfl,ho,hb⟩
  replace ho:Own8 W24 Wd25.heap.size vz24 (le32 x.ix):=ho
  obtain⟨pz24,nz24,cz24,rfl,hn24,hnc24,hcm24,hr24⟩:=ho.open
  have HW24:=Lib.hid (HWd25.out.fut hb)
  have hF24:=hFd25.fut hb
  clear HWd25 hFd25 ho hb
  go_wp2_with fail
  refine Q2z (And.intro hF24 ?_)
  have hrd26:=fun k=>hr24.fut (Q0z W24 k)
  refine Qbz rfl fun k27=>?_
  have hdr:Below W24.heap.size W24 (W24.drewN k27):=Q0z W24 k27
  have HWd27:=Lib.hid (HW24.out.fut hdr)
  have hFd27:=hF24.fut hdr
  have hrr26:=hrd26 k27
  clear hrd26 HW24 hF24 hdr
  generalize W24.drewN k27=Wd27 at*
  refine Qaz (o:=⟨some 55,_,_,_,_,_⟩) rfl (.tmp 49) (.tmp 54) rfl w1.heap.size _ _ rfl HWd27.out.own pz24 nz24 cz24 (le32 x.ix) rfl hn24.out hrr26 (by rw[List.length_append,HID.out,QEz];have:=HLk.out;omega) HWd27.out.below.size w1.heap.size w1 HWd27.out.below (Nat.le_refl _) ?_
  intro vz26 W26 ho _ hg hk
  have HW26:=Lib.hid (HWd27.out.grew ho (Grew.of_app hg hk))
  have hF26:=(Grew.of_app hg hk).blk hFd27 (HWd27.out.apart hFd27 (by decide))
  clear HWd27 hFd27 ho hg hk hrr26
  go_wp2_with fail
  refine Q2z (And.intro hF26 ?_)
  refine' Q9z (s:=127) (A1:=_) (r:=[]) [11] [_] _ rfl rfl rfl (fun W hW=>?hqb) _ hF26 (fun _=>?hrb)
  case hqb=>
   try simp only[List.getElem_toArray,List.getElem_cons_zero,List.getElem_cons_succ]
   iterate 1 (go_big_quiet_step (fail))
   refine wpQuiet_nil ?_
   rfl
  case hrb=>
  refine Qnz fun k28=>NoPanic.normal ?_
  have hdr:=Q0z W26 k28
  have HWz28:=Lib.hid (HW26.out.fut hdr)
  have HFz28:=Lib.hid (hF26.fut hdr)
  clear HW26 hF26 hdr
  generalize W26.drewN k28=Wz28 at*
  go_upto_region 12 with fail
  refine QAz [qq 0,qq 1,qq 2,qq 5,qq 6,qq 7,oo 3,oo 4,oo 8,oo 9,qq 10] (fun W=>Blk W g 209 cs2.toArray) (by kernel_rfl) (by kernel_rfl) (HFz28.out.fut (Q0z Wz28 1)) ?_
  refine' Q9z (s:=127) (A1:=_) [0,1,2,5,6,7] [_,_,_,_,_,_] _ rfl rfl rfl (fun W hW=>?hqc) _ (HFz28.out.fut (Q0z Wz28 1)) (fun _=>?hrc)
  case hqc=>
   have c33:∀k,(W.drewN k).cell? ⟨g,33,none⟩=some (.slice ps ns cs'):=fun k=>by have:=hW.cell 33;rw[List.getElem?_toArray]at this;exact this.trans K33.out
   have c34:∀k,(W.drewN k).cell? ⟨g,34,none⟩=some (.int .u32 (iv32 x.sq)):=fun k=>by have:=hW.cell 34;rw[List.getElem?_toArray]at this;exact this.trans K34.out
   try simp only[List.getElem_toArray,List.getElem_cons_zero,List.getElem_cons_succ]
   iterate 6 (go_big_quiet_step (fail))
   refine wpQuiet_nil ?_
   rfl
  case hrc=>
  refine Qbz rfl fun k30=>?_
  have hdr:Below Wz28.heap.size Wz28 (Wz28.drew.drewN k30):=Q7z (Below.refl _ _).drew k30
  have HWd30:=Lib.hid (HWz28.out.fut hdr)
  have hFd30:=HFz28.out.fut hdr
  clear HWz28 HFz28 hdr
  generalize Wz28.drew.drewN k30=Wd30 at*
  go_wp2_with fail
  refine(refText_any ps ns cs' x.sc Wd30 (HSV.out.below (Q3z HB01.out HWd30.out.below (Nat.le_refl _)) (Nat.le_refl _)).r8 HNS.out (by have:=HSC.out;omega)).mono ?_
  rintro e W29 ⟨vz29,rfl,ho,hb⟩
  replace ho:Own8 W29 Wd30.heap.size vz29 (text x.sc):=ho
  obtain⟨pz29,nz29,cz29,rfl,hn29,hnc29,hcm29,hr29⟩:=ho.open
  have HW29:=Lib.hid (HWd30.out.fut hb)
  have hF29:=hFd30.fut hb
  clear HWd30 hFd30 ho hb
  go_wp2_with fail
  refine Q2z (And.intro hF29 ?_)
  have hrd31:=fun k=>hr29.fut (Q0z W29 k)
  refine Qbz rfl fun k32=>?_
  have hdr:Below W29.heap.size W29 (W29.drewN k32):=Q0z W29 k32
  have HWd32:=Lib.hid (HW29.out.fut hdr)
  have hFd32:=hF29.fut hdr
  have hrr31:=hrd31 k32
  clear hrd31 HW29 hF29 hdr
  generalize W29.drewN k32=Wd32 at*
  refine Qaz (o:=⟨some 60,_,_,_,_,_⟩) rfl (.tmp 56) (.tmp 59) rfl w1.heap.size _ _ rfl HWd32.out.own pz29 nz29 cz29 (text x.sc) rfl hn29.out hrr31 (by rw[List.length_append,List.length_append,HID.out,QEz];have:=HLk.out;have:=HTX.out;omega) HWd32.out.below.size w1.heap.size w1 HWd32.out.below (Nat.le_refl _) ?_
  intro vz31 W31 ho _ hg hk
  have HW31:=Lib.hid (HWd32.out.grew ho (Grew.of_app hg hk))
  have hF31:=(Grew.of_app hg hk).blk hFd32 (HWd32.out.apart hFd32 (by decide))
  clear HWd32 hFd32 ho hg hk hrr31
  go_wp2_with fail
  refine Q2z (And.intro hF31 ?_)
  refine Qbz rfl fun k34=>?_
  have hdr:Below W31.heap.size W31 (W31.drewN k34):=Q0z W31 k34
  have HWd34:=Lib.hid (HW31.out.fut hdr)
  have hFd34:=hF31.fut hdr
  clear HW31 hF31 hdr
  generalize W31.drewN k34=Wd34 at*
  go_wp2_with fail
  refine(QFz (x.sq.setWidth 64) 4 (by omega) Wd34).mono ?_
  rintro e W33 ⟨vz33,rfl,ho,hb⟩
  replace ho:Own8 W33 Wd34.heap.size vz33 (le32 x.sq):=ho
  obtain⟨pz33,nz33,cz33,rfl,hn33,hnc33,hcm33,hr33⟩:=ho.open
  have HW33:=Lib.hid (HWd34.out.fut hb)
  have hF33:=hFd34.fut hb
  clear HWd34 hFd34 ho hb
  go_wp2_with fail
  refine Q2z (And.intro hF33 ?_)
  have hrd35:=fun k=>hr33.fut (Q0z W33 k)
  refine Qbz rfl fun k36=>?_
  have hdr:Below W33.heap.size W33 (W33.drewN k36):=Q0z W33 k36
  have HWd36:=Lib.hid (HW33.out.fut hdr)
  have hFd36:=hF33.fut hdr
  have hrr35:=hrd35 k36
  clear hrd35 HW33 hF33 hdr
  generalize W33.drewN k36=Wd36 at*
  refine Qaz (o:=⟨some 65,_,_,_,_,_⟩) rfl (.tmp 60) (.tmp 64) rfl w1.heap.size _ _ rfl HWd36.out.own pz33 nz33 cz33 (le32 x.sq) rfl hn33.out hrr35 (by rw[List.length_append,List.length_append,List.length_append,HID.out,QEz,QEz];have:=HLk.out;have:=HTX.out;omega) HWd36.out.below.size w1.heap.size w1 HWd36.out.below (Nat.le_refl _) ?_
  intro vz35 W35 ho _ hg hk
  have HW35:=Lib.hid (HWd36.out.grew ho (Grew.of_app hg hk))
  have hF35:=(Grew.of_app hg hk).blk hFd36 (HWd36.out.apart hFd36 (by decide))
  clear HWd36 hFd36 ho hg hk hrr35
  go_wp2_with fail
  refine Q2z (And.intro hF35 ?_)
  refine' Q9z (s:=127) (A1:=_) (r:=[]) [10] [_] _ rfl rfl rfl (fun W hW=>?hqd) _ hF35 (fun _=>?hrd)
  case hqd=>
   try simp only[List.getElem_toArray,List.getElem_cons_zero,List.getElem_cons_succ]
   iterate 1 (go_big_quiet_step (fail))
   refine wpQuiet_nil ?_
   rfl
  case hrd=>
  refine Qnz fun k37=>NoPanic.normal ?_
  have hdr:=Q0z W35 k37
  have HWz37:=Lib.hid (HW35.out.fut hdr)
  have HFz37:=Lib.hid (hF35.fut hdr)
  clear HW35 hF35 hdr
  generalize W35.drewN k37=Wz37 at*
  have HWn:Hid (Wr w1 Wz37 vz35 (Y1++preB inB t.is (k+1))):=Lib.hid (by
   have:=HWz37.out
   rw[HXX.out]at this
   rw[preB_succ inB t.is k x HX.out]
   rw[show inB x=x.id++(le32 x.ix++(text x.sc++le32 x.sq))from rfl]
   simpa only[List.append_assoc]using this)
  clear HWz37 HFz37
  go_wp2_with fail
  go_roundw
  case rel=>exact⟨k+1,by omega,by go_num,HWn⟩
  case measure=>simp[intOf];omega
end Go.Proofs.YtjbijcjcejfpcaaGreatDoor
