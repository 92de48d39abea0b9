/- MessageWrites: a message's bytes on the wire, the program's and the reference's; -/
import Derived.Test.YtjbijcjcejfpcaaGreatDoorZMsgB
import Derived.Test.YtjbijcjcejfpcaaGreatDoorZGF
namespace Go.Proofs.YtjbijcjcejfpcaaGreatDoor
set_option linter.unusedVariables false
set_option maxRecDepth 100000
set_option maxHeartbeats 16000000
open Go Go.RowKit
def QKz (m:TMsg):Bs × Int:=if(msgP m).2.2=0 then frmP (msgP m).1 (msgP m).2.1 else([],(msgP m).2.2)
theorem msg_cmd_len (m:TMsg):(msgP m).1.length≤12:=by
 unfold msgP
 by_cases h:(payP m).2=0
 ·rw[if_pos h]
  show(cmdB m.k).length≤12
  unfold cmdB
  by_cases h2:m.k<0
  ·rw[if_pos h2];exact Nat.zero_le _
  ·rw[if_neg h2];exact cmdN_len _
 ·rw[if_neg h];exact Nat.zero_le _
theorem msgBytes_of (cs:List Value) (m:TMsg) (W:World) (hE:∀V,MsgC V m cs→Calls Tryz.prog 34 #[.agg cs.toArray] V (Z1z V (msgP m))) (hK:Laid W) (hm:MsgC W m cs):
 Calls Tryz.prog 33 #[.agg cs.toArray] W (OutPost W (QKz m)):=by
 have HM:=Lib.hid hm
 have HK:=Lib.hid hK
 have hKs:=hK.size
 have HCL:=Lib.hid hm.len
 have hzf:=yFrm
 obtain⟨zm,hzm⟩:∃z,z=W.heap.size:=⟨_,rfl⟩
 obtain⟨W1,hW1⟩:∃V,V=W.alloc (.cells cs.toArray 41):=⟨_,rfl⟩
 have hb1:Below W.heap.size W W1:=by rw[hW1];exact Q1z W _
 have hB1:Blk W1 zm 41 cs.toArray:=by rw[hW1,hzm];exact Blk.new W _ _
 have HW1:=Lib.hid hb1
 have l1:=Qfz hB1
 have he1:=hE W1 (Qhz _ _ _ _ hm hb1)
 have hc12:=msg_cmd_len m
 obtain⟨x,hx⟩:∃x,x=msgP m:=⟨_,rfl⟩
 rw[←hx]at he1 hc12
 obtain⟨cmd,by_,er⟩:=x
 have HC:Hid (cmd.length≤12):=Lib.hid hc12
 have HBP:Hid (QKz m=if er=0 then frmP cmd by_ else([],er)):=Lib.hid (by unfold QKz;rw[←hx])
 unfold Z1z at he1
 simp only at he1
 clear hb1 hB1 hm hx hc12 hK
 go_enter Tryz.func33,Tryz.ntmps33
 go_upto_region 1 with fail
 rw[←hW1,← hzm]
 clear hW1 hzm
 go_wp2_with((with_reducible refine wpList_load_mid (op:=⟨some 7,_,_,_,_,_⟩) ?_ 41 (.tmp 1) ?_ (zm) (0) ?_ (cs) _ (l1) Tryz.underlying41 ?_ ?_ ?_
              ·rfl
              ·rfl
              ·rfl
              ·rfl
              ·exact((Qkz HCL.out))))
 refine he1.mono ?_
 rintro e w2 ⟨v2,rfl,ho2,hb2⟩
 obtain⟨q2,m2,c2,rfl,_⟩:=ho2.open
 have HO2:=Lib.hid (Own8.mono' ho2 HW1.out.size)
 have HW2:=Lib.hid (Q3z HW1.out hb2 (Nat.le_refl _))
 have hbn:=Q1z w2 (.cells YFrm.toArray 82)
 clear he1 ho2 hb2 l1 HW1
 go_upto_region 2 with((with_reducible refine Q4z (o:=⟨none,_,_,_,_,_⟩) ?_ 82 (.tmp 4) (.tmp 9) ?_ (w2.heap.size) 82 (YFrm.toArray) (#[.string (strB cmd),.slice q2 m2 c2]) ?_ ?_ (Blk.new w2 _ _) ?_ ?_ ?_ (w2.heap.size) (w2) ?_ ?_ ?_
                        ·rfl
                        ·rfl
                        ·rfl
                        ·rfl
                        ·exact((by kernel_rfl))
                        ·exact(rfl)
                        ·exact(all_frm)
                        ·exact(hbn)
                        ·exact(Nat.le_refl _)
                        intro w3 hB3 hb3 hg3 hs3))
 try simp only[Qpz]
 obtain⟨z3,hz3⟩:∃z,z=w2.heap.size:=⟨_,rfl⟩
 rw[←hz3]at hB3 ⊢
 have HF3:=Lib.hid hB3.out
 have HO3:=Lib.hid (HO2.out.fut hb3)
 have HW3:=Lib.hid (Q3z HW2.out hb3 (Nat.le_refl _))
 have l3:=Qfz (cs:=[.string (strB cmd),.slice q2 m2 c2]) HF3.out
 clear hbn hz3 hB3 hb3 hg3 hs3 HO2 HW2
 by_cases he:er=0
 case neg=>
  have hb1:(er==0)=false:=by rw[beq_eq_false_iff_ne];exact he
  have HE:Hid (QKz m=([],er)):=Lib.hid (by rw[HBP.out,if_neg he])
  clear he l3
  go_wp2_with fail
  go_ret2
  exact OutPost.of HE (own_none _ _) HW3.out
 subst he
 obtain⟨Y,hY⟩:∃Y,Y=frmP cmd by_:=⟨_,rfl⟩
 have HE:Hid (QKz m=Y):=Lib.hid (by rw[HBP.out,if_pos rfl,hY])
 obtain⟨p3,n3,c3,e3,hn3,hl3,hm3,hr3,hp3⟩:=HO3.out.sl
 obtain⟨rfl,rfl,rfl⟩:q2=p3∧m2=n3∧c2=c3:=by injection e3 with a1 a2 a3;exact⟨a1,a2,a3⟩
 have hfe:=frmEncode_any cmd by_ q2 m2 c2 w3 (HK.out.below HW3.out hKs) (by have:=HC.out;omega) hr3 hn3 hl3 (by unfold maxLen at hm3;omega) hp3
 rw[←hY]at hfe
 obtain⟨o,k⟩:=Y
 clear hY e3 hn3 hl3 hm3 hr3 hp3
 go_wp2_with((with_reducible refine wpList_load_mid (op:=⟨some 14,_,_,_,_,_⟩) ?_ 82 (.tmp 4) ?_ (z3) (0) ?_ ([.string (strB cmd),.slice q2 m2 c2]) _ (l3) Tryz.underlying82 ?_ ?_ ?_
              ·rfl
              ·rfl
              ·rfl
              ·rfl
              ·exact((by kernel_rfl))))
 refine hfe.mono ?_
 rintro e w4 ⟨v4,rfl,ho4,hb4⟩
 have HO4:=Lib.hid (Own8.mono' ho4 HW3.out.size)
 have HB4:=Lib.hid (Q3z HW3.out hb4 (Nat.le_refl _))
 clear hfe ho4 hb4 l3
 go_wp2_with fail
 go_ret2
 rw[HE.out]
 exact⟨v4,rfl,HO4.out,HB4.out⟩
theorem Zcz (cs:List Value) (m:TMsg) (W:World) (hE:∀V,MsgC V m cs→Calls Tryz.prog 20 #[.agg cs.toArray] V (Z1z V (msgP m))) (hm:MsgC W m cs):
 Calls Tryz.prog 9 #[.agg cs.toArray] W (OutSl W (QKz m)):=by
 have HM:=Lib.hid hm
 have HCL:=Lib.hid hm.len
 have hzf:=yFrm
 obtain⟨zm,hzm⟩:∃z,z=W.heap.size:=⟨_,rfl⟩
 obtain⟨W1,hW1⟩:∃V,V=W.alloc (.cells cs.toArray 41):=⟨_,rfl⟩
 have hb1:Below W.heap.size W W1:=by rw[hW1];exact Q1z W _
 have hB1:Blk W1 zm 41 cs.toArray:=by rw[hW1,hzm];exact Blk.new W _ _
 have HW1:=Lib.hid hb1
 have l1:=Qfz hB1
 have he1:=hE W1 (Qhz _ _ _ _ hm hb1)
 have hc12:=msg_cmd_len m
 obtain⟨x,hx⟩:∃x,x=msgP m:=⟨_,rfl⟩
 rw[←hx]at he1 hc12
 obtain⟨cmd,by_,er⟩:=x
 have HC:Hid (cmd.length≤12):=Lib.hid hc12
 have HBP:Hid (QKz m=if er=0 then frmP cmd by_ else([],er)):=Lib.hid (by unfold QKz;rw[←hx])
 unfold Z1z at he1
 simp only at he1
 clear hb1 hB1 hm hx hc12
 go_enter Tryz.func9,Tryz.ntmps9
 go_upto_region 1 with fail
 rw[←hW1,← hzm]
 clear hW1 hzm
 go_wp2_with((with_reducible refine wpList_load_mid (op:=⟨some 7,_,_,_,_,_⟩) ?_ 41 (.tmp 1) ?_ (zm) (0) ?_ (cs) _ (l1) Tryz.underlying41 ?_ ?_ ?_
              ·rfl
              ·rfl
              ·rfl
              ·rfl
              ·exact((Qkz HCL.out))))
 refine he1.mono ?_
 rintro e w2 ⟨v2,rfl,ho2,hb2⟩
 obtain⟨q2,m2,c2,rfl,_⟩:=ho2.open
 have HO2:=Lib.hid (Own8.mono' ho2 HW1.out.size)
 have HW2:=Lib.hid (Q3z HW1.out hb2 (Nat.le_refl _))
 have hbn:=Q1z w2 (.cells YFrm.toArray 82)
 clear he1 ho2 hb2 l1 HW1
 go_upto_region 2 with((with_reducible refine Q4z (o:=⟨none,_,_,_,_,_⟩) ?_ 82 (.tmp 4) (.tmp 9) ?_ (w2.heap.size) 82 (YFrm.toArray) (#[.string (strB cmd),.slice q2 m2 c2]) ?_ ?_ (Blk.new w2 _ _) ?_ ?_ ?_ (w2.heap.size) (w2) ?_ ?_ ?_
                        ·rfl
                        ·rfl
                        ·rfl
                        ·rfl
                        ·exact((by kernel_rfl))
                        ·exact(rfl)
                        ·exact(all_frm)
                        ·exact(hbn)
                        ·exact(Nat.le_refl _)
                        intro w3 hB3 hb3 hg3 hs3))
 try simp only[Qpz]
 obtain⟨z3,hz3⟩:∃z,z=w2.heap.size:=⟨_,rfl⟩
 rw[←hz3]at hB3 ⊢
 have HF3:=Lib.hid hB3.out
 have HO3:=Lib.hid (HO2.out.fut hb3)
 have HW3:=Lib.hid (Q3z HW2.out hb3 (Nat.le_refl _))
 have l3:=Qfz (cs:=[.string (strB cmd),.slice q2 m2 c2]) HF3.out
 clear hbn hz3 hB3 hb3 hg3 hs3 HO2 HW2
 by_cases he:er=0
 case neg=>
  have hb1:(er==0)=false:=by rw[beq_eq_false_iff_ne];exact he
  have HE:Hid (QKz m=([],er)):=Lib.hid (by rw[HBP.out,if_neg he])
  clear he l3
  go_wp2_with fail
  go_ret2
  exact OutSl.nil HE HW3.out
 subst he
 obtain⟨Y,hY⟩:∃Y,Y=frmP cmd by_:=⟨_,rfl⟩
 have HE:Hid (QKz m=Y):=Lib.hid (by rw[HBP.out,if_pos rfl,hY])
 obtain⟨p3,n3,c3,e3,hn3,hl3,hm3,hr3,hp3⟩:=HO3.out.sl
 obtain⟨rfl,rfl,rfl⟩:q2=p3∧m2=n3∧c2=c3:=by injection e3 with a1 a2 a3;exact⟨a1,a2,a3⟩
 have hfe:=refFrmS_any cmd by_ q2 m2 c2 w3 (by have:=HC.out;omega) hr3 hn3
 rw[←hY]at hfe
 obtain⟨o,k⟩:=Y
 clear hY e3 hn3 hl3 hm3 hr3 hp3
 go_wp2_with((with_reducible refine wpList_load_mid (op:=⟨some 14,_,_,_,_,_⟩) ?_ 82 (.tmp 4) ?_ (z3) (0) ?_ ([.string (strB cmd),.slice q2 m2 c2]) _ (l3) Tryz.underlying82 ?_ ?_ ?_
              ·rfl
              ·rfl
              ·rfl
              ·rfl
              ·exact((by kernel_rfl))))
 refine hfe.mono ?_
 rintro e w4 ⟨v4,rfl,ho4,hb4⟩
 have HO4:Hid (Sl8 w4 W.heap.size v4 o∨(v4= .slice none 0 0∧o=[])):=Lib.hid (ho4.imp (fun h=>h.mono HW3.out.size) (fun h=>h))
 have HB4:=Lib.hid (Q3z HW3.out hb4 (Nat.le_refl _))
 clear hfe ho4 hb4 l3
 go_wp2_with fail
 go_ret2
 rw[HE.out]
 exact⟨v4,rfl,HO4.out,HB4.out⟩
end Go.Proofs.YtjbijcjcejfpcaaGreatDoor
