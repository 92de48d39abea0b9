/- message's reader, which keeps its first error: take. -/
import Derived.Test.YtjbijcjcejfpcaaGreatDoorZMsgW
namespace Go.Proofs.YtjbijcjcejfpcaaGreatDoor
set_option linter.unusedVariables false
set_option maxRecDepth 100000
set_option maxHeartbeats 16000000
open Go Go.RowKit
def MRd (T D B g:Nat) (w:World) (er:Int) (s:Bs):Prop:=∃v,Blk w g T #[v,.int .i64 er]∧Dat D g w v s∧s.length≤140737488355328∧g<B∧B≤w.heap.size
theorem MRd.stays {T D B g:Nat} {w w':World} {er:Int} {s:Bs} {S:Nat→Prop} (h:MRd T D B g w er s) (hs:Stays S w w') (hS:Rw D g w S) (hg:¬S g):MRd T D B g w' er s:=by
 obtain⟨v,h1,h2,h3,h4,h5⟩:=h
 exact⟨v,h1.stays hs hg,h2.stays hs hS,h3,h4,Nat.le_trans h5 hs.size⟩
theorem MRd.fut {T D B g:Nat} {w w':World} {er:Int} {s:Bs} (h:MRd T D B g w er s) (hb:Below w.heap.size w w'):MRd T D B g w' er s:=
 h.stays (Stays.of_below hb (Nat.le_refl _) (fun _=>False)) (fun _ h=>h.elim) id
theorem MRd.move {T D B g:Nat} {w:World} {v v':Value} {er:Int} {s':Bs} (h:Blk w g T #[v,.int .i64 er]) (hd:Dat D g w v' s') (hl:s'.length≤140737488355328) (hg:g<B) (hB:B≤w.heap.size):MRd T D B g (w.setCell ⟨g,0,none⟩ v') er s':=by
 refine⟨v',?_,hd.stays (Stays.set w g 0 v') (fun k hk=>.inl hk),hl,hg,by simpa using hB⟩
 have:=h.set 0 v'
 simpa using this
theorem MRd.mark {T D B g:Nat} {w:World} {v:Value} {er k:Int} {s:Bs} (h:Blk w g T #[v,.int .i64 er]) (hd:Dat D g w v s) (hl:s.length≤140737488355328) (hg:g<B) (hB:B≤w.heap.size):MRd T D B g (w.setCell ⟨g,1,none⟩ (.int .i64 k)) k s:=by
 refine⟨v,?_,hd.stays (Stays.set w g 1 (.int .i64 k)) (fun k hk=>.inl hk),hl,hg,by simpa using hB⟩
 have:=h.set 1 (.int .i64 k)
 simpa using this
theorem MRd.gB {T D B g:Nat} {w:World} {er:Int} {s:Bs} (h:MRd T D B g w er s):g<B∧B≤w.heap.size:=by obtain⟨_,_,_,_,h4,h5⟩:=h;exact⟨h4,h5⟩
theorem Dat.ownD {D B g:Nat} {w:World} {v:Value} {s:Bs} (h:Own8 w B v s) (hg:g<B):Dat D g w v s:=⟨h.sl,fun h0 k hk=>by
 obtain⟨h1,h2⟩:=(Dat.own h hg).2 h0 k hk
 rcases h.2 with⟨rfl,_⟩|⟨q,cap,cur,rfl,hB,hh,_⟩
 ·cases hk
 ·injection hk with hk
  subst hk
  exact⟨h1,.inr ⟨cur,hh⟩⟩⟩
def MkP {α:Type} (T D B g:Nat) (w:World) (p:Pz α) (er:Int) (s:Bs) (V:World→α→Value→Prop) (e:Ending) (w':World):Prop:=
 ∃v a er' r,e= .returned v∧V w' a v∧Hid (MRd T D B g w' er' r)∧Hid (Stays (·=g) w w')∧Hid (Step p er s a er' r)
theorem Zez (D B g k:Nat) (hk:k≤1000) (w:World) (er:Int) (s:Bs) (h:MRd 122 D B g w er s):
 Calls Tryz.prog 84 #[.pointer (some ⟨g,0,none⟩),.int .i64 (k:Int)] w (MkP 122 D B g w (takeZ k) er s fun w' a v=>Dat D g w' v a∧a.length=k):=by
 obtain⟨v,h1,h2,h3,h4,h5⟩:=h
 obtain⟨p,n,c,rfl,hn,hnc,hcm,hr,hp⟩:=h2.open
 obtain⟨c0,c1,f0,f1⟩:=cell2 h1
 have HD:=Lib.hid h2
 have H1:=Lib.hid h1
 have HN:=Lib.hid hn
 have HS:=Lib.hid h3
 by_cases he:er=0
 ·subst he
  by_cases hkn:n<k
  ·have hz:takeZ k s= .error 50:=takeZ_short (by omega)
   have HZ:=Lib.hid hz
   have hlt:(n:Int)<(k:Int):=by omega
   have hmk:=fun w=>make8z w k (by omega)
   have c1':=(cell2 (by simpa using h1.set 1 (.int .i64 50):Blk (w.setCell ⟨g,1,none⟩ (.int .i64 50)) g 122 #[.slice p n c,.int .i64 50])).2.1
   clear hz h2 hr hp h1 hn h3
   go_enter Tryz.func84,Tryz.ntmps84
   go_wp2
   go_ret
   have hm:MRd 122 D B g (w.setCell ⟨g,1,none⟩ (.int .i64 50)) 50 s:=MRd.mark H1.out HD.out HS.out h4 h5
   have hb:=Q1z (w.setCell ⟨g,1,none⟩ (.int .i64 50)) (.cells (Array.replicate k (u8 0#8)) 5)
   have ho:=own_z (w.setCell ⟨g,1,none⟩ (.int .i64 50)) B k (by simpa using h5) (by omega)
   rw[show(w.setCell ⟨g,1,none⟩ (.int .i64 50)).heap.size=w.heap.size by simp]at ho
   refine⟨_,List.replicate k 0#8,50,s,rfl,⟨Dat.ownD ho h4,by simp⟩,Lib.hid (hm.fut hb),Lib.hid ((Stays.set w g 1 _).trans (Stays.of_below hb (Nat.le_refl _) (·=g)) fun k _ h=>h),Lib.hid (Step.err HZ.out (by decide))⟩
  ·have hz:takeZ k s= .ok (s.take k,s.drop k):=by unfold takeZ;rw[if_neg (by omega)]
   have HZ:=Lib.hid hz
   have hlt:¬(n:Int)<(k:Int):=by omega
   have s1:=slice_hm8 w p n c k (by omega) hnc
   have s2:=slice_cut8 w p n c k (by omega)
   have HT:=Lib.hid (h2.take (k:=k) (by omega) hp)
   have HC:=Lib.hid (h2.cut (k:=k) (by omega))
   clear hz h2 hr hp h1 hn h3
   go_enter Tryz.func84,Tryz.ntmps84
   go_wp2
   go_ret
   exact⟨_,s.take k,0,s.drop k,rfl,⟨HT.out.stays (Stays.set w g 0 _) (fun k hk=>.inl hk),by rw[List.length_take];have:=HN.out;omega⟩,Lib.hid (MRd.move H1.out HC.out (by rw[List.length_drop];have:=HS.out;omega) h4 h5),Lib.hid (Stays.set w g 0 _),Lib.hid (Step.ok HZ.out)⟩
 ·have hb1:(er==0)=false:=by rw[beq_eq_false_iff_ne];exact he
  have HE:=Lib.hid he
  have hmk:=fun w=>make8z w k (by omega)
  clear h2 hr hp h1 hn h3 he
  go_enter Tryz.func84,Tryz.ntmps84
  go_wp2
  go_ret
  have hb:=Q1z w (.cells (Array.replicate k (u8 0#8)) 5)
  exact⟨_,List.replicate k 0#8,er,s,rfl,⟨Dat.ownD (own_z _ B k h5 (by omega)) h4,by simp⟩,Lib.hid (MRd.fut ⟨_,H1.out,HD.out,HS.out,h4,h5⟩ hb),Lib.hid (Stays.of_below hb (Nat.le_refl _) _),Lib.hid (Step.bad HE.out)⟩
theorem mNum_any (D B g k:Nat) (hk:k≤8) (w:World) (er:Int) (s:Bs) (h:MRd 122 D B g w er s):
 Calls Tryz.prog 78 #[.pointer (some ⟨g,0,none⟩),.int .i64 (k:Int)] w (MkP 122 D B g w (numZ k) er s fun w' a v=>v= .int .u64 (iv64 a)):=by
 have hcall:=Zez D B g k (by omega) w er s h
 clear h
 go_enter Tryz.func78,Tryz.ntmps78
 go_wp2_with fail
 refine hcall.mono ?_
 rintro e w1 ⟨v,a,er',r,rfl,⟨hd,hl⟩,HR,HS,HT⟩
 obtain⟨p,n,c,rfl,hn,hnc,hcm,hr,hp⟩:=hd.open
 have hkn:k=n:=by omega
 subst hkn
 have HN:=Lib.hid hn
 clear hd hn hl hcall hp
 obtain⟨n,hnk⟩:∃n,n=k:=⟨_,rfl⟩
 subst hnk
 go_wp2_with fail
 go_loopw[5,14] (fun s i wr=>∃k:Nat,k≤n∧i= .int .i64 k∧s= .int .u64 (iv64 (numTo a k))∧wr=w1) (fun _ i _=>n-(intOf i).toNat)
 case atStart=>exact⟨0,by omega,rfl,rfl,rfl⟩
 case round=>
  obtain⟨k,hk2,rfl,rfl,hwr⟩:=hrel
  replace hwr:=hwr.symm
  subst hwr
  by_cases hkn:k<n
  ·obtain⟨bb,of,rfl,_,hcell⟩:=hr (fun e=>by have:=HN.out;rw[e]at this;simp at this;omega)
   obtain⟨b,hb⟩:∃b,a[k]? =some b:=⟨a[k]'(by rw[HN.out];exact hkn),List.getElem?_eq_getElem _⟩
   have hx:w1.cell? ⟨bb,of+k,none⟩=some (.int .u8 (iv8 b)):=hcell k b hb
   have hlt:(k:Int)<(n:Int):=by omega
   have hb2:8*(k:Int)≤56:=by omega
   have hb1:(0:Int)≤8*(k:Int):=by omega
   have hst:=num_step a k b hb
   clear hcell hr
   go_wp2
   go_roundw
   case rel=>exact⟨k+1,by omega,by go_num,rfl,trivial⟩
   case measure=>simp[intOf];omega
  ·obtain rfl:k=n:=by omega
   go_wp2
   go_ret
   exact⟨_,numTo a k,er',r,rfl,rfl,HR,HS,Lib.hid (HT.out.bind (Step.ret _ _ _))⟩
theorem Zfz (D B g:Nat) (hD:D≤B) (w:World) (er:Int) (s:Bs) (h:MRd 122 D B g w er s):
 Calls Tryz.prog 80 #[.pointer (some ⟨g,0,none⟩)] w (MkP 122 D B g w (takeZ 32) er s fun w' a v=>v= .agg (Q5z a).toArray∧a.length=32):=by
 have hz:=zHash
 have hgB:=h.gB
 obtain⟨YH,hYH⟩:∃Y,Y=(Q5z (nulls 32)).toArray:=⟨_,rfl⟩
 have HYS:Hid (YH.size=32):=Lib.hid (by rw[hYH];rfl)
 rw[←hYH]at hz
 have hb1:=Q1z w (.cells YH 32)
 have hB1:=Blk.new w 32 YH
 have h1:=h.fut hb1
 obtain⟨z,hzz⟩:∃z,z=w.heap.size:=⟨_,rfl⟩
 have HZ:Hid (z≠g):=Lib.hid (by omega)
 have HZZ:=Lib.hid hzz
 rw[←hzz]at hB1
 have HB1:=Lib.hid hB1
 have HS1:Hid (Stays (·=g) w (w.alloc (.cells YH 32))):=Lib.hid (Stays.of_below hb1 (Nat.le_refl _) _)
 have hcall:=Zez D B g 32 (by omega) _ er s h1
 have hgB:B≤z:=by omega
 clear h hYH hb1 hB1 h1
 go_enter Tryz.func80,Tryz.ntmps80
 go_upto_region 1 with fail
 rw[←hzz]
 clear hzz hz
 go_wp2_with fail
 refine hcall.mono ?_
 rintro e w2 ⟨v,a,er',r,rfl,⟨hd,hl⟩,HR,HS,HT⟩
 obtain⟨p,n,c,rfl,hn,hnc,hcm,hr,hp⟩:=hd.open
 obtain rfl:n=32:=by omega
 obtain⟨b,o,rfl,_,_⟩:=hr (fun e=>by rw[e]at hl;simp at hl)
 have l2:=Dat.range hd
 have HL:=Lib.hid hl
 have HBz:=HB1.out.stays HS.out HZ.out
 have HB2:=Lib.hid HBz
 have hbr:=Below.refl z w2
 have harr:=fun w=>run_arr32 w b o c
 have hsz2:=HB2.out.lt
 have HBT:=Lib.hid hgB
 clear hd hl hn hr hcall hp HBz hgB
 go_wp2_with(first
  |(with_reducible refine wpList_load_mid (op:=⟨some 8,_,_,_,_,_⟩) ?_ 32 (.tmp 7) ?_ (b) (o) ?_ ((Q5z (a))) _ (l2) Tryz.underlying32 ?_ ?_ ?_
    ·rfl
    ·rfl
    ·rfl
    ·rfl
    ·exact(Quz (HL.out)))
  |(with_reducible refine Q4z (o:=⟨none,_,_,_,_,_⟩) ?_ 32 (.tmp 2) (.tmp 8) ?_ (z) 32 (YH) ((Q5z (a)).toArray) ?_ ?_ (HB2.out) ?_ ?_ ?_ (z) (w2) ?_ ?_ ?_
    ·rfl
    ·rfl
    ·rfl
    ·rfl
    ·exact(Qsz (HL.out))
    ·exact((HYS.out).trans (Xsz (HL.out)).symm)
    ·exact(Qzz _)
    ·exact(hbr)
    ·exact(Nat.le_refl _)
    intro w3 hB3 hb3 hg3 hs3))
 refine bodyPost_ret (Qqz rfl _ _ _ z _ (Q5z a) _ rfl hB3.out Tryz.underlying32 rfl (Quz HL.out)) rfl ?_
 have hst:=Stays.of_grown (S:=fun k=>k=z) hg3.out (fun k h=>by injection h with h;exact h.symm)
 exact⟨_,a,er',r,rfl,⟨rfl,HL.out⟩,Lib.hid (HR.out.stays hst (fun k hk=>.inr ⟨by have:k=z:=hk;have:=HBT.out;omega,32,YH,by rw[show k=z from hk];exact HB2.out,by decide⟩) (fun e=>HZ.out e.symm)),Lib.hid (HS1.out.trans HS.out (fun k _ h=>h) |>.trans hst fun k hk h=>by have:k=z:=h;have:=HZZ.out;omega),HT⟩
theorem Zaz (D B g:Nat) (w:World) (er:Int) (s:Bs) (q:Option Addr) (m d:Nat) (want:Bs) (h:MRd 122 D B g w er s) (hm:want.length=m) (hm4:m≤100) (hq:Row8 w q want) (hqg:want≠[]→∀x,q=some x→x.block≠g):
 Calls Tryz.prog 85 #[.pointer (some ⟨g,0,none⟩),.slice q m d] w fun e w'=>e= .returned (.tuple #[])∧∃er' r,Hid (MRd 122 D B g w' er' r)∧Hid (Stays (·=g) w w')∧Hid (Step (Xvz want) er s () er' r):=by
 have hcall:=Zez D B g m (by omega) w er s h
 have HM:=Lib.hid hm
 have HQ:=Lib.hid hq
 have HQG:=Lib.hid hqg
 clear h hm hq hqg
 go_enter Tryz.func85,Tryz.ntmps85
 go_wp2_with fail
 refine hcall.mono ?_
 rintro e w1 ⟨v,a,er',r,rfl,⟨hd,hl⟩,HR,HS,HT⟩
 obtain⟨p,n,c,rfl,hn,hnc,hcm,hr,hp⟩:=hd.open
 obtain rfl:n=m:=by omega
 obtain⟨vr,h1,h2,h3,h4,h5⟩:=HR.out
 obtain⟨c0,c1,f0,f1⟩:=cell2 h1
 have HQ1:Hid (Row8 w1 q want):=Lib.hid (HQ.out.stays HS.out fun h0 x hx e=>HQG.out h0 x hx e)
 have H1:=Lib.hid h1
 have HD:=Lib.hid h2
 have HS3:=Lib.hid h3
 have HRR:=Lib.hid hr
 have HN:=Lib.hid hn
 clear hd h1 h2 h3 hr hn hcall hp hl
 by_cases he:er'=0
 ·subst he
  have hE:=equal_any p q n c n d a want w1 HRR.out HQ1.out HN.out HM.out
  have HT0:Hid (er=0∧takeZ n s= .ok (a,r)):=Lib.hid (by
   have:=HT.out
   unfold Step at this
   split at this
   ·rename_i e0
    refine⟨e0,?_⟩
    cases hz:takeZ n s with
    |error k=>rw[hz]at this;exact absurd this.1.symm this.2
    |ok x=>rw[hz]at this;obtain⟨_,h2,h3⟩:=this;rw[h2,h3]
   ·rename_i e0;exact absurd this.symm e0)
  have HZ:Hid (Xvz want s=if a=want then .ok ((),r)else .error 51):=Lib.hid (by
   have hz:=HT0.out.2
   unfold takeZ at hz
   unfold Xvz
   rw[HM.out]
   split at hz
   ·cases hz
   ·rename_i hlt
    rw[if_neg hlt]
    injection hz with hz
    injection hz with e1 e2
    rw[e1,e2])
  by_cases hw:a=want
  ·rw[decide_eq_true hw]at hE
   have HW:=Lib.hid hw
   clear hw
   go_wp2_with fail
   refine hE.mono ?_
   rintro e w2 ⟨rfl,hw2⟩
   replace hw2:=hw2.symm
   subst hw2
   go_wp2_with fail
   first|go_end0|refine bodyPost_ret (results_none rfl _ _ _) rfl ?_
   exact⟨rfl,0,r,HR,HS,Lib.hid (by rw[HT0.out.1];exact Step.ok (by rw[HZ.out,if_pos HW.out]))⟩
  ·rw[decide_eq_false hw]at hE
   have HW:=Lib.hid hw
   clear hw
   go_wp2_with fail
   refine hE.mono ?_
   rintro e w2 ⟨rfl,hw2⟩
   replace hw2:=hw2.symm
   subst hw2
   go_wp2_with fail
   first|go_end0|refine bodyPost_ret (results_none rfl _ _ _) rfl ?_
   exact⟨rfl,51,r,Lib.hid (MRd.mark H1.out HD.out HS3.out h4 h5),Lib.hid (HS.out.trans (Stays.set w1 g 1 _) fun k _ h=>h),Lib.hid (by rw[HT0.out.1];exact Step.err (by rw[HZ.out,if_neg HW.out]) (by decide))⟩
 ·have hb1:(er'==0)=false:=by rw[beq_eq_false_iff_ne];exact he
  have HE:=Lib.hid he
  clear he
  go_wp2_with fail
  first|go_end0|refine bodyPost_ret (results_none rfl _ _ _) rfl ?_
  refine⟨rfl,er',r,HR,HS,Lib.hid ?_⟩
  have:=HT.out
  unfold Step at this ⊢
  split at this
  ·rename_i e0
   rw[if_pos e0]
   cases hz:takeZ n s with
   |error k=>
    rw[hz]at this
    have hz2:Xvz want s= .error k:=by
     unfold takeZ at hz
     unfold Xvz
     rw[HM.out]
     split at hz
     ·rename_i hlt;rw[if_pos hlt];injection hz with hz;rw[hz]
     ·cases hz
    rw[hz2]
    exact this
   |ok x=>rw[hz]at this;exact absurd this.1 HE.out
  ·rename_i e0;rw[if_neg e0];exact this
theorem textM_eq (most:Nat) (s:Bs):textM most s=if(textP s most).2.2=0 then .ok ((textP s most).1,(textP s most).2.1)else .error (textP s most).2.2:=by
 have hv:iv64 (cutP s).1=((cutP s).1.toNat:Int):=rfl
 have hc:((most:Int)<0∧0<iv64 (cutP s).1∨0≤(most:Int)∧(most:Int)<iv64 (cutP s).1)↔most<(cutP s).1.toNat:=by omega
 have hd:(((cutP s).2.1.length:Int)<iv64 (cutP s).1)↔(cutP s).2.1.length<(cutP s).1.toNat:=by omega
 unfold textM Pz.bind cntZ textP takeZ
 simp only[hc,hd]
 by_cases h1:(cutP s).2.2=0
 ·by_cases h2:most<(cutP s).1.toNat
  ·simp[h1,h2]
  ·by_cases h3:(cutP s).2.1.length<(cutP s).1.toNat
   ·simp[h1,h2,h3]
   ·simp[h1,h2,h3]
 ·simp[h1]
theorem textP_short (s:Bs) (most:Int):(textP s most).2.1.length≤s.length∧(textP s most).1.length≤s.length:=by
 have:=Xgz s
 unfold textP
 split
 ·simp
 ·split
  ·simp
  ·split
   ·simp
   ·simp;omega
theorem MRd.both {T D B g:Nat} {w:World} {v v':Value} {er k:Int} {s':Bs} (h:Blk w g T #[v,.int .i64 er]) (hd:Dat D g w v' s') (hl:s'.length≤140737488355328) (hg:g<B) (hB:B≤w.heap.size):MRd T D B g ((w.setCell ⟨g,0,none⟩ v').setCell ⟨g,1,none⟩ (.int .i64 k)) k s':=by
 have h1:Blk (w.setCell ⟨g,0,none⟩ v') g T #[v',.int .i64 er]:=by have:=h.set 0 v';simpa using this
 exact MRd.mark h1 (hd.stays (Stays.set w g 0 v') (fun k hk=>.inl hk)) hl hg (by simpa using hB)
theorem mText_any (D B g most:Nat) (hmost:most≤1000000) (w:World) (er:Int) (s:Bs) (h:MRd 122 D B g w er s):
 Calls Tryz.prog 86 #[.pointer (some ⟨g,0,none⟩),.int .i64 (most:Int)] w (MkP 122 D B g w (textM most) er s fun w' a v=>Own8 w' B v a):=by
 obtain⟨v,h1,h2,h3,h4,h5⟩:=h
 obtain⟨p,n,c,rfl,hn,hnc,hcm,hr,hp⟩:=h2.open
 obtain⟨c0,c1,f0,f1⟩:=cell2 h1
 have HD:=Lib.hid h2
 have H1:=Lib.hid h1
 have HS:=Lib.hid h3
 by_cases he:er=0
 case neg=>
  have hb1:(er==0)=false:=by rw[beq_eq_false_iff_ne];exact he
  have HE:=Lib.hid he
  clear h2 hr hp h1 hn h3 he
  go_enter Tryz.func86,Tryz.ntmps86
  go_wp2
  go_ret
  exact⟨_,[],er,s,rfl,own_none _ _,Lib.hid ⟨_,H1.out,HD.out,HS.out,h4,h5⟩,Lib.hid (Stays.refl _ _),Lib.hid (Step.bad HE.out)⟩
 subst he
 have hcall:=readText_any p n c s (most:Int) w hr hn hnc (by omega) (by omega) (by omega) (by omega)
 have hz:=textM_eq most s
 have hle:=(textP_short s most).1
 obtain⟨x,hx⟩:∃x,x=textP s most:=⟨_,rfl⟩
 rw[←hx]at hcall hz hle
 obtain⟨a,r,k⟩:=x
 simp only at hz hle
 unfold ReadPost at hcall
 simp only at hcall
 have HZ:=Lib.hid hz
 have HLE:=Lib.hid hle
 clear hx hz hle h1 h2 hr hn hp
 go_enter Tryz.func86,Tryz.ntmps86
 go_wp2_with fail
 refine hcall.mono ?_
 rintro e w1 ⟨v1,v2,rfl,ho1,ho2,hb2⟩
 have hg1:=H1.out.fut hb2
 obtain⟨d0,d1,g0,g1⟩:=cell2 hg1
 obtain⟨q2,m2,c2,rfl,_⟩:=Own8.open ho2
 obtain⟨q1,m1,c1',rfl,_⟩:=Own8.open ho1
 have HO1:Hid (Own8 w1 B (.slice q1 m1 c1') a):=Lib.hid (Qmz ho1 h5)
 have HO2:Hid (Own8 w1 B (.slice q2 m2 c2) r):=Lib.hid (Qmz ho2 h5)
 have HG1:=Lib.hid hg1
 have HB:=Lib.hid hb2
 have hsz:=HB.out.size
 clear ho1 ho2 hcall hg1 hb2
 go_wp2_with fail
 go_ret
 have hm:MRd 122 D B g ((w1.setCell ⟨g,0,none⟩ (.slice q2 m2 c2)).setCell ⟨g,1,none⟩ (.int .i64 k)) k r:=MRd.both HG1.out (Dat.ownD HO2.out h4) (by have:=HLE.out;have:=HS.out;omega) h4 (by omega)
 have hst:Stays (·=g) w1 ((w1.setCell ⟨g,0,none⟩ (.slice q2 m2 c2)).setCell ⟨g,1,none⟩ (.int .i64 k)):=(Stays.set w1 g 0 _).trans (Stays.set _ g 1 _) fun k _ h=>h
 refine⟨_,a,k,r,rfl,HO1.out.sep hst (Sep.low fun k hk=>by have:k=g:=hk;omega),Lib.hid hm,Lib.hid ((Stays.of_below HB.out (Nat.le_refl _) (·=g)).trans hst fun k _ h=>h),Lib.hid ?_⟩
 unfold Step
 rw[if_pos rfl,HZ.out]
 by_cases hk:k=0
 ·rw[if_pos hk];exact⟨hk,rfl,rfl⟩
 ·rw[if_neg hk];exact⟨rfl,hk⟩
def CntG {β:Type} (R:Except Int (β × Bs)) (er:Int) (y:Except Int (β × Bs)):Prop:=if er=0 then R=y else R= .error er
theorem CntG.step {α:Type} {R:Except Int (List α × Bs)} {xs:List α} {p:Pz α} {m:Nat} {s r:Bs} {a:α} {er':Int} (h:CntG R 0 (contM xs p (m+1) s)) (h2:Step p 0 s a er' r):CntG R er' (contM (xs++[a]) p m r):=by
 unfold CntG at h ⊢
 rw[if_pos rfl]at h
 unfold Step at h2
 rw[if_pos rfl]at h2
 cases hp:p s with
 |error k=>
  rw[hp]at h2
  rw[if_neg (by rw[h2.1];exact h2.2),h,contM_bad hp,h2.1]
 |ok x=>
  obtain⟨a',r'⟩:=x
  rw[hp]at h2
  obtain⟨h3,rfl,rfl⟩:=h2
  rw[if_pos h3,h,contM_ok hp]
theorem CntG.done {α:Type} {p:Pz α} {n:Nat} {s0 s:Bs} {xs:List α} {er:Int} {m:Nat} (h:CntG (manyZ p n s0) er (contM xs p m s)) (hm:m=0∨er≠0):Step (manyZ p n) 0 s0 xs er s:=by
 unfold CntG at h
 unfold Step
 rw[if_pos rfl]
 by_cases he:er=0
 ·rw[if_pos he]at h
  rcases hm with hm|hm
  ·subst hm
   rw[contM_end]at h
   rw[h]
   exact⟨he,rfl,rfl⟩
  ·exact absurd he hm
 ·rw[if_neg he]at h
  rw[h]
  exact⟨rfl,he⟩
theorem CntG.start {α:Type} (p:Pz α) (n:Nat) (s:Bs):CntG (manyZ p n s) 0 (contM [] p n s):=by
 unfold CntG
 rw[if_pos rfl,Zgz]
theorem parts_step {α:Type} {p:Pz α} {most n:Nat} {s r r':Bs} {xs:List α} {er:Int} (h:cntZ most s= .ok (n,r)) (h2:Step (manyZ p n) 0 r xs er r'):Step (X1z most p) 0 s xs er r':=by
 have:=(Step.ok (p:=cntZ most) h).bind (f:=manyZ p) h2
 exact this
theorem mEach_any {α:Type} (p:Pz α) (D B g most:Nat) (hm:most≤100000) (f:Nat) (ef:∀args w,(callFunc f args).run Tryz.prog w= .ok (.enter f args) w) (caps:Array Value) (Inv:World→List α→Prop)
 (hst:∀W W' xs,Inv W xs→Stays (·=g) W W'→Inv W' xs)
 (hdo:∀W xs s,xs.length<most→MRd 122 D B g W 0 s→Inv W xs→Calls Tryz.prog f caps W fun e W'=>e= .returned (.tuple #[])∧∃a er' r,Hid (MRd 122 D B g W' er' r)∧Hid (Inv W' (xs++[a]))∧Hid (Step p 0 s a er' r))
 (w:World) (er:Int) (s:Bs) (h:MRd 122 D B g w er s) (h0:Inv w []):
 Calls Tryz.prog 81 #[.pointer (some ⟨g,0,none⟩),.int .u64 (most:Int),.func (.func f) #[] caps] w fun e w'=>e= .returned (.tuple #[])∧∃xs er' r,Hid (MRd 122 D B g w' er' r)∧Hid (Inv w' xs)∧Hid (Step (X1z most p) er s xs er' r):=by
 obtain⟨v,h1,h2,h3,h4,h5⟩:=h
 obtain⟨q,n,c,rfl,hn,hnc,hcm,hr,hp⟩:=h2.open
 obtain⟨c0,c1,f0,f1⟩:=cell2 h1
 have HD:=Lib.hid h2
 have H1:=Lib.hid h1
 have HS:=Lib.hid h3
 have HI0:=Lib.hid h0
 have HST:=Lib.hid hst
 have HDO:=Lib.hid hdo
 clear h0 hst hdo
 by_cases he:er=0
 case neg=>
  have hb1:(er==0)=false:=by rw[beq_eq_false_iff_ne];exact he
  have HE:=Lib.hid he
  clear h2 hr hp h1 hn h3 he
  go_enter Tryz.func81,Tryz.ntmps81
  go_wp2
  first|go_end0|refine bodyPost_ret (results_none rfl _ _ _) rfl ?_
  exact⟨rfl,[],er,s,Lib.hid ⟨_,H1.out,HD.out,HS.out,h4,h5⟩,HI0,Lib.hid (Step.bad HE.out)⟩
 subst he
 have hcall:=decode_any q n c s w hr hn hnc hcm (by omega)
 have hle:=Xgz s
 have hz:∀x:BitVec 64 × Bs × Int,x=cutP s→cntZ most s=if x.2.2≠0 then .error x.2.2 else if most<x.1.toNat then .error 4 else .ok (x.1.toNat,x.2.1):=fun x hx=>by rw[hx];rfl
 obtain⟨x,hx⟩:∃x,x=cutP s:=⟨_,rfl⟩
 rw[←hx]at hcall hle
 replace hz:=hz x hx
 obtain⟨cn,r,k⟩:=x
 simp only at hz hle
 unfold DecPost at hcall
 simp only at hcall
 have HZ:=Lib.hid hz
 have HLE:=Lib.hid hle
 have hcn:iv64 cn=(cn.toNat:Int):=rfl
 rw[hcn]at hcall
 have hc64:=cn.isLt
 obtain⟨m,hm'⟩:∃m,m=cn.toNat:=⟨_,rfl⟩
 rw[←hm']at hcall hc64 HZ
 clear hx hz hle h1 h2 hr hn hp hcn hm'
 by_cases hk:k=0
 case neg=>
  have hb1:(k==0)=false:=by rw[beq_eq_false_iff_ne];exact hk
  have HK:=Lib.hid hk
  clear hk
  go_enter Tryz.func81,Tryz.ntmps81
  go_wp2_with fail
  refine hcall.mono ?_
  rintro e w1 ⟨v2,rfl,ho2,hb2⟩
  have hg1:=H1.out.fut hb2
  obtain⟨d0,d1,g0,g1⟩:=cell2 hg1
  have HG1:=Lib.hid hg1
  have HB:=Lib.hid hb2
  clear ho2 hcall hg1 hb2
  go_wp2_with fail
  first|go_end0|refine bodyPost_ret (results_none rfl _ _ _) rfl ?_
  have hsz:=HB.out.size
  have hst1:Stays (·=g) w (w1.setCell ⟨g,1,none⟩ (.int .i64 k)):=(Stays.of_below HB.out (Nat.le_refl _) (·=g)).trans (Stays.set w1 g 1 _) fun k _ h=>h
  exact⟨rfl,[],k,s,Lib.hid (MRd.mark HG1.out (HD.out.stays (Stays.of_below HB.out (Nat.le_refl _) (fun _=>False)) (fun _ h=>h.elim)) HS.out h4 (by omega)),Lib.hid (HST.out _ _ _ HI0.out hst1),Lib.hid (Step.err (Pz.bind_err (by rw[HZ.out,if_pos HK.out])) HK.out)⟩
 subst hk
 by_cases hbig:most<m
 ·have hlt:(most:Int)<(m:Int):=by omega
  have HBG:=Lib.hid hbig
  clear hbig
  go_enter Tryz.func81,Tryz.ntmps81
  go_wp2_with fail
  refine hcall.mono ?_
  rintro e w1 ⟨v2,rfl,ho2,hb2⟩
  have hg1:=H1.out.fut hb2
  obtain⟨d0,d1,g0,g1⟩:=cell2 hg1
  have HG1:=Lib.hid hg1
  have HB:=Lib.hid hb2
  clear ho2 hcall hg1 hb2
  go_wp2_with fail
  first|go_end0|refine bodyPost_ret (results_none rfl _ _ _) rfl ?_
  have hsz:=HB.out.size
  have hst1:Stays (·=g) w (w1.setCell ⟨g,1,none⟩ (.int .i64 4)):=(Stays.of_below HB.out (Nat.le_refl _) (·=g)).trans (Stays.set w1 g 1 _) fun k _ h=>h
  exact⟨rfl,[],4,s,Lib.hid (MRd.mark HG1.out (HD.out.stays (Stays.of_below HB.out (Nat.le_refl _) (fun _=>False)) (fun _ h=>h.elim)) HS.out h4 (by omega)),Lib.hid (HST.out _ _ _ HI0.out hst1),Lib.hid (Step.err (Pz.bind_err (by rw[HZ.out,if_neg (by decide),if_pos HBG.out])) (by decide))⟩
 ·have hlt:¬(most:Int)<(m:Int):=by omega
  have HBG:=Lib.hid hbig
  have hm3:m≤100000:=by omega
  have hdm:decide (most<m)=false:=decide_eq_false hbig
  have HC:Hid (cntZ most s= .ok (m,r)):=Lib.hid (by rw[HZ.out,if_neg (by decide),if_neg hbig])
  clear hbig
  go_enter Tryz.func81,Tryz.ntmps81
  go_wp2_with fail
  refine hcall.mono ?_
  rintro e w1 ⟨v2,rfl,ho2,hb2⟩
  have hg1:=H1.out.fut hb2
  obtain⟨d0,d1,g0,g1⟩:=cell2 hg1
  obtain⟨q2,m2,c2,rfl,_⟩:=Own8.open ho2
  have HO2:Hid (Own8 w1 B (.slice q2 m2 c2) r):=Lib.hid (Qmz ho2 h5)
  have HG1:=Lib.hid hg1
  have HB:=Lib.hid hb2
  have hsz:=HB.out.size
  clear ho2 hcall hg1 hb2
  go_upto_region 7 with fail
  have HR2:Hid (MRd 122 D B g (w1.setCell ⟨g,0,none⟩ (.slice q2 m2 c2)) 0 r):=Lib.hid (MRd.move HG1.out (Dat.ownD HO2.out h4) (by have:=HLE.out;have:=HS.out;omega) h4 (by omega))
  have HI2:Hid (Inv (w1.setCell ⟨g,0,none⟩ (.slice q2 m2 c2)) []):=Lib.hid (HST.out _ _ _ HI0.out ((Stays.of_below HB.out (Nat.le_refl _) (·=g)).trans (Stays.set w1 g 0 _) fun k _ h=>h))
  clear d0 d1 g0 g1 HO2 HG1 HB hsz HI0 H1 HD c0 c1 f0 f1
  generalize w1.setCell ⟨g,0,none⟩ (.slice q2 m2 c2)=w2 at*
  go_loopw[6] (fun i wr=>∃(j:Nat) (xs:List α) (er:Int) (sr:Bs),j≤m∧i= .int .u64 j∧Hid (xs.length+j=m)∧Hid (MRd 122 D B g wr er sr)∧Hid (Inv wr xs)∧Hid (CntG (manyZ p m r) er (contM xs p j sr))) (fun i _=>(intOf i).toNat)
  case atStart=>exact⟨m,[],0,r,Nat.le_refl _,rfl,Lib.hid (by simp),HR2,HI2,Lib.hid (CntG.start p m r)⟩
  case round=>
   clear HR2 HI2
   obtain⟨j,xs,er,sr,hj,rfl,HXJ,HRk,HIk,HCk⟩:=hrel
   obtain⟨vr,k1,k2,k3,k4,k5⟩:=HRk.out
   obtain⟨e0,e1,g0,g1⟩:=cell2 k1
   clear k1 k2 k3
   by_cases hj0:j=0
   ·subst hj0
    have hgt:¬(0:Int)<((0:Nat):Int):=by omega
    go_wp2_with fail
    first|go_end0|refine bodyPost_ret (results_none rfl _ _ _) rfl ?_
    exact⟨rfl,xs,er,sr,HRk,HIk,Lib.hid (parts_step HC.out (CntG.done HCk.out (.inl rfl)))⟩
   have hgt:(0:Int)<(j:Int):=by omega
   by_cases he:er=0
   case neg=>
    have hb1:(er==0)=false:=by rw[beq_eq_false_iff_ne];exact he
    have HE:=Lib.hid he
    clear he
    go_wp2_with fail
    first|go_end0|refine bodyPost_ret (results_none rfl _ _ _) rfl ?_
    exact⟨rfl,xs,er,sr,HRk,HIk,Lib.hid (parts_step HC.out (CntG.done HCk.out (.inr HE.out)))⟩
   subst he
   have hdo:=HDO.out wr xs sr (by have:=HXJ.out;have:=HBG.out;omega) HRk.out HIk.out
   obtain⟨j',rfl⟩:∃j',j=j'+1:=⟨j-1,by omega⟩
   have hge1:(1:Int)≤((j'+1:Nat):Int):=by omega
   go_wp2_with(go_at_fn f;refine hdo.mono ?_;rintro e w3 ⟨rfl,a,er',r',HR3,HI3,HT3⟩)
   go_roundw
   case rel=>exact⟨j',xs++[a],er',r',by omega,by go_num,Lib.hid (by have:=HXJ.out;rw[List.length_append];simp only[List.length_cons,List.length_nil];omega),HR3,HI3,Lib.hid (CntG.step HCk.out HT3.out)⟩
   case measure=>simp[intOf]
end Go.Proofs.YtjbijcjcejfpcaaGreatDoor
