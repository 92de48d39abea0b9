/- A session's short messages: bytesOf; greet. -/
import Derived.Test.YtjbijcjcejfpcaaGreatDoorZSesB
namespace Go.Proofs.YtjbijcjcejfpcaaGreatDoor
set_option linter.unusedVariables false
set_option maxRecDepth 100000
set_option maxHeartbeats 16000000
open Go Go.RowKit
def msgK (k:Int) (nu:BitVec 32) (no:BitVec 64):List Value:=Q8z (.int .i64 k) (u32 nu) (u64 no) noHash noHash (.slice none 0 0) (.slice none 0 0) (.slice none 0 0) ZBlk
abbrev tK (k:Int) (nu:BitVec 32) (no:BitVec 64):TMsg:=⟨k,nu,no,noHash,noHash,[],[],[],noBlk⟩
theorem msgK_o (B:Nat) (w:World) (k:Int) (nu:BitVec 32) (no:BitVec 64):MsgO B w (tK k nu no) (msgK k nu no):=⟨_,_,_,_,rfl,Q6z,Q6z,RowO.nil _ _ _ _ _,RowO.nil _ _ _ _ _,Own8.nil _ _,⟨.slice none 0 0,rfl,QGz,RowO.nil _ _ _ _ _⟩⟩
theorem built_k2:Tryz.prog.built 41 [(0,.int .i64 2)]=some (msgK 2 0#32 0#64).toArray:=by kernel_rfl
theorem built_k4 (no:BitVec 64):Tryz.prog.built 41 [(0,.int .i64 4),(2,.int .u64 (iv64 no))]=some (msgK 4 0#32 no).toArray:=by kernel_rfl
theorem built_k1 (no:BitVec 64):Tryz.prog.built 41 [(0,.int .i64 1),(1,.int .u32 70015),(2,.int .u64 (iv64 no))]=some (msgK 1 70015#32 no).toArray:=by kernel_rfl
def QHz (k:Int) (no:BitVec 64):Bs:=(QKz (tK k 0#32 no)).1
theorem bytesOf_of (m:TMsg) (cs:List Value) (W:World) (hE:∀V,MsgC V m cs→Calls Tryz.prog 34 #[.agg cs.toArray] V (Z1z V (msgP m))) (hK:Laid W) (hm:MsgC W m cs):
 Calls Tryz.prog 28 #[.agg cs.toArray] W fun e w'=>∃v,e= .returned v∧Own8 w' W.heap.size v (QKz m).1∧Below W.heap.size W w':=by
 have HCL:=Lib.hid hm.len
 obtain⟨zm,hzm⟩:∃z,z=W.heap.size:=⟨_,rfl⟩
 obtain⟨W1,hW1⟩:∃V,V=W.alloc (.cells cs.toArray 41):=⟨_,rfl⟩
 have hb1:Below W.heap.size W W1:=by rw[hW1];exact Q1z W _
 have hB1:Blk W1 zm 41 cs.toArray:=by rw[hW1,hzm];exact Blk.new W _ _
 have HW1:=Lib.hid hb1
 have l1:=Qfz hB1
 have hc:=msgBytes_of cs m W1 hE (hK.below hb1 hK.size) (Qhz _ _ _ _ hm hb1)
 obtain⟨x,hx⟩:∃x,x=QKz m:=⟨_,rfl⟩
 rw[←hx]at hc ⊢
 obtain⟨by_,er⟩:=x
 unfold OutPost at hc
 simp only at hc
 have HC:=Lib.hid hc
 clear hb1 hB1 hm hx hK hE hc
 go_enter Tryz.func28,Tryz.ntmps28
 go_upto_region 1 with fail
 rw[←hW1,← hzm]
 clear hW1 hzm
 go_wp2_with((with_reducible refine wpList_load_mid (op:=⟨some 6,_,_,_,_,_⟩) ?_ 41 (.tmp 1) ?_ (zm) (0) ?_ (cs) _ (l1) Tryz.underlying41 ?_ ?_ ?_
              ·rfl
              ·rfl
              ·rfl
              ·rfl
              ·exact((Qkz HCL.out))))
 refine HC.out.mono ?_
 rintro e w2 ⟨v2,rfl,ho2,hb2⟩
 have HO2:=Lib.hid (Own8.mono' ho2 HW1.out.size)
 have HW2:=Lib.hid (Q3z HW1.out hb2 (Nat.le_refl _))
 clear ho2 hb2 l1 HW1 HC
 go_wp2_with fail
 go_ret
 exact⟨v2,rfl,HO2.out,HW2.out⟩
def GreetP (w:World) (g:Nat) (no:BitVec 64) (rv:Nat) (dn hl bd:Int) (ve ak:Bool) (aq:Option Addr) (out:Bs) (ok:Bool) (e:Ending) (w':World):Prop:=
 ∃v,e= .returned (.tuple #[v,.bool ok])∧Own8 w' w.heap.size v out∧SesB w' g no rv dn hl bd ve ak aq∧Stays (·=g) w w'
theorem msgC_kind {w W:World} {m:TMsg} {cs:List Value} {zm:Nat} (h:MsgC w m cs) (hb:Blk W zm 41 cs.toArray):W.cell? ⟨zm,0,none⟩=some (.int .i64 m.k):=by
 obtain⟨hv,dv,bv,bc,rfl,_⟩:=h
 exact hb.cell 0
theorem greet_k2 (m:TMsg) (cs:List Value) (g:Nat) (no:BitVec 64) (rv:Nat) (dn bd:Int) (ve ak:Bool) (aq:Option Addr) (hl:Int) (w:World) (hh:ak=false→0≤hl∧hl≤1) (hk:m.k=2) (hm:MsgC w m cs) (h:SesB w g no rv dn hl bd ve ak aq):
 Calls Tryz.prog 27 #[.pointer (some ⟨g,0,none⟩),.agg cs.toArray] w (GreetP w g no rv dn (if ak then hl else hl+1) bd ve true aq [] (!ak)):=by
 have HCL:=Lib.hid hm.len
 obtain⟨zm,hzm⟩:∃z,z=w.heap.size:=⟨_,rfl⟩
 obtain⟨W1,hW1⟩:∃V,V=w.alloc (.cells cs.toArray 41):=⟨_,rfl⟩
 have hb1:Below w.heap.size w W1:=by rw[hW1];exact Q1z w _
 have hB1:Blk W1 zm 41 cs.toArray:=by rw[hW1,hzm];exact Blk.new w _ _
 have hkc:=msgC_kind hm hB1
 rw[hk]at hkc
 have h1:SesB W1 g no rv dn hl bd ve ak aq:=h.fut hb1
 have c8:=h1.l.c8
 have f8:=h1.frozen 8
 have HS1:=Lib.hid h1
 have HB1:=Lib.hid hb1
 have HH:=Lib.hid hh
 clear hm hB1 hb1 h1 h hh
 go_enter Tryz.func27,Tryz.ntmps27
 go_upto_region 1 with fail
 rw[←hW1,← hzm]
 clear hW1 hzm
 cases ak with
 |true=>
  go_wp2_with fail
  go_ret2
  exact⟨_,rfl,Own8.nil _ _,HS1.out,Stays.of_below HB1.out (Nat.le_refl _) _⟩
 |false=>
  have h2:SesB (W1.setCell ⟨g,8,none⟩ (.bool true)) g no rv dn hl bd ve true aq:=HS1.out.set 8 _
  have c5:=i32_add ⟨g,5,none⟩ hl (W1.setCell ⟨g,8,none⟩ (.bool true)) h2.l.c5 (h2.frozen 5) (HH.out rfl)
  have C5:=Lib.hid c5
  have h3:SesB ((W1.setCell ⟨g,8,none⟩ (.bool true)).setCell ⟨g,5,none⟩ (.int .i32 (hl+1))) g no rv dn (hl+1) bd ve true aq:=h2.set 5 _
  have H3:=Lib.hid h3
  have hst:Stays (·=g) w ((W1.setCell ⟨g,8,none⟩ (.bool true)).setCell ⟨g,5,none⟩ (.int .i32 (hl+1))):=(((Stays.of_below HB1.out (Nat.le_refl _) (·=g)).setCell (a:=⟨g,8,none⟩) (fun _=>rfl) _).setCell (a:=⟨g,5,none⟩) (fun _=>rfl) _)
  have HST:=Lib.hid hst
  clear h2 h3 hst c5
  go_wp2_with fail
  refine C5.out.mono ?_
  rintro e w4 ⟨rfl,rfl⟩
  go_wp2_with fail
  go_ret2
  exact⟨_,rfl,Own8.nil _ _,H3.out,HST.out⟩
theorem greet_k1 (m:TMsg) (cs:List Value) (g:Nat) (no:BitVec 64) (rv:Nat) (dn bd:Int) (ve ak:Bool) (aq:Option Addr) (hl:Int) (w:World) (hK:Laid w) (hh:ve=false→0≤hl∧hl≤1) (hk:m.k=1) (hm:MsgC w m cs) (h:SesB w g no rv dn hl bd ve ak aq):
 Calls Tryz.prog 27 #[.pointer (some ⟨g,0,none⟩),.agg cs.toArray] w (GreetP w g no rv dn (if ve then hl else hl+1) bd true ak aq (if ve then[]else QHz 2 0#64) (!ve)):=by
 have HCL:=Lib.hid hm.len
 obtain⟨zm,hzm⟩:∃z,z=w.heap.size:=⟨_,rfl⟩
 obtain⟨W1,hW1⟩:∃V,V=w.alloc (.cells cs.toArray 41):=⟨_,rfl⟩
 have hb1:Below w.heap.size w W1:=by rw[hW1];exact Q1z w _
 have hB1:Blk W1 zm 41 cs.toArray:=by rw[hW1,hzm];exact Blk.new w _ _
 have hkc:=msgC_kind hm hB1
 rw[hk]at hkc
 have h1:SesB W1 g no rv dn hl bd ve ak aq:=h.fut hb1
 have HS1:=Lib.hid h1
 have HB1:=Lib.hid hb1
 have HH:=Lib.hid hh
 have hbo:=bytesOf_of (tK 2 0#32 0#64) (msgK 2 0#32 0#64) W1 (fun V hv=>enc_k2 0#32 0#64 noHash noHash [] [] [] noBlk _ V hv rfl) (hK.below hb1 hK.size) (msgK_o 0 _ 2 0#32 0#64).c
 have HBO:=Lib.hid hbo
 have hbt:=built_k2
 obtain⟨M2,hM2⟩:∃M2,M2=(msgK 2 0#32 0#64).toArray:=⟨_,rfl⟩
 rw[←hM2]at hbt HBO
 obtain⟨OB,hOB⟩:∃OB,OB=QHz 2 0#64:=⟨_,rfl⟩
 have HOB:=Lib.hid hOB
 obtain⟨hx,hhx⟩:∃x,x=(if ve then hl else hl+1):=⟨_,rfl⟩
 obtain⟨ox,hox⟩:∃x,x=(if ve then[]else QHz 2 0#64):=⟨_,rfl⟩
 have HHX:=Lib.hid hhx
 have HOX:=Lib.hid hox
 rw[←hhx,← hox]
 clear hhx hox
 clear hm hB1 hb1 h1 h hh hK hbo hM2 hOB
 go_enter Tryz.func27,Tryz.ntmps27
 go_upto_region 1 with fail
 rw[←hW1,← hzm]
 clear hW1 hzm
 go_wp2_with((with_reducible refine Qjz (o:=⟨some 17,_,_,_,_,_⟩) ?_ 41 #[(0,.const (.int .i64 2))] ?_ [(0,.int .i64 2)] ?_ M2 hbt ?_
              ·rfl
              ·rfl
              ·rfl))
 refine HBO.out.mono ?_
 rintro e w2 ⟨v2,rfl,ho2,hb2⟩
 have hov:Own8 w2 w.heap.size v2 OB:=by rw[HOB.out];exact Own8.mono' ho2 HB1.out.size
 have HO2:=Lib.hid hov
 have HS2:Hid (SesB w2 g no rv dn hl bd ve ak aq):=Lib.hid (HS1.out.fut hb2)
 have HB2:=Lib.hid (Q3z HB1.out hb2 (Nat.le_refl _))
 have c7:=HS2.out.l.c7
 have f7:=HS2.out.frozen 7
 clear ho2 hb2 hov HBO HS1 HB1
 cases ve with
 |true=>
  go_wp2_with fail
  go_ret2
  have e1:hx=hl:=HHX.out
  have e2:ox=[]:=HOX.out
  rw[e1,e2]
  exact⟨_,rfl,Own8.nil _ _,HS2.out,Stays.of_below HB2.out (Nat.le_refl _) _⟩
 |false=>
  have h2:SesB (w2.setCell ⟨g,7,none⟩ (.bool true)) g no rv dn hl bd true ak aq:=HS2.out.set 7 _
  have c5:=i32_add ⟨g,5,none⟩ hl (w2.setCell ⟨g,7,none⟩ (.bool true)) h2.l.c5 (h2.frozen 5) (HH.out rfl)
  have C5:=Lib.hid c5
  have h3:SesB ((w2.setCell ⟨g,7,none⟩ (.bool true)).setCell ⟨g,5,none⟩ (.int .i32 (hl+1))) g no rv dn (hl+1) bd true ak aq:=h2.set 5 _
  have H3:=Lib.hid h3
  have hst:Stays (·=g) w ((w2.setCell ⟨g,7,none⟩ (.bool true)).setCell ⟨g,5,none⟩ (.int .i32 (hl+1))):=(((Stays.of_below HB2.out (Nat.le_refl _) (·=g)).setCell (a:=⟨g,7,none⟩) (fun _=>rfl) _).setCell (a:=⟨g,5,none⟩) (fun _=>rfl) _)
  have HST:=Lib.hid hst
  have hap:v2.ownBlock≠some g:=Z9z HO2.out HS2.out (by decide)
  have ho3:Own8 ((w2.setCell ⟨g,7,none⟩ (.bool true)).setCell ⟨g,5,none⟩ (.int .i32 (hl+1))) w.heap.size v2 OB:=(HO2.out.stays (Stays.set w2 g 7 _) (fun k hk e=>hap (by rw[hk,e]))).stays (Stays.set _ g 5 _) (fun k hk e=>hap (by rw[hk,e]))
  have HO3:=Lib.hid ho3
  clear h2 h3 hst c5 hap ho3
  go_wp2_with fail
  refine C5.out.mono ?_
  rintro e w4 ⟨rfl,rfl⟩
  go_wp2_with fail
  go_ret2
  have e1:hx=hl+1:=HHX.out
  have e2:ox=QHz 2 0#64:=HOX.out
  rw[e1,e2,← HOB.out]
  exact⟨_,rfl,HO3.out,H3.out,HST.out⟩
end Go.Proofs.YtjbijcjcejfpcaaGreatDoor
