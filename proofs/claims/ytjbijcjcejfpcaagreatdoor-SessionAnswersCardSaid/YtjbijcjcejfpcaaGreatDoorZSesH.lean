/- A session's Hello: its Once, one goroutine; the walk. -/
import Derived.Test.YtjbijcjcejfpcaaGreatDoorZSesC
namespace Go.Proofs.YtjbijcjcejfpcaaGreatDoor
set_option linter.unusedVariables false
set_option maxRecDepth 100000
set_option maxHeartbeats 16000000
open Go Go.RowKit
def helloB (no:BitVec 64):Bs:=(QKz (tK 1 70015#32 no)).1
def CloP (z1 z2:Nat) (no:BitVec 64) (w:World) (e:Ending) (w':World):Prop:=e= .returned (.tuple #[])∧∃v,Own8 w' w.heap.size v (helloB no)∧Blk w' z2 26 #[v]∧Stays (·=z2) w w'
theorem clo_any (g z1 z2:Nat) (no:BitVec 64) (old:Value) (w:World) (hK:Laid w) (h1:w.cell? ⟨z1,0,none⟩=some (.pointer (some ⟨g,0,none⟩))) (hg:w.cell? ⟨g,0,none⟩=some (.int .u64 (iv64 no))) (h2:Blk w z2 26 #[old]):
 Calls Tryz.prog 32 #[.pointer (some ⟨z1,0,none⟩),.pointer (some ⟨z2,0,none⟩)] w (CloP z1 z2 no w):=by
 have hc:=msgBytes_of (msgK 1 70015#32 no) (tK 1 70015#32 no) w (fun V hv=>enc_k1 70015#32 no noHash noHash [] [] [] noBlk _ V hv rfl) hK (msgK_o 0 w 1 70015#32 no).c
 have hbt:=built_k1 no
 obtain⟨M1,hM1⟩:∃M1,M1=(msgK 1 70015#32 no).toArray:=⟨_,rfl⟩
 rw[←hM1]at hbt hc
 have HB:Hid (helloB no=(QKz (tK 1 70015#32 no)).1):=Lib.hid rfl
 obtain⟨x,hx⟩:∃x,x=QKz (tK 1 70015#32 no):=⟨_,rfl⟩
 rw[←hx]at hc HB
 obtain⟨by_,er⟩:=x
 unfold OutPost at hc
 simp only at hc
 replace HB:Hid (helloB no=by_):=HB
 have HC:=Lib.hid hc
 have H2:=Lib.hid h2
 clear hM1 hx hc h2
 go_enter Tryz.func32,Tryz.ntmps32
 go_wp2_with((with_reducible refine Qjz (o:=⟨some 7,_,_,_,_,_⟩) ?_ 41 #[(0,.const (.int .i64 1)),(1,.const (.int .u32 70015)),(2,.tmp 6)] ?_ [(0,.int .i64 1),(1,.int .u32 70015),(2,.int .u64 (iv64 no))] ?_ M1 hbt ?_
              ·rfl
              ·rfl
              ·rfl))
 refine HC.out.mono ?_
 rintro e w2 ⟨v2,rfl,ho2,hb2⟩
 have h3:=H2.out.fut hb2
 have c2:w2.cell? ⟨z2,0,none⟩=some old:=h3.cell 0
 have f2:=h3.frozen 0
 have hap:v2.ownBlock≠some z2:=Z9z ho2 h3 (by decide)
 have HF:Hid (Own8 (w2.setCell ⟨z2,0,none⟩ v2) w.heap.size v2 (helloB no)∧Blk (w2.setCell ⟨z2,0,none⟩ v2) z2 26 #[v2]∧Stays (·=z2) w (w2.setCell ⟨z2,0,none⟩ v2)):=Lib.hid ⟨by
  rw[HB.out]
  exact ho2.stays (Stays.set w2 z2 0 v2) (fun k hk e=>hap (by rw[hk,e])),h3.set 0 v2,(Stays.of_below hb2 (Nat.le_refl _) (·=z2)).trans (Stays.set w2 z2 0 v2) (fun _ _ h=>h)⟩
 obtain⟨p2,n2,cc2,rfl,_⟩:=ho2.open
 clear h3 hap ho2 hb2 HC
 go_wp2_with fail
 go_end0
 exact⟨rfl,_,HF.out⟩
def DoP (g z2:Nat) (no:BitVec 64) (w:World) (e:Ending) (w':World):Prop:=
 e= .returned (.tuple #[])∧∃w2 v,Own8 w2 w.heap.size v (helloB no)∧Blk w2 z2 26 #[v]∧Stays (·=z2) (w.setCell ⟨g,3,none⟩ (.int .i32 1)) w2∧w'=(w2.drew.setCell ⟨g,2,none⟩ (.int .u32 1)).setCell ⟨g,3,none⟩ (.int .i32 0)
theorem slow_any (g z1 z2:Nat) (no:BitVec 64) (rv:Nat) (hl bd:Int) (ve ak:Bool) (aq:Option Addr) (old:Value) (w:World) (hK:Laid w) (hKg:gTop≤g) (h1:w.cell? ⟨z1,0,none⟩=some (.pointer (some ⟨g,0,none⟩))) (hz1:z1≠g) (h:SesB w g no rv 0 hl bd ve ak aq) (h2:Blk w z2 26 #[old]):
 Calls Tryz.prog 54 #[.pointer (some ⟨g,2,none⟩),.func (.func 32) #[] #[.pointer (some ⟨z1,0,none⟩),.pointer (some ⟨z2,0,none⟩)]] w (DoP g z2 no w):=by
 have hgz:g≠z2:=fun e=>by
  subst e
  exact absurd (Blk.inj h h2).1 (by decide)
 have hL:=lock_free ⟨g,3,none⟩ w h.l.c3 (h.frozen 3)
 have hs:Blk (w.setCell ⟨g,3,none⟩ (.int .i32 1)) g 77 ((sesC no rv 0 hl bd ve ak aq).toArray.setIfInBounds 3 (.int .i32 1)):=h.set 3 _
 have hld:=Zhz ⟨g,2,none⟩ 0 (w.setCell ⟨g,3,none⟩ (.int .i32 1)) (hs.cell 2)
 have hK1:Laid (w.setCell ⟨g,3,none⟩ (.int .i32 1)):=hK.below ((Below.refl gTop w).setCell (p:=⟨g,3,none⟩) hKg _) (Nat.le_refl _)
 have hc:=clo_any g z1 z2 no old (w.setCell ⟨g,3,none⟩ (.int .i32 1)) hK1 ((World.cell?_setCell_other _ ⟨g,3,none⟩ ⟨z1,0,none⟩ _ (fun e=>hz1 (congrArg Addr.block e).symm)).trans h1) (hs.cell 0) (h2.far (p:=⟨g,3,none⟩) (fun e=>hgz e.symm) _)
 have HL:=Lib.hid hL
 have HLD:=Lib.hid hld
 have HC:=Lib.hid hc
 have HS:=Lib.hid hs
 have HGZ:=Lib.hid hgz
 clear hL hld hc hs hK hK1 h1 h2 h hgz
 go_enter_defers Tryz.func54,Tryz.ntmps54
 go_wp2_with fail
 refine HL.out.mono ?_
 rintro e w1 ⟨rfl,rfl⟩
 go_wp2_with fail
 refine HLD.out.mono ?_
 rintro e w1 ⟨rfl,hw⟩
 replace hw:=hw.symm
 subst hw
 go_wp2_with fail
 refine HC.out.mono ?_
 rintro e w2 ⟨rfl,v,ho,hb,hst⟩
 go_wp2_with fail
 have c2:w2.cell? ⟨g,2,none⟩=some (.int .u32 0):=(Blk.stays HS.out hst HGZ.out).cell 2
 have f2:=(Blk.stays HS.out hst HGZ.out).frozen 2
 have c3:w2.cell? ⟨g,3,none⟩=some (.int .i32 1):=(Blk.stays HS.out hst HGZ.out).cell 3
 have f3:=(Blk.stays HS.out hst HGZ.out).frozen 3
 have hst1:=store_deferred ⟨g,2,none⟩ _ .returning w2 c2 f2
 have hun:=fun u=>unlock_deferred ⟨g,3,none⟩ u (w2.drew.setCell ⟨g,2,none⟩ (.int .u32 1)) (by
  rw[World.cell?_setCell_other _ ⟨g,2,none⟩ ⟨g,3,none⟩ _ (by simp),World.cell?_drew];exact c3) (by simp[f3])
 refine leaves_cons (f:=30) (args:=#[.pointer (some ⟨g,2,none⟩),.bool true]) (by simp) (by simp[go_sem]) ?_
 refine hst1.mono ?_
 rintro e u' w3 ⟨rfl,rfl,rfl⟩
 refine leaves_cons (f:=90) (args:=#[.pointer (some ⟨g,3,none⟩)]) (by simp[settle]) (by simp[go_sem]) ?_
 refine(hun _).mono ?_
 rintro e u' w4 ⟨rfl,rfl,rfl⟩
 simp only[Leaves,settle]
 refine⟨.tuple #[],by simp[results,Tryz.results54],rfl,w2,v,Own8.mono' ho (by simp[World.setCell]),hb,hst,rfl⟩
theorem do_first (g z1 z2:Nat) (no:BitVec 64) (rv:Nat) (hl bd:Int) (ve ak:Bool) (aq:Option Addr) (old:Value) (w:World) (hK:Laid w) (hKg:gTop≤g) (h1:w.cell? ⟨z1,0,none⟩=some (.pointer (some ⟨g,0,none⟩))) (hz1:z1≠g) (h:SesB w g no rv 0 hl bd ve ak aq) (h2:Blk w z2 26 #[old]):
 Calls Tryz.prog 31 #[.pointer (some ⟨g,2,none⟩),.func (.func 32) #[] #[.pointer (some ⟨z1,0,none⟩),.pointer (some ⟨z2,0,none⟩)]] w (DoP g z2 no w):=by
 have HLD:=Lib.hid (Zhz ⟨g,2,none⟩ 0 w h.l.c2)
 have HSL:=Lib.hid (slow_any g z1 z2 no rv hl bd ve ak aq old w hK hKg h1 hz1 h h2)
 clear hK h1 h h2
 go_enter Tryz.func31,Tryz.ntmps31
 go_wp2_with fail
 refine HLD.out.mono ?_
 rintro e w1 ⟨rfl,hw⟩
 replace hw:=hw.symm
 subst hw
 go_wp2_with fail
 refine HSL.out.mono ?_
 rintro e w2 ⟨rfl,hd⟩
 have HD:=Lib.hid hd
 clear hd HSL HLD
 go_wp2_with fail
 go_end0
 exact⟨rfl,HD.out⟩
theorem hello_first (g:Nat) (no:BitVec 64) (rv:Nat) (hl bd:Int) (ve ak:Bool) (aq:Option Addr) (w:World) (hK:Laid w) (hKg:gTop≤g) (h:SesB w g no rv 0 hl bd ve ak aq):
 Calls Tryz.prog 13 #[.pointer (some ⟨g,0,none⟩)] w fun e w'=>∃v,e= .returned v∧Own8 w' w.heap.size v (helloB no)∧SesB w' g no rv 1 hl bd ve ak aq∧Stays (·=g) w w':=by
 have hgl:=h.lt
 have hmf:∀(fn:Fn) (first cap:Array Value) (w:World),(Instr.makeFunc fn first cap).run Tryz.prog w= .ok (.func fn first cap) w:=fun _ _ _ _=>rfl
 obtain⟨z1,hz1⟩:∃z,z=w.heap.size:=⟨_,rfl⟩
 obtain⟨W1,hW1⟩:∃V,V=w.alloc (.cells #[.pointer (some ⟨g,0,none⟩)] 23):=⟨_,rfl⟩
 have hb1:Below w.heap.size w W1:=by rw[hW1];exact Q1z w _
 have hB1:Blk W1 z1 23 #[.pointer (some ⟨g,0,none⟩)]:=by rw[hW1,hz1];exact Blk.new w _ _
 have hs1:SesB W1 g no rv 0 hl bd ve ak aq:=h.fut hb1
 have HN:=Lib.hid (Zlz g no rv 0 hl bd ve ak aq W1 hs1)
 obtain⟨z2,hz2⟩:∃z,z=W1.heap.size:=⟨_,rfl⟩
 obtain⟨W2,hW2⟩:∃V,V=W1.alloc (.cells #[.slice none 0 0] 26):=⟨_,rfl⟩
 have hb2:Below W1.heap.size W1 W2:=by rw[hW2];exact Q1z W1 _
 have hB2:Blk W2 z2 26 #[.slice none 0 0]:=by rw[hW2,hz2];exact Blk.new W1 _ _
 have hs2:SesB W2 g no rv 0 hl bd ve ak aq:=hs1.fut hb2
 have hb12:Below w.heap.size w W2:=Q3z hb1 hb2 (Nat.le_refl _)
 have hc1:=hB1.cell 0
 have hc1':=(hB1.fut hb2).cell 0
 have HD:=Lib.hid (do_first g z1 z2 no rv hl bd ve ak aq (.slice none 0 0) W2 (hK.below hb12 hK.size) hKg ((hB1.fut hb2).cell 0) (by omega) hs2 hB2)
 have HZ:Hid (w.heap.size≤z2∧z2≠g):=Lib.hid ⟨by have:=hb1.size;omega,by have:=hb1.size;omega⟩
 have HS2:=Lib.hid hs2
 have HB12:=Lib.hid hb12
 clear hb1 hs1 hb2 hs2 hb12 hB1 hB2 h hK hgl
 go_enter Tryz.func13,Tryz.ntmps13
 go_upto_region 1 with fail
 rw[←hW1,← hz1]
 clear hW1 hz1
 go_wp2_with fail
 refine HN.out.mono ?_
 rintro e w1 ⟨rfl,hw⟩
 replace hw:=hw.symm
 subst hw
 clear HN
 go_upto_region 4 with fail
 rw[←hW2,← hz2]
 clear hW2 hz2
 go_wp2_with fail
 refine HD.out.mono ?_
 rintro e w3 ⟨rfl,w2,v,ho,hb,hst,rfl⟩
 have hs3:Blk w2 g 77 ((sesC no rv 0 hl bd ve ak aq).toArray.setIfInBounds 3 (.int .i32 1)):=Blk.stays (HS2.out.set 3 _) hst (fun e=>HZ.out.2 e.symm)
 have hs4:SesB ((w2.drew.setCell ⟨g,2,none⟩ (.int .u32 1)).setCell ⟨g,3,none⟩ (.int .i32 0)) g no rv 1 hl bd ve ak aq:=((hs3.drewN 1).set (w:=w2.drew) 2 _).set 3 _
 have hgz:g≠z2:=fun e=>HZ.out.2 e.symm
 have hb4:Blk ((w2.drew.setCell ⟨g,2,none⟩ (.int .u32 1)).setCell ⟨g,3,none⟩ (.int .i32 0)) z2 26 #[v]:=Blk.far (p:=⟨g,3,none⟩) (Blk.far (w:=w2.drew) (p:=⟨g,2,none⟩) (hb.drewN 1) (fun e=>hgz e.symm) _) (fun e=>hgz e.symm) _
 have hap:v.ownBlock≠some g:=Z9z ho hs3 (by decide)
 have ho4:Own8 ((w2.drew.setCell ⟨g,2,none⟩ (.int .u32 1)).setCell ⟨g,3,none⟩ (.int .i32 0)) w.heap.size v (helloB no):=
  Own8.mono' (((ho.drewN 1).stays (Stays.set w2.drew g 2 _) (fun k hk e=>hap (by rw[hk,e]))).stays (Stays.set _ g 3 _) (fun k hk e=>hap (by rw[hk,e]))) HB12.out.size
 have hst4:Stays (·=g) w ((w2.drew.setCell ⟨g,2,none⟩ (.int .u32 1)).setCell ⟨g,3,none⟩ (.int .i32 0)):=by
  have a1:Stays (fun k=>k=g∨k=z2) W2 w2:=((Stays.set W2 g 3 (.int .i32 1)).mono (fun k _ h=>.inl h)).trans hst (fun k _ h=>.inr h)
  have a2:Stays (fun k=>k=g∨k=z2) w w2:=(Stays.of_below HB12.out (Nat.le_refl _) (fun k=>k=g∨k=z2)).trans a1 (fun k _ h=>h)
  have a3:Stays (·=g) w w2:=a2.mono (fun k hk h=>by rcases h with h|h;exact h;have:=HZ.out.1;omega)
  exact((a3.drewN 1).setCell (a:=⟨g,2,none⟩) (fun _=>rfl) _).setCell (a:=⟨g,3,none⟩) (fun _=>rfl) _
 have HF:=Lib.hid (And.intro ho4 (And.intro hs4 hst4))
 have c4:=hb4.cell 0
 obtain⟨p2,n2,cc2,rfl,_⟩:=ho4.open
 generalize(w2.drew.setCell ⟨g,2,none⟩ (.int .u32 1)).setCell ⟨g,3,none⟩ (.int .i32 0)=w9 at*
 clear hs3 hs4 hb4 hap ho4 hst4 ho hb hst HD
 go_wp2_with fail
 go_ret
 exact⟨_,rfl,HF.out⟩
end Go.Proofs.YtjbijcjcejfpcaaGreatDoor
