/- message.writer: num, list: the walks. -/
import Derived.Test.YtjbijcjcejfpcaaGreatDoorZMsgK
import Derived.Test.YtjbijcjcejfpcaaGreatDoorZMsgP
import Derived.Test.YtjbijcjcejfpcaaGreatDoorZGS
namespace Go.Proofs.YtjbijcjcejfpcaaGreatDoor
set_option linter.unusedVariables false
set_option maxRecDepth 100000
set_option maxHeartbeats 16000000
open Go Go.RowKit
structure WrM (g:Nat) (w:World) (v:Value) (ys:List (BitVec 8)):Prop where
 blk:Blk w g 138 #[v]
 own:Own8 w (g+1) v ys
theorem WrM.lt {g:Nat} {w:World} {v:Value} {ys:List (BitVec 8)} (h:WrM g w v ys):g+1≤w.heap.size:=h.blk.lt
theorem WrM.fut {g:Nat} {w w':World} {v:Value} {ys:List (BitVec 8)} (h:WrM g w v ys) (hb:Below w.heap.size w w'):WrM g w' v ys:=⟨h.blk.fut hb,h.own.fut hb⟩
theorem WrM.put {g:Nat} {w:World} {v v':Value} {zs:List (BitVec 8)} (hb:Blk w g 138 #[v]) (ho:Own8 w (g+1) v' zs):WrM g (w.setCell ⟨g,0,none⟩ v') v' zs:=by
 refine⟨?_,ho.setFar (fun e=>by have:=(World.ownsRow.lt ho _ e).1;simp only at this;omega) v'⟩
 have:=hb.set 0 v'
 simpa using this
def WrPost (g:Nat) (w:World) (zs:List (BitVec 8)) (e:Ending) (w':World):Prop:=e= .returned (.tuple #[])∧∃v,WrM g w' v zs∧Below g w w'
theorem below_grown {g:Nat} {w w':World} {v:Value} {ys:List (BitVec 8)} (ho:Own8 w (g+1) v ys) (hl:g≤w.heap.size) (hg:w.grownBy w' v.ownBlock):Below g w w':=
 (Below.refl g w).grown hg hl fun k hk=>by have:=(World.ownsRow.lt ho k hk).1;omega
theorem Xhz (g:Nat) (w:World) (v:Value):Below g w (w.setCell ⟨g,0,none⟩ v):=(Below.refl g w).setCell (Nat.le_refl _) _
structure WF (g:Nat) (w1:World) (v0:Value) (W:World):Prop where
 blk:Blk W g 138 #[v0]
 bel:Below g w1 W
theorem WF.fut {g:Nat} {w1 W W':World} {v0:Value} (h:WF g w1 v0 W) (hb:Below W.heap.size W W'):WF g w1 v0 W':=⟨h.blk.fut hb,h.bel.trans (hb.mono (Nat.le_of_lt h.blk.lt))⟩
theorem WF.size {g:Nat} {w1 W:World} {v0:Value} (h:WF g w1 v0 W):g+1≤W.heap.size:=h.blk.lt
theorem WF.app {g:Nat} {w1 W W':World} {v0 v:Value} {ys:List (BitVec 8)} (h:WF g w1 v0 W) (ho:Own8 W (g+1) v ys) (hg:W.grownBy W' v.ownBlock):WF g w1 v0 W':=by
 refine⟨h.blk.stays (Stays.of_grown (S:=fun k=>v.ownBlock=some k) hg fun k h=>h) (fun e=>by have:=(World.ownsRow.lt ho _ e).1;omega),h.bel.trans (below_grown ho (Nat.le_of_lt h.blk.lt) hg)⟩
theorem wNum_any (n:BitVec 64) (m:Nat) (hm:m≤8) (g:Nat) (w:World) (v:Value) (ys:List (BitVec 8)) (hw:WrM g w v ys) (hl:ys.length≤100000000000000):
 Calls Tryz.prog 58 #[.pointer (some ⟨g,0,none⟩),.int .u64 (iv64 n),.int .i64 (m:Int)] w (WrPost g w (ys++low n m)):=by
 have HL:=Lib.hid hl
 have HW0:Hid (∃v,WrM g w v (ys++low n 0)):=Lib.hid ⟨v,by rw[show low n 0=[]from rfl,List.append_nil];exact hw⟩
 clear hl hw
 go_enter Tryz.func58,Tryz.ntmps58
 go_upto_region 1 with fail
 obtain⟨w1,hw1⟩:∃w1,w1=w:=⟨_,rfl⟩
 rw[←hw1]at HW0 ⊢
 clear hw1
 go_loopw[8] (fun i wr=>∃k:Nat,k≤m∧i= .int .i64 k∧Hid (∃v,WrM g wr v (ys++low n k))∧Hid (Below g w1 wr)) (fun i _=>m-(intOf i).toNat)
 case atStart=>exact⟨0,by omega,rfl,HW0,Lib.hid (Below.refl _ _)⟩
 case round=>
  obtain⟨k,hk,rfl,HWk,HBk⟩:=hrel
  clear HW0
  by_cases hkm:k<m
  ·have hlt:(k:Int)<(m:Int):=by omega
   obtain⟨v0,hwk⟩:=HWk.out
   obtain⟨q,n1,c1,rfl,_⟩:=hwk.own.open
   have HF0:Hid (WF g w1 (.slice q n1 c1) wr):=Lib.hid ⟨hwk.blk,HBk.out⟩
   have HO0:Hid (Own8 wr (g+1) (.slice q n1 c1) (ys++low n k)):=Lib.hid hwk.own
   have hb1:(0:Int)≤8*(k:Int):=by omega
   have hb2:8*(k:Int)≤56:=by omega
   have hsh:=shrB n k
   clear hwk HWk HBk
   go_upto_region 3 with fail
   refine Qdz [qq 0,qq 1,qq 2,qq 3,qq 4,qq 5,qq 6,qq 7,qq 8,qq 9,oo 10,oo 11,qq 12,qq 13] 14 (fun W=>WF g w1 (Value.slice q n1 c1) W) (by kernel_rfl) (by kernel_rfl) (HF0.out.fut (Q0z wr 1)) ?_
   refine' Q9z (s:=26) (A1:=_) [0,1,2,3,4,5,6,7,8,9] [_,_,_,_,_,_,_,_,_,_] _ rfl rfl rfl (fun W hW=>?hqa) _ (HF0.out.fut (Q0z wr 1)) (fun _=>?hra)
   case hqa=>
    simp only[List.getElem_toArray,List.getElem_cons_zero,List.getElem_cons_succ]
    have c0:∀k,(W.drewN k).cell? ⟨g,0,none⟩=some (.slice q n1 c1):=fun k=>by have:=hW.blk.cell 0;simpa using this
    iterate 10 (go_big_quiet_step (fail))
    refine wpQuiet_nil ?_
    rfl
   case hra=>
   refine Qbz rfl fun k1=>?_
   have hdr:Below wr.heap.size wr (wr.drew.drewN k1):=Q7z (Below.refl _ _).drew k1
   have HFd1:=Lib.hid (HF0.out.fut hdr)
   have HOd1:=Lib.hid (HO0.out.fut hdr)
   clear HF0 HO0 hdr
   generalize wr.drew.drewN k1=Wd1 at*
   have hb2:=Q1z Wd1 (.cells #[.int .u8 (iv8 (byteN n k))] 5)
   have HB2:Hid (Blk (Wd1.alloc (.cells #[.int .u8 (iv8 (byteN n k))] 5)) Wd1.heap.size 5 (Q5z ([byteN n k])).toArray):=Lib.hid (Blk.new Wd1 5 #[.int .u8 (iv8 (byteN n k))])
   have HR2:=Lib.hid (QOz HB2.out)
   have HF2:=Lib.hid (HFd1.out.fut hb2)
   have HO2:=Lib.hid (HOd1.out.fut hb2)
   clear HB2 HFd1 HOd1
   go_wp2_with fail
   refine Q2z (And.intro HF2.out ?_)
   refine Qbz rfl fun k3=>?_
   have hdr:Below (Wd1.alloc (.cells #[.int .u8 (iv8 (byteN n k))] 5)).heap.size (Wd1.alloc (.cells #[.int .u8 (iv8 (byteN n k))] 5)) ((Wd1.alloc (.cells #[.int .u8 (iv8 (byteN n k))] 5)).drewN k3):=Q0z (Wd1.alloc (.cells #[.int .u8 (iv8 (byteN n k))] 5)) k3
   have HFd3:=Lib.hid (HF2.out.fut hdr)
   have HOd3:=Lib.hid (HO2.out.fut hdr)
   have HR2_3:=Lib.hid ((HR2.out).fut hdr)
   clear HR2
   clear HF2 HO2 hdr
   generalize(Wd1.alloc (.cells #[.int .u8 (iv8 (byteN n k))] 5)).drewN k3=Wd3 at*
   refine Qaz (o:=⟨some 22,_,_,_,_,_⟩) rfl (.tmp 15) (.tmp 21) rfl (g+1) _ _ rfl HOd3.out (some ⟨Wd1.heap.size,0,none⟩) 1 1 ([byteN n k]) rfl rfl (HR2_3.out) (by rw[List.length_append,Qez];simp only[List.length_cons,List.length_nil];have:=HL.out;omega) HFd3.out.size (g+1) Wd3 (Below.refl _ _) (Nat.le_refl _) ?_
   intro vz4 W4 ho _ hg hk
   have HF4:=Lib.hid (HFd3.out.app HOd3.out hg)
   obtain⟨qz4,mz4,dz4,rfl,_⟩:=ho.open
   have HO4:=Lib.hid ho
   clear HFd3 HOd3 ho hg hk
   go_wp2_with fail
   refine Q2z (And.intro HF4.out ?_)
   refine' Q9z (s:=26) (A1:=_) (r:=[]) [12,13] [_,_] _ rfl rfl rfl (fun W hW=>?hqb) _ HF4.out (fun _=>?hrb)
   case hqb=>
    simp only[List.getElem_toArray,List.getElem_cons_zero,List.getElem_cons_succ]
    iterate 2 (go_big_quiet_step (fail))
    refine wpQuiet_nil ?_
    rfl
   case hrb=>
   refine Qnz fun k5=>HeadQ.normal ?_
   have hdr:=Q0z W4 k5
   have HFz5:=Lib.hid (HF4.out.fut hdr)
   have HOz5:=Lib.hid (HO4.out.fut hdr)
   clear HF4 HO4 hdr
   generalize W4.drewN k5=Wz5 at*
   have fz5:=HFz5.out.blk.frozen 0
   have ez5:=HFz5.out.blk.cell 0
   simp only[List.getElem?_toArray,List.getElem?_cons_zero]at ez5
   have HWS:=Lib.hid (WrM.put HFz5.out.blk HOz5.out)
   have HBS:=Lib.hid (HFz5.out.bel.trans (Xhz g Wz5 (Value.slice qz4 mz4 dz4)))
   rw[List.append_assoc,← low_succ]at HWS
   go_wp2_with fail
   go_roundw
   case rel=>exact⟨k+1,by omega,by go_num,Lib.hid ⟨_,HWS.out⟩,HBS⟩
   case measure=>simp[intOf];omega
  ·obtain rfl:k=m:=by omega
   have hge:¬(k:Int)<(k:Int):=by omega
   go_wp2_with fail
   first|go_end0|refine bodyPost_ret (results_none rfl _ _ _) rfl ?_
   obtain⟨v1,hw1⟩:=HWk.out
   exact⟨rfl,_,hw1,HBk.out⟩
def Ahead (g:Nat) (w:World) (pa:Option Addr) (a:Bs) (v:Value):Prop:=Row8 w pa a∧(a≠[]→∀x,pa=some x→v.ownBlock≠some x.block∧x.block<w.heap.size∧x.block≠g)
theorem Ahead.fut {g:Nat} {w w':World} {pa:Option Addr} {a:Bs} {v:Value} (h:Ahead g w pa a v) (hb:Below w.heap.size w w'):Ahead g w' pa a v:=
 ⟨h.1.below hb (Nat.le_refl _),fun h0 x hx=>by obtain⟨h1,h2,h3⟩:=h.2 h0 x hx;exact⟨h1,Nat.lt_of_lt_of_le h2 hb.size,h3⟩⟩
theorem Ahead.stays {g:Nat} {w w':World} {S:Nat→Prop} {pa:Option Addr} {a:Bs} {v v':Value} (h:Ahead g w pa a v) (hs:Stays S w w') (hS:∀x,pa=some x→a≠[]→¬S x.block) (hv:∀x,pa=some x→a≠[]→v'.ownBlock≠some x.block):Ahead g w' pa a v':=
 ⟨h.1.stays hs (fun h0 x hx=>hS x hx h0),fun h0 x hx=>by obtain⟨h1,h2,h3⟩:=h.2 h0 x hx;exact⟨hv x hx h0,Nat.lt_of_lt_of_le h2 hs.size,h3⟩⟩
theorem Ahead.app {g:Nat} {w w':World} {pa:Option Addr} {a:Bs} {v v':Value} (h:Ahead g w pa a v) (hg:w.grownBy w' v.ownBlock) (hk:v'.ownBlock=v.ownBlock∨v'.ownBlock=some w.heap.size):Ahead g w' pa a v':=
 h.stays (Stays.of_grown (S:=fun k=>v.ownBlock=some k) hg fun k h=>h) (fun x hx h0=>(h.2 h0 x hx).1) (fun x hx h0 e=>by
  obtain⟨h1,h2,_⟩:=h.2 h0 x hx
  rcases hk with hk|hk
  ·exact h1 (hk▸e)
  ·rw[hk]at e;injection e with e;omega)
theorem Ahead.poke {g:Nat} {w:World} {pa:Option Addr} {a:Bs} {v:Value} (h:Ahead g w pa a v) (u:Value):Ahead g (w.setCell ⟨g,0,none⟩ u) pa a v:=
 h.stays (Stays.set w g 0 u) (fun x hx h0 e=>(h.2 h0 x hx).2.2 e) (fun x hx h0=>(h.2 h0 x hx).1)
theorem own_apart {B g:Nat} {w:World} {v:Value} {ys:Bs} {t:TypeId} {cs:Array Value} (h:Own8 w B v ys) (hg:Blk w g t cs) (ht:t≠5):v.ownBlock≠some g:=(Sfx8.of h).apart hg ht
theorem cntE_any (n:Nat) (hn:n<18446744073709551616) (W:World):Calls Tryz.prog 60 #[.int .u64 (n:Int)] W (GivesOwn W (cntB n)):=by
 have:=encode_any (BitVec.ofNat 64 n) W
 rw[Zmz n hn]at this
 exact this
def preL {α:Type} (f:α→Bs) (xs:List α) (k:Nat):Bs:=((xs.take k).map f).flatten
theorem preL_succ {α:Type} (f:α→Bs) (xs:List α) (k:Nat) (x:α) (h:xs[k]? =some x):preL f xs (k+1)=preL f xs k++f x:=by
 unfold preL
 rw[List.take_add_one,h,List.map_append,List.flatten_append]
 simp
theorem preL_all {α:Type} (f:α→Bs) (xs:List α) (k:Nat) (h:xs.length≤k):preL f xs k=(xs.map f).flatten:=by
 unfold preL
 rw[List.take_of_length_le h]
theorem preL_len {α:Type} (f:α→Bs) (xs:List α) (k M N:Nat) (hf:∀x∈xs,(f x).length≤M) (hn:xs.length≤N):(preL f xs k).length≤N*M:=by
 have h1:=flat_le f M (xs.take k) fun x hx=>hf x (List.mem_of_mem_take hx)
 have h2:(xs.take k).length≤N:=by rw[List.length_take];omega
 exact Nat.le_trans h1 (Nat.mul_le_mul h2 (Nat.le_refl _))
theorem zHash:∀w,(zeroValue 32).run Tryz.prog w= .ok (.agg (Q5z (nulls 32)).toArray) w:=zero_ofM (by kernel_rfl)
theorem wList_any (hp:Option Addr) (n hc:Nat) (l:List Bs) (pa:Option Addr) (na ca:Nat) (a:Bs) (g:Nat) (w w1:World) (v:Value) (ys:Bs) (hw:WrM g w v ys) (hl:ys.length≤1000) (hn:n≤100000) (ha4:a.length≤100)
 (hb:Below g w1 w) (hg1:w1.heap.size≤g) (hE:ESl HashE 32 w1 (.slice hp n hc) l) (han:a.length=na) (ha:Ahead g w pa a v):
 Calls Tryz.prog 59 #[.pointer (some ⟨g,0,none⟩),.slice hp n hc,.slice pa na ca] w (WrPost g w (ys++hshB a l)):=by
 have HL:=Lib.hid hl
 have HEE:=Lib.hid hE
 have HB01:=Lib.hid hb
 obtain⟨hln,hnc,hcm⟩:=hE.slen
 have HLN:=Lib.hid hln
 have HAN:=Lib.hid han
 have HA4:=Lib.hid ha4
 obtain⟨q,n1,c1,rfl,_⟩:=hw.own.open
 have HF0:Hid (WF g w (.slice q n1 c1) w):=Lib.hid ⟨hw.blk,Below.refl _ _⟩
 have HO0:Hid (Own8 w (g+1) (.slice q n1 c1) ys):=Lib.hid hw.own
 have HA0:Hid (Ahead g w pa a (.slice q n1 c1)):=Lib.hid ha
 have hiv:IntKind.u64.wrap (n:Int)=(n:Int):=by rw[IntKind.wrap_u64];omega
 have HZL:Hid (∀k,(preL (fun h=>a++h) l k).length≤100000*132):=Lib.hid fun k=>preL_len (fun h=>a++h) l k 132 100000 (fun x hx=>by
  obtain⟨cs,hc⟩:=hE.mem hx
  have:=hc.2;rw[List.length_append];omega) (by omega)
 have hcl:=QXz n
 have HCL:=Lib.hid hcl
 have HV:Hid (hshB a l=cntB n++preL (fun h=>a++h) l n):=Lib.hid (by unfold hshB;rw[hln,preL_all _ l n (by omega)])
 rw[HV.out]
 clear hl hw hb hE hln han ha hcl ha4
 obtain⟨w0,hw0⟩:∃w0,w0=w:=⟨_,rfl⟩
 have HF0:Hid (WF g w0 (.slice q n1 c1) w):=Lib.hid (by rw[hw0];exact HF0.out)
 have HBW:Hid (Below g w1 w0):=Lib.hid (by rw[hw0];exact HB01.out)
 rw[show WrPost g w=WrPost g w0 by rw[hw0]]
 clear hw0
 go_enter Tryz.func59,Tryz.ntmps59
 have c0:w.cell? ⟨g,0,none⟩=some (.slice q n1 c1):=by have:=HF0.out.blk.cell 0;simpa using this
 go_upto_region 0 with fail
 refine Qdz [qq 0,qq 1,qq 2,qq 3,qq 4,qq 5,qq 6,qq 7,oo 8,oo 9,qq 10,qq 11] 12 (fun W=>WF g w0 (Value.slice q n1 c1) W) (by kernel_rfl) (by kernel_rfl) (HF0.out.fut (Q0z w 1)) ?_
 refine' Q9z (s:=38) (A1:=_) [0,1,2,3,4,5,6,7] [_,_,_,_,_,_,_,_] _ rfl rfl rfl (fun W hW=>?hqc) _ (HF0.out.fut (Q0z w 1)) (fun _=>?hrc)
 case hqc=>
  simp only[List.getElem_toArray,List.getElem_cons_zero,List.getElem_cons_succ]
  have c0:∀k,(W.drewN k).cell? ⟨g,0,none⟩=some (.slice q n1 c1):=fun k=>by have:=hW.blk.cell 0;simpa using this
  iterate 8 (go_big_quiet_step (fail))
  refine wpQuiet_nil ?_
  rfl
 case hrc=>
 refine Qbz rfl fun k6=>?_
 have hdr:Below w.heap.size w (w.drew.drewN k6):=Q7z (Below.refl _ _).drew k6
 have HFd6:=Lib.hid (HF0.out.fut hdr)
 have HOd6:=Lib.hid (HO0.out.fut hdr)
 have HA0_6:=Lib.hid ((HA0.out).fut hdr)
 clear HA0
 clear HF0 HO0 hdr
 generalize w.drew.drewN k6=Wd6 at*
 go_wp2_with fail
 refine(cntE_any n (by omega) Wd6).mono ?_
 rintro e W7 ⟨vz7,rfl,ho,hb⟩
 replace ho:Own8 W7 Wd6.heap.size vz7 (cntB n):=ho
 obtain⟨pz7,nz7,cz7,rfl,hn7,hnc7,hcm7,hr7⟩:=ho.open
 have HR7:=Lib.hid hr7
 have HF7:=Lib.hid (HFd6.out.fut hb)
 have HO7:=Lib.hid (HOd6.out.fut hb)
 have HA0_7:=Lib.hid ((HA0_6.out).fut hb)
 clear HA0_6
 clear HFd6 HOd6 ho hb hr7
 go_wp2_with fail
 refine Q2z (And.intro HF7.out ?_)
 refine Qbz rfl fun k8=>?_
 have hdr:Below W7.heap.size W7 (W7.drewN k8):=Q0z W7 k8
 have HFd8:=Lib.hid (HF7.out.fut hdr)
 have HOd8:=Lib.hid (HO7.out.fut hdr)
 have HA0_8:=Lib.hid ((HA0_7.out).fut hdr)
 clear HA0_7
 have HR7_8:=Lib.hid ((HR7.out).fut hdr)
 clear HR7
 clear HF7 HO7 hdr
 generalize W7.drewN k8=Wd8 at*
 refine Qaz (o:=⟨some 17,_,_,_,_,_⟩) rfl (.tmp 12) (.tmp 16) rfl (g+1) _ _ rfl HOd8.out pz7 nz7 cz7 (cntB n) rfl hn7.out (HR7_8.out) (by have:=HL.out;have:=HCL.out;omega) HFd8.out.size (g+1) Wd8 (Below.refl _ _) (Nat.le_refl _) ?_
 intro vz9 W9 ho _ hg hk
 have HF9:=Lib.hid (HFd8.out.app HOd8.out hg)
 obtain⟨qz9,mz9,dz9,rfl,_⟩:=ho.open
 have HO9:=Lib.hid ho
 have HA0_9:=Lib.hid ((HA0_8.out).app hg hk)
 clear HA0_8
 clear HFd8 HOd8 ho hg hk
 go_wp2_with fail
 refine Q2z (And.intro HF9.out ?_)
 refine' Q9z (s:=38) (A1:=_) (r:=[]) [10,11] [_,_] _ rfl rfl rfl (fun W hW=>?hqd) _ HF9.out (fun _=>?hrd)
 case hqd=>
  simp only[List.getElem_toArray,List.getElem_cons_zero,List.getElem_cons_succ]
  iterate 2 (go_big_quiet_step (fail))
  refine wpQuiet_nil ?_
  rfl
 case hrd=>
 refine Qnz fun k10=>HeadQ.normal ?_
 have hdr:=Q0z W9 k10
 have HFz10:=Lib.hid (HF9.out.fut hdr)
 have HOz10:=Lib.hid (HO9.out.fut hdr)
 have HA0_10:=Lib.hid ((HA0_9.out).fut hdr)
 clear HA0_9
 clear HF9 HO9 hdr
 generalize W9.drewN k10=Wz10 at*
 have fz10:=HFz10.out.blk.frozen 0
 have ez10:=HFz10.out.blk.cell 0
 simp only[List.getElem?_toArray,List.getElem?_cons_zero]at ez10
 have HWS:=Lib.hid (WrM.put HFz10.out.blk HOz10.out)
 have HBS:=Lib.hid (HFz10.out.bel.trans (Xhz g Wz10 (Value.slice qz9 mz9 dz9)))
 go_upto_region 2 with fail
 obtain⟨W2,hW2⟩:∃W2,W2=Wz10.setCell ⟨g,0,none⟩ (Value.slice qz9 mz9 dz9):=⟨_,rfl⟩
 have HA2:Hid (Ahead g W2 pa a (Value.slice qz9 mz9 dz9)):=Lib.hid (by rw[hW2];exact(HA0_10.out).poke _)
 rw[←hW2]at HWS HBS ⊢
 clear hW2 HA0_10 fz10 ez10 HFz10 HOz10 hiv c0
 have HI0:Hid (∃v,WrM g W2 v (ys++cntB n++preL (fun h=>a++h) l 0)∧Ahead g W2 pa a v):=Lib.hid ⟨_,by rw[show preL (fun h=>a++h) l 0=[]from rfl,List.append_nil];exact HWS.out,HA2.out⟩
 clear HWS HA2
 have hz:=zHash
 go_loopw[22] (fun i wr=>∃k:Nat,k≤n∧i= .int .i64 k∧Hid (∃v,WrM g wr v (ys++cntB n++preL (fun h=>a++h) l k)∧Ahead g wr pa a v)∧Hid (Below g w0 wr)) (fun i _=>n-(intOf i).toNat)
 case atStart=>exact⟨0,by omega,rfl,HI0,HBS⟩
 case round=>
  obtain⟨k,hk,rfl,HWk,HBk⟩:=hrel
  clear HI0 HBS
  by_cases hkm:k<n
  ·have hlt:(k:Int)<(n:Int):=by omega
   obtain⟨b,off,cs2,x,rfl,hx,hE,l2⟩:=HEE.out.at (HBW.out.trans HBk.out |>.mono hg1) hkm
   obtain⟨rfl,hx32⟩:=hE
   have HX:=Lib.hid hx
   have HX32:=Lib.hid hx32
   have hbr:=Q1z wr (.cells (Q5z (nulls 32)).toArray 32)
   have HZ32:Hid ((Q5z (nulls 32)).toArray.size=32):=Lib.hid rfl
   obtain⟨YH,hYH⟩:∃Y,Y=(Q5z (nulls 32)).toArray:=⟨_,rfl⟩
   rw[←hYH]at hz hbr HZ32
   clear hx hx32 hYH
   go_upto_region 4 with(first
    |(with_reducible refine wpList_load_mid (op:=⟨some 25,_,_,_,_,_⟩) ?_ 32 (.tmp 24) ?_ (b) (off+k*32) ?_ ((Q5z (x))) _ (l2) Tryz.underlying32 ?_ ?_ ?_
      ·rfl
      ·rfl
      ·rfl
      ·rfl
      ·exact(Quz (HX32.out)))
    |(with_reducible refine Q4z (o:=⟨none,_,_,_,_,_⟩) ?_ 32 (.tmp 7) (.tmp 25) ?_ (wr.heap.size) 32 (YH) ((Q5z (x)).toArray) ?_ ?_ (Blk.new wr _ _) ?_ ?_ ?_ (wr.heap.size) (wr) ?_ ?_ ?_
      ·rfl
      ·rfl
      ·rfl
      ·rfl
      ·exact(Qsz (HX32.out))
      ·exact((HZ32.out).trans (Xsz (HX32.out)).symm)
      ·exact(Qzz _)
      ·exact(hbr)
      ·exact(Nat.le_refl _)
      intro w6 hB6 hb6 hg6 hs6))
   try simp only[Qpz]
   obtain⟨v0,hwk,hak⟩:=HWk.out
   obtain⟨q3,n3,c3,rfl,_⟩:=hwk.own.open
   obtain⟨z,hz6⟩:∃z,z=wr.heap.size:=⟨_,rfl⟩
   have HF0:Hid (WF g w0 (.slice q3 n3 c3) w6):=Lib.hid (WF.fut ⟨hwk.blk,HBk.out⟩ hb6)
   have HO0:Hid (Own8 w6 (g+1) (.slice q3 n3 c3) (ys++cntB n++preL (fun h=>a++h) l k)):=Lib.hid (hwk.own.fut hb6)
   have HA0:Hid (Ahead g w6 pa a (.slice q3 n3 c3)):=Lib.hid (hak.fut hb6)
   have HX6:Hid (Blk w6 z 32 (Q5z x).toArray):=Lib.hid (by rw[hz6];exact hB6.out)
   have HZG:Hid (g<z):=Lib.hid (by rw[hz6];exact hwk.blk.lt)
   rw[←hz6]at ⊢
   have HPL:=Lib.hid (HZL.out k)
   clear hwk hak HWk HBk hb6 hg6 hs6 hB6 hbr hz6 l2
   refine Qdz [qq 0,qq 1,qq 2,qq 3,qq 4,qq 5,qq 7,oo 6,oo 8,qq 9,qq 10] 11 (fun W=>WF g w0 (Value.slice q3 n3 c3) W) (by kernel_rfl) (by kernel_rfl) (HF0.out.fut (Q0z w6 1)) ?_
   refine' Q9z (s:=38) (A1:=_) [0,1,2,3,4,5,7] [_,_,_,_,_,_,_] _ rfl rfl rfl (fun W hW=>?hqe) _ (HF0.out.fut (Q0z w6 1)) (fun _=>?hre)
   case hqe=>
    simp only[List.getElem_toArray,List.getElem_cons_zero,List.getElem_cons_succ]
    have c0:∀k,(W.drewN k).cell? ⟨g,0,none⟩=some (.slice q3 n3 c3):=fun k=>by have:=hW.blk.cell 0;simpa using this
    iterate 7 (go_big_quiet_step (fail))
    refine wpQuiet_nil ?_
    rfl
   case hre=>
   refine Qbz rfl fun k11=>?_
   have hdr:Below w6.heap.size w6 (w6.drew.drewN k11):=Q7z (Below.refl _ _).drew k11
   have HFd11:=Lib.hid (HF0.out.fut hdr)
   have HOd11:=Lib.hid (HO0.out.fut hdr)
   have HA0_11:=Lib.hid ((HA0.out).fut hdr)
   clear HA0
   have HX6_11:=Lib.hid ((HX6.out).fut hdr)
   clear HX6
   clear HF0 HO0 hdr
   generalize w6.drew.drewN k11=Wd11 at*
   refine Qaz (o:=⟨some 32,_,_,_,_,_⟩) rfl (.tmp 30) (.tmp 31) rfl (g+1) _ _ rfl HOd11.out pa na ca (a) rfl HAN.out (HA0_11.out.1) (by rw[List.length_append,List.length_append];have:=HL.out;have:=HCL.out;have:=HPL.out;have:=HA4.out;omega) HFd11.out.size (g+1) Wd11 (Below.refl _ _) (Nat.le_refl _) ?_
   intro vz12 W12 ho _ hg hk
   have HF12:=Lib.hid (HFd11.out.app HOd11.out hg)
   obtain⟨qz12,mz12,dz12,rfl,_⟩:=ho.open
   have HO12:=Lib.hid ho
   have HA0_12:=Lib.hid ((HA0_11.out).app hg hk)
   clear HA0_11
   have HX6_12:=Lib.hid ((HX6_11.out).stays (Stays.of_grown (S:=fun k=>Value.ownBlock _=some k) hg fun k h=>h) (own_apart HOd11.out (HX6_11.out) (by decide)))
   clear HX6_11
   clear HFd11 HOd11 ho hg hk
   go_wp2_with fail
   refine Q2z (And.intro HF12.out ?_)
   refine Qbz rfl fun k13=>?_
   have hdr:Below W12.heap.size W12 (W12.drewN k13):=Q0z W12 k13
   have HFd13:=Lib.hid (HF12.out.fut hdr)
   have HOd13:=Lib.hid (HO12.out.fut hdr)
   have HA0_13:=Lib.hid ((HA0_12.out).fut hdr)
   clear HA0_12
   have HX6_13:=Lib.hid ((HX6_12.out).fut hdr)
   clear HX6_12
   clear HF12 HO12 hdr
   generalize W12.drewN k13=Wd13 at*
   refine Qaz (o:=⟨some 34,_,_,_,_,_⟩) rfl (.tmp 32) (.tmp 33) rfl (g+1) _ _ rfl HOd13.out (some ⟨z,0,none⟩) 32 32 (x) rfl HX32.out (QOz HX6_13.out) (by rw[List.length_append,List.length_append,List.length_append];have:=HL.out;have:=HCL.out;have:=HPL.out;have:=HA4.out;have:=HX32.out;omega) HFd13.out.size (g+1) Wd13 (Below.refl _ _) (Nat.le_refl _) ?_
   intro vz14 W14 ho _ hg hk
   have HF14:=Lib.hid (HFd13.out.app HOd13.out hg)
   obtain⟨qz14,mz14,dz14,rfl,_⟩:=ho.open
   have HO14:=Lib.hid ho
   have HA0_14:=Lib.hid ((HA0_13.out).app hg hk)
   clear HA0_13
   clear HX6_13
   clear HFd13 HOd13 ho hg hk
   go_wp2_with fail
   refine Q2z (And.intro HF14.out ?_)
   refine' Q9z (s:=38) (A1:=_) (r:=[]) [9,10] [_,_] _ rfl rfl rfl (fun W hW=>?hqf) _ HF14.out (fun _=>?hrf)
   case hqf=>
    simp only[List.getElem_toArray,List.getElem_cons_zero,List.getElem_cons_succ]
    iterate 2 (go_big_quiet_step (fail))
    refine wpQuiet_nil ?_
    rfl
   case hrf=>
   refine Qnz fun k15=>HeadQ.normal ?_
   have hdr:=Q0z W14 k15
   have HFz15:=Lib.hid (HF14.out.fut hdr)
   have HOz15:=Lib.hid (HO14.out.fut hdr)
   have HA0_15:=Lib.hid ((HA0_14.out).fut hdr)
   clear HA0_14
   clear HF14 HO14 hdr
   generalize W14.drewN k15=Wz15 at*
   have fz15:=HFz15.out.blk.frozen 0
   have ez15:=HFz15.out.blk.cell 0
   simp only[List.getElem?_toArray,List.getElem?_cons_zero]at ez15
   have HWS:=Lib.hid (WrM.put HFz15.out.blk HOz15.out)
   have HBS:=Lib.hid (HFz15.out.bel.trans (Xhz g Wz15 (Value.slice qz14 mz14 dz14)))
   have HAe:Hid (Ahead g _ pa a _):=Lib.hid (HA0_15.out.poke (Value.slice qz14 mz14 dz14))
   rw[List.append_assoc,List.append_assoc,← preL_succ (fun h=>a++h) l k x HX.out]at HWS
   go_wp2_with fail
   go_roundw
   case rel=>exact⟨k+1,by omega,by go_num,Lib.hid ⟨_,HWS.out,HAe.out⟩,HBS⟩
   case measure=>simp[intOf];omega
  ·obtain rfl:k=n:=by omega
   have hge:¬(k:Int)<(k:Int):=by omega
   go_wp2_with fail
   first|go_end0|refine bodyPost_ret (results_none rfl _ _ _) rfl ?_
   obtain⟨v1,hw1,_⟩:=HWk.out
   exact⟨rfl,_,by rw[←List.append_assoc];exact hw1,HBk.out⟩
end Go.Proofs.YtjbijcjcejfpcaaGreatDoor
