/- A message read as data (a row's argument). -/
import Derived.Test.YtjbijcjcejfpcaaGreatDoorZMsgC
namespace Go.Proofs.YtjbijcjcejfpcaaGreatDoor
set_option linter.unusedVariables false
set_option maxRecDepth 100000
set_option maxHeartbeats 16000000
open Go Go.ChangeShapes Go.WideShapes Go.ChangeAt Go.RowKit
theorem Zpz {cs:List Value} {o s:Nat} {x:List Value} (h:(cs.drop o).take s=x):cs.drop o=x++cs.drop (o+s):=by
 rw[←h,← List.drop_drop,List.take_append_drop]
theorem hash_cellsE {H:Type} {enc:TypeId × Value→H} {W:World} {fuel:Nat} {cs:List Value} {x:DataW H × List MemPlace} (h:DataW.trod enc Tryz.prog W 0 (fun _=>true) true fuel 32 cs=some x):cs.length=32∧∃y,HashE W y cs:=by
 obtain⟨p,hp,ep⟩:=Z8z Tryz.underlying32 Tryz.underlying5 XQz XSz h
 refine⟨by rw[ep];simp[hp],p,ep,hp⟩
theorem hdr_cellsE {H:Type} {enc:TypeId × Value→H} {W:World} {fuel:Nat} {cs:List Value} {x:DataW H × List MemPlace} (h:DataW.trod enc Tryz.prog W 0 (fun _=>true) true fuel 36 cs=some x):cs.length=68∧∃y,HdrE W y cs:=by
 obtain⟨hd,hk,e⟩:=header_cells h
 exact⟨by rw[e];exact Hdr.cells_len hk,hd,e,hk⟩
theorem msg_cells {H:Type} {enc:TypeId × Value→H} {W:World} {fuel:Nat} {cs:List Value} {x:DataW H × List MemPlace} (h:DataW.trod enc Tryz.prog W 0 (fun _=>true) true fuel 41 cs=some x):cs.length=139∧∃m,MsgC W m cs:=by
 have hl:cs.length=139:=by rw[trod_len Tryz.underlying41 h];kernel_rfl
 obtain⟨n0,y0,h0⟩:=Qgz Tryz.underlying41 h 0 _ rfl 1 (by kernel_rfl)
 obtain⟨n1,y1,h1⟩:=Qgz Tryz.underlying41 h 1 _ rfl 1 (by kernel_rfl)
 obtain⟨n2,y2,h2⟩:=Qgz Tryz.underlying41 h 2 _ rfl 1 (by kernel_rfl)
 obtain⟨n3,y3,h3⟩:=Qgz Tryz.underlying41 h 3 _ rfl 32 (by kernel_rfl)
 obtain⟨n4,y4,h4⟩:=Qgz Tryz.underlying41 h 4 _ rfl 32 (by kernel_rfl)
 obtain⟨n5,y5,h5⟩:=Qgz Tryz.underlying41 h 5 _ rfl 1 (by kernel_rfl)
 obtain⟨n6,y6,h6⟩:=Qgz Tryz.underlying41 h 6 _ rfl 1 (by kernel_rfl)
 obtain⟨n7,y7,h7⟩:=Qgz Tryz.underlying41 h 7 _ rfl 1 (by kernel_rfl)
 obtain⟨n8,y8,h8⟩:=Qgz Tryz.underlying41 h 8 _ rfl 69 (by kernel_rfl)
 obtain⟨k,e0,_,w0⟩:=DataW.trod_int Tryz.underlying3 h0
 obtain⟨i1,e1,_,w1⟩:=DataW.trod_int Tryz.underlying30 h1
 obtain⟨i2,e2,_,w2⟩:=DataW.trod_int Tryz.underlying25 h2
 obtain⟨pv,hpv,e3⟩:=Z8z Tryz.underlying32 Tryz.underlying5 XQz XSz h3
 obtain⟨st,hst,e4⟩:=Z8z Tryz.underlying32 Tryz.underlying5 XQz XSz h4
 obtain⟨a5,l5,c5,e5⟩:=XLz Tryz.underlying33 h5
 obtain⟨a6,l6,c6,e6⟩:=XLz Tryz.underlying34 h6
 obtain⟨bv,bs,e7,hb⟩:=bytes_cell h7
 obtain⟨_,bl,hbl⟩:=blk_cells h8
 obtain⟨nu,rfl⟩:=of32 i1 w1
 obtain⟨no,rfl⟩:=of64 i2 w2
 have f5:(cs.drop 67).take 1=[.slice a5 l5 c5]:=e5
 have f6:(cs.drop 68).take 1=[.slice a6 l6 c6]:=e6
 have h5':DataW.trod enc Tryz.prog W 0 (fun _=>true) true n5 33 ((cs.drop 67).take 1)=some y5:=h5
 have h6':DataW.trod enc Tryz.prog W 0 (fun _=>true) true n6 34 ((cs.drop 68).take 1)=some y6:=h6
 rw[f5]at h5'
 rw[f6]at h6'
 obtain⟨hs,hhs⟩:=XOz (enc:=enc) (W:=W) (d0:=y5.1) (p:=y5.2) HashE (by omega) Tryz.underlying33 (by kernel_rfl) (fun fuel cs x h=>hash_cellsE h) ⟨n5,h5'⟩
 obtain⟨hd,hhd⟩:=XOz (enc:=enc) (W:=W) (d0:=y6.1) (p:=y6.2) HdrE (by omega) Tryz.underlying34 (by kernel_rfl) (fun fuel cs x h=>hdr_cellsE h) ⟨n6,h6'⟩
 have f0:(cs.drop 0).take 1=[.int .i64 k]:=e0
 have f1:(cs.drop 1).take 1=[u32 nu]:=e1
 have f2:(cs.drop 2).take 1=[u64 no]:=e2
 have f3:(cs.drop 3).take 32=Q5z pv:=e3
 have f4:(cs.drop 35).take 32=Q5z st:=e4
 have f7:(cs.drop 69).take 1=[bv]:=e7
 have f8:(cs.drop 70).take 69=cs.drop 70:=List.take_of_length_le (by rw[List.length_drop];omega)
 have hbl':BlkC W bl ((cs.drop 70).take 69):=hbl
 rw[f8]at hbl'
 refine⟨hl,⟨k,nu,no,pv,st,hs,hd,bs,bl⟩,_,_,bv,cs.drop 70,?_,hpv,hst,hhs,hhd,hb,hbl'⟩
 have g0:cs=[.int .i64 k]++cs.drop 1:=Zpz (o:=0) f0
 have g1:cs.drop 1=[u32 nu]++cs.drop 2:=Zpz f1
 have g2:cs.drop 2=[u64 no]++cs.drop 3:=Zpz f2
 have g3:cs.drop 3=Q5z pv++cs.drop 35:=Zpz f3
 have g4:cs.drop 35=Q5z st++cs.drop 67:=Zpz f4
 have g5:cs.drop 67=[.slice a5 l5 c5]++cs.drop 68:=Zpz f5
 have g6:cs.drop 68=[.slice a6 l6 c6]++cs.drop 69:=Zpz f6
 have g7:cs.drop 69=[bv]++cs.drop 70:=Zpz f7
 refine g0.trans ?_
 rw[g1,g2,g3,g4,g5,g6,g7]
 unfold Q8z
 simp
end Go.Proofs.YtjbijcjcejfpcaaGreatDoor
