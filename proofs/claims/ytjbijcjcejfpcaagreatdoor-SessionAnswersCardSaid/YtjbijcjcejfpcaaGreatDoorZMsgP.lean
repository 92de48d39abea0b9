/- Messages, plain: their payloads, and what payloads say; there and back. -/
import Derived.Test.YtjbijcjcejfpcaaGreatDoorZGK
import Derived.Test.YtjbijcjcejfpcaaGreatDoorZAppZ
import Derived.Test.YtjbijcjcejfpcaaGreatDoorZMsgA
namespace Go.Proofs.YtjbijcjcejfpcaaGreatDoor
set_option linter.unusedVariables false
set_option maxRecDepth 100000
set_option maxHeartbeats 16000000
open Go Go.RowKit
structure TMsg where
 k:Int
 nu:BitVec 32
 no:BitVec 64
 pv:Bs
 st:Bs
 hs:List Bs
 hd:List Hdr
 tx:Bs
 bl:TBlk
def noHash:Bs:=List.replicate 32 0#8
def noMsg:TMsg:=⟨0,0#32,0#64,noHash,noHash,[],[],[],noBlk⟩
def hshB (a:Bs) (l:List Bs):Bs:=cntB l.length++(l.map fun h=>a++h).flatten
def hdsB (l:List Hdr):Bs:=cntB l.length++(l.map fun h=>h.bytes++[0#8]).flatten
def wantB:Bs:=[2#8,0#8,0#8,64#8]
def payP (m:TMsg):Bs × Int:=
 if m.k=1 then(le32 m.nu++(nulls 68++(low m.no 8++nulls 5)),0)
 else if m.k=2 then([],0)
 else if m.k=3∨m.k=4 then(low m.no 8,0)
 else if m.k=5 then(if 101<m.hs.length then([],1)else(le32 m.nu++(hshB [] m.hs++m.st),0))
 else if m.k=6 then(if 100<m.hd.length then([],1)else(hdsB m.hd,0))
 else if m.k=7∨m.k=9 then([0#8]++(le32 m.nu++m.st),0)
 else if m.k=8 then(if 2000<m.hs.length then([],1)else([0#8]++(m.st++(m.pv++hshB [] m.hs)),0))
 else if m.k=10 then(if 199950<m.tx.length then([],1)else([0#8]++(m.st++text m.tx),0))
 else if m.k=11∨m.k=13 then(if 1000<m.hs.length then([],1)else(hshB wantB m.hs,0))
 else if m.k=12 then blkP m.bl
 else([],1)
def msgP (m:TMsg):Bs × Bs × Int:=if(payP m).2=0 then(cmdB m.k,(payP m).1,0)else([],[],(payP m).2)
def Xvz (want:Bs):Pz Unit:=fun s=>if s.length<want.length then .error 50 else if s.take want.length=want then .ok ((),s.drop want.length)else .error 51
def textM (most:Nat):Pz Bs:=(cntZ most).bind takeZ
def oneZ:Pz Unit:=fun s=>.ok ((),s.drop 1)
def hshZ (most:Nat) (a:Bs):Pz (List Bs):=X1z most ((Xvz a).bind fun _=>takeZ 32)
def hdrT:Pz Hdr:=(takeZ 80).bind fun b=>(Xvz [0#8]).bind fun _=>Pz.ret (hdrOf b)
def hdsZ:Pz (List Hdr):=X1z 100 hdrT
def bodyBlk:Pz TBlk:=fun s=>if(Xtz s).2=0 then .ok ((Xtz s).1,[])else .error (Xtz s).2
def QCz (k:Nat):Pz TMsg:=
 if k=1 then(numZ 4).bind fun nu=>(takeZ 68).bind fun _=>(numZ 8).bind fun no=>(textM 256).bind fun _=>(takeZ 4).bind fun _=>oneZ.bind fun _=>Pz.ret { noMsg with k:=k,nu:=nu.setWidth 32,no:=no }
 else if k=3∨k=4 then(numZ 8).bind fun no=>Pz.ret { noMsg with k:=k,no:=no }
 else if k=5 then(numZ 4).bind fun nu=>(hshZ 101 []).bind fun hs=>(takeZ 32).bind fun st=>Pz.ret { noMsg with k:=k,nu:=nu.setWidth 32,hs:=hs,st:=st }
 else if k=6 then hdsZ.bind fun hd=>Pz.ret { noMsg with k:=k,hd:=hd }
 else if k=7∨k=9 then(Xvz [0#8]).bind fun _=>(numZ 4).bind fun nu=>(takeZ 32).bind fun st=>Pz.ret { noMsg with k:=k,nu:=nu.setWidth 32,st:=st }
 else if k=8 then(Xvz [0#8]).bind fun _=>(takeZ 32).bind fun st=>(takeZ 32).bind fun pv=>(hshZ 2000 []).bind fun hs=>Pz.ret { noMsg with k:=k,st:=st,pv:=pv,hs:=hs }
 else if k=10 then(Xvz [0#8]).bind fun _=>(takeZ 32).bind fun st=>(textM 199950).bind fun tx=>Pz.ret { noMsg with k:=k,st:=st,tx:=tx }
 else if k=11∨k=13 then(hshZ 1000 wantB).bind fun hs=>Pz.ret { noMsg with k:=k,hs:=hs }
 else if k=12 then bodyBlk.bind fun b=>Pz.ret { noMsg with k:=k,bl:=b }
 else Pz.ret { noMsg with k:=k }
def endM (x:Except Int (TMsg × Bs)):TMsg × Bool × Int:=match x with
 | .error e=>(noMsg,true,e)
 | .ok (m,r)=>if r=[]then(m,true,0)else(noMsg,true,70)
def XPz (cmd s:Bs):TMsg × Bool × Int:=if kindP cmd=0 then(noMsg,false,0)else endM (QCz (kindP cmd) s)
theorem XNz (a:Bs):Reads (Xvz a) () a:=fun r=>by
 unfold Xvz
 rw[if_neg (by rw[List.length_append];omega),List.take_left,if_pos rfl,List.drop_left]
theorem reads_textM (b:Bs) (most:Nat) (h:b.length≤most) (hm:most<18446744073709551616):Reads (textM most) b (text b):=(reads_cnt b.length most h hm).bind (reads_take b)
theorem reads_hsh (most:Nat) (a:Bs) (l:List Bs) (hl:l.length≤most) (hm:most<18446744073709551616) (h32:∀x∈l,x.length=32):Reads (hshZ most a) l (hshB a l):=
 reads_parts _ (fun h=>a++h) l most hl hm fun x hx=>(XNz a).bind (QPz x 32 (h32 x hx))
theorem reads_hdr80 (h:Hdr) (hk:h.ok):Reads hdrT h (h.bytes++[0#8]):=by
 refine(QPz h.bytes 80 (Hdr.bytes_len hk)).bind (Reads.last (XNz [0#8]) ?_)
 have h1:=reads_hdr h hk []
 unfold hdrZ at h1
 rw[List.append_nil,if_neg (by rw[Hdr.bytes_len hk];omega)]at h1
 injection h1 with h1
 injection h1 with h1
 rw[h1]
 exact Reads.ret _
theorem reads_hds (l:List Hdr) (hl:l.length≤100) (hk:∀x∈l,Hdr.ok x):Reads hdsZ l (hdsB l):=
 reads_parts _ (fun h:Hdr=>h.bytes++[0#8]) l 100 hl (by omega) fun x hx=>reads_hdr80 x (hk x hx)
theorem reads_num8 (n:BitVec 64):Reads (numZ 8) n (low n 8):=reads_num n 8 (by omega) (by have:=n.isLt;simpa using this)
def okMsg (m:TMsg):Prop:=m.pv.length=32∧m.st.length=32∧(∀x∈m.hs,x.length=32)∧(∀x∈m.hd,Hdr.ok x)∧m.bl.h.ok∧∀t∈m.bl.ts,okTx t
def normP (m:TMsg):TMsg:=
 if m.k=1 then { noMsg with k:=m.k,nu:=m.nu,no:=m.no }
 else if m.k=3∨m.k=4 then { noMsg with k:=m.k,no:=m.no }
 else if m.k=5 then { noMsg with k:=m.k,nu:=m.nu,hs:=m.hs,st:=m.st }
 else if m.k=6 then { noMsg with k:=m.k,hd:=m.hd }
 else if m.k=7∨m.k=9 then { noMsg with k:=m.k,nu:=m.nu,st:=m.st }
 else if m.k=8 then { noMsg with k:=m.k,st:=m.st,pv:=m.pv,hs:=m.hs }
 else if m.k=10 then { noMsg with k:=m.k,st:=m.st,tx:=m.tx }
 else if m.k=11∨m.k=13 then { noMsg with k:=m.k,hs:=m.hs }
 else if m.k=12 then { noMsg with k:=m.k,bl:=m.bl }
 else { noMsg with k:=m.k }
theorem kind_le {m:TMsg} (h:(payP m).2=0):1≤m.k∧m.k≤13:=by
 unfold payP at h
 by_cases hk:1≤m.k∧m.k≤13
 ·exact hk
 ·repeat rw[if_neg (by omega)]at h
  cases h
theorem pz_end {α:Type} {p:Pz α} {x:α} {b:Bs} (h:Reads p x b):p b= .ok (x,[]):=by
 have:=h []
 rwa [List.append_nil]at this
theorem version_back (nu:BitVec 32) (no:BitVec 64):QCz 1 (le32 nu++(nulls 68++(low no 8++nulls 5)))= .ok ({ noMsg with k:=1,nu:=nu,no:=no },[]):=by
 unfold QCz
 rw[if_pos rfl,Pz.bind_ok (Xyz nu _),Pz.bind_ok (QPz (nulls 68) 68 rfl _),Pz.bind_ok (reads_num8 no _)]
 have h4:=reads_textM [] 256 (by simp) (by omega) (nulls 4)
 have e4:text []++nulls 4=nulls 5:=by decide
 rw[e4]at h4
 have h5:takeZ 4 (nulls 4)= .ok (nulls 4,[]):=rfl
 rw[Pz.bind_ok h4,Pz.bind_ok h5,Pz.bind_ok (show oneZ []= .ok ((),[])from rfl),Zjz]
 rfl
theorem fz5:QCz 5=(numZ 4).bind fun nu=>(hshZ 101 []).bind fun hs=>(takeZ 32).bind fun st=>Pz.ret { noMsg with k:=5,nu:=nu.setWidth 32,hs:=hs,st:=st }:=rfl
theorem fz6:QCz 6=hdsZ.bind fun hd=>Pz.ret { noMsg with k:=6,hd:=hd }:=rfl
theorem fz7:QCz 7=(Xvz [0#8]).bind fun _=>(numZ 4).bind fun nu=>(takeZ 32).bind fun st=>Pz.ret { noMsg with k:=7,nu:=nu.setWidth 32,st:=st }:=rfl
theorem fz8:QCz 8=(Xvz [0#8]).bind fun _=>(takeZ 32).bind fun st=>(takeZ 32).bind fun pv=>(hshZ 2000 []).bind fun hs=>Pz.ret { noMsg with k:=8,st:=st,pv:=pv,hs:=hs }:=rfl
theorem fz9:QCz 9=(Xvz [0#8]).bind fun _=>(numZ 4).bind fun nu=>(takeZ 32).bind fun st=>Pz.ret { noMsg with k:=9,nu:=nu.setWidth 32,st:=st }:=rfl
theorem fz10:QCz 10=(Xvz [0#8]).bind fun _=>(takeZ 32).bind fun st=>(textM 199950).bind fun tx=>Pz.ret { noMsg with k:=10,st:=st,tx:=tx }:=rfl
theorem fz11:QCz 11=(hshZ 1000 wantB).bind fun hs=>Pz.ret { noMsg with k:=11,hs:=hs }:=rfl
theorem fz12:QCz 12=bodyBlk.bind fun b=>Pz.ret { noMsg with k:=12,bl:=b }:=rfl
theorem fz13:QCz 13=(hshZ 1000 wantB).bind fun hs=>Pz.ret { noMsg with k:=13,hs:=hs }:=rfl
theorem fields_back (m:TMsg) (hk:okMsg m) (h:(payP m).2=0):QCz m.k.toNat (payP m).1= .ok (normP m,[]):=by
 obtain⟨h1,h13⟩:=kind_le h
 obtain⟨hpv,hst,hhs,hhd,hbh,hbt⟩:=hk
 obtain⟨k,nu,no,pv,st,hs,hd,tx,bl⟩:=m
 simp only at h1 h13 hpv hst hhs hhd hbh hbt ⊢
 have:k=1∨k=2∨k=3∨k=4∨k=5∨k=6∨k=7∨k=8∨k=9∨k=10∨k=11∨k=12∨k=13:=by omega
 rcases this with rfl|rfl|rfl|rfl|rfl|rfl|rfl|rfl|rfl|rfl|rfl|rfl|rfl
 ·exact version_back nu no
 ·rfl
 ·exact pz_end (Reads.last (reads_num8 no) (Reads.ret _))
 ·exact pz_end (Reads.last (reads_num8 no) (Reads.ret _))
 ·have e:payP ⟨5,nu,no,pv,st,hs,hd,tx,bl⟩=if 101<hs.length then([],1)else(le32 nu++(hshB [] hs++st),0):=rfl
  rw[e]at h ⊢
  by_cases hl:101<hs.length
  ·rw[if_pos hl]at h;cases h
  ·rw[if_neg hl]
   rw[show Int.toNat 5=5 from rfl,fz5]
   refine pz_end ((Xyz nu).bind ((reads_hsh 101 [] hs (by omega) (by omega) hhs).bind (Reads.last (QPz st 32 hst) ?_)))
   rw[Zjz]
   exact Reads.ret _
 ·have e:payP ⟨6,nu,no,pv,st,hs,hd,tx,bl⟩=if 100<hd.length then([],1)else(hdsB hd,0):=rfl
  rw[e]at h ⊢
  by_cases hl:100<hd.length
  ·rw[if_pos hl]at h;cases h
  ·rw[if_neg hl]
   rw[show Int.toNat 6=6 from rfl,fz6]
   exact pz_end (Reads.last (reads_hds hd (by omega) hhd) (Reads.ret _))
 ·show((Xvz [0#8]).bind fun _=>(numZ 4).bind fun nu=>(takeZ 32).bind fun st=>Pz.ret { noMsg with k:=7,nu:=nu.setWidth 32,st:=st }) ([0#8]++(le32 nu++st))=_
  refine pz_end ((XNz [0#8]).bind ((Xyz nu).bind (Reads.last (QPz st 32 hst) ?_)))
  rw[Zjz]
  exact Reads.ret _
 ·have e:payP ⟨8,nu,no,pv,st,hs,hd,tx,bl⟩=if 2000<hs.length then([],1)else([0#8]++(st++(pv++hshB [] hs)),0):=rfl
  rw[e]at h ⊢
  by_cases hl:2000<hs.length
  ·rw[if_pos hl]at h;cases h
  ·rw[if_neg hl]
   rw[show Int.toNat 8=8 from rfl,fz8]
   exact pz_end ((XNz [0#8]).bind ((QPz st 32 hst).bind ((QPz pv 32 hpv).bind (Reads.last (reads_hsh 2000 [] hs (by omega) (by omega) hhs) (Reads.ret _)))))
 ·show((Xvz [0#8]).bind fun _=>(numZ 4).bind fun nu=>(takeZ 32).bind fun st=>Pz.ret { noMsg with k:=9,nu:=nu.setWidth 32,st:=st }) ([0#8]++(le32 nu++st))=_
  refine pz_end ((XNz [0#8]).bind ((Xyz nu).bind (Reads.last (QPz st 32 hst) ?_)))
  rw[Zjz]
  exact Reads.ret _
 ·have e:payP ⟨10,nu,no,pv,st,hs,hd,tx,bl⟩=if 199950<tx.length then([],1)else([0#8]++(st++text tx),0):=rfl
  rw[e]at h ⊢
  by_cases hl:199950<tx.length
  ·rw[if_pos hl]at h;cases h
  ·rw[if_neg hl]
   rw[show Int.toNat 10=10 from rfl,fz10]
   exact pz_end ((XNz [0#8]).bind ((QPz st 32 hst).bind (Reads.last (reads_textM tx 199950 (by omega) (by omega)) (Reads.ret _))))
 ·have e:payP ⟨11,nu,no,pv,st,hs,hd,tx,bl⟩=if 1000<hs.length then([],1)else(hshB wantB hs,0):=rfl
  rw[e]at h ⊢
  by_cases hl:1000<hs.length
  ·rw[if_pos hl]at h;cases h
  ·rw[if_neg hl]
   rw[show Int.toNat 11=11 from rfl,fz11]
   exact pz_end (Reads.last (reads_hsh 1000 wantB hs (by omega) (by omega) hhs) (Reads.ret _))
 ·have e:payP ⟨12,nu,no,pv,st,hs,hd,tx,bl⟩=blkP bl:=rfl
  rw[e]at h ⊢
  rcases blkP_cases bl with⟨k,hk,e⟩|⟨e,hn,hc,hl⟩
  ·rw[e]at h;exact absurd h hk
  ·rw[e]
   have hd:=blk_dec bl hbh hn hc hbt []
   rw[List.append_nil]at hd
   have hp:Xtz (blkB bl)=(bl,0):=by unfold Xtz endB;rw[if_neg (by omega),hd];rfl
   rw[show Int.toNat 12=12 from rfl,fz12]
   have hb:bodyBlk (blkB bl)= .ok (bl,[]):=by unfold bodyBlk;rw[hp];rfl
   rw[Pz.bind_ok hb]
   rfl
 ·have e:payP ⟨13,nu,no,pv,st,hs,hd,tx,bl⟩=if 1000<hs.length then([],1)else(hshB wantB hs,0):=rfl
  rw[e]at h ⊢
  by_cases hl:1000<hs.length
  ·rw[if_pos hl]at h;cases h
  ·rw[if_neg hl]
   rw[show Int.toNat 13=13 from rfl,fz13]
   exact pz_end (Reads.last (reads_hsh 1000 wantB hs (by omega) (by omega) hhs) (Reads.ret _))
theorem cmd_back (m:TMsg) (h:(payP m).2=0):kindP (cmdB m.k)=m.k.toNat∧m.k.toNat≠0:=by
 obtain⟨h1,h13⟩:=kind_le h
 unfold cmdB
 rw[if_neg (by omega)]
 exact⟨kindP_cmd _ (by omega) (by omega),by omega⟩
theorem dec_back (m:TMsg) (hk:okMsg m) (h:(payP m).2=0):XPz (cmdB m.k) (payP m).1=(normP m,true,0):=by
 obtain⟨e1,e2⟩:=cmd_back m h
 unfold XPz
 rw[e1,if_neg e2,fields_back m hk h]
 rfl
end Go.Proofs.YtjbijcjcejfpcaaGreatDoor
