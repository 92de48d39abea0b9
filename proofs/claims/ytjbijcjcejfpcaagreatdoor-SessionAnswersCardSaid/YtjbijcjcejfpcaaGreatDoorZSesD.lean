/- A session is fed frames of the greeting and pings: what the document says; the w -/
import Derived.Test.YtjbijcjcejfpcaaGreatDoorZSesC
namespace Go.Proofs.YtjbijcjcejfpcaaGreatDoor
set_option linter.unusedVariables false
set_option maxRecDepth 100000
set_option maxHeartbeats 16000000
open Go Go.RowKit
structure Gr where
 ve:Bool
 ak:Bool
def Gr.n (x:Gr):Int:=(if x.ve then 1 else 0)+(if x.ak then 1 else 0)
inductive Ev where
 |ver (nu:BitVec 32) (no:BitVec 64)
 |ack
 |ping (no:BitVec 64)
def Ev.m:Ev→TMsg
 | .ver nu no=>tK 1 nu no
 | .ack=>tK 2 0#32 0#64
 | .ping no=>tK 3 0#32 no
def Ev.f (e:Ev):Bs × Bs:=(cmdB e.m.k,(payP e.m).1)
theorem Ev.pay (e:Ev):(payP e.m).2=0:=by cases e<;>rfl
theorem tK_ok (k:Int) (nu:BitVec 32) (no:BitVec 64):okMsg (tK k nu no):=⟨Q6z,Q6z,(fun x hx=>by cases hx),(fun x hx=>by cases hx),QGz,(fun x hx=>by cases hx)⟩
theorem Ev.norm (e:Ev):normP e.m=e.m:=by cases e<;>rfl
theorem Ev.dec (e:Ev):XPz e.f.1 e.f.2=(e.m,true,0):=by
 have h:=dec_back e.m (by cases e<;>exact tK_ok _ _ _) e.pay
 rw[e.norm]at h
 exact h
theorem Ev.kind (e:Ev):kindP e.f.1=e.m.k.toNat:=(cmd_back e.m e.pay).1
theorem Ev.len (e:Ev):e.f.2.length≤85:=by
 cases e with
 |ver nu no=>show(le32 nu++(nulls 68++(low no 8++nulls 5))).length≤85;simp[Qez,le32,nulls]
 |ack=>show([]:Bs).length≤85;decide
 |ping no=>show(low no 8).length≤85;rw[Qez];omega
def dec1 (f:Bs × Bs):TMsg:=(XPz f.1 f.2).1
def runS (x:Gr):Frms→Option (Gr × Bs)
 | []=>some (x,[])
 |f ::fs=>
  if kindP f.1=1 then(if x.ve then none else(runS ⟨true,x.ak⟩ fs).map fun r=>(r.1,QHz 2 0#64++r.2))
  else if kindP f.1=2 then(if x.ak then none else runS ⟨x.ve,true⟩ fs)
  else(runS x fs).map fun r=>(r.1,QHz 4 (dec1 f).no++r.2)
def okS (x:Gr):Frms→Prop
 | []=>True
 |f ::fs=>∃ev:Ev,f=ev.f∧match ev with
  | .ver _ _=>x.ve=false→okS ⟨true,x.ak⟩ fs
  | .ack=>x.ak=false→okS ⟨x.ve,true⟩ fs
  | .ping _=>x.ve=true∧x.ak=true∧okS x fs
theorem run_ver (x:Gr) (nu:BitVec 32) (no:BitVec 64) (fs:Frms):runS x ((Ev.ver nu no).f ::fs)=if x.ve then none else(runS ⟨true,x.ak⟩ fs).map fun r=>(r.1,QHz 2 0#64++r.2):=by
 rw[runS,Ev.kind];rfl
theorem run_ack (x:Gr) (fs:Frms):runS x (Ev.ack.f ::fs)=if x.ak then none else runS ⟨x.ve,true⟩ fs:=by
 rw[runS,Ev.kind];rfl
theorem run_ping (x:Gr) (no:BitVec 64) (fs:Frms):runS x ((Ev.ping no).f ::fs)=(runS x fs).map fun r=>(r.1,QHz 4 no++r.2):=by
 rw[runS,Ev.kind]
 unfold dec1
 rw[Ev.dec]
 rfl
theorem bytes_good {m:TMsg} (h:(payP m).2=0) (hl:(payP m).1.length≤200000) (hc:cmdOk (cmdB m.k)=true):QKz m=(X2z (cmdB m.k) (payP m).1,0):=by
 unfold QKz
 rw[msgP_ok m h,if_pos rfl]
 unfold frmP
 rw[if_pos hc,if_neg (by show ¬200000<(payP m).1.length;omega)]
theorem short2:QHz 2 0#64=X2z (cmdB 2) []:=by
 unfold QHz
 rw[bytes_good rfl (Nat.zero_le _) (by decide)]
 rfl
theorem short4 (no:BitVec 64):QHz 4 no=X2z (cmdB 4) (low no 8):=by
 have hp:(payP (tK 4 0#32 no))=(low no 8,0):=rfl
 unfold QHz
 rw[bytes_good (by rw[hp]) (by rw[hp];show(low no 8).length≤200000;rw[Qez];omega) (show cmdOk (cmdB 4)=true by decide),hp]
theorem short2_len:(QHz 2 0#64).length=24:=by rw[short2,frmOut_len _ (by decide)];rfl
theorem short4_len (no:BitVec 64):(QHz 4 no).length=32:=by rw[short4,frmOut_len _ (by decide),Qez]
def FeedQ (B:Nat) (vin:Value) (w:World) (g rv:Nat) (no:BitVec 64) (dn:Int) (y:Frms × Bs × Int) (o:Option (Gr × Bs)) (e:Ending) (w':World):Prop:=
 Below B w w'∧Stays (fun k=>k=g∨k=rv∨vin.ownBlock=some k) w w'∧match o with
 |none=>e= .returned (.tuple #[.slice none 0 0,.slice none 0 0,.int .i64 201])∧∃hl ve ak,SesB w' g no rv dn hl 1 ve ak none
 |some (x,ob)=>∃u v,e= .returned (.tuple #[.slice none 0 0,u,.int .i64 0])∧Own8 w' B u ob∧SesB w' g no rv dn x.n 0 x.ve x.ak none∧Rd w' rv v y.2.2∧Sfx8 w' B v y.2.1
theorem ses_apart {w:World} {B g rv:Nat} {v:Value} {s:Bs} {er:Int} {no:BitVec 64} {dn hl bd:Int} {ve ak:Bool} {aq:Option Addr} (h:SesB w g no rv dn hl bd ve ak aq) (hR:Rd w rv v er) (hv:Sfx8 w B v s):¬(g=rv∨v.ownBlock=some g):=by
 rintro(e|e)
 ·subst e
  exact absurd (Blk.inj h hR).1 (by decide)
 ·exact hv.apart h (by decide) e
end Go.Proofs.YtjbijcjcejfpcaaGreatDoor
