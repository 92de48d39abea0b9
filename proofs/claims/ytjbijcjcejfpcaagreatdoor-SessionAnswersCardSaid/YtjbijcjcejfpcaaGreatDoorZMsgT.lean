/- message.too: the walk. -/
import Derived.Test.YtjbijcjcejfpcaaGreatDoorZMsgC
import Derived.Test.YtjbijcjcejfpcaaGreatDoorZMsgW
namespace Go.Proofs.YtjbijcjcejfpcaaGreatDoor
set_option linter.unusedVariables false
set_option maxRecDepth 100000
set_option maxHeartbeats 16000000
open Go Go.RowKit
def mostP (m:TMsg):Nat:=if m.k=5 then 101 else if m.k=8 then 2000 else if m.k=11∨m.k=13 then 1000 else m.hs.length
def tooB (m:TMsg):Bool:=decide (mostP m<m.hs.length)||(decide (m.k=6)&&decide (100<m.hd.length)||decide (m.k=10)&&decide (199950<m.tx.length))
theorem pay_bad (m:TMsg) (h:cmdB m.k=[]∨tooB m=true):payP m=([],1):=by
 have ht:(m.k=1∨m.k=2∨m.k=3∨m.k=4∨m.k=5∨m.k=6∨m.k=7∨m.k=8∨m.k=9∨m.k=10∨m.k=11∨m.k=12∨m.k=13)∨¬(1≤m.k∧m.k≤13):=by omega
 rcases ht with ht|ht
 ·obtain⟨k,nu,no,pv,st,hs,hd,tx,bl⟩:=m
  unfold tooB mostP at h
  simp only at h ht
  unfold payP
  simp only
  rcases ht with rfl|rfl|rfl|rfl|rfl|rfl|rfl|rfl|rfl|rfl|rfl|rfl|rfl<;>rcases h with h|h<;>simp[cmdB,cmdN]at h ⊢<;>omega
 ·unfold payP
  repeat rw[if_neg (by omega)]
theorem too_any (m:TMsg) (cs:List Value) (w:World) (hc:MsgC w m cs):Calls Tryz.prog 57 #[.agg cs.toArray] w fun e w'=>e= .returned (.bool (tooB m))∧Below w.heap.size w w':=by
 obtain⟨T,hT⟩:∃T,T=tooB m:=⟨_,rfl⟩
 rw[←hT]
 have HT:Hid (T=(decide (mostP m<m.hs.length)||(decide (m.k=6)&&decide (100<m.hd.length)||decide (m.k=10)&&decide (199950<m.tx.length)))):=Lib.hid hT
 have hlen:=hc.len
 obtain⟨hv,dv,bv,bc,hcs,hpv,hst,hh,hd,hb,hbl⟩:=hc
 obtain⟨p1,n1,c1,rfl⟩:=hh.opens
 obtain⟨p2,n2,c2,rfl⟩:=hd.opens
 obtain⟨p3,n3,c3,rfl⟩:=hb.opens
 obtain⟨e1,_,_⟩:=hh.slen
 obtain⟨e2,_,_⟩:=hd.slen
 obtain⟨e3,_,_⟩:=hb.slen
 have hB:=Blk.new w 41 cs.toArray
 rw[hcs]at hB
 have ha:=Blk.msg hB hpv hst
 rw[←hcs]at ha
 have hb1:=Q1z w (.cells cs.toArray 41)
 obtain⟨g,hg⟩:∃g,g=w.heap.size:=⟨_,rfl⟩
 rw[←hg]at ha
 have hMost:Hid (mostP m=if m.k=5 then 101 else if m.k=8 then 2000 else if m.k=11∨m.k=13 then 1000 else n1):=Lib.hid (by unfold mostP;rw[e1])
 rw[e1,e2,e3]at HT
 obtain⟨k,hk⟩:∃k,k=m.k:=⟨_,rfl⟩
 rw[←hk]at HT hMost ha
 obtain⟨W,hW⟩:∃W,W=w.alloc (.cells cs.toArray 41):=⟨_,rfl⟩
 rw[←hW]at ha hb1
 obtain⟨k0,_,_,_,_,k67,k68,k69,_⟩:=ha
 have HB1:=Lib.hid hb1
 clear hT hcs hpv hst hh hd hb hbl e1 e2 e3 hB hb1 hk hlen
 go_enter Tryz.func57,Tryz.ntmps57
 go_upto_region 1 with fail
 rw[←hW,← hg]
 clear hW hg
 by_cases h5:k=5
 ·subst h5
  by_cases hh:101<n1
  ·have hi:(101:Int)<(n1:Int):=by omega
   have HE:Hid (T=true):=Lib.hid (by rw[HT.out,hMost.out];simp<;>omega)
   go_wp2_with fail
   go_ret
   exact⟨by rw[HE.out];rfl,HB1.out⟩
  ·have hi:¬(101:Int)<(n1:Int):=by omega
   have HE:Hid (T=false):=Lib.hid (by rw[HT.out,hMost.out];simp<;>omega)
   go_wp2_with fail
   go_ret
   exact⟨by rw[HE.out];rfl,HB1.out⟩
 have f5:(k==5)=false:=by rw[beq_eq_false_iff_ne];exact h5
 by_cases h8:k=8
 ·subst h8
  by_cases hh:2000<n1
  ·have hi:(2000:Int)<(n1:Int):=by omega
   have HE:Hid (T=true):=Lib.hid (by rw[HT.out,hMost.out];simp<;>omega)
   go_wp2_with fail
   go_ret
   exact⟨by rw[HE.out];rfl,HB1.out⟩
  ·have hi:¬(2000:Int)<(n1:Int):=by omega
   have HE:Hid (T=false):=Lib.hid (by rw[HT.out,hMost.out];simp<;>omega)
   go_wp2_with fail
   go_ret
   exact⟨by rw[HE.out];rfl,HB1.out⟩
 have f8:(k==8)=false:=by rw[beq_eq_false_iff_ne];exact h8
 by_cases h11:k=11
 ·subst h11
  by_cases hh:1000<n1
  ·have hi:(1000:Int)<(n1:Int):=by omega
   have HE:Hid (T=true):=Lib.hid (by rw[HT.out,hMost.out];simp<;>omega)
   go_wp2_with fail
   go_ret
   exact⟨by rw[HE.out];rfl,HB1.out⟩
  ·have hi:¬(1000:Int)<(n1:Int):=by omega
   have HE:Hid (T=false):=Lib.hid (by rw[HT.out,hMost.out];simp<;>omega)
   go_wp2_with fail
   go_ret
   exact⟨by rw[HE.out];rfl,HB1.out⟩
 have f11:(k==11)=false:=by rw[beq_eq_false_iff_ne];exact h11
 by_cases h13:k=13
 ·subst h13
  by_cases hh:1000<n1
  ·have hi:(1000:Int)<(n1:Int):=by omega
   have HE:Hid (T=true):=Lib.hid (by rw[HT.out,hMost.out];simp<;>omega)
   go_wp2_with fail
   go_ret
   exact⟨by rw[HE.out];rfl,HB1.out⟩
  ·have hi:¬(1000:Int)<(n1:Int):=by omega
   have HE:Hid (T=false):=Lib.hid (by rw[HT.out,hMost.out];simp<;>omega)
   go_wp2_with fail
   go_ret
   exact⟨by rw[HE.out];rfl,HB1.out⟩
 have f13:(k==13)=false:=by rw[beq_eq_false_iff_ne];exact h13
 by_cases h6:k=6
 ·subst h6
  by_cases hh:100<n2
  ·have hi:(100:Int)<(n2:Int):=by omega
   have hj:¬(n1:Int)<(n1:Int):=by omega
   have HE:Hid (T=true):=Lib.hid (by rw[HT.out,hMost.out];simp<;>omega)
   go_wp2_with fail
   go_ret
   exact⟨by rw[HE.out];rfl,HB1.out⟩
  ·have hi:¬(100:Int)<(n2:Int):=by omega
   have hj:¬(n1:Int)<(n1:Int):=by omega
   have HE:Hid (T=false):=Lib.hid (by rw[HT.out,hMost.out];simp<;>omega)
   go_wp2_with fail
   go_ret
   exact⟨by rw[HE.out];rfl,HB1.out⟩
 have f6:(k==6)=false:=by rw[beq_eq_false_iff_ne];exact h6
 by_cases h10:k=10
 ·subst h10
  by_cases hh:199950<n3
  ·have hi:(199950:Int)<(n3:Int):=by omega
   have hj:¬(n1:Int)<(n1:Int):=by omega
   have HE:Hid (T=true):=Lib.hid (by rw[HT.out,hMost.out];simp<;>omega)
   go_wp2_with fail
   go_ret
   exact⟨by rw[HE.out];rfl,HB1.out⟩
  ·have hi:¬(199950:Int)<(n3:Int):=by omega
   have hj:¬(n1:Int)<(n1:Int):=by omega
   have HE:Hid (T=false):=Lib.hid (by rw[HT.out,hMost.out];simp<;>omega)
   go_wp2_with fail
   go_ret
   exact⟨by rw[HE.out];rfl,HB1.out⟩
 have f10:(k==10)=false:=by rw[beq_eq_false_iff_ne];exact h10
 have hj:¬(n1:Int)<(n1:Int):=by omega
 have HE:Hid (T=false):=Lib.hid (by rw[HT.out,hMost.out,if_neg h5,if_neg h8,if_neg (by omega)];simp<;>omega)
 go_wp2_with fail
 go_ret
 exact⟨by rw[HE.out];rfl,HB1.out⟩
end Go.Proofs.YtjbijcjcejfpcaaGreatDoor
