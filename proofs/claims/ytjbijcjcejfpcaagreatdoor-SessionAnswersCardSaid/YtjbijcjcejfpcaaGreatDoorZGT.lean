/- Transactions, plain: their bytes, and what bytes say. · Reading, plain: parsers  -/
import Derived.Shelf.SlicesQ.Load
import Derived.Test.YtjbijcjcejfpcaaGreatDoorZGH
namespace Go.Proofs.YtjbijcjcejfpcaaGreatDoor
set_option linter.unusedVariables false
set_option maxRecDepth 100000
set_option maxHeartbeats 16000000
section
abbrev Bs:=List (BitVec 8)
structure TIn where
 id:Bs
 ix:BitVec 32
 sc:Bs
 sq:BitVec 32
 wi:List Bs
structure TOut where
 va:BitVec 64
 sc:Bs
structure TTx where
 ve:BitVec 32
 is:List TIn
 os:List TOut
 lo:BitVec 32
def canIn (x:TIn):Bool:= !decide (10000<x.sc.length)&&(!decide (100<x.wi.length)&&x.wi.all fun b=> !decide (10000<b.length))
def canOut (x:TOut):Bool:= !decide (x.va.toInt<0)&& !decide (10000<x.sc.length)
def canTx (t:TTx):Bool:=decide (0<t.is.length)&&(decide (t.is.length≤2000)&&(decide (t.os.length≤2000)&&(t.is.all canIn&&t.os.all canOut)))
def hasWs (l:List TIn):Bool:=l.any fun x=>decide (0<x.wi.length)
def cntB (n:Nat):Bs:=enc (BitVec.ofNat 64 n)
def inB (x:TIn):Bs:=x.id++(le32 x.ix++(text x.sc++le32 x.sq))
def outB (x:TOut):Bs:=low x.va 8++text x.sc
def witB (l:List Bs):Bs:=cntB l.length++(l.map text).flatten
def insB (l:List TIn):Bs:=cntB l.length++(l.map inB).flatten
def outsB (l:List TOut):Bs:=cntB l.length++(l.map outB).flatten
def witsB (l:List TIn):Bs:=(l.map fun x=>witB x.wi).flatten
def txB (t:TTx) (m:Bool):Bs:=le32 t.ve++((if m then[0#8,1#8]else[])++(insB t.is++(outsB t.os++((if m then witsB t.is else[])++le32 t.lo))))
def txP (t:TTx) (wit:Bool):Bs × Int:=if canTx t then(txB t (wit&&hasWs t.is),0)else([],1)
end
section
def Pz (α:Type):=Bs→Except Int (α × Bs)
def Pz.ret {α:Type} (a:α):Pz α:=fun s=>.ok (a,s)
def Pz.fail {α:Type} (e:Int):Pz α:=fun _=>.error e
def Pz.bind {α β:Type} (p:Pz α) (f:α→Pz β):Pz β:=fun s=>match p s with
 | .error e=>.error e
 | .ok (a,r)=>f a r
def takeZ (n:Nat):Pz Bs:=fun s=>if s.length<n then .error 50 else .ok (s.take n,s.drop n)
def numZ (w:Nat):Pz (BitVec 64):=(takeZ w).bind fun b=>Pz.ret (numTo b w)
def cntZ (most:Nat):Pz Nat:=fun s=>if(cutP s).2.2≠0 then .error (cutP s).2.2 else if most<(cutP s).1.toNat then .error 4 else .ok ((cutP s).1.toNat,(cutP s).2.1)
def textZ:Pz Bs:=(cntZ 10000).bind takeZ
def manyZ {α:Type} (p:Pz α):Nat→Pz (List α)
 |0=>Pz.ret []
 |n+1=>p.bind fun a=>(manyZ p n).bind fun l=>Pz.ret (a ::l)
def X1z {α:Type} (most:Nat) (p:Pz α):Pz (List α):=(cntZ most).bind (manyZ p)
def inZ:Pz TIn:=(takeZ 32).bind fun id=>(numZ 4).bind fun ix=>textZ.bind fun sc=>(numZ 4).bind fun sq=>Pz.ret ⟨id,ix.setWidth 32,sc,sq.setWidth 32,[]⟩
def outZ:Pz TOut:=(numZ 8).bind fun v=>if 9223372036854775808≤v.toNat then Pz.fail 51 else textZ.bind fun sc=>Pz.ret ⟨v,sc⟩
def witsZ:List TIn→Pz (List TIn)
 | []=>Pz.ret []
 |x ::xs=>(X1z 100 textZ).bind fun w=>(witsZ xs).bind fun l=>Pz.ret ({ x with wi:=w } ::l)
def insZ:Pz (List TIn):=(cntZ 2000).bind fun n=>if n=0 then Pz.fail 51 else manyZ inZ n
def markZ:Pz Bool:=fun s=>if s[0]? =some 0#8 then(takeZ 2).bind (fun b=>if b[1]? =some 1#8 then Pz.ret true else Pz.fail 51) s else .ok (false,s)
def witZ (m:Bool) (is:List TIn):Pz (List TIn):=if m then(witsZ is).bind fun l=>if hasWs l then Pz.ret l else Pz.fail 51 else Pz.ret is
def bodyZ (ve:BitVec 64) (m:Bool):Pz TTx:=insZ.bind fun is=>(X1z 2000 outZ).bind fun os=>(witZ m is).bind fun is'=>(numZ 4).bind fun lo=>Pz.ret ⟨ve.setWidth 32,is',os,lo.setWidth 32⟩
def txZ:Pz TTx:=(numZ 4).bind fun ve=>markZ.bind (bodyZ ve)
theorem Pz.bind_ok {α β:Type} {p:Pz α} {f:α→Pz β} {s r:Bs} {a:α} (h:p s= .ok (a,r)):p.bind f s=f a r:=by unfold Pz.bind;rw[h]
theorem Pz.bind_err {α β:Type} {p:Pz α} {f:α→Pz β} {s:Bs} {e:Int} (h:p s= .error e):p.bind f s= .error e:=by unfold Pz.bind;rw[h]
theorem Pz.bind_inv {α β:Type} {p:Pz α} {f:α→Pz β} {s r:Bs} {b:β} (h:p.bind f s= .ok (b,r)):∃a r',p s= .ok (a,r')∧f a r'= .ok (b,r):=by
 unfold Pz.bind at h
 cases hp:p s with
 |error e=>rw[hp]at h;cases h
 |ok x=>obtain⟨a,r'⟩:=x;rw[hp]at h;exact⟨a,r',rfl,h⟩
theorem takeZ_ok {n:Nat} {s r b:Bs} (h:takeZ n s= .ok (b,r)):s=b++r∧b.length=n:=by
 unfold takeZ at h
 split at h
 ·cases h
 ·injection h with h
  injection h with h1 h2
  subst h1 h2
  rw[List.take_append_drop,List.length_take]
  exact⟨rfl,by omega⟩
theorem takeZ_app {n:Nat} (b r:Bs) (h:b.length=n):takeZ n (b++r)= .ok (b,r):=by
 unfold takeZ
 rw[if_neg (by rw[List.length_append];omega),List.take_left' h,List.drop_left' h]
theorem takeZ_short {n:Nat} {s:Bs} (h:s.length<n):takeZ n s= .error 50:=by unfold takeZ;rw[if_pos h]
theorem cutP_back (s:Bs) (n:BitVec 64) (r:Bs) (h:cutP s=(n,r,0)):s=enc n++r:=by
 cases s with
 |nil=>unfold cutP at h;cases h
 |cons b t=>
  have hb:b.toNat<256:=b.isLt
  have big:∀(f:BitVec 8) (w:Nat),b=f→Xiz f=w→0<w→w≤8→(∀m:BitVec 64,¬iv64 m<XHz f→m.toNat<2 ^ (8*w)→enc m=f ::low m w)→b ::t=enc n++r:=by
   intro f w hf hw hw0 hw8 henc
   subst hf
   unfold cutP at h
   dsimp only at h
   rw[hw,if_neg (by omega)]at h
   split at h
   ·injection h with _ h;injection h with _ h;cases h
   ·split at h
    ·injection h with _ h;injection h with _ h;cases h
    ·rename_i hl hle
     injection h with e1 h
     injection h with e2 _
     subst e1 e2
     rw[henc _ hle (numTo_lt t w hw8),List.cons_append,low_numTo t w hw8 (by omega),List.take_append_drop]
  by_cases h1:b=253#8
  ·refine big 253#8 2 h1 (by decide) (by omega) (by omega) (fun m hm hl=>?_)
   have:iv64 m=(m.toNat:Int):=rfl
   have h253:XHz 253#8=253:=by decide
   unfold enc
   rw[if_neg (by omega),if_pos (by omega)]
  ·by_cases h2:b=254#8
   ·refine big 254#8 4 h2 (by decide) (by omega) (by omega) (fun m hm hl=>?_)
    have:iv64 m=(m.toNat:Int):=rfl
    have h254:XHz 254#8=65536:=by decide
    unfold enc
    rw[if_neg (by omega),if_neg (by omega),if_pos (by omega)]
   ·by_cases h3:b=255#8
    ·refine big 255#8 8 h3 (by decide) (by omega) (by omega) (fun m hm hl=>?_)
     have:iv64 m=(m.toNat:Int):=rfl
     have h255:XHz 255#8=4294967296:=by decide
     unfold enc
     rw[if_neg (by omega),if_neg (by omega),if_neg (by omega)]
    ·have hw:Xiz b=0:=by unfold Xiz;rw[if_neg h1,if_neg h2,if_neg h3]
     have n1:b.toNat≠253:=fun e=>h1 (BitVec.eq_of_toNat_eq (by simpa using e))
     have n2:b.toNat≠254:=fun e=>h2 (BitVec.eq_of_toNat_eq (by simpa using e))
     have n3:b.toNat≠255:=fun e=>h3 (BitVec.eq_of_toNat_eq (by simpa using e))
     unfold cutP at h
     dsimp only at h
     rw[hw,if_pos rfl]at h
     injection h with e1 h
     injection h with e2 _
     subst e1 e2
     have hv:(b.setWidth 64).toNat=b.toNat:=by rw[BitVec.toNat_setWidth];omega
     have hi:iv64 (b.setWidth 64)=((b.setWidth 64).toNat:Int):=rfl
     unfold enc
     rw[if_pos (by omega),List.singleton_append]
     congr 1
     apply BitVec.eq_of_toNat_eq
     rw[BitVec.toNat_setWidth,hv];omega
theorem cntZ_app (n most:Nat) (h:n≤most) (hm:most<18446744073709551616) (r:Bs):cntZ most (cntB n++r)= .ok (n,r):=by
 unfold cntZ cntB
 rw[cutP_enc,BitVec.toNat_ofNat,Nat.mod_eq_of_lt (by omega),if_neg (by simp),if_neg (by omega)]
theorem cntZ_ok {most n:Nat} {s r:Bs} (h:cntZ most s= .ok (n,r)):s=cntB n++r∧n≤most:=by
 unfold cntZ at h
 split at h
 ·cases h
 ·split at h
  ·cases h
  ·rename_i h1 h2
   injection h with h
   injection h with e1 e2
   have h0:(cutP s).2.2=0:=by simpa using h1
   have:=cutP_back s (cutP s).1 (cutP s).2.1 (Prod.ext rfl (Prod.ext rfl h0))
   refine⟨?_,by omega⟩
   unfold cntB
   rw[←e1,← e2,BitVec.ofNat_toNat,BitVec.setWidth_eq]
   exact this
def Reads {α:Type} (p:Pz α) (x:α) (b:Bs):Prop:=∀r,p (b++r)= .ok (x,r)
theorem Reads.ret {α:Type} (a:α):Reads (Pz.ret a) a []:=fun r=>rfl
theorem Reads.bind {α β:Type} {p:Pz α} {f:α→Pz β} {a:α} {x:β} {b c:Bs} (h:Reads p a b) (h2:Reads (f a) x c):Reads (p.bind f) x (b++c):=fun r=>by
 rw[List.append_assoc,Pz.bind_ok (h _)]
 exact h2 r
theorem Reads.last {α β:Type} {p:Pz α} {f:α→Pz β} {a:α} {x:β} {b:Bs} (h:Reads p a b) (h2:Reads (f a) x []):Reads (p.bind f) x b:=by
 have:=h.bind h2
 rwa [List.append_nil]at this
theorem reads_take (b:Bs):Reads (takeZ b.length) b b:=fun r=>takeZ_app b r rfl
theorem QPz (b:Bs) (n:Nat) (h:b.length=n):Reads (takeZ n) b b:=fun r=>takeZ_app b r h
theorem reads_num (v:BitVec 64) (w:Nat) (hw:w≤8) (h:v.toNat<2 ^ (8*w)):Reads (numZ w) v (low v w):=by
 refine(QPz (low v w) w (Qez v w)).last fun r=>?_
 have:=numTo_low v w [] h
 rw[List.append_nil]at this
 rw[this]
 rfl
theorem reads_cnt (n most:Nat) (h:n≤most) (hm:most<18446744073709551616):Reads (cntZ most) n (cntB n):=fun r=>cntZ_app n most h hm r
theorem reads_text (b:Bs) (h:b.length≤10000):Reads textZ b (text b):=by
 unfold textZ text
 exact(reads_cnt b.length 10000 h (by omega)).bind (reads_take b)
theorem reads_many {α:Type} (p:Pz α) (f:α→Bs):∀(l:List α),(∀x∈l,Reads p x (f x))→Reads (manyZ p l.length) l ((l.map f).flatten)
 | [],_=>Reads.ret []
 |x ::l,h=>by
  have h1:=h x (List.mem_cons_self ..)
  have h2:=reads_many p f l (fun y hy=>h y (List.mem_cons_of_mem _ hy))
  exact h1.bind (h2.last (Reads.ret _))
theorem reads_parts {α:Type} (p:Pz α) (f:α→Bs) (l:List α) (most:Nat) (hl:l.length≤most) (hm:most<18446744073709551616) (h:∀x∈l,Reads p x (f x)):Reads (X1z most p) l (cntB l.length++(l.map f).flatten):=
 (reads_cnt l.length most hl hm).bind (reads_many p f l h)
theorem le32_num (n:BitVec 32):(n.setWidth 64).toNat<2 ^ (8*4):=by
 have:=n.isLt
 rw[BitVec.toNat_setWidth];omega
theorem Xyz (n:BitVec 32):Reads (numZ 4) (n.setWidth 64) (le32 n):=reads_num _ 4 (by omega) (le32_num n)
theorem Zjz (n:BitVec 32):(n.setWidth 64).setWidth 32=n:=by
 apply BitVec.eq_of_toNat_eq
 have:=n.isLt
 rw[BitVec.toNat_setWidth,BitVec.toNat_setWidth];omega
def TIn.bare (x:TIn):TIn:={ x with wi:=[] }
theorem reads_in (x:TIn) (h:canIn x=true) (hid:x.id.length=32):Reads inZ x.bare (inB x):=by
 unfold canIn at h
 simp only[Bool.and_eq_true,Bool.not_eq_true',decide_eq_false_iff_not]at h
 unfold inZ inB
 refine(QPz x.id 32 hid).bind ((Xyz x.ix).bind ((reads_text x.sc (by omega)).bind ((Xyz x.sq).last ?_)))
 rw[Zjz,Zjz]
 exact Reads.ret _
theorem reads_out (x:TOut) (h:canOut x=true):Reads outZ x (outB x):=by
 unfold canOut at h
 simp only[Bool.and_eq_true,Bool.not_eq_true',decide_eq_false_iff_not]at h
 unfold outZ outB
 refine(reads_num x.va 8 (by omega) x.va.isLt).bind ?_
 have hn:¬9223372036854775808≤x.va.toNat:=fun hge=>h.1 (by
  rw[BitVec.toInt_eq_toNat_cond]
  have:=x.va.isLt
  rw[if_neg (by omega)];omega)
 rw[if_neg hn]
 exact(reads_text x.sc (by omega)).last (Reads.ret _)
theorem reads_wits:∀(l:List TIn),(∀x∈l,canIn x=true)→Reads (witsZ (l.map TIn.bare)) l (witsB l)
 | [],_=>Reads.ret []
 |x ::l,h=>by
  have hx:=h x (List.mem_cons_self ..)
  unfold canIn at hx
  simp only[Bool.and_eq_true,Bool.not_eq_true',decide_eq_false_iff_not,List.all_eq_true]at hx
  have h1:Reads (X1z 100 textZ) x.wi (witB x.wi):=reads_parts textZ text x.wi 100 (by omega) (by omega) (fun b hb=>reads_text b (by have:=hx.2.2 b hb;omega))
  have h2:=reads_wits l (fun y hy=>h y (List.mem_cons_of_mem _ hy))
  exact h1.bind (h2.last (Reads.ret _))
theorem bare_all {l:List TIn} (h:hasWs l=false):l.map TIn.bare=l:=by
 unfold hasWs at h
 rw[List.any_eq_false]at h
 conv=>rhs;rw[←List.map_id l]
 refine List.map_congr_left fun x hx=>?_
 have:=h x hx
 have h0:x.wi=[]:=by
  cases hw:x.wi with
  |nil=>rfl
  |cons a b=>rw[hw]at this;simp at this
 obtain⟨a,b,c,d,e⟩:=x
 unfold TIn.bare
 simp only at h0
 rw[h0]
 rfl
def okTx (t:TTx):Prop:=∀x∈t.is,x.id.length=32
theorem reads_body (t:TTx) (hc:canTx t=true) (hk:okTx t):Reads (bodyZ (t.ve.setWidth 64) (hasWs t.is)) t (insB t.is++(outsB t.os++((if hasWs t.is then witsB t.is else[])++le32 t.lo))):=by
 unfold canTx at hc
 simp only[Bool.and_eq_true,decide_eq_true_eq,List.all_eq_true]at hc
 obtain⟨h1,h2,h3,h4,h5⟩:=hc
 unfold bodyZ insB outsB
 have hins:Reads insZ (t.is.map TIn.bare) (cntB t.is.length++(t.is.map inB).flatten):=by
  unfold insZ
  refine(reads_cnt t.is.length 2000 h2 (by omega)).bind ?_
  rw[if_neg (by omega)]
  have:=reads_many inZ (fun x:TIn=>inB x) t.is
  have key:∀(l:List TIn),(∀x∈l,canIn x=true∧x.id.length=32)→Reads (manyZ inZ l.length) (l.map TIn.bare) ((l.map inB).flatten):=by
   intro l
   induction l with
   |nil=>intro _;exact Reads.ret []
   |cons x l ih=>
    intro h
    have hx:=h x (List.mem_cons_self ..)
    exact(reads_in x hx.1 hx.2).bind ((ih (fun y hy=>h y (List.mem_cons_of_mem _ hy))).last (Reads.ret _))
  exact key t.is (fun x hx=>⟨h4 x hx,hk x hx⟩)
 refine hins.bind ((reads_parts outZ outB t.os 2000 h3 (by omega) (fun x hx=>reads_out x (h5 x hx))).bind ?_)
 have hw:Reads (witZ (hasWs t.is) (t.is.map TIn.bare)) t.is (if hasWs t.is then witsB t.is else[]):=by
  unfold witZ
  cases hh:hasWs t.is with
  |true=>
   rw[if_pos rfl,if_pos rfl]
   refine(reads_wits t.is h4).last ?_
   rw[if_pos hh]
   exact Reads.ret _
  |false=>
   rw[if_neg (by decide),if_neg (by decide),bare_all hh]
   exact Reads.ret _
 refine hw.bind ((Xyz t.lo).last ?_)
 rw[Zjz,Zjz]
 exact Reads.ret _
theorem cntB_head (n:Nat) (h:0<n) (hn:n<18446744073709551616):∃b t,cntB n=b ::t∧b≠0#8:=by
 unfold cntB enc
 have hv:iv64 (BitVec.ofNat 64 n)=(n:Int):=Zmz n hn
 split
 ·refine⟨_,[],rfl,fun e=>?_⟩
  have:=congrArg BitVec.toNat e
  rw[BitVec.toNat_setWidth,BitVec.toNat_ofNat]at this
  simp at this
  omega
 ·split
  ·exact⟨_,_,rfl,by decide⟩
  ·split
   ·exact⟨_,_,rfl,by decide⟩
   ·exact⟨_,_,rfl,by decide⟩
theorem reads_tx (t:TTx) (hc:canTx t=true) (hk:okTx t):Reads txZ t (txB t (hasWs t.is)):=by
 have hb:=reads_body t hc hk
 have hpos:0<t.is.length∧t.is.length≤2000:=by
  unfold canTx at hc
  simp only[Bool.and_eq_true,decide_eq_true_eq]at hc
  exact⟨hc.1,hc.2.1⟩
 unfold txZ txB
 refine(Xyz t.ve).bind fun r=>?_
 cases hh:hasWs t.is with
 |true=>
  rw[hh]at hb
  have hm:Reads markZ true [0#8,1#8]:=fun r=>by
   unfold markZ
   rw[if_pos (by rfl)]
   exact Pz.bind_ok (takeZ_app (n:=2) [0#8,1#8] r rfl)
  exact(hm.bind hb) r
 |false=>
  rw[hh]at hb
  obtain⟨c,t',he,hne⟩:=cntB_head t.is.length hpos.1 (by omega)
  have hm:∀r,markZ (insB t.is++r)= .ok (false,insB t.is++r):=fun r=>by
   unfold markZ insB
   rw[he,if_neg (by simp[hne])]
  rw[if_neg (by decide),List.nil_append,List.append_assoc,Pz.bind_ok (hm _),← List.append_assoc]
  exact hb r
theorem numZ_ok {w:Nat} {s r:Bs} {v:BitVec 64} (hw:w≤8) (h:numZ w s= .ok (v,r)):s=low v w++r:=by
 obtain⟨b,r',h1,h2⟩:=Pz.bind_inv h
 obtain⟨h3,h4⟩:=takeZ_ok h1
 unfold Pz.ret at h2
 injection h2 with h2
 injection h2 with e1 e2
 subst e1 e2
 rw[low_numTo b w hw (by omega),List.take_of_length_le (by omega)]
 exact h3
theorem textZ_ok {s r b:Bs} (h:textZ s= .ok (b,r)):s=text b++r∧b.length≤10000:=by
 obtain⟨n,r',h1,h2⟩:=Pz.bind_inv h
 obtain⟨h3,h4⟩:=cntZ_ok h1
 obtain⟨h5,h6⟩:=takeZ_ok h2
 refine⟨?_,by omega⟩
 unfold text
 rw[h3,h5,List.append_assoc,h6]
 rfl
theorem le32_ok {s r:Bs} {v:BitVec 64} (h:numZ 4 s= .ok (v,r)):s=le32 (v.setWidth 32)++r:=by
 obtain⟨b,r',h1,h2⟩:=Pz.bind_inv h
 obtain⟨h3,h4⟩:=takeZ_ok h1
 unfold Pz.ret at h2
 injection h2 with h2
 injection h2 with e1 e2
 subst e1 e2
 have e:(numTo b 4).setWidth 32=num32 b:=rfl
 unfold le32
 rw[e]
 have hv:((num32 b).setWidth 64)=numTo b 4:=by
  apply BitVec.eq_of_toNat_eq
  have:=numTo_lt b 4 (by omega)
  unfold num32
  rw[BitVec.toNat_setWidth,BitVec.toNat_setWidth];omega
 rw[hv,low_numTo b 4 (by omega) (by omega),List.take_of_length_le (by omega)]
 exact h3
theorem many_ok {α:Type} {p:Pz α} {f:α→Bs} {Q:α→Prop} (h:∀s x r,p s= .ok (x,r)→s=f x++r∧Q x):∀(n:Nat) (s:Bs) (l:List α) (r:Bs),manyZ p n s= .ok (l,r)→s=(l.map f).flatten++r∧l.length=n∧∀x∈l,Q x
 |0,s,l,r,hh=>by
  unfold manyZ Pz.ret at hh
  injection hh with hh
  injection hh with e1 e2
  subst e1 e2
  exact⟨rfl,rfl,fun _ h=>by cases h⟩
 |n+1,s,l,r,hh=>by
  obtain⟨a,r1,h1,h2⟩:=Pz.bind_inv hh
  obtain⟨l',r2,h3,h4⟩:=Pz.bind_inv h2
  unfold Pz.ret at h4
  injection h4 with h4
  injection h4 with e1 e2
  subst e1 e2
  obtain⟨h5,h6⟩:=h _ _ _ h1
  obtain⟨h7,h8,h9⟩:=many_ok h n _ _ _ h3
  refine⟨by rw[h5,h7];simp,by simp[h8],fun x hx=>?_⟩
  rcases List.mem_cons.1 hx with rfl|hx
  ·exact h6
  ·exact h9 x hx
def bareIn (x:TIn):Prop:=x.wi=[]∧x.id.length=32∧x.sc.length≤10000
theorem inZ_ok (s:Bs) (x:TIn) (r:Bs) (h:inZ s= .ok (x,r)):s=inB x++r∧bareIn x:=by
 obtain⟨id,r1,h1,h⟩:=Pz.bind_inv h
 obtain⟨ix,r2,h2,h⟩:=Pz.bind_inv h
 obtain⟨sc,r3,h3,h⟩:=Pz.bind_inv h
 obtain⟨sq,r4,h4,h⟩:=Pz.bind_inv h
 unfold Pz.ret at h
 injection h with h
 injection h with e1 e2
 subst e1 e2
 obtain⟨k1,k2⟩:=takeZ_ok h1
 have k3:=le32_ok h2
 obtain⟨k4,k5⟩:=textZ_ok h3
 have k6:=le32_ok h4
 refine⟨?_,rfl,k2,k5⟩
 unfold inB
 rw[k1,k3,k4,k6]
 simp only[List.append_assoc]
theorem outZ_ok (s:Bs) (x:TOut) (r:Bs) (h:outZ s= .ok (x,r)):s=outB x++r∧canOut x=true:=by
 obtain⟨v,r1,h1,h⟩:=Pz.bind_inv h
 split at h
 ·cases h
 ·rename_i hv
  obtain⟨sc,r2,h2,h⟩:=Pz.bind_inv h
  unfold Pz.ret at h
  injection h with h
  injection h with e1 e2
  subst e1 e2
  obtain⟨k4,k5⟩:=textZ_ok h2
  refine⟨?_,?_⟩
  ·unfold outB
   rw[numZ_ok (by omega) h1,k4,List.append_assoc]
  ·unfold canOut
   simp only[Bool.and_eq_true,Bool.not_eq_true',decide_eq_false_iff_not]
   refine⟨?_,by omega⟩
   rw[BitVec.toInt_eq_toNat_cond]
   rw[if_pos (by omega)];omega
theorem witsZ_ok:∀(is:List TIn) (s:Bs) (l:List TIn) (r:Bs),witsZ is s= .ok (l,r)→s=witsB l++r∧l.map TIn.bare=is.map TIn.bare∧∀x∈l,x.wi.length≤100∧∀b∈x.wi,b.length≤10000
 | [],s,l,r,h=>by
   unfold witsZ Pz.ret at h
   injection h with h
   injection h with e1 e2
   subst e1 e2
   exact⟨rfl,rfl,fun _ h=>by cases h⟩
 |x ::xs,s,l,r,h=>by
  obtain⟨w,r1,h1,h⟩:=Pz.bind_inv h
  obtain⟨l',r2,h2,h⟩:=Pz.bind_inv h
  unfold Pz.ret at h
  injection h with h
  injection h with e1 e2
  subst e1 e2
  obtain⟨n,r0,c1,c2⟩:=Pz.bind_inv h1
  obtain⟨c3,c4⟩:=cntZ_ok c1
  obtain⟨c5,c6,c7⟩:=many_ok (Q:=fun b=>b.length≤10000) (fun s b r h=>textZ_ok h) n _ _ _ c2
  obtain⟨i1,i2,i3⟩:=witsZ_ok xs _ _ _ h2
  refine⟨?_,?_,fun y hy=>?_⟩
  ·unfold witsB witB
   rw[List.map_cons,List.flatten_cons,c3,c5,i1]
   simp only[c6,List.append_assoc]
   rfl
  ·rw[List.map_cons,List.map_cons,i2]
   rfl
  ·rcases List.mem_cons.1 hy with rfl|hy
   ·exact⟨by simp only;omega,c7⟩
   ·exact i3 y hy
theorem insB_bare (l:List TIn):insB (l.map TIn.bare)=insB l:=by
 unfold insB
 rw[List.length_map,List.map_map]
 rfl
theorem insZ_ok {s r:Bs} {l:List TIn} (h:insZ s= .ok (l,r)):s=insB l++r∧0<l.length∧l.length≤2000∧∀x∈l,bareIn x:=by
 obtain⟨n,r1,h1,h⟩:=Pz.bind_inv h
 split at h
 ·cases h
 ·obtain⟨c3,c4⟩:=cntZ_ok h1
  obtain⟨c5,c6,c7⟩:=many_ok inZ_ok n _ _ _ h
  refine⟨?_,by omega,by omega,c7⟩
  unfold insB
  rw[c3,c5,c6,List.append_assoc]
theorem bare_in {x:TIn} (h:bareIn x):x.bare=x:=by
 obtain⟨a,b,c,d,e⟩:=x
 have:e=[]:=h.1
 rw[this];rfl
theorem txZ_ok {s r:Bs} {t:TTx} (h:txZ s= .ok (t,r)):s=txB t (hasWs t.is)++r∧canTx t=true∧okTx t:=by
 obtain⟨ve,r1,h1,h⟩:=Pz.bind_inv h
 obtain⟨m,r2,h2,h⟩:=Pz.bind_inv h
 obtain⟨is,r3,h3,h⟩:=Pz.bind_inv h
 obtain⟨os,r4,h4,h⟩:=Pz.bind_inv h
 obtain⟨is',r5,h5,h⟩:=Pz.bind_inv h
 obtain⟨lo,r6,h6,h⟩:=Pz.bind_inv h
 unfold Pz.ret at h
 injection h with h
 injection h with e1 e2
 subst e1 e2
 have k1:=le32_ok h1
 obtain⟨i1,i2,i3,i4⟩:=insZ_ok h3
 obtain⟨no,ro,o1,o2⟩:=Pz.bind_inv h4
 obtain⟨o3,o4⟩:=cntZ_ok o1
 obtain⟨o5,o6,o7⟩:=many_ok outZ_ok no _ _ _ o2
 have o8:r3=outsB os++r4:=by unfold outsB;rw[o3,o5,o6,List.append_assoc]
 have k6:=le32_ok h6
 have hbare:is.map TIn.bare=is:=by
  conv=>rhs;rw[←List.map_id is]
  exact List.map_congr_left fun x hx=>bare_in (i4 x hx)
 have hm:r1=(if m then[0#8,1#8]else[])++r2:=by
  unfold markZ at h2
  split at h2
  ·obtain⟨b,r',b1,b2⟩:=Pz.bind_inv h2
   obtain⟨b3,b4⟩:=takeZ_ok b1
   split at b2
   ·rename_i h0 h1'
    unfold Pz.ret at b2
    injection b2 with b2
    injection b2 with e1 e2
    subst e1 e2
    rw[b3]at h0
    match b,b4 with
    | [x,y],_=>
      simp only[List.cons_append,List.getElem?_cons_zero,Option.some.injEq]at h0
      simp only[List.getElem?_cons_succ,List.getElem?_cons_zero,Option.some.injEq]at h1'
      rw[b3,h0,h1'];rfl
   ·cases b2
  ·injection h2 with h2
   injection h2 with e1 e2
   subst e1 e2
   rfl
 have hw:hasWs is'=m∧r4=(if m then witsB is' else[])++r5∧is'.map TIn.bare=is∧∀x∈is',x.wi.length≤100∧∀b∈x.wi,b.length≤10000:=by
  unfold witZ at h5
  cases m with
  |true=>
   rw[if_pos rfl]at h5
   obtain⟨l,r',w1,w2⟩:=Pz.bind_inv h5
   split at w2
   ·rename_i hh
    unfold Pz.ret at w2
    injection w2 with w2
    injection w2 with e1 e2
    subst e1 e2
    obtain⟨w3,w4,w5⟩:=witsZ_ok _ _ _ _ w1
    exact⟨hh,w3,by rw[w4,hbare],w5⟩
   ·cases w2
  |false=>
   rw[if_neg (by decide)]at h5
   unfold Pz.ret at h5
   injection h5 with h5
   injection h5 with e1 e2
   subst e1 e2
   refine⟨?_,rfl,hbare,fun x hx=>?_⟩
   ·unfold hasWs
    rw[List.any_eq_false]
    intro x hx
    rw[(i4 x hx).1];simp
   ·rw[(i4 x hx).1]
    exact⟨by simp,fun _ h=>by cases h⟩
 obtain⟨w1,w2,w3,w4⟩:=hw
 have hlen:is'.length=is.length:=by rw[←w3,List.length_map]
 have hbi:∀x∈is',bareIn x.bare:=fun x hx=>i4 _ (by rw[←w3];exact List.mem_map_of_mem hx)
 refine⟨?_,?_,fun x hx=>(hbi x hx).2.1⟩
 ·unfold txB
  simp only[w1]
  rw[k1,hm,i1,← w3,insB_bare,o8,w2,k6]
  simp only[List.append_assoc]
 ·unfold canTx
  simp only[Bool.and_eq_true,decide_eq_true_eq,List.all_eq_true]
  refine⟨by omega,by omega,by omega,fun x hx=>?_,o7⟩
  unfold canIn
  simp only[Bool.and_eq_true,Bool.not_eq_true',decide_eq_false_iff_not,List.all_eq_true]
  have hsc:x.sc.length≤10000:=(hbi x hx).2.2
  exact⟨by omega,by have:=(w4 x hx).1;omega,fun b hb=>by have:=(w4 x hx).2 b hb;omega⟩
end
section
open Go Go.RowKit
def RowsE {α:Type} (E:World→α→List Value→Prop) (N:Nat) (w:World) (p:Option Addr) (xs:List α):Prop:=
 xs≠[]→∃b off,p=some ⟨b,off,none⟩∧b<w.heap.size∧∀i x,xs[i]? =some x→∃cs,E w x cs∧w.rangeAt b (off+i*N) cs
def ESl {α:Type} (E:World→α→List Value→Prop) (N:Nat) (w:World) (v:Value) (xs:List α):Prop:=∃p n c,v= .slice p n c∧xs.length=n∧n≤c∧c≤maxLen∧RowsE E N w p xs∧(p=none→c=0)
def TextC (w:World) (x:Bs) (cs:List Value):Prop:=∃v,cs=[v]∧Sl w v x
def InC (w:World) (x:TIn) (cs:List Value):Prop:=∃sv wv,cs=Q5z x.id++[u32 x.ix,sv,u32 x.sq,wv]∧x.id.length=32∧Sl w sv x.sc∧ESl TextC 1 w wv x.wi
def OutC (w:World) (x:TOut) (cs:List Value):Prop:=∃sv,cs=[.int .i64 x.va.toInt,sv]∧Sl w sv x.sc
def TxC (w:World) (t:TTx) (cs:List Value):Prop:=∃iv ov,cs=[u32 t.ve,iv,ov,u32 t.lo]∧ESl InC 36 w iv t.is∧ESl OutC 2 w ov t.os
def Keeps {α:Type} (E:World→α→List Value→Prop):Prop:=∀w w' x cs,E w x cs→Below w.heap.size w w'→E w' x cs
theorem XEz {w w':World} {b o:Nat} {cs:List Value} (h:w.rangeAt b o cs) (hb:Below w.heap.size w w') (hB:b<w.heap.size):w'.rangeAt b o cs:=fun j v hj=>by
 rw[hb.cell (p:=⟨b,o+j,none⟩) hB];exact h j v hj
theorem RowsE.fut {α:Type} {E:World→α→List Value→Prop} {N:Nat} {w w':World} {p:Option Addr} {xs:List α} (hE:Keeps E) (h:RowsE E N w p xs) (hb:Below w.heap.size w w'):RowsE E N w' p xs:=fun hn=>by
 obtain⟨b,off,rfl,hlt,hc⟩:=h hn
 refine⟨b,off,rfl,Nat.lt_of_lt_of_le hlt hb.size,fun i x hi=>?_⟩
 obtain⟨cs,h1,h2⟩:=hc i x hi
 exact⟨cs,hE _ _ _ _ h1 hb,XEz h2 hb hlt⟩
theorem ESl.fut {α:Type} {E:World→α→List Value→Prop} {N:Nat} {w w':World} {v:Value} {xs:List α} (hE:Keeps E) (h:ESl E N w v xs) (hb:Below w.heap.size w w'):ESl E N w' v xs:=by
 obtain⟨p,n,c,h1,h2,h3,h4,h5,h6⟩:=h
 exact⟨p,n,c,h1,h2,h3,h4,h5.fut hE hb,h6⟩
theorem textC_keeps:Keeps TextC:=fun w w' x cs ⟨v,h1,h2⟩ hb=>⟨v,h1,h2.below hb (Nat.le_refl _)⟩
theorem inC_keeps:Keeps InC:=fun w w' x cs ⟨sv,wv,h1,h2,h3,h4⟩ hb=>⟨sv,wv,h1,h2,h3.below hb (Nat.le_refl _),h4.fut textC_keeps hb⟩
theorem outC_keeps:Keeps OutC:=fun w w' x cs ⟨sv,h1,h2⟩ hb=>⟨sv,h1,h2.below hb (Nat.le_refl _)⟩
theorem txC_keeps:Keeps TxC:=fun w w' x cs ⟨iv,ov,h1,h2,h3⟩ hb=>⟨iv,ov,h1,h2.fut inC_keeps hb,h3.fut outC_keeps hb⟩
theorem InC.len {w:World} {x:TIn} {cs:List Value} (h:InC w x cs):cs.length=36:=by
 obtain⟨sv,wv,rfl,h1,_⟩:=h
 simp[Q5z,h1]
theorem any_take {α:Type} (p:α→Bool) (xs:List α) (k:Nat) (h:k<xs.length) (x:α) (hx:xs[k]? =some x) (h0:(xs.take k).any p=false) (h1:p x=false):(xs.take (k+1)).any p=false:=by
 rw[List.take_add_one,hx,List.any_append,h0]
 simp[h1]
theorem any_hit {α:Type} (p:α→Bool) (xs:List α) (k:Nat) (x:α) (hx:xs[k]? =some x) (h1:p x=true):xs.any p=true:=List.any_eq_true.2 ⟨x,List.mem_of_getElem? hx,h1⟩
theorem OutC.len {w:World} {x:TOut} {cs:List Value} (h:OutC w x cs):cs.length=2:=by
 obtain⟨sv,rfl,_⟩:=h
 rfl
theorem QRz {cs:List Value} (h:cs.length=36):(Tryz.prog.info? 209).map (·.size)=some cs.length:=by rw[h];kernel_rfl
theorem indexIns_any (p:TIn→Bool) (g:Nat) (eg:∀args w,(callFunc g args).run Tryz.prog w= .ok (.enter g args) w) (q:Option Addr) (n c:Nat) (xs:List (TIn)) (w:World) (hn:xs.length=n) (hbig:n≤9223372036854775807) (hr:RowsE InC 36 w q xs)
 (hp:∀W x cs,Below w.heap.size w W→InC w x cs→Calls Tryz.prog g #[.agg cs.toArray] W fun e w'=>e= .returned (.bool (p x))∧Below w.heap.size w w'):
 Calls Tryz.prog 173 #[.slice q n c,.func (.func g) #[] #[]] w fun e w'=>∃k:Int,e= .returned (.int .i64 k)∧decide (0≤k)=xs.any p∧Below w.heap.size w w':=by
 have hrow:∀(W:World),Below w.heap.size w W→∀j,j<n→∃b off cs x,q=some ⟨b,off,none⟩∧xs[j]? =some x∧InC w x cs∧W.rangeAt b (off+j*36) cs∧cs.length=36:=fun W hW j hj=>by
  have hx:=List.getElem?_eq_getElem (l:=xs) (i:=j) (by omega)
  obtain⟨b,off,rfl,hb,hc⟩:=hr (by intro h;subst h;simp at hn;omega)
  obtain⟨cs,h1,h2⟩:=hc j _ hx
  refine⟨b,off,cs,_,rfl,hx,h1,?_⟩
  exact⟨fun i v hi=>(hW.cell (p:=⟨b,off+j*36+i,none⟩) hb).trans (h2 i v hi),h1.len⟩
 have HROW:=Lib.hid hrow
 have HN:=Lib.hid hn
 have HP:=Lib.hid hp
 clear hrow hn hr hp
 go_enter Tryz.func173,Tryz.ntmps173
 go_wp2
 go_loopg [5,8] n (fun gg _ s8 wr=>∃kk:Nat,kk≤n∧n-kk≤gg∧s8= .int .i64 kk∧Hid (Below w.heap.size w wr)∧Hid ((xs.take kk).any p=false))
 case atStart=>exact⟨0,Nat.zero_le _,by omega,rfl,Lib.hid (Below.refl _ w),Lib.hid rfl⟩
 case round=>
  obtain⟨kk,hkk,hg,rfl,BW,A⟩:=hrel
  by_cases hlt:kk<n
  ·have hltz:(kk:Int)<(n:Int):=by omega
   obtain⟨b,off,cs,x,rfl,hx,hE,l2⟩:=HROW.out wr BW.out kk hlt
   have hcall:=HP.out wr x cs BW.out hE
   have HX:=Lib.hid hx
   clear hx hE
   obtain⟨l2,l3⟩:=l2
   cases hq:p x with
   |true=>
    have HQ:=Lib.hid hq
    rw[hq]at hcall
    clear hq
    go_wp2_with((with_reducible refine wpList_load_mid (op:=⟨some 15,_,_,_,_,_⟩) ?_ 209 (.tmp 14) ?_ (b) (off+kk*36) ?_ (cs) _ (l2) Tryz.underlying209 ?_ ?_ ?_
                 ·rfl
                 ·rfl
                 ·rfl
                 ·rfl
                 ·exact((QRz l3))))
    go_wp2_with(go_at_fn g;refine hcall.mono ?_;rintro e w' ⟨rfl,hb'⟩)
    go_ret
    refine⟨(kk:Int),rfl,?_,hb'⟩
    rw[any_hit p xs kk x HX.out HQ.out]
    exact decide_eq_true (by omega)
   |false=>
    have HQ:=Lib.hid hq
    rw[hq]at hcall
    clear hq
    go_wp2_with((with_reducible refine wpList_load_mid (op:=⟨some 15,_,_,_,_,_⟩) ?_ 209 (.tmp 14) ?_ (b) (off+kk*36) ?_ (cs) _ (l2) Tryz.underlying209 ?_ ?_ ?_
                 ·rfl
                 ·rfl
                 ·rfl
                 ·rfl
                 ·exact((QRz l3))))
    go_wp2_with(go_at_fn g;refine hcall.mono ?_;rintro e w' ⟨rfl,hb'⟩)
    go_roundg (n-(kk+1))
    case measure=>omega
    case rel=>exact⟨kk+1,by omega,by omega,by go_num,Lib.hid hb',Lib.hid (any_take p xs kk (by have:=HN.out;omega) x HX.out A.out HQ.out)⟩
  ·have hltz:¬(kk:Int)<(n:Int):=by omega
   have:kk=n:=by omega
   subst this
   go_wp2
   go_ret
   have h0:=A.out
   rw[List.take_of_length_le (by have:=HN.out;omega)]at h0
   refine⟨-1,rfl,?_,BW.out⟩
   rw[h0];rfl
theorem containsIns_any (p:TIn→Bool) (g:Nat) (eg:∀args w,(callFunc g args).run Tryz.prog w= .ok (.enter g args) w) (v:Value) (xs:List (TIn)) (w:World) (hv:ESl InC 36 w v xs)
 (hp:∀W x cs,Below w.heap.size w W→InC w x cs→Calls Tryz.prog g #[.agg cs.toArray] W fun e w'=>e= .returned (.bool (p x))∧Below w.heap.size w w'):
 Calls Tryz.prog 149 #[v,.func (.func g) #[] #[]] w fun e w'=>e= .returned (.bool (xs.any p))∧Below w.heap.size w w':=by
 obtain⟨q,n,c,rfl,h1,h2,h3,h4,h5⟩:=hv
 have hcon:=indexIns_any p g eg q n c xs w h1 (by unfold maxLen at h3;omega) h4 hp
 obtain⟨r,hr⟩:∃r,r=xs.any p:=⟨_,rfl⟩
 rw[←hr]at hcon ⊢
 clear hr h1 h2 h3 h4 h5 hp eg
 go_enter Tryz.func149,Tryz.ntmps149
 go_wp2_with(refine hcon.mono ?_;rintro e w' ⟨k,rfl,hk,hb'⟩)
 go_ret
 exact⟨by rw[←hk];rfl,hb'⟩
theorem info_Outs {cs:List Value} (h:cs.length=2):(Tryz.prog.info? 204).map (·.size)=some cs.length:=by rw[h];kernel_rfl
end
section
open Go Go.RowKit
theorem InC.cell {w:World} {x:TIn} {cs:List Value} (h:InC w x cs):∃sv wv,cs[32]? =some (u32 x.ix)∧cs[33]? =some sv∧cs[34]? =some (u32 x.sq)∧cs[35]? =some wv∧Sl w sv x.sc∧ESl TextC 1 w wv x.wi:=by
 obtain⟨sv,wv,rfl,h1,h2,h3⟩:=h
 have hl:(Q5z x.id).length=32:=by simp[Q5z,h1]
 refine⟨sv,wv,?_,?_,?_,?_,h2,h3⟩<;>rw[List.getElem?_append_right (by omega),hl]<;>rfl
theorem wit1_any (x:TIn) (cs:List Value) (w:World) (h:InC w x cs):Calls Tryz.prog 151 #[.agg cs.toArray] w fun e w'=>e= .returned (.bool (decide (0<x.wi.length)))∧Below w.heap.size w w':=by
 obtain⟨sv,wv,_,_,_,k35,hs,q,n,c,rfl,hn,_⟩:=h.cell
 have e:decide (0<x.wi.length)=decide (0<n):=decide_eq_decide.2 (by omega)
 rw[e]
 have hb1:=Q1z w (.cells cs.toArray 209)
 have HB:=Lib.hid (Blk.new w 209 cs.toArray)
 have c35:=HB.out.cell 35
 rw[List.getElem?_toArray,k35]at c35
 clear e hn h k35 hs
 go_enter Tryz.func151,Tryz.ntmps151
 go_upto_region 1 with fail
 generalize w.alloc (.cells cs.toArray 209)=w1 at*
 go_wp2_with fail
 go_ret
 exact⟨rfl,hb1⟩
theorem witnessed_any (t:TTx) (cs:List Value) (w:World) (h:TxC w t cs):Calls Tryz.prog 118 #[.agg cs.toArray] w fun e w'=>e= .returned (.bool (hasWs t.is))∧Below w.heap.size w w':=by
 obtain⟨iv,ov,rfl,hi,_⟩:=h
 obtain⟨vv,hvv⟩:∃v,v=u32 t.ve:=⟨_,rfl⟩
 obtain⟨vl,hvl⟩:∃v,v=u32 t.lo:=⟨_,rfl⟩
 rw[←hvv,← hvl]
 have hb1:=Q1z w (.cells #[vv,iv,ov,vl] 171)
 have HB:=Lib.hid (Blk.new w 171 #[vv,iv,ov,vl])
 have hc:=containsIns_any (fun x=>decide (0<x.wi.length)) 151 (enters_of Tryz.func151 (by kernel_rfl) rfl) iv t.is _ (hi.fut inC_keeps hb1) fun W x cs hb hx=>
  (wit1_any x cs W (inC_keeps _ _ _ _ hx hb)).mono fun e w' ⟨h1,h2⟩=>⟨h1,Q3z hb h2 (Nat.le_refl _)⟩
 have HC:=Lib.hid hc
 have c1:=HB.out.cell 1
 simp only[List.getElem?_toArray,List.getElem?_cons_zero,List.getElem?_cons_succ]at c1
 unfold hasWs
 clear hc hi hvv hvl
 go_enter Tryz.func118,Tryz.ntmps118
 go_upto_region 1 with fail
 generalize w.alloc (.cells #[vv,iv,ov,vl] 171)=w1 at*
 go_wp2_with fail
 refine HC.out.mono ?_
 rintro e w2 ⟨rfl,hb2⟩
 go_wp2_with fail
 go_ret
 exact⟨rfl,Q3z hb1 hb2 (Nat.le_refl _)⟩
end
section
open Go Go.RowKit
def Grew (w:World) (v:Value) (w':World) (v':Value):Prop:=Stays (fun k=>v.ownBlock=some k) w w'∧∀k,v'.ownBlock=some k→v.ownBlock=some k∨w.heap.size≤k
theorem Grew.of_app {w w':World} {v v':Value} (hg:w.grownBy w' v.ownBlock) (h:v'.ownBlock=v.ownBlock∨v'.ownBlock=some w.heap.size):Grew w v w' v':=
 ⟨Stays.of_grown hg (fun k h=>h),fun k hk=>by
  rcases h with h|h
  ·exact .inl (h▸hk)
  ·rw[h]at hk;injection hk with hk;exact .inr (by omega)⟩
theorem Grew.below {w w':World} {B:Nat} {v v':Value} {ys:Bs} (h:Grew w v w' v') (ho:Own8 w B v ys) (hB:B≤w.heap.size):Below B w w':=h.1.below hB fun k hk=>(World.ownsRow.lt ho k hk).1
theorem Grew.blk {w w':World} {v v':Value} {g:Nat} {t:TypeId} {cs:Array Value} (h:Grew w v w' v') (hg:Blk w g t cs) (hn:v.ownBlock≠some g):Blk w' g t cs:=hg.stays h.1 hn
theorem wrap_toInt (v:BitVec 64):IntKind.u64.wrap v.toInt=iv64 v:=by
 have h:=v.isLt
 have e:iv64 v=(v.toNat:Int):=rfl
 rw[e,BitVec.toInt_eq_toNat_cond]
 simp only[IntKind.wrap,IntKind.bits,IntKind.signed]
 split<;>simp<;>omega
structure Wr (w0 w:World) (v:Value) (ys:Bs):Prop where
 below:Below w0.heap.size w0 w
 own:Own8 w w0.heap.size v ys
theorem Wr.fut {w0 w w':World} {v:Value} {ys:Bs} (h:Wr w0 w v ys) (hb:Below w.heap.size w w'):Wr w0 w' v ys:=⟨Q3z h.below hb (Nat.le_refl _),h.own.fut hb⟩
theorem Wr.grew {w0 w w':World} {v v':Value} {ys zs:Bs} (h:Wr w0 w v ys) (ho:Own8 w' w0.heap.size v' zs) (hg:Grew w v w' v'):Wr w0 w' v' zs:=⟨h.below.trans (hg.below h.own h.below.size),ho⟩
theorem InC.id {w w':World} {x:TIn} {cs:List Value} {g:Nat} {t:TypeId} (h:InC w x cs) (hb:Blk w' g t cs.toArray):Row8 w' (some ⟨g,0,none⟩) x.id:=fun hn=>by
 obtain⟨sv,wv,rfl,h1,_⟩:=h
 refine⟨g,0,rfl,hb.lt,fun i b hi=>?_⟩
 have hl:i<x.id.length:=by
  rcases Nat.lt_or_ge i x.id.length with h|h
  ·exact h
  ·rw[List.getElem?_eq_none h]at hi;cases hi
 rw[Nat.zero_add,hb.cell,List.getElem?_toArray,List.getElem?_append_left (by simp[Q5z];exact hl),Q5z,List.getElem?_map,hi]
 rfl
end
section
open Go Go.RowKit
theorem Wr.opens {w0 w:World} {v:Value} {ys:Bs} (h:Wr w0 w v ys):∃p n c,v= .slice p n c:=by
 obtain⟨p,n,c,e,_⟩:=h.own.open
 exact⟨p,n,c,e⟩
theorem flat_le {α:Type} (f:α→Bs) (M:Nat):∀(xs:List α),(∀x∈xs,(f x).length≤M)→((xs.map f).flatten).length≤xs.length*M
 | [],_=>by simp
 |x ::xs,h=>by
  have h1:=h x (List.mem_cons_self ..)
  have h2:=flat_le f M xs fun y hy=>h y (List.mem_cons_of_mem _ hy)
  rw[List.map_cons,List.flatten_cons,List.length_append,List.length_cons,Nat.succ_mul]
  omega
theorem Qfz {w:World} {g:Nat} {t:TypeId} {cs:List Value} (h:Blk w g t cs.toArray):w.rangeAt g 0 cs:=fun j v hj=>by
 rw[Nat.zero_add,h.cell,List.getElem?_toArray];exact hj
theorem Sl.one {w:World} {v:Value} {bs:Bs} (h:Sl w v bs):v.oneCell'=true:=by obtain⟨p,n,c,rfl,_⟩:=h;rfl
theorem ESl.one {α:Type} {E:World→α→List Value→Prop} {N:Nat} {w:World} {v:Value} {xs:List α} (h:ESl E N w v xs):v.oneCell'=true:=by obtain⟨p,n,c,rfl,_⟩:=h;rfl
theorem InC.one {w:World} {x:TIn} {cs:List Value} (h:InC w x cs):cs.toArray.all (·.oneCell')=true:=by
 obtain⟨sv,wv,rfl,h1,h2,h3⟩:=h
 rw[List.all_toArray,Q5z]
 simp[Value.oneCell']
 exact⟨h2.one,h3.one⟩
theorem OutC.one {w:World} {x:TOut} {cs:List Value} (h:OutC w x cs):cs.toArray.all (·.oneCell')=true:=by
 obtain⟨sv,rfl,h1⟩:=h
 rw[List.all_toArray]
 simp[Value.oneCell']
 exact h1.one
theorem zeroIn:∃Z:Array Value,Z.size=36∧∀w,(zeroValue 209).run Tryz.prog w= .ok (.agg Z) w:=
 ⟨(List.replicate 32 (Value.int .u8 0)++[Value.int .u32 0,Value.slice none 0 0,Value.int .u32 0,Value.slice none 0 0]).toArray,by rfl,zero_of (by kernel_rfl)⟩
theorem zeroOut:∃Z:Array Value,Z.size=2∧∀w,(zeroValue 204).run Tryz.prog w= .ok (.agg Z) w:=⟨#[.int .i64 0,.slice none 0 0],by rfl,zero_of (by kernel_rfl)⟩
end
section
open Go Go.RowKit
def OutB (w:World) (x:Bs × Int) (e:Ending) (w':World):Prop:=∃v,e= .returned (.tuple #[v,.int .i64 x.2])∧Own8 w' w.heap.size v x.1∧Below w.heap.size w w'
theorem OutB.of {w w':World} {x:Bs × Int} {v:Value} {bs:Bs} {k:Int} (h:Hid (x=(bs,k))) (ho:Own8 w' w.heap.size v bs) (hb:Below w.heap.size w w'):OutB w x (.returned (.tuple #[v,.int .i64 k])) w':=by
 have:=h.out
 subst this
 exact⟨v,rfl,ho,hb⟩
theorem ESl.mem {α:Type} {E:World→α→List Value→Prop} {N:Nat} {w:World} {v:Value} {xs:List α} (h:ESl E N w v xs) {x:α} (hx:x∈xs):∃cs,E w x cs:=by
 obtain⟨p,n,c,_,_,_,_,hr,_⟩:=h
 obtain⟨b,off,_,_,hc⟩:=hr (by intro e;rw[e]at hx;cases hx)
 obtain⟨i,hi⟩:=List.getElem?_of_mem hx
 obtain⟨cs,h1,_⟩:=hc i x hi
 exact⟨cs,h1⟩
theorem text_le {b:Bs} {n:Nat} (h:b.length≤n):(text b).length≤n+9:=by
 unfold text;rw[List.length_append];have:=enc_len (BitVec.ofNat 64 b.length);omega
theorem canTx_all {t:TTx} (h:canTx t=true):0<t.is.length∧t.is.length≤2000∧t.os.length≤2000∧(∀x∈t.is,x.sc.length≤10000∧x.wi.length≤100∧∀b∈x.wi,b.length≤10000)∧∀x∈t.os,¬x.va.toInt<0∧x.sc.length≤10000:=by
 unfold canTx at h
 simp only[Bool.and_eq_true,decide_eq_true_eq,List.all_eq_true]at h
 refine⟨h.1,h.2.1,h.2.2.1,fun x hx=>?_,fun x hx=>?_⟩
 ·have:=h.2.2.2.1 x hx
  unfold canIn at this
  simp only[Bool.and_eq_true,Bool.not_eq_true',decide_eq_false_iff_not,List.all_eq_true]at this
  exact⟨by omega,by omega,fun b hb=>by have:=this.2.2 b hb;omega⟩
 ·have:=h.2.2.2.2 x hx
  unfold canOut at this
  simp only[Bool.and_eq_true,Bool.not_eq_true',decide_eq_false_iff_not]at this
  exact⟨this.1,by omega⟩
theorem QIz {cs:List Value} (h:cs.length=4):(Tryz.prog.info? 171).map (·.size)=some cs.length:=by rw[h];kernel_rfl
theorem QXz (n:Nat):(cntB n).length≤9:=enc_len _
theorem insB_len {t:TTx} (h:canTx t=true) {w:World} {u:Value} (hu:ESl InC 36 w u t.is):(insB t.is).length≤1000000000:=by
 obtain⟨_,h2,_,h4,_⟩:=canTx_all h
 have:=flat_le inB 10049 t.is fun x hx=>by
  obtain⟨cs,_,_,_,hid,_⟩:=hu.mem hx
  have:=text_le (h4 x hx).1
  unfold inB
  rw[List.length_append,List.length_append,List.length_append,hid,le32,le32,Qez,Qez]
  omega
 have h3:=QXz t.is.length
 unfold insB
 rw[List.length_append]
 omega
theorem outsB_len {t:TTx} (h:canTx t=true):(outsB t.os).length≤1000000000:=by
 obtain⟨_,_,h3,_,h5⟩:=canTx_all h
 have:=flat_le outB 10049 t.os fun x hx=>by
  have:=text_le (h5 x hx).2
  unfold outB
  rw[List.length_append,Qez]
  omega
 have h4:=QXz t.os.length
 unfold outsB
 rw[List.length_append]
 omega
end
section
open Go Go.RowKit
def Sep (B:Nat) (Ts:List TypeId) (w:World) (S:Nat→Prop):Prop:=∀k,S k→k<B∨∃T cs,Blk w k T cs∧T∉Ts
theorem Sep.mono {B:Nat} {Ts Ts':List TypeId} {w:World} {S:Nat→Prop} (h:Sep B Ts w S) (hs:∀T,T∈Ts'→T∈Ts):Sep B Ts' w S:=fun k hk=>
 (h k hk).imp id fun⟨T,cs,h1,h2⟩=>⟨T,cs,h1,fun h=>h2 (hs T h)⟩
theorem Sep.low {B:Nat} {Ts:List TypeId} {w:World} {S:Nat→Prop} (h:∀k,S k→k<B):Sep B Ts w S:=fun k hk=>.inl (h k hk)
theorem ownsRow_sep {S:Nat→Prop} {w w':World} {B:Nat} {e:TypeId} {N:Nat} {v:Value} {n:Nat} {xs:List Value} (h:w.ownsRow B e N v n xs) (hs:Stays S w w') (hp:Sep B [e] w S):w'.ownsRow B e N v n xs:=by
 refine ownsRow_stays h hs fun k hk hS=>?_
 rcases h.2 with⟨rfl,_⟩|⟨g,cap,cur,rfl,hg,hh,_⟩
 ·cases hk
 ·injection hk with hk
  subst hk
  rcases hp _ hS with h1|⟨T,cs,h1,h2⟩
  ·exact absurd hg (Nat.not_le.2 h1)
  ·have hb:Blk w g e cur:=hh
   exact h2 (List.mem_singleton.2 (h1.inj hb).1)
def KeepsO {α:Type} (B:Nat) (Ts:List TypeId) (E:World→α→List Value→Prop):Prop:=∀w w' S x cs,E w x cs→Stays S w w'→Sep B Ts w S→E w' x cs
def TextO (B:Nat) (w:World) (x:Bs) (cs:List Value):Prop:=∃v,cs=[v]∧Own8 w B v x
theorem XKz (B:Nat):KeepsO B [5] (TextO B):=fun w w' S x cs ⟨v,h1,h2⟩ hs hp=>⟨v,h1,ownsRow_sep h2 hs hp⟩
theorem Own8.sep {B:Nat} {w w':World} {v:Value} {bs:Bs} {S:Nat→Prop} (h:Own8 w B v bs) (hs:Stays S w w') (hp:Sep B [5] w S):Own8 w' B v bs:=ownsRow_sep h hs hp
def RowO {α:Type} (E:World→α→List Value→Prop) (T N B:Nat) (w:World) (v:Value) (xs:List α):Prop:=
 ∃css:List (List Value),css.length=xs.length∧w.ownsRow B T N v xs.length css.flatten∧∀(i:Nat) (x:α),xs[i]? =some x→∃cs,css[i]? =some cs∧E w x cs∧cs.length=N
theorem RowO.nil {α:Type} (E:World→α→List Value→Prop) (T N B:Nat) (w:World):RowO E T N B w (.slice none 0 0) []:=⟨[],rfl,⟨by simp,.inl ⟨rfl,rfl⟩⟩,fun i x h=>by cases h⟩
theorem RowO.sep {α:Type} {E:World→α→List Value→Prop} {T N B:Nat} {Ts:List TypeId} {w w':World} {v:Value} {xs:List α} {S:Nat→Prop} (h:RowO E T N B w v xs) (hE:KeepsO B Ts E) (hs:Stays S w w') (hp:Sep B (T ::Ts) w S):RowO E T N B w' v xs:=by
 obtain⟨css,h1,h2,h3⟩:=h
 refine⟨css,h1,ownsRow_sep h2 hs (hp.mono (by simp)),fun i x hx=>?_⟩
 obtain⟨cs,h4,h5,h6⟩:=h3 i x hx
 exact⟨cs,h4,hE _ _ _ _ _ h5 hs (hp.mono fun T hT=>List.mem_cons_of_mem _ hT),h6⟩
theorem flat_at (N:Nat):∀(css:List (List Value)),(∀cs∈css,cs.length=N)→∀(i:Nat) (cs:List Value),css[i]? =some cs→∀j,j<N→css.flatten[i*N+j]? =cs[j]?
 | [],_,i,cs,h,j,hj=>by cases h
 |c ::css,hl,i,cs,h,j,hj=>by
  have hc:=hl c (List.mem_cons_self ..)
  cases i with
  |zero=>
   rw[List.getElem?_cons_zero]at h
   injection h with h
   subst h
   rw[List.flatten_cons,Nat.zero_mul,Nat.zero_add,List.getElem?_append_left (by omega)]
  |succ i=>
   rw[List.getElem?_cons_succ]at h
   rw[List.flatten_cons,List.getElem?_append_right (by rw[Nat.succ_mul];omega),hc,Nat.succ_mul,show i*N+N+j-N=i*N+j by omega]
   exact flat_at N css (fun cs h=>hl cs (List.mem_cons_of_mem _ h)) i cs h j hj
theorem css_len {α:Type} {P:α→List Value→Prop} {N:Nat} {xs:List α} {css:List (List Value)} (h1:css.length=xs.length) (h3:∀(i:Nat) (x:α),xs[i]? =some x→∃cs,css[i]? =some cs∧P x cs∧cs.length=N):∀cs∈css,cs.length=N:=fun cs hm=>by
 obtain⟨i,hi⟩:=List.getElem?_of_mem hm
 have hlt:i<xs.length:=by have:=(List.getElem?_eq_some_iff.1 hi).1;omega
 obtain⟨cs',h4,_,h6⟩:=h3 i _ (List.getElem?_eq_getElem hlt)
 rw[hi]at h4
 injection h4 with h4
 rw[h4];exact h6
theorem RowO.e {α:Type} {E E':World→α→List Value→Prop} {T N B:Nat} {w:World} {v:Value} {xs:List α} (h:RowO E T N B w v xs) (hE:∀x cs,E w x cs→E' w x cs):ESl E' N w v xs:=by
 obtain⟨css,h1,h2,h3⟩:=h
 obtain⟨p,c,rfl,hc,hm,hp,hr⟩:=QLz h2
 refine⟨p,_,c,rfl,rfl,hc,by unfold maxLen;omega,fun hn=>?_,hp⟩
 rcases hr with h0|⟨g,rfl,hB,hg,hcell⟩
 ·exact absurd (List.eq_nil_of_length_eq_zero h0) hn
 ·refine⟨g,0,rfl,hg,fun i x hx=>?_⟩
  obtain⟨cs,h4,h5,h6⟩:=h3 i x hx
  refine⟨cs,hE x cs h5,fun j u hu=>?_⟩
  have hj:j<N:=by have:=(List.getElem?_eq_some_iff.1 hu).1;omega
  have:=flat_at N css (css_len h1 h3) i cs h4 j hj
  rw[Nat.zero_add]
  exact hcell _ u (by rw[this];exact hu)
theorem RowO.app {α:Type} {E:World→α→List Value→Prop} {T N B:Nat} {Ts:List TypeId} {w w':World} {v v':Value} {xs:List α} {css:List (List Value)} (h1:css.length=xs.length) (h2:w.ownsRow B T N v xs.length css.flatten) (h3:∀(i:Nat) (x:α),xs[i]? =some x→∃cs,css[i]? =some cs∧E w x cs∧cs.length=N)
 (hE:KeepsO B Ts E) (hT:T∉Ts) {x:α} {cs:List Value} (hx:E w x cs) (hl:cs.length=N) (ho:w'.ownsRow B T N v' (xs.length+1) (css.flatten++cs)) (hg:w.grownBy w' v.ownBlock):RowO E T N B w' v' (xs++[x]):=by
 have hs:Stays (fun k=>v.ownBlock=some k) w w':=Stays.of_grown hg fun k h=>h
 have hsep:Sep B Ts w (fun k=>v.ownBlock=some k):=fun k hk=>by
  rcases h2.2 with⟨rfl,_⟩|⟨g,cap,cur,rfl,hg,hh,_⟩
  ·cases hk
  ·injection hk with hk
   subst hk
   exact .inr ⟨T,cur,hh,hT⟩
 refine⟨css++[cs],by simp[h1],by rw[List.length_append,List.flatten_append];simpa using ho,fun i y hy=>?_⟩
 rcases Nat.lt_or_ge i xs.length with hi|hi
 ·rw[List.getElem?_append_left hi]at hy
  obtain⟨cs',h4,h5,h6⟩:=h3 i y hy
  exact⟨cs',by rw[List.getElem?_append_left (by omega)];exact h4,hE _ _ _ _ _ h5 hs hsep,h6⟩
 ·rw[List.getElem?_append_right hi]at hy
  have hi0:i-xs.length=0:=by
   have:=(List.getElem?_eq_some_iff.1 hy).1
   simp at this;omega
  rw[hi0]at hy
  injection hy with hy
  subst hy
  exact⟨cs,by rw[List.getElem?_append_right (by omega),h1,hi0];rfl,hE _ _ _ _ _ hx hs hsep,hl⟩
def InO (B:Nat) (w:World) (x:TIn) (cs:List Value):Prop:=∃sv wv,cs=Q5z x.id++[u32 x.ix,sv,u32 x.sq,wv]∧x.id.length=32∧Own8 w B sv x.sc∧RowO (TextO B) 26 1 B w wv x.wi
def OutO (B:Nat) (w:World) (x:TOut) (cs:List Value):Prop:=∃sv,cs=[.int .i64 x.va.toInt,sv]∧Own8 w B sv x.sc
def TxO (B:Nat) (w:World) (t:TTx) (cs:List Value):Prop:=∃iv ov,cs=[u32 t.ve,iv,ov,u32 t.lo]∧RowO (InO B) 209 36 B w iv t.is∧RowO (OutO B) 204 2 B w ov t.os
theorem Qwz (B:Nat):KeepsO B [5,26] (InO B):=fun w w' S x cs ⟨sv,wv,h1,h2,h3,h4⟩ hs hp=>⟨sv,wv,h1,h2,h3.sep hs (hp.mono (by simp)),h4.sep (XKz B) hs (hp.mono (by simp))⟩
theorem Qyz (B:Nat):KeepsO B [5] (OutO B):=fun w w' S x cs ⟨sv,h1,h2⟩ hs hp=>⟨sv,h1,h2.sep hs hp⟩
theorem QJz (B:Nat):KeepsO B [5,26,209,204] (TxO B):=fun w w' S x cs ⟨iv,ov,h1,h2,h3⟩ hs hp=>⟨iv,ov,h1,h2.sep (Qwz B) hs (hp.mono (by simp)),h3.sep (Qyz B) hs (hp.mono (by simp))⟩
theorem TextO.c {B:Nat} {w:World} {x:Bs} {cs:List Value} (h:TextO B w x cs):TextC w x cs:=by obtain⟨v,h1,h2⟩:=h;exact⟨v,h1,h2.sl⟩
theorem InO.c {B:Nat} {w:World} {x:TIn} {cs:List Value} (h:InO B w x cs):InC w x cs:=by obtain⟨sv,wv,h1,h2,h3,h4⟩:=h;exact⟨sv,wv,h1,h2,h3.sl,h4.e fun _ _ h=>h.c⟩
theorem OutO.c {B:Nat} {w:World} {x:TOut} {cs:List Value} (h:OutO B w x cs):OutC w x cs:=by obtain⟨sv,h1,h2⟩:=h;exact⟨sv,h1,h2.sl⟩
theorem TxO.c {B:Nat} {w:World} {t:TTx} {cs:List Value} (h:TxO B w t cs):TxC w t cs:=by obtain⟨iv,ov,h1,h2,h3⟩:=h;exact⟨iv,ov,h1,h2.e fun _ _ h=>h.c,h3.e fun _ _ h=>h.c⟩
def Dat (B g:Nat) (w:World) (v:Value) (s:Bs):Prop:=Sl w v s∧(s≠[]→∀k,v.ownBlock=some k→k≠g∧(k<B∨∃cs,Blk w k 5 cs))
def Rw (B g:Nat) (w:World) (S:Nat→Prop):Prop:=∀k,S k→k=g∨B≤k∧∃T cs,Blk w k T cs∧T≠5
theorem Dat.stays {B g:Nat} {w w':World} {v:Value} {s:Bs} {S:Nat→Prop} (h:Dat B g w v s) (hs:Stays S w w') (hS:Rw B g w S):Dat B g w' v s:=by
 obtain⟨⟨p,n,c,rfl,h1,h2,h3,h4,h5⟩,h6⟩:=h
 have hn:s≠[]→∀k,(Value.slice p n c).ownBlock=some k→¬S k:=fun hs0 k hk hSk=>by
  obtain⟨h7,h8⟩:=h6 hs0 k hk
  rcases hS k hSk with h9|⟨h9,T,cs,h10,h11⟩
  ·exact h7 h9
  ·rcases h8 with h8|⟨cs',h8⟩
   ·omega
   ·exact h11 (h10.inj h8).1
 refine⟨⟨p,n,c,rfl,h1,h2,h3,h4.stays hs (fun hs0 a ha=>hn hs0 a.block (by rw[ha];rfl)),h5⟩,fun hs0 k hk=>?_⟩
 obtain⟨h7,h8⟩:=h6 hs0 k hk
 exact⟨h7,h8.imp id fun⟨cs,h⟩=>⟨cs,h.stays hs (hn hs0 k hk)⟩⟩
def RdAt (B g:Nat) (w:World) (s:Bs):Prop:=∃v,Blk w g 230 #[v]∧Dat B g w v s∧s.length≤200000000000000∧g<B∧B≤w.heap.size
theorem RdAt.stays {B g:Nat} {w w':World} {s:Bs} {S:Nat→Prop} (h:RdAt B g w s) (hs:Stays S w w') (hS:Rw B g w S) (hg:¬S g):RdAt B g w' s:=by
 obtain⟨v,h1,h2,h3,h4,h5⟩:=h
 exact⟨v,h1.stays hs hg,h2.stays hs hS,h3,h4,Nat.le_trans h5 hs.size⟩
theorem RdAt.fut {B g:Nat} {w w':World} {s:Bs} (h:RdAt B g w s) (hb:Below w.heap.size w w'):RdAt B g w' s:=
 h.stays (Stays.of_below hb (Nat.le_refl _) (fun _=>False)) (fun _ h=>h.elim) id
def RdP {α:Type} (B g:Nat) (w:World) (p:Pz α) (s:Bs) (V:World→α→Value→Prop) (e:Ending) (w':World):Prop:=
 match p s with
 | .ok (a,r)=>∃v,e= .returned v∧V w' a v∧RdAt B g w' r∧Stays (·=g) w w'
 | .error k=>e= .panicked [{ v:=.iface 27 (.int .i64 k),recovered:=false }]∧Stays (·=g) w w'
theorem RdP.ok {α:Type} {B g:Nat} {w:World} {p:Pz α} {s:Bs} {V:World→α→Value→Prop} {v:Value} {w':World} {a:α} {r:Bs} (h:p s= .ok (a,r)) (h1:V w' a v) (h2:RdAt B g w' r) (h3:Stays (·=g) w w'):RdP B g w p s V (.returned v) w':=by
 unfold RdP;rw[h];exact⟨v,rfl,h1,h2,h3⟩
theorem RdP.bad {α:Type} {B g:Nat} {w:World} {p:Pz α} {s:Bs} {V:World→α→Value→Prop} {k:Int} {w':World} (h:p s= .error k) (h3:Stays (·=g) w w'):RdP B g w p s V (.panicked [{ v:=.iface 27 (.int .i64 k),recovered:=false }]) w':=by
 unfold RdP;rw[h];exact⟨rfl,h3⟩
theorem textZ_eq (s:Bs):textZ s=if(textP s 10000).2.2=0 then .ok ((textP s 10000).1,(textP s 10000).2.1)else .error (textP s 10000).2.2:=by
 have hv:iv64 (cutP s).1=((cutP s).1.toNat:Int):=rfl
 have hc:((10000:Int)<0∧0<iv64 (cutP s).1∨0≤(10000:Int)∧10000<iv64 (cutP s).1)↔10000<(cutP s).1.toNat:=by omega
 have hd:(((cutP s).2.1.length:Int)<iv64 (cutP s).1)↔(cutP s).2.1.length<(cutP s).1.toNat:=by omega
 unfold textZ Pz.bind cntZ textP takeZ
 simp only[hc,hd]
 by_cases h1:(cutP s).2.2=0
 ·by_cases h2:10000<(cutP s).1.toNat
  ·simp[h1,h2]
  ·by_cases h3:(cutP s).2.1.length<(cutP s).1.toNat
   ·simp[h1,h2,h3]
   ·simp[h1,h2,h3]
 ·simp[h1]
def contM {α:Type} (xs:List α) (p:Pz α) (m:Nat) (s:Bs):Except Int (List α × Bs):=match manyZ p m s with
 | .ok (l,r)=>.ok (xs++l,r)
 | .error e=>.error e
theorem Zgz {α:Type} (p:Pz α) (n:Nat) (s:Bs):manyZ p n s=contM [] p n s:=by
 unfold contM
 cases manyZ p n s with
 |error e=>rfl
 |ok x=>rfl
theorem contM_end {α:Type} (xs:List α) (p:Pz α) (s:Bs):contM xs p 0 s= .ok (xs,s):=by
 unfold contM manyZ Pz.ret
 simp
theorem contM_ok {α:Type} {xs:List α} {p:Pz α} {m:Nat} {s r:Bs} {a:α} (h:p s= .ok (a,r)):contM xs p (m+1) s=contM (xs++[a]) p m r:=by
 unfold contM
 rw[show manyZ p (m+1)=(p.bind fun a=>(manyZ p m).bind fun l=>Pz.ret (a ::l))from rfl,Pz.bind_ok h]
 unfold Pz.bind
 cases manyZ p m r with
 |error e=>rfl
 |ok x=>simp[Pz.ret]
theorem contM_bad {α:Type} {xs:List α} {p:Pz α} {m:Nat} {s:Bs} {e:Int} (h:p s= .error e):contM xs p (m+1) s= .error e:=by
 unfold contM
 rw[show manyZ p (m+1)=(p.bind fun a=>(manyZ p m).bind fun l=>Pz.ret (a ::l))from rfl,Pz.bind_err h]
end
end Go.Proofs.YtjbijcjcejfpcaaGreatDoor
