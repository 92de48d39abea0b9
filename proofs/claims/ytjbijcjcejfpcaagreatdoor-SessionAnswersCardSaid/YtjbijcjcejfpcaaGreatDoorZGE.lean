/- sporranref07's reader, which keeps its first error: take, low, count, text. · sp -/
import Derived.Test.YtjbijcjcejfpcaaGreatDoorZGD
namespace Go.Proofs.YtjbijcjcejfpcaaGreatDoor
set_option linter.unusedVariables false
set_option maxRecDepth 100000
set_option maxHeartbeats 16000000
section
open Go Go.RowKit
def Step {α:Type} (p:Pz α) (er:Int) (s:Bs) (a:α) (er':Int) (r:Bs):Prop:=
 if er=0 then(match p s with
  | .ok (a',r')=>er'=0∧a=a'∧r=r'
  | .error k=>er'=k∧k≠0)else er'=er
theorem Step.ret {α:Type} (a:α) (er:Int) (s:Bs):Step (Pz.ret a) er s a er s:=by
 unfold Step
 split
 ·rename_i h;exact⟨h,rfl,rfl⟩
 ·rfl
theorem Step.bind {α β:Type} {p:Pz α} {f:α→Pz β} {er er1 er2:Int} {s s1 s2:Bs} {a:α} {b:β} (h:Step p er s a er1 s1) (h2:Step (f a) er1 s1 b er2 s2):Step (p.bind f) er s b er2 s2:=by
 unfold Step at h h2 ⊢
 by_cases he:er=0
 ·rw[if_pos he]at h ⊢
  cases hp:p s with
  |error k=>
   rw[hp]at h
   simp only at h
   rw[if_neg (by rw[h.1];exact h.2)]at h2
   rw[Pz.bind_err hp]
   exact⟨h2.trans h.1,h.2⟩
  |ok x=>
   obtain⟨a',r'⟩:=x
   rw[hp]at h
   simp only at h
   obtain⟨h3,rfl,rfl⟩:=h
   rw[if_pos h3]at h2
   rw[Pz.bind_ok hp]
   exact h2
 ·rw[if_neg he]at h ⊢
  rw[if_neg (by rw[h];exact he)]at h2
  rw[h2,h]
theorem Step.ok {α:Type} {p:Pz α} {s r:Bs} {a:α} (h:p s= .ok (a,r)):Step p 0 s a 0 r:=by unfold Step;rw[if_pos rfl,h];exact⟨rfl,rfl,rfl⟩
theorem Step.err {α:Type} {p:Pz α} {s r:Bs} {a:α} {k:Int} (h:p s= .error k) (hk:k≠0):Step p 0 s a k r:=by unfold Step;rw[if_pos rfl,h];exact⟨rfl,hk⟩
theorem Step.bad {α:Type} {p:Pz α} {s r:Bs} {a:α} {er:Int} (h:er≠0):Step p er s a er r:=by unfold Step;rw[if_neg h]
theorem zs_eq (j:Nat):((List.replicate j 0#8).map u8).toArray=Array.replicate j (u8 0#8):=by simp
theorem make8z (w:World) (j:Nat) (h:j≤140737488355328):(Instr.makeSlice 26 (.int .i64 (j:Int)) (.int .i64 (j:Int))).run Tryz.prog w= .ok (.slice (some ⟨w.heap.size,0,none⟩) j j) (w.alloc (.cells (Array.replicate j (u8 0#8)) 5)):=by
 obtain⟨i0,hi,hz0,hz1,hz2⟩:=info_parts u8info
 have hr:=run_make (P:=Tryz.prog) w 26 5 i0 (.int .u8 0) Tryz.underlying26 hi hz0 .i64 .i64 (j:Int) (j:Int) (by omega) (Int.le_refl _) (by rw[hz2];omega) (by omega)
 rw[hr,Int.toNat_natCast,hz1,Nat.mul_one]
 have e:madeCells (Value.int IntKind.u8 0).cells j=Array.replicate j (u8 0#8):=by
  unfold madeCells
  refine Array.ext (by simp) fun i h1 h2=>?_
  simp[Value.cells,u8,iv8,Nat.mod_one]
 rw[e]
theorem own_z (w:World) (B j:Nat) (hB:B≤w.heap.size) (hj:j≤140737488355328):Own8 (w.alloc (.cells (Array.replicate j (u8 0#8)) 5)) B (.slice (some ⟨w.heap.size,0,none⟩) j j) (List.replicate j 0#8):=by
 rw[←zs_eq]
 refine⟨by simp,.inr ⟨w.heap.size,j,_,by simp,hB,Blk.new w _ _,by simp,by unfold maxLen;omega,by simp,?_⟩⟩
 simp
theorem cell2 {w:World} {g:Nat} {t:TypeId} {a b:Value} (h:Blk w g t #[a,b]):w.cell? ⟨g,0,none⟩=some a∧w.cell? ⟨g,1,none⟩=some b∧w.frozen? ⟨g,0,none⟩=false∧w.frozen? ⟨g,1,none⟩=false:=by
 refine⟨?_,?_,h.frozen 0,h.frozen 1⟩
 ·have:=h.cell 0;simpa using this
 ·have:=h.cell 1;simpa using this
end
section
open Go Go.RowKit
theorem refHas_any (t:TTx) (cs:List Value) (w:World) (h:TxC w t cs):Calls Tryz.prog 126 #[.agg cs.toArray] w fun e w'=>e= .returned (.bool (hasWs t.is))∧Below w.heap.size w w':=by
 obtain⟨iv,ov,rfl,hi,ho⟩:=h
 obtain⟨r,hr⟩:∃r,r=hasWs t.is:=⟨_,rfl⟩
 rw[←hr]
 have HR:=Lib.hid hr
 obtain⟨pi,n,ci,rfl⟩:=hi.opens
 have HI:=Lib.hid hi
 obtain⟨hn,hnc,hcm⟩:=hi.slen
 obtain⟨vv,hvv⟩:∃v,v=u32 t.ve:=⟨_,rfl⟩
 obtain⟨vl,hvl⟩:∃v,v=u32 t.lo:=⟨_,rfl⟩
 rw[←hvv,← hvl]
 have HN:=Lib.hid hn
 have hb1:=Q1z w (.cells #[vv,.slice pi n ci,ov,vl] 171)
 have HB1:=Lib.hid (Blk.new w 171 #[vv,.slice pi n ci,ov,vl])
 clear hr hi ho hn hvv hvl
 go_enter Tryz.func126,Tryz.ntmps126
 go_upto_region 1 with fail
 generalize w.alloc (.cells #[vv,.slice pi n ci,ov,vl] 171)=w1 at*
 have HW1:=Lib.hid hb1
 have c1:=HB1.out.cell 1
 simp only[List.getElem?_toArray,List.getElem?_cons_zero,List.getElem?_cons_succ]at c1
 go_upto_region 2 with fail
 clear c1 hb1
 go_loopw[8] (fun i wr=>∃k:Nat,k≤n∧i= .int .i64 k∧Hid (Below w.heap.size w wr)∧Hid (hasWs (t.is.take k)=false)) (fun i _=>n-(intOf i).toNat)
 case atStart=>exact⟨0,by omega,rfl,HW1,Lib.hid rfl⟩
 case round=>
  obtain⟨k,hk,rfl,HWk,HAk⟩:=hrel
  by_cases hkn:k<n
  ·have hlt:(k:Int)<(n:Int):=by omega
   obtain⟨b,off,cs,x,rfl,hx,hE,l2⟩:=HI.out.at HWk.out hkn
   obtain⟨sv,wv,k32,k33,k34,k35,hsv,hwv⟩:=hE.cell
   obtain⟨pw,nw,cw,rfl⟩:=hwv.opens
   obtain⟨hnw,hnwc,hcwm⟩:=hwv.slen
   have HX:=Lib.hid hx
   have HNW:=Lib.hid hnw
   have K35:=Lib.hid k35
   have H3:=Lib.hid hE.len
   have H1:=Lib.hid hE.one
   obtain⟨Z,hZl,hz⟩:=zeroIn
   have HZ:=Lib.hid hZl
   have hbr:=Q1z wr (.cells Z 209)
   clear hx hE k32 k33 k34 k35 hsv hwv hnw hZl
   go_upto_region 4 with(first
    |(with_reducible refine wpList_load_mid (op:=⟨some 11,_,_,_,_,_⟩) ?_ 209 (.tmp 10) ?_ (b) (off+k*36) ?_ (cs) _ (l2) Tryz.underlying209 ?_ ?_ ?_
      ·rfl
      ·rfl
      ·rfl
      ·rfl
      ·exact((QRz H3.out)))
    |(with_reducible refine Q4z (o:=⟨none,_,_,_,_,_⟩) ?_ 209 (.tmp 4) (.tmp 11) ?_ (wr.heap.size) 209 (Z) (cs.toArray) ?_ ?_ (Blk.new wr _ _) ?_ ?_ ?_ (wr.heap.size) (wr) ?_ ?_ ?_
      ·rfl
      ·rfl
      ·rfl
      ·rfl
      ·exact(by rw[List.size_toArray];exact QRz H3.out)
      ·exact(HZ.out.trans (by rw[List.size_toArray];exact H3.out.symm))
      ·exact(H1.out)
      ·exact(hbr)
      ·exact(Nat.le_refl _)
      intro w6 hB6 hb6 hg6 hs6))
   have HW6:=Lib.hid (Q3z HWk.out hb6 (Nat.le_refl _))
   have c35:=hB6.cell 35
   rw[List.getElem?_toArray,K35.out]at c35
   clear hb6 hg6 hs6 l2 hz hbr HWk
   by_cases hw:0<nw
   ·have hlw:(0:Int)<(nw:Int):=by omega
    go_wp2_with fail
    go_ret
    refine⟨?_,HW6.out⟩
    have:hasWs t.is=true:=any_hit _ t.is k x HX.out (decide_eq_true (by rw[HNW.out];exact hw))
    rw[HR.out,this]
    rfl
   ·have hlw:¬(0:Int)<(nw:Int):=by omega
    have hAk:Hid (hasWs (t.is.take (k+1))=false):=Lib.hid (any_take _ t.is k (by have:=HN.out;omega) x HX.out HAk.out (decide_eq_false (by rw[HNW.out];exact hw)))
    go_wp2_with fail
    go_roundw
    case rel=>exact⟨k+1,by omega,by go_num,HW6,hAk⟩
    case measure=>simp[intOf];omega
  ·obtain rfl:k=n:=by omega
   have hall:=HAk.out
   rw[List.take_of_length_le (by have:=HN.out;omega)]at hall
   have HALL:=Lib.hid hall
   clear hall
   go_wp2_with fail
   go_ret
   refine⟨?_,HWk.out⟩
   rw[HR.out,HALL.out]
   rfl
end
section
open Go Go.RowKit
def contP {α:Type} (xs:List α) (p:Pz α) (m:Nat):Pz (List α):=fun s=>contM xs p m s
theorem contP_start {α:Type} (p:Pz α) (n:Nat):contP [] p n=manyZ p n:=by
 funext s
 exact(Zgz p n s).symm
theorem own_sep {B:Nat} {w:World} {T N:Nat} {v:Value} {n:Nat} {xs:List Value} {Ts:List TypeId} (h:w.ownsRow B T N v n xs) (hT:T∉Ts):Sep B Ts w (fun k=>v.ownBlock=some k):=fun k hk=>by
 rcases h.2 with⟨rfl,_⟩|⟨q,cap,cur,rfl,hB,hh,_⟩
 ·cases hk
 ·injection hk with hk
  subst hk
  exact .inr ⟨T,cur,hh,hT⟩
end
section
open Go Go.RowKit
def NZ {α:Type} (p:Pz α):Prop:=∀s k,p s= .error k→k≠0
theorem NZ.ret {α:Type} (a:α):NZ (Pz.ret a):=fun s k h=>by cases h
theorem NZ.fail {α:Type} {e:Int} (he:e≠0):NZ (Pz.fail (α:=α) e):=fun s k h=>by
 injection h with h
 rw[←h]
 exact he
theorem NZ.bind {α β:Type} {p:Pz α} {f:α→Pz β} (hp:NZ p) (hf:∀a,NZ (f a)):NZ (p.bind f):=fun s k h=>by
 cases hs:p s with
 |error e=>
  rw[Pz.bind_err hs]at h
  injection h with h
  rw[←h]
  exact hp s e hs
 |ok x=>
  obtain⟨a,r⟩:=x
  rw[Pz.bind_ok hs]at h
  exact hf a r k h
theorem nz_take (n:Nat):NZ (takeZ n):=fun s k h=>by
 unfold takeZ at h
 split at h
 ·injection h with h;rw[←h];decide
 ·cases h
theorem nz_num (w:Nat):NZ (numZ w):=(nz_take w).bind fun _=>NZ.ret _
theorem nz_cnt (most:Nat):NZ (cntZ most):=fun s k h=>by
 unfold cntZ at h
 split at h
 ·rename_i h0
  injection h with h;rw[←h];exact h0
 ·split at h
  ·injection h with h;rw[←h];decide
  ·cases h
theorem nz_text:NZ textZ:=(nz_cnt _).bind nz_take
theorem nz_many {α:Type} {p:Pz α} (h:NZ p):∀n,NZ (manyZ p n)
 |0=>NZ.ret _
 |n+1=>h.bind fun _=>(nz_many h n).bind fun _=>NZ.ret _
theorem nz_in:NZ inZ:=(nz_take 32).bind fun _=>(nz_num 4).bind fun _=>nz_text.bind fun _=>(nz_num 4).bind fun _=>NZ.ret _
theorem nz_out:NZ outZ:=(nz_num 8).bind fun v=>by
 split
 ·exact NZ.fail (by decide)
 ·exact nz_text.bind fun _=>NZ.ret _
theorem nz_wits:∀l,NZ (witsZ l)
 | []=>NZ.ret _
 |x ::l=>((nz_cnt 100).bind (nz_many nz_text)).bind fun _=>(nz_wits l).bind fun _=>NZ.ret _
theorem nz_ins:NZ insZ:=(nz_cnt 2000).bind fun n=>by
 split
 ·exact NZ.fail (by decide)
 ·exact nz_many nz_in n
theorem nz_wit (m:Bool) (l:List TIn):NZ (witZ m l):=by
 unfold witZ
 split
 ·exact(nz_wits l).bind fun l=>by
   split
   ·exact NZ.ret _
   ·exact NZ.fail (by decide)
 ·exact NZ.ret _
theorem nz_body (ve:BitVec 64) (m:Bool):NZ (bodyZ ve m):=nz_ins.bind fun _=>((nz_cnt 2000).bind (nz_many nz_out)).bind fun _=>(nz_wit m _).bind fun _=>(nz_num 4).bind fun _=>NZ.ret _
theorem nz_mark:NZ markZ:=fun s k h=>by
 unfold markZ at h
 split at h
 ·refine((nz_take 2).bind fun b=>?_) s k h
  split
  ·exact NZ.ret _
  ·exact NZ.fail (by decide)
 ·cases h
theorem nz_tx:NZ txZ:=(nz_num 4).bind fun ve=>nz_mark.bind (nz_body ve)
end
end Go.Proofs.YtjbijcjcejfpcaaGreatDoor
