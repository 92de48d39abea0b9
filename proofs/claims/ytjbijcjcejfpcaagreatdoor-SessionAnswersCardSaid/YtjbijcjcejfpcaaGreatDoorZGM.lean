/- Slices of headers, slices of hashes, and a hash, read as data. · append of rows  -/
import Derived.Test.YtjbijcjcejfpcaaGreatDoorZGH
import Derived.Test.YtjbijcjcejfpcaaGreatDoorZGS
namespace Go.Proofs.YtjbijcjcejfpcaaGreatDoor
set_option linter.unusedVariables false
set_option maxRecDepth 100000
set_option maxHeartbeats 16000000
section
open Go.RowKit
theorem flatten_at {α:Type} (N:Nat) (hN:0<N):∀(ls:List (List α)) (j:Nat),(∀cs∈ls,cs.length=N)→ls.flatten[j]? =(ls[j / N]?).bind (·[j % N]?)
 | [],j,_=>by simp
 |cs ::ls,j,h=>by
  have hl:=h cs (by simp)
  rw[List.flatten_cons]
  rcases Nat.lt_or_ge j N with hj|hj
  ·rw[List.getElem?_append_left (by omega),Nat.div_eq_of_lt hj,Nat.mod_eq_of_lt hj];rfl
  ·rw[List.getElem?_append_right (by omega),hl,flatten_at N hN ls (j-N) (fun c hc=>h c (by simp[hc]))]
   obtain⟨q,rfl⟩:∃q,j=q+N:=⟨j-N,by omega⟩
   rw[Nat.add_sub_cancel,Nat.add_div_right _ hN,Nat.add_mod_right,List.getElem?_cons_succ]
theorem flatten_len {α:Type} (N:Nat):∀(ls:List (List α)),(∀cs∈ls,cs.length=N)→ls.flatten.length=ls.length*N
 | [],_=>by simp
 |cs ::ls,h=>by
  rw[List.flatten_cons,List.length_append,h cs (by simp),flatten_len N ls (fun c hc=>h c (by simp[hc])),List.length_cons,Nat.add_mul];omega
theorem RowsN.lens {N:Nat} {w:World} {p:Option Addr} {ls:List (List Value)} (h:RowsN N w p ls):∀cs∈ls,cs.length=N:=fun cs hc=>by
 obtain⟨b,off,_,_,hall⟩:=h (by intro e;rw[e]at hc;cases hc)
 obtain⟨i,hi⟩:=List.getElem?_of_mem hc
 exact(hall i cs hi).1
theorem run_append_row {P:Program} (w:World) (t ty e:TypeId) (N bytes:Nat) (i0:TypeInfo) (z:Value) (ht:P.underlying t=some (.slice e)) (hi:P.info? e=some i0) (hz:i0.zero=some z) (hsize:i0.size=N) (hby:i0.bytes=bytes) (hzs:z.cells.size=N) (hN:0<N)
 (B:Nat) (v:Value) (n:Nat) (xs:List Value) (hown:w.ownsRow B e N v n xs) (p:Option Addr) (m c:Nat) (ls:List (List Value)) (hr:RowsN N w p ls) (hm:ls.length=m) (h1:∀u∈ls.flatten,u.oneCell'=true)
 (hlen:(n+m)*bytes≤140737488355328) (h63:n+m≤maxLen) (hB:B≤w.heap.size):
 ∃v' w',(Builtin.append_ #[t,t] ty #[v,.slice p m c]).run P w= .ok v' w'∧w'.ownsRow B e N v' (n+m) (xs++ls.flatten)∧w.grownBy w' v.ownBlock∧(v'.ownBlock=v.ownBlock∨v'.ownBlock=some w.heap.size):=by
 cases p with
 |none=>
  have hn:ls=[]:=by
   by_cases h:ls=[]
   ·exact h
   ·obtain⟨b,off,e,_⟩:=hr h
    cases e
  subst hn
  obtain rfl:m=0:=by simpa using hm.symm
  refine⟨v,w,?_,by simpa using hown,World.grownBy.refl w _,.inl rfl⟩
  rcases hown.2 with⟨rfl,h0⟩|⟨g,cap,cur,rfl,_,_,hnc,_⟩
  ·subst h0
   simp[Builtin.append_,run_underlying ht,sizeOf,typeInfo,hi,Builtin.lenOf,Builtin.firstCells]
  ·simp[Builtin.append_,run_underlying ht,sizeOf,typeInfo,hi,Builtin.lenOf,Builtin.firstCells,hnc,storeCells]
 |some ad=>
  have hcells:∀j u,ls.flatten[j]? =some u→w.cell? (ad.add j)=some u:=by
   intro j u hu
   have hne:ls≠[]:=by intro e;rw[e]at hu;cases hu
   obtain⟨b,off,e,_,hall⟩:=hr hne
   injection e with e
   subst e
   rw[flatten_at N hN ls j hr.lens]at hu
   cases hq:ls[j / N]? with
   |none=>rw[hq]at hu;cases hu
   |some cs=>
    rw[hq]at hu
    have:=(hall _ cs hq).2 (j % N) u hu
    rw[Addr.add_lit]
    rw[show off+j / N*N+j % N=off+j by rw[Nat.add_assoc,Nat.div_add_mod' j N]]at this
    exact this
  obtain⟨v',w',hrun,h2,h3,_,h5⟩:=run_append_own_at (P:=P) w B t ty e i0 z N bytes ht hi hz hsize hby hzs hN v n xs hown ad m c ls.flatten (by rw[flatten_len N ls hr.lens,hm]) hcells h1 h63 hlen hB
  exact⟨v',w',hrun,h2,h3,h5⟩
theorem wp_append_row {P:Program} {ops:Array Oper} {rest:List Oper} {o:Oper} {a:Act} {Q:Exit→Act→World→Prop} {w:World} (hgd:o.guard=none) (s x:Operand) (t e:TypeId)
 (ho:o.op= .call { callee:=.builtin .append,args:=#[s,x],argTypes:=#[t,t] }) (N bytes:Nat) (z:Value) (ht:P.underlying t=some (.slice e)) (hinfo:(P.info? e).map (fun i=>(i.zero,i.size,i.bytes))=some (some z,N,bytes)) (hzs:z.cells.size=N) (hN:0<N)
 (B:Nat) (v:Value) (n:Nat) (xs:List Value) (hs:a.eval s=v) (hown:w.ownsRow B e N v n xs) (p:Option Addr) (m c:Nat) (ls:List (List Value)) (hx:a.eval x= .slice p m c) (hm:ls.length=m) (hr:RowsN N w p ls) (h1:∀u∈ls.flatten,u.oneCell'=true)
 (hlen:(n+m)*bytes≤140737488355328) (h63:n+m≤maxLen) (hB:B≤w.heap.size) (B0:Nat) (w0:World) (hb:Below B0 w0 w) (hB0:B0≤B)
 (h:∀v' w',w'.ownsRow B e N v' (n+m) (xs++ls.flatten)→Below B0 w0 w'→w.grownBy w' v.ownBlock→(v'.ownBlock=v.ownBlock∨v'.ownBlock=some w.heap.size)→wpList P ops Q rest (a.put o.dst v') w'):wpList P ops Q (o ::rest) a w:=by
 obtain⟨i0,hi,hz0,hz1,hz2⟩:=info_parts hinfo
 obtain⟨v',w',hrun,h2,h3,h4⟩:=run_append_row w t o.type e N bytes i0 z ht hi hz0 hz1 hz2 hzs hN B v n xs hown p m c ls hr hm h1 hlen h63 hB
 refine wpList_plain hgd fun K hK=>?_
 unfold Oper.wp execOp
 simp only[ho,resolve,invoke,builtin,Sem.run_bind,Sem.run_pure,Result.andThen_ok,List.map_toArray,List.map_cons,List.map_nil,hs,hx,hrun]
 refine hK _ _ (h v' w' h2 (hb.grown h3 (Nat.le_trans hB0 hB) fun k hk=>?_) h3 h4)
 exact Nat.le_trans hB0 (World.ownsRow.lt hown k hk).1
end
section
open Go.RowKit
def pairH (a b:List (BitVec 8)):List (BitVec 8):=sha (sha (a++b))
end
section
open Go.RowKit
def hA (l:List (List (BitVec 8))) (i:Nat):List (BitVec 8):=l[i]?.getD (Qcz 32)
def upAt (l:List (List (BitVec 8))) (j:Nat):List (BitVec 8):=pairH (hA l (2*j)) (hA l (min (2*j+1) (l.length-1)))
def upTo (l:List (List (BitVec 8))) (j:Nat):List (List (BitVec 8)):=(List.range j).map (upAt l)
def up (l:List (List (BitVec 8))):List (List (BitVec 8)):=upTo l ((l.length+1) / 2)
end
section
open Go.RowKit
def hid (h:Hdr):List (BitVec 8):=sha (sha h.bytes)
theorem hid_len (h:Hdr):(hid h).length=32:=Z2z _
theorem hdrID_any (h:Hdr) (hk:h.ok) (w:World) (hK:Laid w):Calls Tryz.prog 50 #[.agg h.cells.toArray] w fun e w'=>e= .returned (.agg (Q5z (hid h)).toArray)∧Below w.heap.size w w':=by
 obtain⟨C,hC⟩:∃C,C=h.cells.toArray:=⟨_,rfl⟩
 rw[←hC]
 have HC:=Lib.hid hC
 have HK:=Lib.hid hk
 have HL:=Lib.hid hK
 have hKs:=hK.size
 have hz:=zero32
 obtain⟨Y,hY⟩:∃Y,Y=((Qcz 32).map u8).toArray:=⟨_,rfl⟩
 rw[←hY]at hz
 have HYS:Hid (Y.size=32):=Lib.hid (by rw[hY];rfl)
 obtain⟨V,hV⟩:∃V,V=hid h:=⟨_,rfl⟩
 have HV:=Lib.hid hV
 have HVL:Hid (V.length=32):=Lib.hid (by rw[hV];exact hid_len h)
 rw[←hV]
 clear hC hk hK hY hV
 go_enter Tryz.func50,Tryz.ntmps50
 go_upto_region 1 with fail
 refine X9z (fun w'=>Hid (Blk w' w.heap.size 36 h.cells.toArray)∧Hid (Blk w' (w.heap.size+1) 32 Y)∧Below w.heap.size w w') ⟨Lib.hid (by rw[←HC.out];exact(Blk.new w _ _).alloc _),Lib.hid (Blk.new2 w _ _ _),((Below.refl _ _).alloc (Nat.le_refl _) _).alloc (by simp) _⟩ ?_
 rintro w1 ⟨hb1,hy1,hbel1⟩
 have hlt1:=hy1.out.lt
 have hrg:=hb1.out.range
 go_wp2_with(with_reducible refine wpList_load_mid (op:=⟨some 3,_,_,_,_,_⟩) ?_ 36 (.tmp 1) ?_ w.heap.size 0 ?_ h.cells _ hrg Tryz.underlying36 ?_ ?_ ?_
             ·rfl
             ·rfl
             ·rfl
             ·rfl
             ·exact XWz HK.out)
 refine(hdrEncode_any h HK.out w1).mono ?_
 rintro e w2 ⟨g,rfl,hb2,hg2,hbel2⟩
 have hbw2:=hbel1.trans (hbel2.mono hbel1.size)
 have hy2:=Lib.hid (hy1.out.below hbel2 hlt1)
 have hr2:=hdr_row hb2.out
 have hL2:=HL.out.below hbw2 hKs
 have hbl:Hid (h.bytes.length=80):=Lib.hid (Hdr.bytes_len HK.out)
 clear hrg hb1 hy1 hbel1 hbel2
 go_wp2_with fail
 refine(shaDouble_any (some ⟨g,0,none⟩) 80 80 h.bytes w2 hL2 hr2 hbl.out (by omega) (by omega) (by omega)).mono ?_
 rw[show Q5z (sha (sha h.bytes))=Q5z V from by rw[HV.out];rfl]
 rintro e w3 ⟨rfl,hbel3⟩
 have hbw3:=hbw2.trans (hbel3.mono hbw2.size)
 have hy3:=Lib.hid (hy2.out.below hbel3 hy2.out.lt)
 go_wp2_with(with_reducible refine Q4z (o:=⟨none,_,_,_,_,_⟩) ?_ 32 (.tmp 2) (.tmp 5) ?_ (w.heap.size+1) 32 Y (Q5z V).toArray ?_ ?_ hy3.out ?_ ?_ ?_ w.heap.size w hbw3 ?_ ?_
             ·rfl
             ·rfl
             ·rfl
             ·rfl
             ·exact Qsz HVL.out
             ·exact HYS.out.trans (by rw[List.size_toArray,Q5z,List.length_map,HVL.out])
             ·exact Qzz V
             ·omega
             intro w4 hz4 hb4 _ _)
 refine bodyPost_ret (Qqz rfl _ _ _ (w.heap.size+1) _ (Q5z V) _ rfl hz4.out Tryz.underlying32 rfl (Quz HVL.out)) rfl ?_
 exact⟨rfl,hb4⟩
end
section
open Go.RowKit
def hAt (hs:List Hdr) (i:Nat):Hdr:=hs[i]?.getD noHdr
end
section
open Go.RowKit
def HRow (w:World) (g:Nat) (l:List (List (BitVec 8))) (m:Nat):Prop:=(∀i x,l[i]? =some x→w.rangeAt g (i*32) (Q5z x))∧w.there g 0 (m*32)∧g<w.heap.size
end
end Go.Proofs.YtjbijcjcejfpcaaGreatDoor
