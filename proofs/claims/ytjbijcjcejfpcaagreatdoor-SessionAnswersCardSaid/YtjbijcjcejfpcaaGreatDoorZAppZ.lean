/- append(b, make([]byte, n)...) on bytes of one's own: noughts behind. -/
import Derived.Test.YtjbijcjcejfpcaaGreatDoorZGA
namespace Go.Proofs.YtjbijcjcejfpcaaGreatDoor
set_option linter.unusedVariables false
set_option maxRecDepth 100000
set_option maxHeartbeats 16000000
open Go Go.RowKit
def nulls (n:Nat):List (BitVec 8):=List.replicate n 0#8
theorem nulls_len (n:Nat):(nulls n).length=n:=by simp[nulls]
def zs (n:Nat):List Value:=List.replicate n (Value.int .u8 0)
theorem zs_len (n:Nat):(zs n).length=n:=by simp[zs]
theorem zs_one (n:Nat):∀u∈zs n,u.oneCell'=true:=fun u hu=>by
 rw[(List.mem_replicate.1 hu).2];rfl
theorem nulls_zs (n:Nat):(nulls n).map u8=zs n:=by
 unfold nulls zs
 rw[List.map_replicate]
 rfl
theorem zeroCells_u8 (n:Nat):Builtin.zeroCells (Value.int .u8 0).cells n=(zs n).toArray:=by
 unfold Builtin.zeroCells
 apply Array.ext
 ·simp[Value.cells,zs]
 ·intro i h1 h2
  simp[Value.cells,zs,Nat.mod_one]
section
variable (w:World)
theorem run_append_room_zeros (ty e:TypeId) (i:TypeInfo) (ht:Tryz.prog.underlying 26=some (.slice e)) (hu:Tryz.prog.underlying 3=some (.int .i64)) (hi:Tryz.prog.info? e=some i) (hz:i.zero=some (.int .u8 0)) (hs1:i.size=1) (hby:i.bytes=1)
 (g sLen sCap:Nat) (cur:Array Value) (hg:w.heap[g]? =some (.cells cur e (0,0))) (n:Nat) (h0:0<n) (hn:n≤140737488355328)
 (hroom:sLen+n≤sCap) (hfit:sLen+n≤cur.size):
 (Builtin.append_ #[26,3] ty #[.slice (some ⟨g,0,none⟩) sLen sCap,.int .i64 n]).run Tryz.prog w=
   .ok (.slice (some ⟨g,0,none⟩) (sLen+n) sCap) (w.setRow g (cur.toList.take sLen++zs n++cur.toList.drop (sLen+n)).toArray):=by
 have hst:=run_storeCells_at Tryz.prog g sLen e (zs n) 0 cur w hg (by simpa[zs_len]using hfit) (zs_one n)
 simp only[Nat.add_zero,zs_len]at hst
 have hw:IntKind.i64.wrap (n:Int)=n:=by rw[IntKind.wrap_i64];omega
 have h48i:¬(281474976710656<(n:Int)):=by omega
 have hneg:¬((n:Int)<0):=by omega
 have hn0:n≠0:=by omega
 simp[Builtin.append_,run_underlying ht,run_underlying hu,sizeOf,typeInfo,zeroValue,hi,hz,hs1,hby,asInt,asIntOf,hw,hneg,h48i,hn0,hroom,zeroCells_u8,Addr.add_lit,hst]
theorem run_append_grow_zeros (ty e:TypeId) (i:TypeInfo) (ht:Tryz.prog.underlying 26=some (.slice e)) (hu:Tryz.prog.underlying 3=some (.int .i64)) (hi:Tryz.prog.info? e=some i) (hz:i.zero=some (.int .u8 0)) (hs1:i.size=1) (hby:i.bytes=1)
 (b:Option Addr) (sLen sCap:Nat) (olds:List Value) (hold:(Builtin.firstCells 1 sLen (.slice b sLen sCap)).run Tryz.prog w.drew= .ok olds.toArray w.drew) (n:Nat) (h0:0<n) (hn:n≤140737488355328)
 (hg:sCap<sLen+n) (h63:((sLen+n:Nat):Int)≤9223372036854775807) (hfit:Builtin.nextslicecap (sLen+n) sCap≤281474976710656):
 (Builtin.append_ #[26,3] ty #[.slice b sLen sCap,.int .i64 n]).run Tryz.prog w=
   .ok (.slice (some ⟨w.heap.size,0,none⟩) (sLen+n) (grownCap w (sLen+n) sCap e))
    (w.drew.alloc (.cells (olds.toArray++(zs n).toArray++Builtin.zeroCells (Value.int .u8 0).cells (grownCap w (sLen+n) sCap e-(sLen+n))) e)):=by
 have hw:IntKind.i64.wrap (n:Int)=n:=by rw[IntKind.wrap_i64];omega
 have h48i:¬(281474976710656<(n:Int)):=by omega
 have hneg:¬((n:Int)<0):=by omega
 have hn0:n≠0:=by omega
 have hnr:¬(sLen+n≤sCap):=by omega
 have h63':¬(9223372036854775807<((sLen:Int)+(n:Int))):=by omega
 have h48':¬(281474976710656<Builtin.nextslicecap (sLen+n) sCap):=by omega
 simp[Builtin.append_,run_underlying ht,run_underlying hu,sizeOf,typeInfo,zeroValue,hi,hz,hs1,hby,asInt,asIntOf,hw,hneg,h48i,hn0,hnr,h63',h48',Question.forced,zeroCells_u8,hold,newRow,grownCap]
theorem run_append_own_zeros (ty:TypeId) (B:Nat) (v:Value) (as1:List (BitVec 8)) (hown:Own8 w B v as1) (n:Nat) (h0:0<n) (hlen:as1.length+n≤140737488355328) (hbase:B≤w.heap.size):
 ∃v' w',(Builtin.append_ #[26,3] ty #[v,.int .i64 n]).run Tryz.prog w= .ok v' w'∧Own8 w' B v' (as1++nulls n)∧w.grownBy w' v.ownBlock∧(v'.ownBlock=v.ownBlock∨v'.ownBlock=some w.heap.size):=by
 obtain⟨i,hi,hz,hs1,hby⟩:=info_parts u8info
 have ht:=Tryz.underlying26
 have hu:=Tryz.underlying3
 obtain⟨m,hm⟩:∃m,m=as1.length:=⟨_,rfl⟩
 have hown':w.ownsRow B 5 1 v m (as1.map u8):=by rw[hm];exact hown
 suffices hh:∃v' w',(Builtin.append_ #[26,3] ty #[v,.int .i64 n]).run Tryz.prog w= .ok v' w'∧w'.ownsRow B 5 1 v' (m+n) (as1.map u8++zs n)∧w.grownBy w' v.ownBlock∧(v'.ownBlock=v.ownBlock∨v'.ownBlock=some w.heap.size) by
  obtain⟨v',w',h1,h2,h3,h4⟩:=hh
  refine⟨v',w',h1,?_,h3,h4⟩
  unfold Own8
  rw[List.length_append,List.map_append,nulls_zs,← hm,show(nulls n).length=n from by simp[nulls]]
  exact h2
 rw[←hm]at hlen
 obtain⟨xs,hxs⟩:∃xs,xs=as1.map u8:=⟨_,rfl⟩
 rw[←hxs]at hown' ⊢
 have hxl:xs.length=m:=by rw[hxs,List.length_map,hm]
 have hlen2:(xs++zs n).length=(m+n)*1:=by rw[List.length_append,hxl,zs_len,Nat.mul_one]
 have h63:m+n≤maxLen:=by unfold maxLen;omega
 have grown:∀(old:Nat),old<m+n→∀(row:Option Nat),
  (w.drew.alloc (.cells (xs.toArray++(zs n).toArray++Builtin.zeroCells (Value.int .u8 0).cells (grownCap w (m+n) old 5-(m+n))) 5)).ownsRow B 5 1
    (.slice (some ⟨w.heap.size,0,none⟩) (m+n) (grownCap w (m+n) old 5)) (m+n) (xs++zs n)∧
  w.grownBy (w.drew.alloc (.cells (xs.toArray++(zs n).toArray++Builtin.zeroCells (Value.int .u8 0).cells (grownCap w (m+n) old 5-(m+n))) 5)) row:=by
  intro old ho row
  have hge:=grownCap_ge w (m+n) old 5
  have hcm:grownCap w (m+n) old 5≤maxLen:=grownCap_le_maxLen w (m+n) old 5 h63
  refine⟨⟨hlen2,.inr ⟨w.heap.size,_,_,rfl,hbase,heap_alloc_new w.drew _,hge,hcm,?_,?_⟩⟩,⟨rfl,rfl,rfl,by simp,fun k hk _=>Go.heap_alloc_old w.drew _ hk⟩⟩
  ·have hz1:(Value.int IntKind.u8 0).cells.size=1:=rfl
   simp only[Array.size_append,List.size_toArray,size_zeroCells,hz1,hxl,zs_len]
   omega
  ·simp only[Array.toList_append,List.append_assoc]
   rw[←List.append_assoc,← hlen2]
   exact List.take_left
 rcases hown'.2 with⟨rfl,h00⟩|⟨g,cap,cur,rfl,hbg,hg,hnc,hcm,hcs,htake⟩
 ·subst h00
  have hx:xs=[]:=List.eq_nil_of_length_eq_zero hxl
  subst hx
  have hr:=run_append_grow_zeros w ty 5 i ht hu hi hz hs1 hby none 0 0 [] (by simpa using run_firstCells_none (P:=Tryz.prog) w.drew 1 0 0 0) n h0 (by omega) (by omega) (by omega) (by rw[Nat.zero_add,nextslicecap_zero h0];omega)
  have hgr:=grown 0 (by omega) (Value.ownBlock (.slice none 0 0))
  exact⟨_,_,hr,hgr.1,hgr.2,.inr rfl⟩
 ·by_cases hroom:m+n≤cap
  ·have hcs':cur.size=cap:=by simpa using hcs
   have hr:=run_append_room_zeros w ty 5 i ht hu hi hz hs1 hby g m cap cur hg n h0 (by omega) hroom (by omega)
   refine⟨_,_,hr,⟨hlen2,.inr ⟨g,cap,_,rfl,hbg,setRow_heap w g cur _ 5 _ hg,hroom,hcm,?_,?_⟩⟩,⟨rfl,rfl,rfl,by simp,fun k _ hk=>setRow_other w g k _ (fun e=>hk (by simp[Value.ownBlock,e]))⟩,.inl rfl⟩
   ·simp only[List.size_toArray,List.length_append,List.length_take,List.length_drop,Array.length_toList,zs_len]
    omega
   ·have ht':cur.toList.take m=xs:=by simpa using htake
    rw[ht',← hlen2]
    exact List.take_left
  ·have holds:∀j u,xs[j]? =some u→w.cell? ((⟨g,0,none⟩:Addr).add j)=some u:=hown'.cells (g:=g) rfl
   have hf:=run_firstCells_some (P:=Tryz.prog) w.drew 1 m ⟨g,0,none⟩ m cap xs (by simpa using hxl) (by simpa using holds)
   have hr:=run_append_grow_zeros w ty 5 i ht hu hi hz hs1 hby (some ⟨g,0,none⟩) m cap xs hf n h0 (by omega) (by omega) (by omega) (by have:=growslice_fits (need:=m+n) (old:=cap) (bytes:=1) (by omega) (by omega);omega)
   have hgr:=grown cap (by omega) (Value.ownBlock (.slice (some ⟨g,0,none⟩) m cap))
   exact⟨_,_,hr,hgr.1,hgr.2,.inr rfl⟩
end
theorem wp_appendZ {ops:Array Oper} {rest:List Oper} {o:Oper} {a:Act} {Q:Exit→Act→World→Prop} {w:World} (hgd:o.guard=none) (s x:Operand)
 (ho:o.op= .call { callee:=.builtin .append,args:=#[s,x],argTypes:=#[26,3] }) (B:Nat) (v:Value) (as1:List (BitVec 8)) (hs:a.eval s=v) (hown:Own8 w B v as1)
 (n:Nat) (hx:a.eval x= .int .i64 n) (h0:0<n) (hlen:as1.length+n≤140737488355328) (hB:B≤w.heap.size)
 (h:∀v' w',Own8 w' B v' (as1++nulls n)→w.grownBy w' v.ownBlock→(v'.ownBlock=v.ownBlock∨v'.ownBlock=some w.heap.size)→wpList Tryz.prog ops Q rest (a.put o.dst v') w'):wpList Tryz.prog ops Q (o ::rest) a w:=by
 obtain⟨v',w',hrun,h2,h3,h4⟩:=run_append_own_zeros w o.type B v as1 hown n h0 hlen hB
 refine wpList_plain hgd fun K hK=>?_
 unfold Oper.wp execOp
 simp only[ho,resolve,invoke,builtin,Sem.run_bind,Sem.run_pure,Result.andThen_ok,List.map_toArray,List.map_cons,List.map_nil,hs,hx,hrun]
 exact hK _ _ (h v' w' h2 h3 h4)
end Go.Proofs.YtjbijcjcejfpcaaGreatDoor
