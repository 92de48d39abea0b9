/- Words of 8, 32, 64 bits told as BitVec: what the walk writes of them (bits, wrap -/
import Derived.WalkKit
import Derived.Laws.BitsAllLaws
import Derived.StillTailTactics
import Derived.Below
import Derived.Deep.QuietTactic
import Derived.BigQuiet
import Derived.Outline
import Derived.WalkLawsBesides
import Derived.WalkSpells
import Derived.Lib.Hide
import Derived.Laws.CopyOwn
import Derived.ProofKit
import Derived.OpenShut
import Derived.ChangeOld
import Derived.SizedLaws
import Derived.Deep.Quiet
import Derived.Maps.AppendAt
import Derived.Deep.MidRow
import Derived.Deep.Slices
import Derived.Deep.RegionHeld3
import Derived.Laws.Tables
import Derived.Test.YtjbijcjcejfpcaaGreatDoorShelf
namespace Go.Proofs.YtjbijcjcejfpcaaGreatDoor
set_option linter.unusedVariables false
set_option maxRecDepth 100000
set_option maxHeartbeats 16000000
section
open Go
def iv8 (x:BitVec 8):Int:=(x.toNat:Int)
abbrev u8 (x:BitVec 8):Value:=.int .u8 (iv8 x)
theorem iv8_lo (x:BitVec 8):0≤iv8 x:=Int.natCast_nonneg _
theorem iv8_hi (x:BitVec 8):iv8 x≤255:=by unfold iv8;have:=x.isLt;omega
theorem iv8_inj {x y:BitVec 8}:iv8 x=iv8 y↔x=y:=by
 unfold iv8
 exact⟨fun h=>BitVec.eq_of_toNat_eq (by omega),fun h=>by rw[h]⟩
theorem wrapU8 (n:Int):IntKind.u8.wrap n=n % 256:=by simp[IntKind.wrap,IntKind.bits,IntKind.signed]
theorem of8 (k:Int) (h:(Lit.int .u8 k).wf=true):∃x:BitVec 8,k=iv8 x:=by
 have hx:0≤k∧k≤255:=by simpa[Lit.wf,IntKind.min,IntKind.max,IntKind.signed,IntKind.bits]using h
 refine⟨BitVec.ofNat 8 k.toNat,?_⟩
 unfold iv8;rw[BitVec.toNat_ofNat];omega
theorem wf8 (x:BitVec 8):(Lit.int .u8 (iv8 x)).wf=true:=by
 have h1:=iv8_lo x
 have h2:=iv8_hi x
 simp[Lit.wf,IntKind.min,IntKind.max,IntKind.signed,IntKind.bits];omega
def iv32 (x:BitVec 32):Int:=(x.toNat:Int)
abbrev u32 (x:BitVec 32):Value:=.int .u32 (iv32 x)
theorem iv32_lo (x:BitVec 32):0≤iv32 x:=Int.natCast_nonneg _
theorem iv32_hi (x:BitVec 32):iv32 x≤4294967295:=by unfold iv32;have:=x.isLt;omega
theorem iv32_inj {x y:BitVec 32}:iv32 x=iv32 y↔x=y:=by
 unfold iv32
 exact⟨fun h=>BitVec.eq_of_toNat_eq (by omega),fun h=>by rw[h]⟩
theorem xor32 (x y:BitVec 32):bits .xor .u32 (iv32 x) (iv32 y)=iv32 (x ^^^ y):=by
 unfold iv32;rw[u32_xor_nat _ _ x.isLt y.isLt,BitVec.toNat_xor]
theorem and32 (x y:BitVec 32):bits .and .u32 (iv32 x) (iv32 y)=iv32 (x &&& y):=by
 unfold iv32;rw[u32_and_nat _ _ x.isLt y.isLt,BitVec.toNat_and]
theorem or32 (x y:BitVec 32):bits .or .u32 (iv32 x) (iv32 y)=iv32 (x ||| y):=by
 unfold iv32;rw[u32_or_nat _ _ x.isLt y.isLt,BitVec.toNat_or]
theorem wrapU32 (n:Int):IntKind.u32.wrap n=n % 4294967296:=by simp[IntKind.wrap,IntKind.bits,IntKind.signed]
theorem add32 (x y:BitVec 32):IntKind.u32.wrap (iv32 x+iv32 y)=iv32 (x+y):=by
 unfold iv32;rw[wrapU32,BitVec.toNat_add];omega
theorem mul32 (x y:BitVec 32):IntKind.u32.wrap (iv32 x*iv32 y)=iv32 (x*y):=by
 unfold iv32;rw[wrapU32,BitVec.toNat_mul,← Int.natCast_mul];omega
theorem shlp32 (x:BitVec 32) (s:Nat):IntKind.u32.wrap (iv32 x*2 ^ s)=iv32 (x <<< s):=by
 unfold iv32;rw[wrapU32,BitVec.toNat_shiftLeft,Nat.shiftLeft_eq,show((2:Int) ^ s)=((2 ^ s:Nat):Int) by simp,← Int.natCast_mul];omega
theorem shrp32 (x:BitVec 32) (s:Nat):iv32 x / 2 ^ s=iv32 (x >>> s):=by
 unfold iv32;rw[BitVec.toNat_ushiftRight,Nat.shiftRight_eq_div_pow,show((2:Int) ^ s)=((2 ^ s:Nat):Int) by simp,← Int.natCast_ediv]
theorem shl32 (x:BitVec 32) (s:Nat) (c:Int) (hc:c=2 ^ s):IntKind.u32.wrap (iv32 x*c)=iv32 (x <<< s):=by
 rw[hc,shlp32]
theorem shr32 (x:BitVec 32) (s:Nat) (c:Int) (hc:c=2 ^ s):iv32 x / c=iv32 (x >>> s):=by
 rw[hc,shrp32]
theorem ror32 (x:BitVec 32) (s:Nat) (hs:s<32):(x >>> s) ||| (x <<< (32-s))=x.rotateRight s:=by
 rw[BitVec.rotateRight_eq_rotateRightAux_of_lt hs];rfl
theorem of32 (k:Int) (h:(Lit.int .u32 k).wf=true):∃x:BitVec 32,k=iv32 x:=by
 have hx:0≤k∧k≤4294967295:=by simpa[Lit.wf,IntKind.min,IntKind.max,IntKind.signed,IntKind.bits]using h
 refine⟨BitVec.ofNat 32 k.toNat,?_⟩
 unfold iv32;rw[BitVec.toNat_ofNat];omega
def iv64 (x:BitVec 64):Int:=(x.toNat:Int)
abbrev u64 (x:BitVec 64):Value:=.int .u64 (iv64 x)
theorem iv64_lo (x:BitVec 64):0≤iv64 x:=Int.natCast_nonneg _
theorem or64 (x y:BitVec 64):bits .or .u64 (iv64 x) (iv64 y)=iv64 (x ||| y):=by
 unfold iv64;rw[u64_or_nat _ _ x.isLt y.isLt,BitVec.toNat_or]
theorem wrapU64 (n:Int):IntKind.u64.wrap n=n % 18446744073709551616:=by simp[IntKind.wrap,IntKind.bits,IntKind.signed]
theorem shlp64 (x:BitVec 64) (s:Nat):IntKind.u64.wrap (iv64 x*2 ^ s)=iv64 (x <<< s):=by
 unfold iv64;rw[wrapU64,BitVec.toNat_shiftLeft,Nat.shiftLeft_eq,show((2:Int) ^ s)=((2 ^ s:Nat):Int) by simp,← Int.natCast_mul];omega
theorem shrp64 (x:BitVec 64) (s:Nat):iv64 x / 2 ^ s=iv64 (x >>> s):=by
 unfold iv64;rw[BitVec.toNat_ushiftRight,Nat.shiftRight_eq_div_pow,show((2:Int) ^ s)=((2 ^ s:Nat):Int) by simp,← Int.natCast_ediv]
theorem of64 (k:Int) (h:(Lit.int .u64 k).wf=true):∃x:BitVec 64,k=iv64 x:=by
 have hx:0≤k∧k≤18446744073709551615:=by simpa[Lit.wf,IntKind.min,IntKind.max,IntKind.signed,IntKind.bits]using h
 refine⟨BitVec.ofNat 64 k.toNat,?_⟩
 unfold iv64;rw[BitVec.toNat_ofNat];omega
theorem XRz (x:BitVec 8):IntKind.u32.wrap (iv8 x)=iv32 (x.setWidth 32):=by
 unfold iv8 iv32;rw[wrapU32,BitVec.toNat_setWidth];omega
theorem cut32_8 (x:BitVec 32):IntKind.u8.wrap (iv32 x)=iv8 (x.setWidth 8):=by
 unfold iv8 iv32;rw[wrapU8,BitVec.toNat_setWidth];omega
theorem ext8_64 (x:BitVec 8):IntKind.u64.wrap (iv8 x)=iv64 (x.setWidth 64):=by
 unfold iv8 iv64;rw[wrapU64,BitVec.toNat_setWidth];omega
theorem cut64_8 (x:BitVec 64):IntKind.u8.wrap (iv64 x)=iv8 (x.setWidth 8):=by
 unfold iv8 iv64;rw[wrapU8,BitVec.toNat_setWidth];omega
theorem Xnz (x:BitVec 32):IntKind.u64.wrap (iv32 x)=iv64 (x.setWidth 64):=by
 unfold iv32 iv64;rw[wrapU64,BitVec.toNat_setWidth];omega
theorem Xoz (x:BitVec 64):IntKind.u32.wrap (iv64 x)=iv32 (x.setWidth 32):=by
 unfold iv32 iv64;rw[wrapU32,BitVec.toNat_setWidth];omega
end
section
open Go.RowKit
theorem ret_int {k:IntKind} {a b:Int} (h:a=b):Ending.returned (.int k a)=Ending.returned (.int k b):=by rw[h]
def atA (cs:Array Value) (i:Nat):Value:=cs[i]?.getD undef
theorem run_index_arr {P:Program} (t e n:Nat) (ke:IntKind) (ti:TypeInfo) (hu:P.underlying t=some (.array n e)) (hu2:P.underlying e=some (.int ke)) (hi:P.info? e=some ti) (hs:ti.size=1)
 (w:World) (cs:Array Value) (k:IntKind) (i:Int) (h0:0≤i) (h1:i<n) (hn:cs.size=n):
 (Instr.index t (.agg cs) (.int k i)).run P w= .ok (atA cs i.toNat) w:=by
 have hl:i.toNat<cs.size:=by omega
 simp[Instr.index,run_underlying hu,asIntOf,h0,h1,go_sem,sizeOf,typeInfo,hi,hs,part,isAgg,run_underlying hu2,hl,atA]
theorem X9z {P:Program} {c:Code} {Q:Exit→Act→World→Prop} {a:Act} {W:World} (R:World→Prop) (h1:R W) (h2:∀w',R w'→Code.wp P c Q a w'):Code.wp P c Q a W:=h2 W h1
def Blk (w:World) (g:Nat) (t:TypeId) (cs:Array Value):Prop:=w.heap[g]? =some (.cells cs t (0,0))
section
variable {w w':World} {g:Nat} {t:TypeId} {cs:Array Value}
theorem Blk.lt (h:Blk w g t cs):g<w.heap.size:=by
 rcases Nat.lt_or_ge g w.heap.size with hlt|hge
 ·exact hlt
 ·unfold Blk at h;rw[Array.getElem?_eq_none hge]at h;cases h
theorem Blk.cell (h:Blk w g t cs) (i:Nat):w.cell? ⟨g,i,none⟩=cs[i]? :=cell_of_row w g i cs t (0,0) h
theorem Blk.frozen (h:Blk w g t cs) (i:Nat):w.frozen? ⟨g,i,none⟩=false:=by
 unfold Blk at h;simp[World.frozen?,h]
theorem Blk.new (w:World) (t:TypeId) (cs:Array Value):Blk (w.alloc (.cells cs t)) w.heap.size t cs:=heap_alloc_new w _
theorem Blk.new2 (w:World) (o:Obj) (t:TypeId) (cs:Array Value):Blk ((w.alloc o).alloc (.cells cs t)) (w.heap.size+1) t cs:=by
 have:=Blk.new (w.alloc o) t cs
 rwa [World.size_alloc]at this
theorem Blk.drewN (h:Blk w g t cs) (n:Nat):Blk (w.drewN n) g t cs:=h
theorem Blk.alloc (h:Blk w g t cs) (o:Obj):Blk (w.alloc o) g t cs:=(Below.heap_alloc w o g h.lt).trans h
theorem Blk.set (h:Blk w g t cs) (i:Nat) (u:Value):Blk (w.setCell ⟨g,i,none⟩ u) g t (cs.setIfInBounds i u):=by
 unfold Blk at h ⊢
 simp[World.setCell,Array.getElem?_modify,h]
theorem Blk.far (h:Blk w g t cs) {p:Addr} (hp:g≠p.block) (u:Value):Blk (w.setCell p u) g t cs:=(Below.heap_setCell w p u g hp).trans h
theorem Blk.below {B:Nat} (h:Blk w g t cs) (hb:Below B w w') (hg:g<B):Blk w' g t cs:=(hb.block g hg).trans h
end
def Row8 (w:World) (p:Option Addr) (bs:List (BitVec 8)):Prop:=
 bs≠[]→∃b off,p=some ⟨b,off,none⟩∧b<w.heap.size∧∀i x,bs[i]? =some x→w.cell? ⟨b,off+i,none⟩=some (u8 x)
section
variable {w w':World} {p:Option Addr} {bs:List (BitVec 8)}
theorem Row8.nil (w:World) (p:Option Addr):Row8 w p []:=fun h=>absurd rfl h
theorem Row8.below {B:Nat} (h:Row8 w p bs) (hb:Below B w w') (hB:w.heap.size≤B):Row8 w' p bs:=fun hn=>by
 obtain⟨b,off,rfl,hlt,hc⟩:=h hn
 exact⟨b,off,rfl,Nat.lt_of_lt_of_le hlt hb.size,fun i x hx=>(hb.cell (p:=⟨b,off+i,none⟩) (Nat.lt_of_lt_of_le hlt hB)).trans (hc i x hx)⟩
theorem Row8.take (h:Row8 w p bs) (k:Nat):Row8 w p (bs.take k):=fun hn=>by
 obtain⟨b,off,rfl,hlt,hc⟩:=h (fun e=>hn (by rw[e];simp))
 refine⟨b,off,rfl,hlt,fun i x hx=>hc i x ?_⟩
 rw[List.getElem?_take]at hx
 split at hx
 ·exact hx
 ·cases hx
theorem Row8.drop (h:Row8 w p bs) {k c:Nat} (hc:bs.length≤c):Row8 w (if c=k then p else p.map (·.add k)) (bs.drop k):=fun hn=>by
 have hlt:k<bs.length:=by
  rcases Nat.lt_or_ge k bs.length with h1|h1
  ·exact h1
  ·exact absurd (List.drop_eq_nil_of_le h1) hn
 obtain⟨b,off,rfl,hb,hcell⟩:=h (fun e=>by rw[e]at hlt;simp at hlt)
 rw[if_neg (by omega)]
 refine⟨b,off+k,by simp[Addr.add],hb,fun i x hx=>?_⟩
 rw[List.getElem?_drop]at hx
 rw[Nat.add_assoc]
 exact hcell _ x hx
end
theorem Xzz (bs:List (BitVec 8)):∀v∈bs.map u8,v.oneCell'=true:=by
 intro v hv
 obtain⟨x,_,rfl⟩:=List.mem_map.1 hv
 rfl
theorem wp_copy8 {P:Program} {w:World} {ops:Array Oper} {rest:List Oper} {o:Oper} {a:Act} {Q:Exit→Act→World→Prop} (hgd:o.guard=none) (d s:Operand) (dT sT:TypeId)
 (ho:o.op= .call { callee:=.builtin .copy,args:=#[d,s],argTypes:=#[dT,sT] }) (elem:TypeId) (hu:P.underlying dT=some (.slice elem)) (hsz:(P.info? elem).map (·.size)=some 1)
 (dLen dCap sCap:Nat) (sp:Option Addr) (bs:List (BitVec 8)) (g off:Nat) (hd:a.eval d= .slice (some ⟨g,off,none⟩) dLen dCap) (hs:a.eval s= .slice sp bs.length sCap)
 (hr:Row8 w sp bs) (cur:List Value) (t:TypeId) (hg:Blk w g t cur.toArray) (n:Nat) (hn:n=min bs.length dLen) (hfit:off+n≤cur.length) (B:Nat) (w0:World) (hb:Below B w0 w) (hBg:B≤g)
 (h:∀w',Hid (Blk w' g t (splice cur off ((bs.take dLen).map u8)).toArray)→Below B w0 w'→w'.heap.size=w.heap.size→wpList P ops Q rest (a.put o.dst (goInt (n:Int))) w'):
 wpList P ops Q (o ::rest) a w:=by
 have hl:((bs.take dLen).map u8).length=n:=by simp[hn,Nat.min_comm]
 by_cases h0:((bs.take dLen).map u8).length=0
 ·have he:(bs.take dLen).map u8=[]:=List.eq_nil_of_length_eq_zero h0
  refine wpList_copy_nothing hgd d s dT sT ho elem hu hsz _ sp dLen dCap bs.length sCap hd hs (by rw[←h0,hl,hn]) ?_
  have:=h w (by rw[he];show _=_;simpa[splice,Blk]using hg) hb rfl
  rw[←hl,h0]at this
  exact this
 ·have hne:bs≠[]:=fun e=>h0 (by rw[e];simp)
  obtain⟨b,of,rfl,hlt,hc⟩:=hr hne
  refine wpList_copy_own hgd d s dT sT ho elem hu hsz g off dLen dCap ⟨b,of,none⟩ bs.length sCap hd hs cur.toArray t hg ((bs.take dLen).map u8) (by rw[hl,hn]) ?_ (by rw[hl];simpa using hfit) (Xzz _) ?_
  ·intro j v hj
   rw[List.getElem?_map,List.getElem?_take]at hj
   split at hj
   ·cases hx:bs[j]? with
    |none=>rw[hx]at hj;simp at hj
    |some x=>
     rw[hx]at hj
     simp at hj
     subst hj
     rw[Addr.add_lit]
     exact hc j x hx
   ·simp at hj
  ·have hG:=setRow_heap w g cur.toArray (splice cur off ((bs.take dLen).map u8)).toArray t _ hg
   have:=h _ hG (below_setRow hb hBg _) (size_setRow _ _ _)
   rw[←hl]at this
   exact this
end
section
open Go.ChangeShapes Go.WideShapes Go.ChangeAt Go.RowKit
theorem bytes_of_wf (zs:List Int) (h:∀n∈zs,(Lit.int .u8 n).wf=true):∃bs:List (BitVec 8),zs=bs.map iv8:=by
 induction zs with
 |nil=>exact⟨[],rfl⟩
 |cons z zs ih=>
  obtain⟨b,rfl⟩:=of8 z (h z (by simp))
  obtain⟨bs,rfl⟩:=ih (fun n hn=>h n (by simp[hn]))
  exact⟨b ::bs,rfl⟩
theorem open_bytes {H:Type} {enc:TypeId × Value→H} {P:Program} {t e:TypeId} (ht:P.underlying t=some (.slice e)) (he:P.underlying e=some (.int .u8)) (hc:P.cellsOf e=1) {W:World} {a0:Option Addr} {len cap:Nat} {d0:DataW H} {p:List MemPlace}
 (h0:DataW.Trod enc P W 0 (fun _=>true) true t (.slice a0 len cap) d0 p):
 ∃bs:List (BitVec 8),bs.length=len∧len≤cap∧cap≤maxLen∧Row8 W a0 bs∧(a0=none→cap=0)∧(cap=0∨∃els sp,d0= .slice els sp∧els.length+sp.length=cap):=by
 obtain⟨fuel,hf⟩:=h0
 rcases open_ints ht he hc hf with⟨hcs,hx⟩|⟨a,len',cap',zs,hcs,_,hl,hm,hz,hx,hcell,hwz⟩
 ·simp[Value.cells]at hcs
  obtain⟨rfl,rfl,rfl⟩:=hcs
  exact⟨[],rfl,Nat.le_refl _,by unfold maxLen;omega,Row8.nil _ _,fun _=>rfl,.inl rfl⟩
 ·simp[Value.cells]at hcs
  obtain⟨rfl,rfl,rfl⟩:=hcs
  simp only[Prod.mk.injEq]at hx
  obtain⟨rfl,rfl⟩:=hx
  simp only[if_true]at hz
  obtain⟨bs,rfl⟩:=bytes_of_wf zs hwz
  simp only[List.length_map]at hz hcell
  refine⟨bs.take len,by simp;omega,by omega,hm,fun hn=>?_,(fun h=>by cases h),.inr ⟨_,_,rfl,by simp[lits];omega⟩⟩
  have hl0:0<len:=by
   rcases Nat.eq_zero_or_pos len with h|h
   ·subst h;simp at hn
   ·exact h
  obtain⟨b,off,spot⟩:=a
  have hspot:spot=none:=by simpa[Addr.add]using World.cell?_spot (hcell 0 (by omega))
  subst hspot
  refine⟨b,off,rfl,?_,fun i x hx=>?_⟩
  ·have:=block_lt_of_cell (hcell 0 (by omega))
   simpa[Addr.add]using this
  ·rw[List.getElem?_take]at hx
   split at hx
   ·have hi:i<bs.length:=by omega
    have h1:=hcell i hi
    rw[Addr.add_lit]at h1
    rw[h1]
    rw[List.getElem?_eq_getElem hi]at hx
    injection hx with hx
    simp[List.getD,List.getElem?_eq_getElem hi,u8,hx]
   ·cases hx
end
section
open Go Go.RowKit
section
variable {P:Program} {ops:Array Oper} {md:Region.Mode} {C:World→Prop}
def wpHead (P:Program) (md:Region.Mode) (ops:Array Oper) (C:World→Prop) (n:Nat) (L:Array Bool→Act→Prop):Nat→Array Bool→Act→Prop
 |0,listed,a=>L listed a
 |f+1,listed,a=>Region.ready md ops listed≠[]∧∀i∈Region.ready md ops listed,i<n∧qOp P ops C i (wpHead P md ops C n L f (listed.setIfInBounds i true)) a
theorem any_of_head {n g:Nat} {L:Array Bool→Act→Prop} {Q':Exit→Act→World→Prop} (hL:∀listed a w,C w→L listed a→wpAny P md ops Q' g listed a w):
 ∀(f:Nat) (listed:Array Bool) (a:Act) (w:World),C w→wpHead P md ops C n L f listed a→wpAny P md ops Q' (f+g) listed a w
 |0,_,_,_,hw,h=>by rw[Nat.zero_add];exact hL _ _ _ hw h
 |f+1,_,_,_,hw,h=>by
  rw[show f+1+g=(f+g)+1 by omega]
  exact⟨fun h0=>absurd h0 h.1,fun i hi=>wpOp_of_qOp hw (fun a' w' hw' h'=>any_of_head hL f _ a' w' hw' h') (h.2 i hi).2⟩
theorem head_first {n i:Nat} {oi:Oper} {v:Value} {L:Array Bool→Act→Prop} (hi:ops[i]? =some oi) (hsel:∀(j:Nat) (o:Oper) cs b,ops[j]? =some o→o.op≠ .select cs b)
 (hs:Region.sinkB md ops n=true) (hc:Region.chainB md ops n=true) (hn:n<ops.size) (hin:i<n) (hdone:∀listed a,L listed a→∀j∈Region.ready md ops listed,n≤j) (f:Nat):
 ∀(listed:Array Bool) (a:Act),HeadInv md ops n listed→
  (∀j oj,ops[j]? =some oj→j≠i→listed.getD j true=false→(∀e∈oj.after,Region.binds md e=true→e.on≠i)→oi.apart ops oj=true)→
  i∈Region.ready md ops listed→YieldsIn P ops C oi v a→wpHead P md ops C n L f (listed.setIfInBounds i true) (a.put oi.dst v)→wpHead P md ops C n L (f+1) listed a:=by
 have low:∀(listed:Array Bool) (j:Nat),HeadInv md ops n listed→i∈Region.ready md ops listed→j∈Region.ready md ops listed→j<n:=fun listed j inv hr hj=>by
  rcases Nat.lt_or_ge j n with h|h
  ·exact h
  ·exact absurd hj (tail_waits hs hc hn inv _ i rfl hin (mem_ready.1 hr).1 j h)
 induction f with
 |zero=>
  intro listed a inv _ hr hy H
  refine⟨fun h=>(by rw[h]at hr;cases hr),fun j hj=>⟨low listed j inv hr hj,?_⟩⟩
  by_cases hji:j=i
  ·subst hji;exact hy.qOp hi H
  ·have:=hdone _ _ H j (ready_mono hj hji)
   have:=low listed j inv hr hj
   omega
 |succ f ih=>
  intro listed a inv hfree hr hy H
  refine⟨fun h=>(by rw[h]at hr;cases hr),fun j hj=>⟨low listed j inv hr hj,?_⟩⟩
  by_cases hji:j=i
  ·subst hji;exact hy.qOp hi H
  ·obtain⟨hjun,oj,hoj,hall⟩:=mem_ready.1 hj
   have hnot:∀e∈oj.after,Region.binds md e=true→e.on≠i:=fun e he hb heq=>by
    have h1:=hall e he hb
    rw[heq,getD_both (mem_ready.1 hr).1]at h1
    cases h1
   refine qOp_mono (fun a' h3=>ih (listed.setIfInBounds j true) a' (inv.set hj (low listed j inv hr hj)) (fun k ok hk hki hun hno=>hfree k ok hk hki ?_ hno) (ready_mono hr (Ne.symm hji)) h3.1 ?_)
    (qOp_put hoj (hfree j oj hoj hji hjun hnot) (fun cs b=>hsel i oi cs b hi) (fun cs b=>hsel j oj cs b hoj) hy (H.2 j (ready_mono hj hji)).2)
   ·by_cases hjk:j=k
    ·subst hjk;exact hjun
    ·rw[getD_set_ne true hjk]at hun;exact hun
   ·rw[Array.setIfInBounds_comm _ _ hji];exact h3.2
theorem head_lex {n g:Nat} {Lq:Act→Prop} (hsel:Region.noSelect ops=true) (hs:Region.sinkB md ops n=true) (hc:Region.chainB md ops n=true) (hn:n<ops.size):
 ∀(l:List Oper) (k:Nat) (listed:Array Bool) (a:Act),(∀j,j<l.length→l[j]? =ops[k+j]?)→k+l.length=n→HeadInv md ops n listed→
 Region.lexHead md ops g l.length k listed=true→wpQuiet P ops C Lq l a→
 wpHead P md ops C n (fun listed' a'=>Region.seqB md ops g n listed'=true∧Lq a') l.length listed a
 | [],k,_,_,_,hk,_,hB,h=>by
   obtain rfl:k=n:=by simpa using hk
   exact⟨by simpa[Region.lexHead]using hB,h⟩
 |o ::l,k,listed,a,hl,hk,inv,hB,h=>by
  have h0:ops[k]? =some o:=by simpa using(hl 0 (by simp)).symm
  simp only[List.length_cons,Region.lexHead,Bool.and_eq_true]at hB
  obtain⟨⟨hr,hf⟩,hB'⟩:=hB
  simp only[List.length_cons]at hk
  have hr':k∈Region.ready md ops listed:=by simpa using hr
  have hst:qOp P ops C k (wpQuiet P ops C Lq l) a:=by unfold qOp;simp only[h0];exact h
  obtain⟨v,hy,hK⟩:=yieldsIn_of_qOp h0 hst
  exact head_first h0 (Region.noSelect_spec hsel) hs hc hn (by omega) (fun _ _ hL=>seqB_ready hL.1) l.length listed a inv (Region.free_spec h0 hf) hr' hy
   (head_lex hsel hs hc hn l (k+1) _ _ (fun j hj=>by have:=hl (j+1) (by simp;omega);simpa[Nat.add_assoc,Nat.add_comm 1 j]using this) (by omega) (inv.set hr' (by omega)) hB' hK)
theorem quiet_tail_in {id:Nat} {Q:Exit→Act→World→Prop} {a:Act} {w:World} {l:List Oper} {T:Type} (f:T→World) (t0:T) (h0:w.drew=f t0) (n:Nat) (hm:P.follows .mixedOrders=true)
 (hB:Region.lexTailB .any l.toArray n=true)
 (h:wpQuiet P l.toArray (fun w'=>∃t,w'=f t) (fun a'=>∀w',(∃t,w'=f t)→wpList P l.toArray Q (l.drop n) a' w') (l.take n) a):(Code.region id l.toArray true).wp P Q a w:=by
 simp only[Region.lexTailB,Bool.and_eq_true,decide_eq_true_eq]at hB
 obtain⟨⟨⟨⟨hsel,hn⟩,hs⟩,hc⟩,hlex⟩:=hB
 have hn':n<l.length:=by simpa using hn
 have htl:(l.take n).length=n:=by simp;omega
 have hdl:(l.drop n).length=l.toArray.size-n:=by simp
 have inv0:HeadInv .any l.toArray n (Array.replicate l.toArray.size false):=
  ⟨by simp,fun j oj _ hl=>(by rw[getD_replicate_false]at hl;cases hl),fun t _ ht=>getD_in (by simpa using ht) (getD_replicate_false _ _)⟩
 have H:=head_lex (md:=.any) (g:=l.toArray.size-n) hsel hs hc hn (l.take n) 0 _ a (fun j hj=>by
  have hj':j<n:=by rw[htl]at hj;exact hj
  simp[hj']) (by simpa using htl) inv0 (by rw[htl];exact hlex) h
 refine wp_region_any hm ?_
 have:=any_of_head (C:=fun w'=>∃t,w'=f t) (Q':=Q) (g:=l.toArray.size-n) (fun listed a' w' hw' hL=>by
  have:=wpAny_of_seq (md:=.any) (Q':=Q) (l.drop n) n listed a' w' (fun j=>by simp[List.getElem?_drop]) (by rw[hdl];exact hL.1) (hL.2 w' hw')
  rwa [hdl]at this) _ _ _ _ ⟨t0,h0⟩ H
 rw[htl,show n+(l.toArray.size-n)=l.toArray.size by omega]at this
 exact this
theorem quiet_in {id:Nat} {Q:Exit→Act→World→Prop} {a:Act} {w:World} {l:List Oper} {T:Type} (f:T→World) (t0:T) (h0:w.drew=f t0) (hm:P.follows .mixedOrders=true)
 (hB:Region.lexB .any l.toArray=true)
 (h:wpQuiet P l.toArray (fun w'=>∃t,w'=f t) (fun a'=>∀w',(∃t,w'=f t)→Q .normal a' w') l a):(Code.region id l.toArray true).wp P Q a w:=
 wp_region_quiet (C:=fun w'=>∃t,w'=f t) hm hB ⟨t0,h0⟩ (by simpa using h)
theorem QZz {id:Nat} {Q:Exit→Act→World→Prop} {a:Act} {w:World} {l:List Oper} (n:Nat) (hm:P.follows .mixedOrders=true) (hB:Region.lexTailB .any l.toArray n=true)
 (h:wpQuiet P l.toArray (fun w'=>∃k,w'=w.drewN k) (fun a'=>∀w',(∃k,w'=w.drewN k)→wpList P l.toArray Q (l.drop n) a' w') (l.take n) a):(Code.region id l.toArray true).wp P Q a w:=
 quiet_tail_in (fun k=>w.drewN k) 1 rfl n hm hB h
end
theorem drew_drewN (w:World) (n:Nat):w.drew.drewN n=w.drewN (1+n):=by
 rw[←World.drewN_drewN];rfl
theorem Q7z {B:Nat} {a w:World} (h:Below B a w) (n:Nat):Below B a (w.drewN n):=⟨h.os,h.tape,h.output,h.size,h.block⟩
end
section
open Go.RowKit
def Own8 (w:World) (B:Nat) (v:Value) (bs:List (BitVec 8)):Prop:=w.ownsRow B 5 1 v bs.length (bs.map u8)
section
variable {w w':World} {B:Nat} {v:Value} {bs:List (BitVec 8)} {p:Option Addr}
theorem cells_map (bs:List (BitVec 8)):bs.map u8=(bs.map iv8).map (Value.int .u8):=by simp[u8]
theorem Own8.row (h:Own8 w B v bs):∃p c,v= .slice p bs.length c∧bs.length≤c∧c≤maxLen∧Row8 w p bs:=by
 rcases h.2 with⟨rfl,h0⟩|⟨g,cap,cur,rfl,_,hh,hc,hm,hs,ht⟩
 ·exact⟨none,0,by rw[h0],by omega,by unfold maxLen;omega,fun hn=>absurd (List.eq_nil_of_length_eq_zero h0) hn⟩
 ·refine⟨_,cap,rfl,hc,hm,fun _=>⟨g,0,rfl,Blk.lt hh,fun i x hx=>?_⟩⟩
  rw[Nat.zero_add,Blk.cell hh]
  have hl:i<bs.length:=by
   rcases Nat.lt_or_ge i bs.length with h1|h1
   ·exact h1
   ·rw[List.getElem?_eq_none h1]at hx;cases hx
  have:(cur.toList.take (bs.length*1))[i]? =(bs.map u8)[i]? :=by rw[ht]
  rw[List.getElem?_take,if_pos (by omega),List.getElem?_map,hx]at this
  simpa using this
theorem Own8.row' (h:Own8 w B v bs):∃p c,v= .slice p bs.length c∧bs.length≤c∧c≤maxLen∧Row8 w p bs∧(∀a,p=some a→B≤a.block):=by
 obtain⟨p,c,rfl,h1,h2,h3⟩:=h.row
 refine⟨p,c,rfl,h1,h2,h3,fun a ha=>?_⟩
 subst ha
 rcases h.2 with⟨e,_⟩|⟨g,cap,cur,e,hg,_⟩
 ·cases e
 ·injection e with e1;injection e1 with e1;subst e1;exact hg
theorem Row8.bytesIn {n:Nat} (h:Row8 w p bs) (hn:bs.length=n):Lib.BytesIn w p n (bs.map iv8):=by
 subst hn
 by_cases h0:bs=[]
 ·subst h0;exact Lib.BytesIn.nil w p []
 ·obtain⟨b,off,rfl,hlt,hc⟩:=h h0
  refine Lib.BytesIn.of_cells fun i hi=>?_
  rw[Addr.add_lit,hc i bs[i] (List.getElem?_eq_getElem hi)]
  simp[u8,List.getD,List.getElem?_eq_getElem hi]
theorem bytesOf_eq (as1 bs:List (BitVec 8)):(Lib.bytesOf (as1.map iv8)==Lib.bytesOf (bs.map iv8))=decide (as1=bs):=by
 have hinj:∀as1 bs:List (BitVec 8),Lib.bytesOf (as1.map iv8)=Lib.bytesOf (bs.map iv8)→as1=bs:=by
  intro as1
  induction as1 with
  |nil=>intro bs h;cases bs with
   |nil=>rfl
   |cons b bs=>simp[Lib.bytesOf]at h
  |cons a as1 ih=>
   intro bs h
   cases bs with
   |nil=>simp[Lib.bytesOf]at h
   |cons b bs=>
    simp only[Lib.bytesOf,List.map_cons,List.cons.injEq]at h
    have h1:a=b:=by
     have h2:=congrArg UInt8.toNat h.1
     simp only[iv8,Int.toNat_natCast,UInt8.toNat_ofNat']at h2
     have ha:=a.isLt
     have hb:=b.isLt
     exact BitVec.eq_of_toNat_eq (by omega)
    rw[h1,ih bs h.2]
 by_cases h:as1=bs
 ·subst h;simp
 ·rw[decide_eq_false h,beq_eq_false_iff_ne]
  exact fun e=>h (hinj as1 bs e)
end
def GivesOwn (w:World) (bs:List (BitVec 8)) (e:Ending) (w':World):Prop:=∃v,e= .returned v∧Own8 w' w.heap.size v bs∧Below w.heap.size w w'
theorem clone_any (p:Option Addr) (n c:Nat) (bs:List (BitVec 8)) (w:World) (hr:Row8 w p bs) (hn:bs.length=n) (hbig:n≤140737488355328) (hp:p=none→n=0):
 Calls Tryz.prog 76 #[.slice p n c] w (GivesOwn w bs):=by
 subst hn
 cases p with
 |none=>
  obtain rfl:bs=[]:=List.eq_nil_of_length_eq_zero (hp rfl)
  exact(Tryz.bytes_Clone_nil _ _ w).mono fun e w' ⟨he,hw⟩=>⟨_,he,⟨rfl,.inl ⟨rfl,rfl⟩⟩,by rw[hw];exact Below.refl _ _⟩
 |some a=>
  refine(Tryz.bytes_Clone_at a bs.length c (bs.map iv8) w (by simp) hbig (fun i hi=>?_)).mono fun e w' ⟨v,he,ho,_,hb⟩=>⟨v,he,by unfold Own8;rw[cells_map];exact ho,hb⟩
  obtain⟨b,off,e,hlt,hc⟩:=hr (fun e=>by rw[e]at hi;simp at hi)
  injection e with e
  subst e
  rw[Addr.add_lit,hc i bs[i] (List.getElem?_eq_getElem hi)]
  simp[u8,List.getD,List.getElem?_eq_getElem hi]
theorem equal_any (p1 p2:Option Addr) (n c m d:Nat) (as1 bs:List (BitVec 8)) (w:World) (h1:Row8 w p1 as1) (h2:Row8 w p2 bs) (hn:as1.length=n) (hm:bs.length=m):
 Calls Tryz.prog 11 #[.slice p1 n c,.slice p2 m d] w fun e w'=>e= .returned (.bool (decide (as1=bs)))∧w'=w:=by
 rw[←bytesOf_eq]
 exact Tryz.bytes_Equal_all p1 p2 n c m d (as1.map iv8) (bs.map iv8) w (by simpa using hn) (by simpa using hm) (h1.bytesIn hn) (h2.bytesIn hm)
end
section
open Go.RowKit
theorem u8info:(Tryz.prog.info? 5).map (fun i=>(i.zero,i.size,i.bytes))=some (some (.int .u8 0),1,1):=by kernel_rfl
section
variable {w w':World} {B:Nat} {v:Value} {bs:List (BitVec 8)}
theorem Own8.nil (w:World) (B:Nat):Own8 w B (.slice none 0 0) []:=⟨rfl,.inl ⟨rfl,rfl⟩⟩
theorem Own8.alloc (h:Own8 w B v bs) (o:Obj):Own8 (w.alloc o) B v bs:=World.ownsRow.alloc h o
theorem Own8.drew (h:Own8 w B v bs):Own8 w.drew B v bs:=h
theorem Own8.drewN (h:Own8 w B v bs) (n:Nat):Own8 (w.drewN n) B v bs:=h
theorem Own8.kept {row:Option Nat} (h:Own8 w B v bs) (hg:w.grownBy w' row) (hne:v.ownBlock=none∨v.ownBlock≠row):Own8 w' B v bs:=World.ownsRow.kept h hg hne
theorem Own8.below {B':Nat} (h:Own8 w B v bs) (hb:Below B' w w') (hB:w.heap.size≤B'):Own8 w' B v bs:=by
 refine⟨h.1,?_⟩
 rcases h.2 with h0|⟨g,cap,cur,rfl,hg,hh,hr⟩
 ·exact .inl h0
 ·exact .inr ⟨g,cap,cur,rfl,hg,Blk.below hh hb (Nat.lt_of_lt_of_le (Blk.lt hh) hB),hr⟩
theorem Own8.mono {B':Nat} (h:Own8 w B v bs) (hB:B'≤B):Own8 w B' v bs:=by
 refine⟨h.1,?_⟩
 rcases h.2 with h0|⟨g,cap,cur,rfl,hg,hr⟩
 ·exact .inl h0
 ·exact .inr ⟨g,cap,cur,rfl,Nat.le_trans hB hg,hr⟩
theorem Own8.setFar (h:Own8 w B v bs) {a:Addr} (ha:v.ownBlock≠some a.block) (u:Value):Own8 (w.setCell a u) B v bs:=by
 refine⟨h.1,?_⟩
 rcases h.2 with h0|⟨g,cap,cur,rfl,hg,hh,hr⟩
 ·exact .inl h0
 ·exact .inr ⟨g,cap,cur,rfl,hg,Blk.far hh (fun e=>ha (by rw[e];rfl)) u,hr⟩
end
theorem run_append8 (w:World) (ty:TypeId) (B:Nat) (v:Value) (as1:List (BitVec 8)) (hown:Own8 w B v as1) (p:Option Addr) (c:Nat) (bs:List (BitVec 8)) (hr:Row8 w p bs)
 (hlen:as1.length+bs.length≤140737488355328) (hB:B≤w.heap.size):
 ∃v' w',(Builtin.append_ #[26,26] ty #[v,.slice p bs.length c]).run Tryz.prog w= .ok v' w'∧Own8 w' B v' (as1++bs)∧w.grownBy w' v.ownBlock∧(v'.ownBlock=v.ownBlock∨v'.ownBlock=some w.heap.size):=by
 obtain⟨i0,hi,hz0,hz1,hz2⟩:=info_parts u8info
 cases p with
 |none=>
  have hn:bs=[]:=by
   by_cases h:bs=[]
   ·exact h
   ·obtain⟨b,off,e,_⟩:=hr h
    cases e
  subst hn
  refine⟨v,w,?_,by simpa using hown,World.grownBy.refl w _,.inl rfl⟩
  rcases hown.2 with⟨rfl,h0⟩|⟨g,cap,cur,rfl,_,_,hnc,_⟩
  ·simp[Builtin.append_,run_underlying Tryz.underlying26,sizeOf,typeInfo,hi,Builtin.lenOf,Builtin.firstCells]
  ·simp[Builtin.append_,run_underlying Tryz.underlying26,sizeOf,typeInfo,hi,Builtin.lenOf,Builtin.firstCells,hnc,storeCells]
 |some ad=>
  have hcells:∀j u,(bs.map u8)[j]? =some u→w.cell? (ad.add j)=some u:=by
   intro j u hu
   have hj:j<bs.length:=by
    rcases Nat.lt_or_ge j bs.length with h|h
    ·exact h
    ·rw[List.getElem?_eq_none (by simpa using h)]at hu;cases hu
   obtain⟨b,off,e,_,hc⟩:=hr (fun e=>by rw[e]at hj;simp at hj)
   injection e with e
   subst e
   rw[List.getElem?_map,List.getElem?_eq_getElem hj]at hu
   simp at hu
   rw[Addr.add_lit,hc j bs[j] (List.getElem?_eq_getElem hj),← hu]
  obtain⟨v',w',hrun,h2,h3,_,h5⟩:=run_append_own_at (P:=Tryz.prog) w B 26 ty 5 i0 (.int .u8 0) 1 1 Tryz.underlying26 hi hz0 hz1 hz2 rfl (by decide) v as1.length (as1.map u8) hown ad bs.length c (bs.map u8) (by simp) hcells
   (Xzz _) (by simp only[maxLen];omega) (by omega) hB
  refine⟨v',w',hrun,?_,h3,h5⟩
  unfold Own8
  rw[List.length_append,List.map_append]
  exact h2
theorem Qaz {ops:Array Oper} {rest:List Oper} {o:Oper} {a:Act} {Q:Exit→Act→World→Prop} {w:World} (hgd:o.guard=none) (s x:Operand)
 (ho:o.op= .call { callee:=.builtin .append,args:=#[s,x],argTypes:=#[26,26] }) (B:Nat) (v:Value) (as1:List (BitVec 8)) (hs:a.eval s=v) (hown:Own8 w B v as1)
 (p:Option Addr) (m c:Nat) (bs:List (BitVec 8)) (hx:a.eval x= .slice p m c) (hm:bs.length=m) (hr:Row8 w p bs)
 (hlen:as1.length+bs.length≤140737488355328) (hB:B≤w.heap.size) (B0:Nat) (w0:World) (hb:Below B0 w0 w) (hB0:B0≤B)
 (h:∀v' w',Own8 w' B v' (as1++bs)→Below B0 w0 w'→w.grownBy w' v.ownBlock→(v'.ownBlock=v.ownBlock∨v'.ownBlock=some w.heap.size)→wpList Tryz.prog ops Q rest (a.put o.dst v') w'):wpList Tryz.prog ops Q (o ::rest) a w:=by
 subst hm
 obtain⟨v',w',hrun,h2,h3,h4⟩:=run_append8 w o.type B v as1 hown p c bs hr hlen hB
 refine wpList_plain hgd fun K hK=>?_
 unfold Oper.wp execOp
 simp only[ho,resolve,invoke,builtin,Sem.run_bind,Sem.run_pure,Result.andThen_ok,List.map_toArray,List.map_cons,List.map_nil,hs,hx,hrun]
 refine hK _ _ (h v' w' h2 (hb.grown h3 (Nat.le_trans hB0 hB) fun k hk=>?_) h3 h4)
 exact Nat.le_trans hB0 (World.ownsRow.lt hown k hk).1
end
section
open Go Go.RowKit
section
variable {P:Program} {ops:Array Oper} {md:Region.Mode} {W0 W1:World} {n:Nat} {p:Value}
def CW (W w':World):Prop:=∃k,w'=W.drewN k
def Yi (P:Program) (ops:Array Oper) (W0 W1:World) (n:Nat) (p:Value) (i:Nat) (o:Oper) (v:Value) (a:Act):Prop:=
 (i<n∧YieldsIn P ops (CW W0) o v a∧YieldsIn P ops (CW W1) o v a)∨(i=n∧v=p)
def wpH (P:Program) (md:Region.Mode) (ops:Array Oper) (W0 W1:World) (n:Nat) (p:Value) (L:Array Bool→Act→Prop):Nat→Array Bool→Act→Prop
 |0,listed,a=>L listed a
 |f+1,listed,a=>Region.ready md ops listed≠[]∧∀i∈Region.ready md ops listed,∃o v,ops[i]? =some o∧Yi P ops W0 W1 n p i o v a∧wpH P md ops W0 W1 n p L f (listed.setIfInBounds i true) (a.put o.dst v)
theorem Xaz {C:World→Prop} {oi oj:Oper} {v u:Value} {a:Act} (hap:oi.apart ops oj=true) (hsi:∀cs b,oi.op≠ .select cs b) (hy:YieldsIn P ops C oi v a):YieldsIn P ops C oi v (a.put oj.dst u):=by
 obtain⟨_,_,h3⟩:=Oper.apart_spec hap
 exact hy.of_same (execOp_put oi hsi a oj.dst u h3) (wanted_put oi a oj.dst u h3)
theorem XVz {C:World→Prop} {oi oj:Oper} {v u:Value} {a:Act} (hap:oi.apart ops oj=true) (hsj:∀cs b,oj.op≠ .select cs b) (hy:YieldsIn P ops C oj u (a.put oi.dst v)):YieldsIn P ops C oj u a:=by
 obtain⟨h1,_,_⟩:=Oper.apart_spec hap
 exact hy.of_same (execOp_put oj hsj a oi.dst v h1).symm (wanted_put oj a oi.dst v h1).symm
theorem Yi.put {i:Nat} {oi oj:Oper} {v u:Value} {a:Act} (hap:oi.apart ops oj=true) (hsi:∀cs b,oi.op≠ .select cs b) (hy:Yi P ops W0 W1 n p i oi v a):Yi P ops W0 W1 n p i oi v (a.put oj.dst u):=by
 rcases hy with⟨h,h0,h1⟩|h
 ·exact .inl ⟨h,Xaz hap hsi h0,Xaz hap hsi h1⟩
 ·exact .inr h
theorem Yi.unput {j:Nat} {oi oj:Oper} {v u:Value} {a:Act} (hap:oi.apart ops oj=true) (hsj:∀cs b,oj.op≠ .select cs b) (hy:Yi P ops W0 W1 n p j oj u (a.put oi.dst v)):Yi P ops W0 W1 n p j oj u a:=by
 rcases hy with⟨h,h0,h1⟩|h
 ·exact .inl ⟨h,XVz hap hsj h0,XVz hap hsj h1⟩
 ·exact .inr h
theorem wpH_first {i:Nat} {oi:Oper} {v:Value} {L:Array Bool→Act→Prop} (hi:ops[i]? =some oi) (hsel:∀(j:Nat) (o:Oper) cs b,ops[j]? =some o→o.op≠ .select cs b)
 (hs:Region.sinkB md ops (n+1)=true) (hc:Region.chainB md ops (n+1)=true) (hn:n+1<ops.size) (hin:i<n+1) (hdone:∀listed a,L listed a→∀j∈Region.ready md ops listed,n+1≤j) (f:Nat):
 ∀(listed:Array Bool) (a:Act),HeadInv md ops (n+1) listed→
  (∀j oj,ops[j]? =some oj→j≠i→listed.getD j true=false→(∀e∈oj.after,Region.binds md e=true→e.on≠i)→oi.apart ops oj=true)→
  i∈Region.ready md ops listed→Yi P ops W0 W1 n p i oi v a→wpH P md ops W0 W1 n p L f (listed.setIfInBounds i true) (a.put oi.dst v)→wpH P md ops W0 W1 n p L (f+1) listed a:=by
 have low:∀(listed:Array Bool) (j:Nat),HeadInv md ops (n+1) listed→i∈Region.ready md ops listed→j∈Region.ready md ops listed→j<n+1:=fun listed j inv hr hj=>by
  rcases Nat.lt_or_ge j (n+1)with h|h
  ·exact h
  ·exact absurd hj (tail_waits hs hc hn inv _ i rfl hin (mem_ready.1 hr).1 j h)
 induction f with
 |zero=>
  intro listed a inv _ hr hy H
  refine⟨fun h=>(by rw[h]at hr;cases hr),fun j hj=>?_⟩
  by_cases hji:j=i
  ·subst hji;exact⟨oi,v,hi,hy,H⟩
  ·have:=hdone _ _ H j (ready_mono hj hji)
   have:=low listed j inv hr hj
   omega
 |succ f ih=>
  intro listed a inv hfree hr hy H
  refine⟨fun h=>(by rw[h]at hr;cases hr),fun j hj=>?_⟩
  by_cases hji:j=i
  ·subst hji;exact⟨oi,v,hi,hy,H⟩
  ·obtain⟨hjun,oj,hoj,hall⟩:=mem_ready.1 hj
   have hnot:∀e∈oj.after,Region.binds md e=true→e.on≠i:=fun e he hb heq=>by
    have h1:=hall e he hb
    rw[heq,getD_both (mem_ready.1 hr).1]at h1
    cases h1
   have hap:=hfree j oj hoj hji hjun hnot
   obtain⟨oj',u,hoj',hyj,H2⟩:=H.2 j (ready_mono hj hji)
   obtain rfl:oj'=oj:=Option.some.inj (hoj'.symm.trans hoj)
   refine⟨oj',u,hoj',hyj.unput hap (fun cs b=>hsel j oj' cs b hoj'),ih _ _ (inv.set hj (low listed j inv hr hj)) (fun k ok hk hki hun hno=>hfree k ok hk hki ?_ hno) (ready_mono hr (Ne.symm hji)) (hy.put hap (fun cs b=>hsel i oi cs b hi)) ?_⟩
   ·by_cases hjk:j=k
    ·subst hjk;exact hjun
    ·rw[getD_set_ne true hjk]at hun;exact hun
   ·rw[Array.setIfInBounds_comm _ _ hji,← Act.put_comm a v u (Oper.apart_spec hap).2.1]
    exact H2
def wpE (P:Program) (ops:Array Oper) (W0 W1:World) (n:Nat) (p:Value) (Lq:Act→Prop):List Oper→Nat→Act→Prop
 | [],_,a=>Lq a
 |o ::l,k,a=>∃v,Yi P ops W0 W1 n p k o v a∧wpE P ops W0 W1 n p Lq l (k+1) (a.put o.dst v)
theorem wpH_lex {g:Nat} {Lq:Act→Prop} (hsel:Region.noSelect ops=true) (hs:Region.sinkB md ops (n+1)=true) (hc:Region.chainB md ops (n+1)=true) (hn:n+1<ops.size):
 ∀(l:List Oper) (k:Nat) (listed:Array Bool) (a:Act),(∀j,j<l.length→l[j]? =ops[k+j]?)→k+l.length=n+1→HeadInv md ops (n+1) listed→
 Region.lexHead md ops g l.length k listed=true→(k≤n∨listed.getD n true=true)→wpE P ops W0 W1 n p Lq l k a→
 wpH P md ops W0 W1 n p (fun listed' a'=>listed'.getD n true=true∧Region.seqB md ops g (n+1) listed'=true∧Lq a') l.length listed a
 | [],k,_,_,_,hk,_,hB,hkn,h=>by
   obtain rfl:k=n+1:=by simpa using hk
   exact⟨hkn.resolve_left (by omega),by simpa[Region.lexHead]using hB,h⟩
 |o ::l,k,listed,a,hl,hk,inv,hB,hkn,h=>by
  have h0:ops[k]? =some o:=by simpa using(hl 0 (by simp)).symm
  simp only[List.length_cons,Region.lexHead,Bool.and_eq_true]at hB
  obtain⟨⟨hr,hf⟩,hB'⟩:=hB
  simp only[List.length_cons]at hk
  have hr':k∈Region.ready md ops listed:=by simpa using hr
  obtain⟨v,hy,hK⟩:=h
  exact wpH_first h0 (Region.noSelect_spec hsel) hs hc hn (by omega) (fun _ _ hL=>seqB_ready hL.2.1) l.length listed a inv (Region.free_spec h0 hf) hr' hy
   (wpH_lex hsel hs hc hn l (k+1) _ _ (fun j hj=>by have:=hl (j+1) (by simp;omega);simpa[Nat.add_assoc,Nat.add_comm 1 j]using this) (by omega) (inv.set hr' (by omega)) hB' (by
     rcases Nat.lt_or_ge k n with h1|h1
     ·exact .inl h1
     ·obtain rfl:k=n:=by omega
      exact .inr (by simp)) hK)
theorem any_of_wpH {g:Nat} {L:Array Bool→Act→Prop} {Q':Exit→Act→World→Prop} {oa:Oper} (hoa:ops[n]? =some oa)
 (hmk:∀w a K,CW W0 w→(∀w',CW W1 w'→K (a.put oa.dst p) w')→wpOp P ops Q' n K a w)
 (hL:∀listed a w,CW W1 w→L listed a→wpAny P md ops Q' g listed a w):
 ∀(f:Nat) (listed:Array Bool) (a:Act) (w:World),n<listed.size→(listed.getD n true=false→CW W0 w)→(listed.getD n true=true→CW W1 w)→(∀listed' a',L listed' a'→n<listed'.size→listed'.getD n true=true)→
  wpH P md ops W0 W1 n p L f listed a→wpAny P md ops Q' (f+g) listed a w
 |0,listed,a,w,hsz,_,h1,hLn,h=>by rw[Nat.zero_add];exact hL _ _ _ (h1 (hLn _ _ h hsz)) h
 |f+1,listed,a,w,hsz,h0,h1,hLn,h=>by
  rw[show f+1+g=(f+g)+1 by omega]
  refine⟨fun he=>absurd he h.1,fun i hi=>?_⟩
  obtain⟨o,v,ho,hy,hK⟩:=h.2 i hi
  rcases hy with⟨hin,y0,y1⟩|⟨e1,e2⟩
  ·have hne:i≠n:=by omega
   have hg:(listed.setIfInBounds i true).getD n true=listed.getD n true:=getD_set_ne true hne
   have hsz':n<(listed.setIfInBounds i true).size:=by simpa using hsz
   cases hb:listed.getD n true with
   |false=>exact wpOp_of_qOp (C:=CW W0) (h0 hb) (fun a' w' hw' h'=>any_of_wpH hoa hmk hL f _ a' w' hsz' (fun _=>hw') (fun h2=>(by rw[hg,hb]at h2;cases h2)) hLn h') (y0.qOp ho hK)
   |true=>exact wpOp_of_qOp (C:=CW W1) (h1 hb) (fun a' w' hw' h'=>any_of_wpH hoa hmk hL f _ a' w' hsz' (fun h2=>(by rw[hg,hb]at h2;cases h2)) (fun _=>hw') hLn h') (y1.qOp ho hK)
  ·rw[e1]at hi hK ho ⊢
   rw[e2]at hK
   obtain rfl:o=oa:=Option.some.inj (ho.symm.trans hoa)
   have hun:=(mem_ready.1 hi).1
   refine hmk w a _ (h0 hun) fun w' hw'=>any_of_wpH hoa hmk hL f _ _ w' (by simpa using hsz) (fun h2=>?_) (fun _=>hw') hLn hK
   simp[hsz]at h2
theorem QTz {C:World→Prop} {A0:Act} (d:Tmp):∀(l:List Oper) (a:Act),(∀o∈l,o.dst≠some d)→wpQuiet P ops C (fun a'=>a'=A0) l a→A0.eval (.tmp d)=a.eval (.tmp d)
 | [],a,_,h=>by rw[show a=A0 from h]
 |o ::l,a,hd,h=>by
  have hne:=hd o (by simp)
  have hev:∀v,(a.put o.dst v).eval (.tmp d)=a.eval (.tmp d):=fun v=>Act.eval_put fun d' hd' hx=>by
   injection hx with hx
   exact hne (by rw[hd',hx])
  unfold wpQuiet at h
  split at h
  ·obtain⟨v,_,h⟩:=h
   exact(QTz d l _ (fun o' ho'=>hd o' (by simp[ho'])) h).trans (hev v)
  ·exact(QTz d l _ (fun o' ho'=>hd o' (by simp[ho'])) h).trans (hev _)
theorem Z6z (a:Act) (d:Tmp) (v:Value) (h:d<a.tmps.size):(a.put (some d) v).eval (.tmp d)=v:=by
 simp[Act.put,Act.eval,h]
theorem put_size (a:Act) (d:Option Tmp) (v:Value):(a.put d v).tmps.size=a.tmps.size:=by
 cases d<;>simp[Act.put]
def Xrz (s:Nat):List Oper→Bool
 | []=>true
 |o ::l=>(match o.dst with|some d=>decide (d<s)&&l.all (fun o'=>o'.dst != some d)|none=>false)&&Xrz s l
theorem wpE_of_quiet {A0:Act} {oa:Oper} {s:Nat}:∀(l:List Oper) (k:Nat) (a:Act),a.tmps.size=s→Xrz s l=true→k+l.length=n→
 wpQuiet P ops (CW W0) (fun a'=>a'=A0) l a→wpQuiet P ops (CW W1) (fun a'=>a'=A0) l a→wpE P ops W0 W1 n p (fun a'=>a'=A0.put oa.dst p) (l++[oa]) k a
 | [],k,a,_,_,hk,h,_=>⟨p,.inr ⟨by simpa using hk,rfl⟩,by rw[show a=A0 from h];rfl⟩
 |o ::l,k,a,hs,hp,hk,h0,h1=>by
  unfold wpQuiet at h0 h1
  simp only[Xrz,Bool.and_eq_true]at hp
  obtain⟨hp1,hp2⟩:=hp
  simp only[List.length_cons]at hk
  cases hd:o.dst with
  |none=>rw[hd]at hp1;cases hp1
  |some d=>
   rw[hd]at hp1
   simp only[Bool.and_eq_true,decide_eq_true_eq,List.all_eq_true]at hp1
   have hfar:∀o'∈l,o'.dst≠some d:=fun o' ho' e=>by have:=hp1.2 o' ho';simp[e]at this
   by_cases hw:Region.wanted o (yielded ops a.tmps)=true
   ·simp only[hw,if_true]at h0 h1
    obtain⟨v0,q0,n0⟩:=h0
    obtain⟨v1,q1,n1⟩:=h1
    have e0:=QTz d l _ hfar n0
    have e1:=QTz d l _ hfar n1
    rw[hd,Z6z a d _ (by rw[hs];exact hp1.1)]at e0 e1
    obtain rfl:v0=v1:=e0.symm.trans e1
    exact⟨v0,.inl ⟨by omega,.inl ⟨hw,q0⟩,.inl ⟨hw,q1⟩⟩,wpE_of_quiet l (k+1) _ (by rw[put_size,hs]) hp2 (by omega) n0 n1⟩
   ·simp only[hw,Bool.false_eq_true,if_false]at h0 h1
    exact⟨undef,.inl ⟨by omega,.inr ⟨by simpa using hw,rfl⟩,.inr ⟨by simpa using hw,rfl⟩⟩,wpE_of_quiet l (k+1) _ (by rw[put_size,hs]) hp2 (by omega) h0 h1⟩
theorem early_alloc {id:Nat} {Q:Exit→Act→World→Prop} {a:Act} {w:World} {l:List Oper} (n:Nat) (hm:P.follows .mixedOrders=true) (hB:Region.lexTailB .any l.toArray (n+1)=true) (s:Nat) (hs:a.tmps.size=s) (hp:Xrz s (l.take n)=true)
 (d:Tmp) (t:TypeId) (oa:Oper) (hoa:l[n]? =some oa) (hdst:oa.dst=some d) (hop:oa.op= .alloc t) (hgd:oa.guard=none) (z:Value) (hz:∀w,(zeroValue t).run P w= .ok z w)
 (F:World→Prop) (hF0:F w.drew) (hF1:F (w.drew.alloc (.cells z.cells t))) (A0:Act)
 (h:∀W,F W→wpQuiet P l.toArray (fun w'=>∃k,w'=W.drewN k) (fun a'=>a'=A0) (l.take n) a)
 (ht:∀k,wpList P l.toArray Q (l.drop (n+1)) (A0.put (some d) (.pointer (some ⟨w.heap.size,0,none⟩))) ((w.drew.alloc (.cells z.cells t)).drewN k)):(Code.region id l.toArray true).wp P Q a w:=by
 simp only[Region.lexTailB,Bool.and_eq_true,decide_eq_true_eq]at hB
 obtain⟨⟨⟨⟨hsel,hn⟩,hsk⟩,hc⟩,hlex⟩:=hB
 have hn':n+1<l.length:=by simpa using hn
 have hln:l.take n++[oa]=l.take (n+1):=by
  rw[List.take_add_one,hoa];rfl
 have htl:(l.take (n+1)).length=n+1:=by simp;omega
 have hdl:(l.drop (n+1)).length=l.toArray.size-(n+1):=by simp
 have inv0:HeadInv .any l.toArray (n+1) (Array.replicate l.toArray.size false):=
  ⟨by simp,fun j oj _ hl=>(by rw[getD_replicate_false]at hl;cases hl),fun t _ ht=>getD_in (by simpa using ht) (getD_replicate_false _ _)⟩
 have hE:=wpE_of_quiet (P:=P) (ops:=l.toArray) (W0:=w.drew) (W1:=w.drew.alloc (.cells z.cells t)) (n:=n) (p:=.pointer (some ⟨w.heap.size,0,none⟩)) (A0:=A0) (oa:=oa) (l.take n) 0 a hs hp (by simp;omega) (h _ hF0) (h _ hF1)
 rw[hln]at hE
 have H:=wpH_lex (md:=.any) (g:=l.toArray.size-(n+1)) hsel hsk hc hn (l.take (n+1)) 0 _ a (fun j hj=>by
  have hj':j<n+1:=by rw[htl]at hj;exact hj
  simp[hj']) (by simpa using htl) inv0 (by rw[htl];exact hlex) (.inl (Nat.zero_le _)) hE
 refine wp_region_any hm ?_
 have:=any_of_wpH (Q':=Q) (g:=l.toArray.size-(n+1)) (oa:=oa) (by simpa using hoa) ?_ (fun listed a' w' hw' hL=>by
  obtain⟨k,rfl⟩:=hw'
  have:=wpAny_of_seq (md:=.any) (Q':=Q) (l.drop (n+1)) (n+1) listed a' ((w.drew.alloc (.cells z.cells t)).drewN k) (fun j=>by rw[List.getElem?_drop,List.getElem?_toArray]) (by rw[hdl];exact hL.2.1) (by rw[hL.2.2,hdst];exact ht k)
  rwa [hdl]at this) _ _ a w.drew (by simp;omega) (fun _=>⟨0,rfl⟩) (fun h2=>?_) ?_ H
 ·rw[htl,show n+1+(l.toArray.size-(n+1))=l.toArray.size by omega]at this
  exact this
 ·rintro w' a' K ⟨k,rfl⟩ hK
  have hoa':l.toArray[n]? =some oa:=by simpa using hoa
  have hw:Region.wanted oa (yielded l.toArray a'.tmps)=true:=by simp[Region.wanted,hgd]
  unfold wpOp
  simp only[hoa',hw,if_true]
  refine .inl ?_
  unfold Oper.wp execOp
  simp only[hop]
  have hK':K (a'.put oa.dst (.pointer (some ⟨w.heap.size,0,none⟩))) ((w.drewN (1+k)).alloc (.cells z.cells t)):=by
   rw[←drew_drewN];exact hK ((w.drew.alloc (.cells z.cells t)).drewN k) ⟨k,rfl⟩
  simp[hz,go_sem]
  exact hK'
 ·simp[show n<l.length by omega]at h2
 ·exact fun _ _ hL _=>hL.1
end
end
section
open Go Go.RowKit
section
variable {P:Program} {ops:Array Oper} {md:Region.Mode} {W0:World} {F:World→Prop} {R:Value→World→Prop} {n:Nat} {p:Value} {E:Nat→Value}
def xUpon (P:Program) (R:Value→World→Prop):Result Next→Prop
 | .ok (.value u) w'=>R u w'
 | .ok .skip w'=>R undef w'
 | .ok (.enter f args) w'=>Calls P f args w' (fun e w''=>∃v,e= .returned v∧R v w'')
 |_=>False
def XOK (P:Program) (ops:Array Oper) (W0:World) (R:Value→World→Prop) (o:Oper) (a:Act):Prop:=
 Region.wanted o (yielded ops a.tmps)=true∧∀w,CW W0 w→xUpon P R ((execOp a.eval o).run P w)
theorem wp_of_xUpon {o:Oper} {a:Act} {w:World} {K:Act→World→Prop} {Q':Exit→Act→World→Prop} (h:xUpon P R ((execOp a.eval o).run P w)) (hK:∀p w',R p w'→K (a.put o.dst p) w'):o.wp P a w K Q':=by
 unfold Oper.wp
 generalize(execOp a.eval o).run P w=r at*
 cases r with
 |ok x w'=>
  cases x<;>simp only[xUpon]at h<;>simp only[Oper.upon]
  case value u=>exact hK _ _ h
  case skip=>exact hK _ _ h
  case enter f args=>exact h.mono fun e w'' ⟨v,he,hw''⟩=>by subst he;exact hK _ _ hw''
 |halt x w'=>simp only[xUpon]at h
def Zi (P:Program) (ops:Array Oper) (W0:World) (F:World→Prop) (R:Value→World→Prop) (n:Nat) (p:Value) (E:Nat→Value) (i:Nat) (o:Oper) (v:Value) (a:Act):Prop:=
 (i<n∧v=E i∧∀W,F W→YieldsIn P ops (CW W) o v a)∨(i=n∧v=p∧XOK P ops W0 R o a)
def wpH2 (P:Program) (md:Region.Mode) (ops:Array Oper) (W0:World) (F:World→Prop) (R:Value→World→Prop) (n:Nat) (p:Value) (E:Nat→Value) (L:Array Bool→Act→Prop):Nat→Array Bool→Act→Prop
 |0,listed,a=>L listed a
 |f+1,listed,a=>Region.ready md ops listed≠[]∧∀i∈Region.ready md ops listed,∃o v,ops[i]? =some o∧Zi P ops W0 F R n p E i o v a∧wpH2 P md ops W0 F R n p E L f (listed.setIfInBounds i true) (a.put o.dst v)
theorem xok_put {oi oj:Oper} {u:Value} {a:Act} (hap:oi.apart ops oj=true) (hsi:∀cs b,oi.op≠ .select cs b) (hy:XOK P ops W0 R oi a):XOK P ops W0 R oi (a.put oj.dst u):=by
 obtain⟨_,_,h3⟩:=Oper.apart_spec hap
 unfold XOK at*
 rw[execOp_put oi hsi a oj.dst u h3,wanted_put oi a oj.dst u h3]
 exact hy
theorem xok_unput {oi oj:Oper} {v:Value} {a:Act} (hap:oi.apart ops oj=true) (hsj:∀cs b,oj.op≠ .select cs b) (hy:XOK P ops W0 R oj (a.put oi.dst v)):XOK P ops W0 R oj a:=by
 obtain⟨h1,_,_⟩:=Oper.apart_spec hap
 unfold XOK at*
 rw[execOp_put oj hsj a oi.dst v h1,wanted_put oj a oi.dst v h1]at hy
 exact hy
theorem Zi.put {i:Nat} {oi oj:Oper} {v u:Value} {a:Act} (hap:oi.apart ops oj=true) (hsi:∀cs b,oi.op≠ .select cs b) (hy:Zi P ops W0 F R n p E i oi v a):Zi P ops W0 F R n p E i oi v (a.put oj.dst u):=by
 rcases hy with⟨h,hv,h0⟩|⟨h,hv,h0⟩
 ·exact .inl ⟨h,hv,fun W hW=>Xaz hap hsi (h0 W hW)⟩
 ·exact .inr ⟨h,hv,xok_put hap hsi h0⟩
theorem Zi.unput {j:Nat} {oi oj:Oper} {v u:Value} {a:Act} (hap:oi.apart ops oj=true) (hsj:∀cs b,oj.op≠ .select cs b) (hy:Zi P ops W0 F R n p E j oj u (a.put oi.dst v)):Zi P ops W0 F R n p E j oj u a:=by
 rcases hy with⟨h,hv,h0⟩|⟨h,hv,h0⟩
 ·exact .inl ⟨h,hv,fun W hW=>XVz hap hsj (h0 W hW)⟩
 ·exact .inr ⟨h,hv,xok_unput hap hsj h0⟩
theorem wpH2_first {i:Nat} {oi:Oper} {v:Value} {L:Array Bool→Act→Prop} (hi:ops[i]? =some oi) (hsel:∀(j:Nat) (o:Oper) cs b,ops[j]? =some o→o.op≠ .select cs b)
 (hs:Region.sinkB md ops (n+1)=true) (hc:Region.chainB md ops (n+1)=true) (hn:n+1<ops.size) (hin:i<n+1) (hdone:∀listed a,L listed a→∀j∈Region.ready md ops listed,n+1≤j) (f:Nat):
 ∀(listed:Array Bool) (a:Act),HeadInv md ops (n+1) listed→
  (∀j oj,ops[j]? =some oj→j≠i→listed.getD j true=false→(∀e∈oj.after,Region.binds md e=true→e.on≠i)→oi.apart ops oj=true)→
  i∈Region.ready md ops listed→Zi P ops W0 F R n p E i oi v a→wpH2 P md ops W0 F R n p E L f (listed.setIfInBounds i true) (a.put oi.dst v)→wpH2 P md ops W0 F R n p E L (f+1) listed a:=by
 have low:∀(listed:Array Bool) (j:Nat),HeadInv md ops (n+1) listed→i∈Region.ready md ops listed→j∈Region.ready md ops listed→j<n+1:=fun listed j inv hr hj=>by
  rcases Nat.lt_or_ge j (n+1)with h|h
  ·exact h
  ·exact absurd hj (tail_waits hs hc hn inv _ i rfl hin (mem_ready.1 hr).1 j h)
 induction f with
 |zero=>
  intro listed a inv _ hr hy H
  refine⟨fun h=>(by rw[h]at hr;cases hr),fun j hj=>?_⟩
  by_cases hji:j=i
  ·subst hji;exact⟨oi,v,hi,hy,H⟩
  ·have:=hdone _ _ H j (ready_mono hj hji)
   have:=low listed j inv hr hj
   omega
 |succ f ih=>
  intro listed a inv hfree hr hy H
  refine⟨fun h=>(by rw[h]at hr;cases hr),fun j hj=>?_⟩
  by_cases hji:j=i
  ·subst hji;exact⟨oi,v,hi,hy,H⟩
  ·obtain⟨hjun,oj,hoj,hall⟩:=mem_ready.1 hj
   have hnot:∀e∈oj.after,Region.binds md e=true→e.on≠i:=fun e he hb heq=>by
    have h1:=hall e he hb
    rw[heq,getD_both (mem_ready.1 hr).1]at h1
    cases h1
   have hap:=hfree j oj hoj hji hjun hnot
   obtain⟨oj',u,hoj',hyj,H2⟩:=H.2 j (ready_mono hj hji)
   obtain rfl:oj'=oj:=Option.some.inj (hoj'.symm.trans hoj)
   refine⟨oj',u,hoj',hyj.unput hap (fun cs b=>hsel j oj' cs b hoj'),ih _ _ (inv.set hj (low listed j inv hr hj)) (fun k ok hk hki hun hno=>hfree k ok hk hki ?_ hno) (ready_mono hr (Ne.symm hji)) (hy.put hap (fun cs b=>hsel i oi cs b hi)) ?_⟩
   ·by_cases hjk:j=k
    ·subst hjk;exact hjun
    ·rw[getD_set_ne true hjk]at hun;exact hun
   ·rw[Array.setIfInBounds_comm _ _ hji,← Act.put_comm a v u (Oper.apart_spec hap).2.1]
    exact H2
def wpE2 (P:Program) (ops:Array Oper) (W0:World) (F:World→Prop) (R:Value→World→Prop) (n:Nat) (p:Value) (E:Nat→Value) (Lq:Act→Prop):List Oper→Nat→Act→Prop
 | [],_,a=>Lq a
 |o ::l,k,a=>∃v,Zi P ops W0 F R n p E k o v a∧wpE2 P ops W0 F R n p E Lq l (k+1) (a.put o.dst v)
theorem wpH2_lex {g:Nat} {Lq:Act→Prop} (hsel:Region.noSelect ops=true) (hs:Region.sinkB md ops (n+1)=true) (hc:Region.chainB md ops (n+1)=true) (hn:n+1<ops.size):
 ∀(l:List Oper) (k:Nat) (listed:Array Bool) (a:Act),(∀j,j<l.length→l[j]? =ops[k+j]?)→k+l.length=n+1→HeadInv md ops (n+1) listed→
 Region.lexHead md ops g l.length k listed=true→(k≤n∨listed.getD n true=true)→wpE2 P ops W0 F R n p E Lq l k a→
 wpH2 P md ops W0 F R n p E (fun listed' a'=>listed'.getD n true=true∧Region.seqB md ops g (n+1) listed'=true∧Lq a') l.length listed a
 | [],k,_,_,_,hk,_,hB,hkn,h=>by
   obtain rfl:k=n+1:=by simpa using hk
   exact⟨hkn.resolve_left (by omega),by simpa[Region.lexHead]using hB,h⟩
 |o ::l,k,listed,a,hl,hk,inv,hB,hkn,h=>by
  have h0:ops[k]? =some o:=by simpa using(hl 0 (by simp)).symm
  simp only[List.length_cons,Region.lexHead,Bool.and_eq_true]at hB
  obtain⟨⟨hr,hf⟩,hB'⟩:=hB
  simp only[List.length_cons]at hk
  have hr':k∈Region.ready md ops listed:=by simpa using hr
  obtain⟨v,hy,hK⟩:=h
  exact wpH2_first h0 (Region.noSelect_spec hsel) hs hc hn (by omega) (fun _ _ hL=>seqB_ready hL.2.1) l.length listed a inv (Region.free_spec h0 hf) hr' hy
   (wpH2_lex hsel hs hc hn l (k+1) _ _ (fun j hj=>by have:=hl (j+1) (by simp;omega);simpa[Nat.add_assoc,Nat.add_comm 1 j]using this) (by omega) (inv.set hr' (by omega)) hB' (by
     rcases Nat.lt_or_ge k n with h1|h1
     ·exact .inl h1
     ·obtain rfl:k=n:=by omega
      exact .inr (by simp)) hK)
theorem any_of_wpH2 {g:Nat} {L:Value→Array Bool→Act→Prop} {Q':Exit→Act→World→Prop} {oa:Oper} (hoa:ops[n]? =some oa) (hF0:F W0) (hFR:∀p W,R p W→F W)
 (hL:∀p W listed a k,R p W→L p listed a→wpAny P md ops Q' g listed a (W.drewN k)) (hLn:∀p listed' a',L p listed' a'→listed'.getD n true=true):
 ∀(f:Nat) (listed:Array Bool) (a:Act) (w:World),n<listed.size→
  (listed.getD n true=false→CW W0 w∧(∀p,wpH2 P md ops W0 F R n p E (L p) f listed a))→(listed.getD n true=true→∃p W,R p W∧CW W w∧wpH2 P md ops W0 F R n p E (L p) f listed a)→wpAny P md ops Q' (f+g) listed a w
 |0,listed,a,w,hsz,h0,h1=>by
  rw[Nat.zero_add]
  cases hb:listed.getD n true with
  |false=>have:=hLn _ _ _ ((h0 hb).2 undef);rw[hb]at this;cases this
  |true=>
   obtain⟨p,W,hR,⟨k,rfl⟩,h⟩:=h1 hb
   exact hL p W _ _ k hR h
 |f+1,listed,a,w,hsz,h0,h1=>by
  rw[show f+1+g=(f+g)+1 by omega]
  cases hb:listed.getD n true with
  |false=>
   obtain⟨hw,hH⟩:=h0 hb
   refine⟨fun he=>absurd he (hH undef).1,fun i hi=>?_⟩
   have hall:=fun p=>(hH p).2 i hi
   obtain⟨o,v,ho,hy,_⟩:=hall undef
   rcases hy with⟨hin,hv,y⟩|⟨e1,_,hx⟩
   ·have hne:i≠n:=by omega
    have hg:(listed.setIfInBounds i true).getD n true=listed.getD n true:=getD_set_ne true hne
    have hsz':n<(listed.setIfInBounds i true).size:=by simpa using hsz
    have hK:∀p,wpH2 P md ops W0 F R n p E (L p) f (listed.setIfInBounds i true) (a.put o.dst v):=fun p=>by
     obtain⟨o',v',ho',hy',hK'⟩:=hall p
     obtain rfl:o'=o:=Option.some.inj (ho'.symm.trans ho)
     rcases hy' with⟨_,hv',_⟩|⟨e,_,_⟩
     ·rw[hv,← hv'];exact hK'
     ·omega
    exact wpOp_of_qOp (C:=CW W0) hw (fun a' w' hw' h'=>any_of_wpH2 hoa hF0 hFR hL hLn f _ a' w' hsz' (fun _=>⟨hw',h'⟩) (fun h2=>(by rw[hg,hb]at h2;cases h2))) ((y _ hF0).qOp (K:=fun a'=>∀p,wpH2 P md ops W0 F R n p E (L p) f (listed.setIfInBounds i true) a') ho hK)
   ·rw[e1]at hall ho ⊢
    obtain rfl:o=oa:=Option.some.inj (ho.symm.trans hoa)
    unfold wpOp
    simp only[ho,hx.1,if_true]
    refine .inl (wp_of_xUpon (hx.2 w hw) fun p w' hR=>?_)
    obtain⟨o',v',ho',hy',hK'⟩:=hall p
    obtain rfl:o'=o:=Option.some.inj (ho'.symm.trans ho)
    rcases hy' with⟨h3,_,_⟩|⟨_,hv',_⟩
    ·omega
    ·rw[hv']at hK'
     refine any_of_wpH2 hoa hF0 hFR hL hLn f _ _ w' (by simpa using hsz) (fun h2=>?_) (fun _=>⟨p,w',hR,⟨0,rfl⟩,hK'⟩)
     simp[hsz]at h2
  |true=>
   obtain⟨p,W,hR,hw,hH⟩:=h1 hb
   refine⟨fun he=>absurd he hH.1,fun i hi=>?_⟩
   obtain⟨o,v,ho,hy,hK⟩:=hH.2 i hi
   rcases hy with⟨hin,_,y⟩|⟨e1,_,_⟩
   ·have hne:i≠n:=by omega
    have hg:(listed.setIfInBounds i true).getD n true=listed.getD n true:=getD_set_ne true hne
    exact wpOp_of_qOp (C:=CW W) hw (fun a' w' hw' h'=>any_of_wpH2 hoa hF0 hFR hL hLn f _ a' w' (by simpa using hsz) (fun h2=>(by rw[hg,hb]at h2;cases h2)) (fun _=>⟨p,W,hR,hw',h'⟩)) ((y _ (hFR _ _ hR)).qOp ho hK)
   ·have:=(mem_ready.1 hi).1
    rw[e1,hb]at this
    cases this
def slotOf (ops:Array Oper) (A0:Act) (i:Nat):Value:=match ops[i]? with|some o=>(match o.dst with|some d=>A0.eval (.tmp d)|none=>undef)|none=>undef
theorem wpE2_of_quiet {A0:Act} {oa:Oper} {s:Nat} (hx:XOK P ops W0 R oa A0) (W1:World) (hW1:F W1):∀(l:List Oper) (k:Nat) (a:Act),(∀j,j<l.length→l[j]? =ops[k+j]?)→a.tmps.size=s→Xrz s l=true→k+l.length=n→
 (∀W,F W→wpQuiet P ops (CW W) (fun a'=>a'=A0) l a)→wpE2 P ops W0 F R n p (slotOf ops A0) (fun a'=>a'=A0.put oa.dst p) (l++[oa]) k a
 | [],k,a,_,_,_,hk,h=>by
   have hA:a=A0:=h W1 hW1
   exact⟨p,.inr ⟨by simpa using hk,rfl,by rw[hA];exact hx⟩,by rw[hA];rfl⟩
 |o ::l,k,a,hl,hs,hp,hk,h=>by
  have h0:ops[k]? =some o:=by simpa using(hl 0 (by simp)).symm
  simp only[Xrz,Bool.and_eq_true]at hp
  obtain⟨hp1,hp2⟩:=hp
  simp only[List.length_cons]at hk
  cases hd:o.dst with
  |none=>rw[hd]at hp1;cases hp1
  |some d=>
   rw[hd]at hp1
   simp only[Bool.and_eq_true,decide_eq_true_eq,List.all_eq_true]at hp1
   have hfar:∀o'∈l,o'.dst≠some d:=fun o' ho' e=>by have:=hp1.2 o' ho';simp[e]at this
   have hE:slotOf ops A0 k=A0.eval (.tmp d):=by unfold slotOf;simp only[h0,hd]
   have key:∀W,F W→YieldsIn P ops (CW W) o (slotOf ops A0 k) a∧wpQuiet P ops (CW W) (fun a'=>a'=A0) l (a.put o.dst (slotOf ops A0 k)):=fun W hW=>by
    have h2:=h W hW
    unfold wpQuiet at h2
    by_cases hw:Region.wanted o (yielded ops a.tmps)=true
    ·simp only[hw,if_true]at h2
     obtain⟨v,q,nx⟩:=h2
     have e0:=QTz d l _ hfar nx
     rw[hd,Z6z a d _ (by rw[hs];exact hp1.1)]at e0
     rw[hE,e0]
     exact⟨.inl ⟨hw,q⟩,nx⟩
    ·simp only[hw,Bool.false_eq_true,if_false]at h2
     have e0:=QTz d l _ hfar h2
     rw[hd,Z6z a d _ (by rw[hs];exact hp1.1)]at e0
     rw[hE,e0]
     exact⟨.inr ⟨by simpa using hw,rfl⟩,h2⟩
   exact⟨_,.inl ⟨by omega,rfl,fun W hW=>(key W hW).1⟩,wpE2_of_quiet hx W1 hW1 l (k+1) _ (fun j hj=>by have:=hl (j+1) (by simp;omega);simpa[Nat.add_assoc,Nat.add_comm 1 j]using this) (by rw[put_size,hs]) hp2 (by omega) fun W hW=>(key W hW).2⟩
theorem early_op {id:Nat} {Q:Exit→Act→World→Prop} {a:Act} {w:World} {l:List Oper} (n:Nat) (hm:P.follows .mixedOrders=true) (hB:Region.lexTailB .any l.toArray (n+1)=true) (s:Nat) (hs:a.tmps.size=s) (hp:Xrz s (l.take n)=true)
 (oa:Oper) (hoa:l[n]? =some oa) (hgd:oa.guard=none) (F:World→Prop) (R:Value→World→Prop) (hF0:F w.drew) (hFR:∀p W,R p W→F W) (A0:Act)
 (h:∀W,F W→wpQuiet P l.toArray (fun w'=>∃k,w'=W.drewN k) (fun a'=>a'=A0) (l.take n) a)
 (hx:∀k,xUpon P R ((execOp A0.eval oa).run P (w.drew.drewN k)))
 (ht:∀p W k,R p W→wpList P l.toArray Q (l.drop (n+1)) (A0.put oa.dst p) (W.drewN k)):(Code.region id l.toArray true).wp P Q a w:=by
 simp only[Region.lexTailB,Bool.and_eq_true,decide_eq_true_eq]at hB
 obtain⟨⟨⟨⟨hsel,hn⟩,hsk⟩,hc⟩,hlex⟩:=hB
 have hn':n+1<l.length:=by simpa using hn
 have hln:l.take n++[oa]=l.take (n+1):=by
  rw[List.take_add_one,hoa];rfl
 have htl:(l.take (n+1)).length=n+1:=by simp;omega
 have hdl:(l.drop (n+1)).length=l.toArray.size-(n+1):=by simp
 have inv0:HeadInv .any l.toArray (n+1) (Array.replicate l.toArray.size false):=
  ⟨by simp,fun j oj _ hl=>(by rw[getD_replicate_false]at hl;cases hl),fun t _ ht=>getD_in (by simpa using ht) (getD_replicate_false _ _)⟩
 have hX:XOK P l.toArray w.drew R oa A0:=⟨by simp[Region.wanted,hgd],fun w' ⟨k,hk⟩=>by rw[hk];exact hx k⟩
 have H:∀p,wpH2 P .any l.toArray w.drew F R n p (slotOf l.toArray A0) (fun listed' a'=>listed'.getD n true=true∧Region.seqB .any l.toArray (l.toArray.size-(n+1)) (n+1) listed'=true∧a'=A0.put oa.dst p) (l.take (n+1)).length (Array.replicate l.toArray.size false) a:=fun p=>by
  have hE:=wpE2_of_quiet (P:=P) (ops:=l.toArray) (W0:=w.drew) (F:=F) (R:=R) (n:=n) (p:=p) (A0:=A0) (oa:=oa) hX w.drew hF0 (l.take n) 0 a (fun j hj=>by
   have hj':j<n:=by simp at hj;omega
   simp[hj']) hs hp (by simp;omega) h
  rw[hln]at hE
  exact wpH2_lex (md:=.any) (g:=l.toArray.size-(n+1)) hsel hsk hc hn (l.take (n+1)) 0 _ a (fun j hj=>by
   have hj':j<n+1:=by rw[htl]at hj;exact hj
   simp[hj']) (by simpa using htl) inv0 (by rw[htl];exact hlex) (.inl (Nat.zero_le _)) hE
 refine wp_region_any hm ?_
 have:=any_of_wpH2 (Q':=Q) (g:=l.toArray.size-(n+1)) (oa:=oa) (by simpa using hoa) hF0 hFR (fun p W listed a' k hR hL=>by
  have:=wpAny_of_seq (md:=.any) (Q':=Q) (l.drop (n+1)) (n+1) listed a' (W.drewN k) (fun j=>by rw[List.getElem?_drop,List.getElem?_toArray]) (by rw[hdl];exact hL.2.1) (by rw[hL.2.2];exact ht p W k hR)
  rwa [hdl]at this) (fun _ _ _ hL=>hL.1) _ _ a w.drew (by simp;omega) (fun _=>⟨⟨0,rfl⟩,H⟩) (fun h2=>by simp[show n<l.length by omega]at h2)
 rw[htl,show n+1+(l.toArray.size-(n+1))=l.toArray.size by omega]at this
 exact this
end
end
section
open Go Go.RowKit
section
variable {P:Program} {ops:Array Oper} {md:Region.Mode} {W0:World} {F:World→Prop} {R:World→Prop} {n m:Nat} {p:Value}
def Mi (P:Program) (ops:Array Oper) (W0:World) (F:World→Prop) (R:World→Prop) (n m:Nat) (p:Value) (i:Nat) (o:Oper) (v:Value) (a:Act):Prop:=
 (i<m∧i≠n∧∀W,F W→YieldsIn P ops (CW W) o v a)∨(i=n∧v=p∧XOK P ops W0 (fun u W=>u=p∧R W) o a)
def wpH3 (P:Program) (md:Region.Mode) (ops:Array Oper) (W0:World) (F:World→Prop) (R:World→Prop) (n m:Nat) (p:Value) (L:Array Bool→Act→Prop):Nat→Array Bool→Act→Prop
 |0,listed,a=>L listed a
 |f+1,listed,a=>Region.ready md ops listed≠[]∧∀i∈Region.ready md ops listed,∃o v,ops[i]? =some o∧Mi P ops W0 F R n m p i o v a∧wpH3 P md ops W0 F R n m p L f (listed.setIfInBounds i true) (a.put o.dst v)
theorem Mi.put {i:Nat} {oi oj:Oper} {v u:Value} {a:Act} (hap:oi.apart ops oj=true) (hsi:∀cs b,oi.op≠ .select cs b) (hy:Mi P ops W0 F R n m p i oi v a):Mi P ops W0 F R n m p i oi v (a.put oj.dst u):=by
 rcases hy with⟨h,hv,h0⟩|⟨h,hv,h0⟩
 ·exact .inl ⟨h,hv,fun W hW=>Xaz hap hsi (h0 W hW)⟩
 ·exact .inr ⟨h,hv,xok_put hap hsi h0⟩
theorem Mi.unput {j:Nat} {oi oj:Oper} {v u:Value} {a:Act} (hap:oi.apart ops oj=true) (hsj:∀cs b,oj.op≠ .select cs b) (hy:Mi P ops W0 F R n m p j oj u (a.put oi.dst v)):Mi P ops W0 F R n m p j oj u a:=by
 rcases hy with⟨h,hv,h0⟩|⟨h,hv,h0⟩
 ·exact .inl ⟨h,hv,fun W hW=>XVz hap hsj (h0 W hW)⟩
 ·exact .inr ⟨h,hv,xok_unput hap hsj h0⟩
theorem wpH3_first {i:Nat} {oi:Oper} {v:Value} {L:Array Bool→Act→Prop} (hi:ops[i]? =some oi) (hsel:∀(j:Nat) (o:Oper) cs b,ops[j]? =some o→o.op≠ .select cs b)
 (hs:Region.sinkB md ops m=true) (hc:Region.chainB md ops m=true) (hn:m<ops.size) (hin:i<m) (hdone:∀listed a,L listed a→∀j∈Region.ready md ops listed,m≤j) (f:Nat):
 ∀(listed:Array Bool) (a:Act),HeadInv md ops m listed→
  (∀j oj,ops[j]? =some oj→j≠i→listed.getD j true=false→(∀e∈oj.after,Region.binds md e=true→e.on≠i)→oi.apart ops oj=true)→
  i∈Region.ready md ops listed→Mi P ops W0 F R n m p i oi v a→wpH3 P md ops W0 F R n m p L f (listed.setIfInBounds i true) (a.put oi.dst v)→wpH3 P md ops W0 F R n m p L (f+1) listed a:=by
 have low:∀(listed:Array Bool) (j:Nat),HeadInv md ops m listed→i∈Region.ready md ops listed→j∈Region.ready md ops listed→j<m:=fun listed j inv hr hj=>by
  rcases Nat.lt_or_ge j m with h|h
  ·exact h
  ·exact absurd hj (tail_waits hs hc hn inv _ i rfl hin (mem_ready.1 hr).1 j h)
 induction f with
 |zero=>
  intro listed a inv _ hr hy H
  refine⟨fun h=>(by rw[h]at hr;cases hr),fun j hj=>?_⟩
  by_cases hji:j=i
  ·subst hji;exact⟨oi,v,hi,hy,H⟩
  ·have:=hdone _ _ H j (ready_mono hj hji)
   have:=low listed j inv hr hj
   omega
 |succ f ih=>
  intro listed a inv hfree hr hy H
  refine⟨fun h=>(by rw[h]at hr;cases hr),fun j hj=>?_⟩
  by_cases hji:j=i
  ·subst hji;exact⟨oi,v,hi,hy,H⟩
  ·obtain⟨hjun,oj,hoj,hall⟩:=mem_ready.1 hj
   have hnot:∀e∈oj.after,Region.binds md e=true→e.on≠i:=fun e he hb heq=>by
    have h1:=hall e he hb
    rw[heq,getD_both (mem_ready.1 hr).1]at h1
    cases h1
   have hap:=hfree j oj hoj hji hjun hnot
   obtain⟨oj',u,hoj',hyj,H2⟩:=H.2 j (ready_mono hj hji)
   obtain rfl:oj'=oj:=Option.some.inj (hoj'.symm.trans hoj)
   refine⟨oj',u,hoj',hyj.unput hap (fun cs b=>hsel j oj' cs b hoj'),ih _ _ (inv.set hj (low listed j inv hr hj)) (fun k ok hk hki hun hno=>hfree k ok hk hki ?_ hno) (ready_mono hr (Ne.symm hji)) (hy.put hap (fun cs b=>hsel i oi cs b hi)) ?_⟩
   ·by_cases hjk:j=k
    ·subst hjk;exact hjun
    ·rw[getD_set_ne true hjk]at hun;exact hun
   ·rw[Array.setIfInBounds_comm _ _ hji,← Act.put_comm a v u (Oper.apart_spec hap).2.1]
    exact H2
def wpE3 (P:Program) (ops:Array Oper) (W0:World) (F:World→Prop) (R:World→Prop) (n m:Nat) (p:Value) (Lq:Act→Prop):List Oper→Nat→Act→Prop
 | [],_,a=>Lq a
 |o ::l,k,a=>∃v,Mi P ops W0 F R n m p k o v a∧wpE3 P ops W0 F R n m p Lq l (k+1) (a.put o.dst v)
theorem wpH3_lex {g:Nat} {Lq:Act→Prop} (hsel:Region.noSelect ops=true) (hs:Region.sinkB md ops m=true) (hc:Region.chainB md ops m=true) (hn:m<ops.size) (hnm:n<m):
 ∀(l:List Oper) (k:Nat) (listed:Array Bool) (a:Act),(∀j,j<l.length→l[j]? =ops[k+j]?)→k+l.length=m→HeadInv md ops m listed→
 Region.lexHead md ops g l.length k listed=true→(k≤n∨listed.getD n true=true)→wpE3 P ops W0 F R n m p Lq l k a→
 wpH3 P md ops W0 F R n m p (fun listed' a'=>listed'.getD n true=true∧Region.seqB md ops g m listed'=true∧Lq a') l.length listed a
 | [],k,_,_,_,hk,_,hB,hkn,h=>by
   obtain rfl:k=m:=by simpa using hk
   exact⟨hkn.resolve_left (by omega),by simpa[Region.lexHead]using hB,h⟩
 |o ::l,k,listed,a,hl,hk,inv,hB,hkn,h=>by
  have h0:ops[k]? =some o:=by simpa using(hl 0 (by simp)).symm
  simp only[List.length_cons,Region.lexHead,Bool.and_eq_true]at hB
  obtain⟨⟨hr,hf⟩,hB'⟩:=hB
  simp only[List.length_cons]at hk
  have hr':k∈Region.ready md ops listed:=by simpa using hr
  obtain⟨v,hy,hK⟩:=h
  exact wpH3_first h0 (Region.noSelect_spec hsel) hs hc hn (by omega) (fun _ _ hL=>seqB_ready hL.2.1) l.length listed a inv (Region.free_spec h0 hf) hr' hy
   (wpH3_lex hsel hs hc hn hnm l (k+1) _ _ (fun j hj=>by have:=hl (j+1) (by simp;omega);simpa[Nat.add_assoc,Nat.add_comm 1 j]using this) (by omega) (inv.set hr' (by omega)) hB' (by
     rcases Nat.lt_trichotomy k n with h1|h1|h1
     ·exact .inl h1
     ·subst h1;exact .inr (by simp)
     ·refine .inr ?_
      rw[getD_set_ne true (by omega:k≠n)]
      exact hkn.resolve_left (by omega)) hK)
theorem any_of_wpH3 {g:Nat} {L:Array Bool→Act→Prop} {Q':Exit→Act→World→Prop} (hF0:F W0) (hFR:∀W,R W→F W)
 (hL:∀W listed a k,R W→L listed a→wpAny P md ops Q' g listed a (W.drewN k)) (hLn:∀listed' a',L listed' a'→listed'.getD n true=true):
 ∀(f:Nat) (listed:Array Bool) (a:Act) (w:World),n<listed.size→(listed.getD n true=false→CW W0 w)→(listed.getD n true=true→∃W,R W∧CW W w)→
  wpH3 P md ops W0 F R n m p L f listed a→wpAny P md ops Q' (f+g) listed a w
 |0,listed,a,w,hsz,h0,h1,h=>by
  rw[Nat.zero_add]
  obtain⟨W,hR,k,rfl⟩:=h1 (hLn _ _ h)
  exact hL W _ _ k hR h
 |f+1,listed,a,w,hsz,h0,h1,h=>by
  rw[show f+1+g=(f+g)+1 by omega]
  refine⟨fun he=>absurd he h.1,fun i hi=>?_⟩
  obtain⟨o,v,ho,hy,hK⟩:=h.2 i hi
  rcases hy with⟨_,hne,y⟩|⟨e1,hv,hx⟩
  ·have hg:(listed.setIfInBounds i true).getD n true=listed.getD n true:=getD_set_ne true hne
   have hsz':n<(listed.setIfInBounds i true).size:=by simpa using hsz
   cases hb:listed.getD n true with
   |false=>exact wpOp_of_qOp (C:=CW W0) (h0 hb) (fun a' w' hw' h'=>any_of_wpH3 hF0 hFR hL hLn f _ a' w' hsz' (fun _=>hw') (fun h2=>(by rw[hg,hb]at h2;cases h2)) h') ((y _ hF0).qOp ho hK)
   |true=>
    obtain⟨W,hR,hw⟩:=h1 hb
    exact wpOp_of_qOp (C:=CW W) hw (fun a' w' hw' h'=>any_of_wpH3 hF0 hFR hL hLn f _ a' w' hsz' (fun h2=>(by rw[hg,hb]at h2;cases h2)) (fun _=>⟨W,hR,hw'⟩) h') ((y _ (hFR _ hR)).qOp ho hK)
  ·have hun:listed.getD n true=false:=by rw[←e1];exact(mem_ready.1 hi).1
   rw[e1]at hi hK ho ⊢
   rw[hv]at hK
   unfold wpOp
   simp only[ho,hx.1,if_true]
   refine .inl (wp_of_xUpon (R:=fun u W=>u=p∧R W) (hx.2 w (h0 hun)) fun q w' hR=>?_)
   obtain⟨eq,hR⟩:=hR
   rw[eq]
   refine any_of_wpH3 hF0 hFR hL hLn f _ _ w' (by simpa using hsz) (fun h2=>?_) (fun _=>⟨w',hR,0,rfl⟩) hK
   simp[hsz]at h2
theorem wpE3_quiet {A1:Act} {s:Nat} {Lq:Act→Prop} {rest:List Oper} (W1:World) (hW1:F W1):∀(l:List Oper) (k:Nat) (a:Act),a.tmps.size=s→Xrz s l=true→k+l.length≤m→(n<k∨k+l.length≤n)→
 (∀W,F W→wpQuiet P ops (CW W) (fun a'=>a'=A1) l a)→(A1.tmps.size=s→wpE3 P ops W0 F R n m p Lq rest (k+l.length) A1)→wpE3 P ops W0 F R n m p Lq (l++rest) k a
 | [],k,a,hs,_,_,_,h,hr=>by
   have hA:a=A1:=h W1 hW1
   rw[hA]at hs ⊢
   exact hr hs
 |o ::l,k,a,hs,hp,hk,hnk,h,hr=>by
  simp only[Xrz,Bool.and_eq_true]at hp
  obtain⟨hp1,hp2⟩:=hp
  simp only[List.length_cons]at hk hnk hr
  cases hd:o.dst with
  |none=>rw[hd]at hp1;cases hp1
  |some d=>
   rw[hd]at hp1
   simp only[Bool.and_eq_true,decide_eq_true_eq,List.all_eq_true]at hp1
   have hfar:∀o'∈l,o'.dst≠some d:=fun o' ho' e=>by have:=hp1.2 o' ho';simp[e]at this
   have key:∀W,F W→YieldsIn P ops (CW W) o (A1.eval (.tmp d)) a∧wpQuiet P ops (CW W) (fun a'=>a'=A1) l (a.put o.dst (A1.eval (.tmp d))):=fun W hW=>by
    have h2:=h W hW
    unfold wpQuiet at h2
    by_cases hw:Region.wanted o (yielded ops a.tmps)=true
    ·simp only[hw,if_true]at h2
     obtain⟨v,q,nx⟩:=h2
     have e0:=QTz d l _ hfar nx
     rw[hd,Z6z a d _ (by rw[hs];exact hp1.1)]at e0
     rw[e0]
     exact⟨.inl ⟨hw,q⟩,nx⟩
    ·simp only[hw,Bool.false_eq_true,if_false]at h2
     have e0:=QTz d l _ hfar h2
     rw[hd,Z6z a d _ (by rw[hs];exact hp1.1)]at e0
     rw[e0]
     exact⟨.inr ⟨by simpa using hw,rfl⟩,h2⟩
   exact⟨_,.inl ⟨by omega,by omega,fun W hW=>(key W hW).1⟩,wpE3_quiet W1 hW1 l (k+1) _ (by rw[put_size,hs]) hp2 (by omega) (by omega) (fun W hW=>(key W hW).2) (fun h3=>by
    have:=hr h3
    rwa [show k+1+l.length=k+(l.length+1) by omega])⟩
theorem early_mid {id:Nat} {Q:Exit→Act→World→Prop} {a:Act} {w:World} {l:List Oper} (n m:Nat) (hnm:n<m) (hm:P.follows .mixedOrders=true) (hB:Region.lexTailB .any l.toArray m=true) (s:Nat) (hs:a.tmps.size=s) (hp1:Xrz s (l.take n)=true)
 (hp2:Xrz s ((l.drop (n+1)).take (m-(n+1)))=true) (oa:Oper) (hoa:l[n]? =some oa) (hgd:oa.guard=none) (p:Value) (F:World→Prop) (R:World→Prop) (hF0:F w.drew) (hFR:∀W,R W→F W) (A1 A2:Act)
 (h1:∀W,F W→wpQuiet P l.toArray (fun w'=>∃k,w'=W.drewN k) (fun a'=>a'=A1) (l.take n) a)
 (hx:∀k,xUpon P (fun u W=>u=p∧R W) ((execOp A1.eval oa).run P (w.drew.drewN k)))
 (h2:∀W,F W→wpQuiet P l.toArray (fun w'=>∃k,w'=W.drewN k) (fun a'=>a'=A2) ((l.drop (n+1)).take (m-(n+1))) (A1.put oa.dst p))
 (ht:∀W k,R W→wpList P l.toArray Q (l.drop m) A2 (W.drewN k)):(Code.region id l.toArray true).wp P Q a w:=by
 simp only[Region.lexTailB,Bool.and_eq_true,decide_eq_true_eq]at hB
 obtain⟨⟨⟨⟨hsel,hn⟩,hsk⟩,hc⟩,hlex⟩:=hB
 have hn':m<l.length:=by simpa using hn
 have hln:l.take n++(oa ::((l.drop (n+1)).take (m-(n+1))))=l.take m:=by
  have hd:l.drop n=oa ::l.drop (n+1):=by
   obtain⟨h3,h4⟩:=List.getElem?_eq_some_iff.1 hoa
   rw[List.drop_eq_getElem_cons h3,h4]
  have:l.take m=l.take n++(l.drop n).take (m-n):=by rw[←List.take_add,show n+(m-n)=m by omega]
  rw[this,hd,show m-n=(m-(n+1))+1 by omega,List.take_succ_cons]
 have htl:(l.take m).length=m:=by simp;omega
 have hdl:(l.drop m).length=l.toArray.size-m:=by simp
 have inv0:HeadInv .any l.toArray m (Array.replicate l.toArray.size false):=
  ⟨by simp,fun j oj _ hl=>(by rw[getD_replicate_false]at hl;cases hl),fun t _ ht=>getD_in (by simpa using ht) (getD_replicate_false _ _)⟩
 have hX:XOK P l.toArray w.drew (fun u W=>u=p∧R W) oa A1:=⟨by simp[Region.wanted,hgd],fun w' ⟨k,hk⟩=>by rw[hk];exact hx k⟩
 have hl1:(l.take n).length=n:=by simp;omega
 have hl2:((l.drop (n+1)).take (m-(n+1))).length=m-(n+1):=by simp;omega
 have hE:wpE3 P l.toArray w.drew F R n m p (fun a'=>a'=A2) (l.take m) 0 a:=by
  rw[←hln]
  refine wpE3_quiet w.drew hF0 (l.take n) 0 a hs hp1 (by rw[hl1];omega) (.inr (by rw[hl1];omega)) h1 fun hs1=>?_
  rw[hl1,Nat.zero_add]
  refine⟨p,.inr ⟨rfl,rfl,hX⟩,?_⟩
  have:=wpE3_quiet (P:=P) (ops:=l.toArray) (W0:=w.drew) (F:=F) (R:=R) (n:=n) (m:=m) (p:=p) (Lq:=fun a'=>a'=A2) (rest:=[]) (A1:=A2) w.drew hF0 ((l.drop (n+1)).take (m-(n+1))) (n+1) (A1.put oa.dst p) (by rw[put_size,hs1]) hp2 (by rw[hl2];omega) (.inl (by omega)) h2 (fun _=>rfl)
  rwa [List.append_nil]at this
 have H:=wpH3_lex (md:=.any) (g:=l.toArray.size-m) hsel hsk hc hn hnm (l.take m) 0 _ a (fun j hj=>by
  have hj':j<m:=by rw[htl]at hj;exact hj
  simp[hj']) (by simpa using htl) inv0 (by rw[htl];exact hlex) (.inl (Nat.zero_le _)) hE
 refine wp_region_any hm ?_
 have:=any_of_wpH3 (Q':=Q) (g:=l.toArray.size-m) hF0 hFR (fun W listed a' k hR hL=>by
  have:=wpAny_of_seq (md:=.any) (Q':=Q) (l.drop m) m listed a' (W.drewN k) (fun j=>by rw[List.getElem?_drop,List.getElem?_toArray]) (by rw[hdl];exact hL.2.1) (by rw[hL.2.2];exact ht W k hR)
  rwa [hdl]at this) (fun _ _ hL=>hL.1) _ _ a w.drew (by simp;omega) (fun _=>⟨0,rfl⟩) (fun h3=>by simp[show n<l.length by omega]at h3) H
 rw[htl,show m+(l.toArray.size-m)=l.toArray.size by omega]at this
 exact this
end
end
section
open Go.RowKit Go.ChangeShapes Go.WideShapes
theorem Q4z {P:Program} {ops:Array Oper} {rest:List Oper} {o:Oper} {a:Act} {w:World} {Q:Exit→Act→World→Prop} (hgd:o.guard=none) (ty:TypeId) (x y:Operand) (ho:o.op= .store ty x y)
 (g:Nat) (t:TypeId) (old cells:Array Value) (hx:a.eval x= .pointer (some ⟨g,0,none⟩)) (hy:a.eval y= .agg cells) (hg:Blk w g t old) (hi:(P.info? ty).map (·.size)=some cells.size)
 (hold:old.size=cells.size) (h1:cells.all (·.oneCell')=true) (B:Nat) (w0:World) (hb:Below B w0 w) (hB:B≤g)
 (h:∀w',Hid (Blk w' g t cells)→Below B w0 w'→Hid (w.grownBy w' (some g))→Hid (w'.heap.size=w.heap.size)→wpList P ops Q rest (a.put o.dst undef) w'):wpList P ops Q (o ::rest) a w:=
 wpList_store_row hgd ty x y ho g cells hx hy t old hg hi hold h1
  (h _ (setRow_heap w g old cells t _ hg) (below_setRow hb hB _) ⟨rfl,rfl,rfl,by simp,fun k _ hk=>by
    simp[World.setRow,Array.getElem?_modify];intro e;exact absurd (by rw[e]) hk⟩ (size_setRow _ _ _))
theorem u8_of_all (cs:List Value) (h:∀i,i<cs.length→∃b:BitVec 8,cs[i]? =some (u8 b)):∃bs:List (BitVec 8),cs=bs.map u8:=by
 induction cs with
 |nil=>exact⟨[],rfl⟩
 |cons c cs ih=>
  obtain⟨b,hb⟩:=h 0 (by simp)
  obtain⟨bs,rfl⟩:=ih (fun i hi=>by
   obtain⟨b,hb⟩:=h (i+1) (by simp;omega)
   exact⟨b,by simpa using hb⟩)
  simp at hb
  exact⟨b ::bs,by simp[hb]⟩
theorem parts2 {α:Type} (cs:List α) (a b:Nat) (h:cs.length=a+b):cs=(cs.drop 0).take a++(cs.drop a).take b:=by
 rw[List.drop_zero,List.take_of_length_le (l:=cs.drop a) (by simp;omega),List.take_append_drop]
theorem parts3 {α:Type} (cs:List α) (a b c:Nat) (h:cs.length=a+b+c):cs=(cs.drop 0).take a++((cs.drop a).take b++(cs.drop (a+b)).take c):=by
 have h1:=parts2 (cs.drop a) b c (by simp;omega)
 rw[List.drop_zero,List.drop_drop]at h1
 rw[List.drop_zero,← h1,List.take_append_drop]
section
variable {H:Type} {enc:TypeId × Value→H} {P:Program} {w:World} {base:Nat} {spare:Nat→Bool} {held:Bool}
theorem Z8z {t e n:Nat} {fuel:Nat} {cs:List Value} {x:DataW H × List MemPlace} (ht:P.underlying t=some (.array n e)) (he:P.underlying e=some (.int .u8)) (hc:P.cellsOf t=n) (hc1:P.cellsOf e=1)
 (h:DataW.trod enc P w base spare held fuel t cs=some x):∃bs:List (BitVec 8),bs.length=n∧cs=bs.map u8:=by
 obtain⟨xs,m,_,_,hl,hxl,hi⟩:=DataW.trod_array ht h
 rw[hc]at hl
 have key:∀i,i<n→∃b:BitVec 8,cs[i]? =some (u8 b):=by
  intro i hin
  have:=hi i hin
  rw[hc1,Nat.mul_one]at this
  have hx:xs[i]? =some (xs[i]'(by omega)):=List.getElem?_eq_getElem (by omega)
  rw[hx]at this
  obtain⟨k,hk,_,hw⟩:=DataW.trod_int he this
  obtain⟨b,rfl⟩:=of8 k hw
  refine⟨b,?_⟩
  have h2:((cs.drop i).take 1)[0]? =some (u8 b):=by rw[hk];rfl
  rw[List.getElem?_take,if_pos (by omega),List.getElem?_drop]at h2
  simpa using h2
 obtain⟨bs,rfl⟩:=u8_of_all cs (fun i h=>key i (by omega))
 exact⟨bs,by simpa using hl,rfl⟩
end
end
section
open Go Go.RowKit
theorem X4z (cs:Array Value) (ds:List Deferred) (n:Nat) (v:Value):(Act.mk cs ds).put (some n) v=⟨cs.setIfInBounds n v,ds⟩:=rfl
theorem Qpz (cs:Array Value) (ds:List Deferred) (v:Value):(Act.mk cs ds).put none v=⟨cs,ds⟩:=rfl
section
variable {P:Program} {ops:Array Oper} {md:Region.Mode} {Q:Exit→Act→World→Prop} {F:World→Prop}
def PlanQ (Q:Exit→Act→World→Prop) (K:Act→World→Prop) (e:Exit) (a:Act) (w:World):Prop:=match e with| .normal=>K a w|e=>Q e a w
theorem Q2z {K:Act→World→Prop} {a:Act} {w:World} (h:K a w):PlanQ Q K .normal a w:=h
theorem upon_planQ {o:Oper} {a:Act} {K K':Act→World→Prop} {r:Result Next} (h:o.upon P a K (PlanQ Q K') r):o.upon P a K Q r:=by
 cases r with
 |ok n w'=>
  cases n<;>simp only[Oper.upon]at h ⊢
  case value=>exact h
  case skip=>exact h
  case defer=>exact h
  case enter f args=>
   refine Calls.mono h fun e w'' he=>?_
   cases e with
   |returned=>exact he
   |panicked=>exact he
   |outgrown=>exact he
  case row row args=>exact h
 |halt x w'=>
  cases x<;>simp only[Oper.upon]at h ⊢
  case panic=>exact h
theorem Ziz {i:Nat} {o:Oper} {K:Act→World→Prop} {a:Act} {w:World} (hi:ops[i]? =some o) (h:wpList P ops (PlanQ Q K) [o] a w):wpOp P ops Q i K a w:=by
 unfold wpOp
 simp only[hi]
 unfold wpList at h
 split
 ·rename_i hw
  simp only[hw,if_true]at h
  rcases h with h|⟨h1,h2⟩
  ·exact .inl (upon_planQ h)
  ·exact .inr ⟨h1,h2⟩
 ·rename_i hw
  simp only[hw]at h
  exact h
def wpAnyD (P:Program) (md:Region.Mode) (ops:Array Oper) (Q:Exit→Act→World→Prop) (F:World→Prop):Nat→Array Bool→Act→World→Prop
 |0,listed,a,W=>Region.ready md ops listed=[]∧∀k,Q .normal a (W.drewN k)
 |f+1,listed,a,W=>(Region.ready md ops listed=[]→∀k,Q .normal a (W.drewN k))∧
  ∀i∈Region.ready md ops listed,∀k,wpOp P ops Q i (fun a' w'=>∃W',F W'∧CW W' w'∧wpAnyD P md ops Q F f (listed.setIfInBounds i true) a' W') a (W.drewN k)
theorem wpAny_of_D:∀(f:Nat) (listed:Array Bool) (a:Act) (W:World) (k:Nat),wpAnyD P md ops Q F f listed a W→wpAny P md ops Q f listed a (W.drewN k)
 |0,_,_,_,k,h=>⟨h.1,h.2 k⟩
 |f+1,_,_,_,k,h=>⟨fun h0=>h.1 h0 k,fun i hi=>wpOp_mono (fun a' w' ⟨W',_,⟨k',hk⟩,h'⟩=>by rw[hk];exact wpAny_of_D f _ a' W' k' h') (h.2 i hi k)⟩
theorem wpOp_putY {j:Nat} {oi oj:Oper} {v:Value} {Y:Act→Prop} (hj:ops[j]? =some oj) (hap:oi.apart ops oj=true) (hsj:∀cs b,oj.op≠ .select cs b)
 (hQ:∀c a w,Q (.panic c) (a.put oi.dst v) w→Q (.panic c) a w) (keep:∀a,Y a→∀u,Y (a.put oj.dst u)) (keepD:∀a,Y a→∀d,Y { a with defers:=d ::a.defers }) {K:Act→World→Prop} {a:Act} {w:World}
 (hy:Y a) (h:wpOp P ops Q j K (a.put oi.dst v) w):wpOp P ops Q j (fun a' w'=>Y a'∧K (a'.put oi.dst v) w') a w:=by
 obtain⟨h1,h2,h3⟩:=Oper.apart_spec hap
 unfold wpOp at*
 simp only[hj]at*
 rw[wanted_put oj a oi.dst v h1]at h
 split
 ·rename_i hw
  simp only[hw,if_true]at h
  rcases h with h|⟨hasks,hlets⟩
  case inr=>exact .inr ⟨by unfold Oper.asks at *; rw[execOp_put oj hsj a oi.dst v h1]at hasks;exact hasks,hlets⟩
  refine .inl ?_
  unfold Oper.wp at*
  rw[execOp_put oj hsj a oi.dst v h1]at h
  generalize(execOp a.eval oj).run P w=r at*
  cases r with
  |ok n w'=>
   cases n<;>simp only[Oper.upon]at h ⊢
   case value u=>exact⟨keep a hy u,by rw[←Act.put_comm a v u h2];exact h⟩
   case skip=>exact⟨keep a hy _,by rw[←Act.put_comm a v undef h2];exact h⟩
   case defer d=>
    refine⟨keep _ (keepD a hy d) _,?_⟩
    rw[←Act.put_comm _ v undef h2,← Act.put_defers]
    exact h
   case enter f args=>
    refine Calls.mono h fun e w'' he=>?_
    cases e with
    |returned u=>exact⟨keep a hy u,by rw[←Act.put_comm a v u h2];exact he⟩
    |panicked c=>exact hQ _ _ _ he
    |outgrown=>exact he
   case row row args=>exact Rows.mono h fun u w'' he=>⟨keep a hy u,by rw[←Act.put_comm a v u h2];exact he⟩
  |halt x w'=>
   cases x<;>simp only[Oper.upon]at h ⊢
   case panic u=>exact hQ _ _ _ h
 ·rename_i hw
  simp only[hw]at h
  exact⟨keep a hy _,by rw[←Act.put_comm a v undef h2];exact h⟩
theorem wpAnyD_first {i:Nat} {oi:Oper} {v:Value} (hi:ops[i]? =some oi) (hsel:∀(j:Nat) (o:Oper) cs b,ops[j]? =some o→o.op≠ .select cs b)
 (hQ:∀c a w,Q (.panic c) (a.put oi.dst v) w→Q (.panic c) a w):∀(f:Nat) (listed:Array Bool) (a:Act) (W:World),
   (∀j oj,ops[j]? =some oj→j≠i→listed.getD j true=false→(∀e∈oj.after,Region.binds md e=true→e.on≠i)→oi.apart ops oj=true)→
   i∈Region.ready md ops listed→(∀W',F W'→YieldsIn P ops (CW W') oi v a)→F W→
   wpAnyD P md ops Q F f (listed.setIfInBounds i true) (a.put oi.dst v) W→wpAnyD P md ops Q F (f+1) listed a W:=by
 intro f
 induction f with
 |zero=>
  intro listed a W _ hr hy hF H
  refine⟨fun h=>(by rw[h]at hr;cases hr),fun j hj k=>?_⟩
  by_cases hji:j=i
  ·subst hji
   exact wpOp_of_qOp (C:=CW W) ⟨k,rfl⟩ (fun a' w' hw' h'=>⟨W,hF,hw',h'⟩) ((hy W hF).qOp (K:=fun a'=>wpAnyD P md ops Q F 0 (listed.setIfInBounds j true) a' W) hi H)
  ·have:=ready_mono hj hji
   rw[H.1]at this
   cases this
 |succ f ih=>
  intro listed a W hfree hr hy hF H
  refine⟨fun h=>(by rw[h]at hr;cases hr),fun j hj k=>?_⟩
  by_cases hji:j=i
  ·subst hji
   exact wpOp_of_qOp (C:=CW W) ⟨k,rfl⟩ (fun a' w' hw' h'=>⟨W,hF,hw',h'⟩) ((hy W hF).qOp (K:=fun a'=>wpAnyD P md ops Q F (f+1) (listed.setIfInBounds j true) a' W) hi H)
  ·have h1:=H.2 j (ready_mono hj hji) k
   obtain⟨hjun,oj,hoj,hall⟩:=mem_ready.1 hj
   have hnot:∀e∈oj.after,Region.binds md e=true→e.on≠i:=fun e he hb heq=>by
    have h1:=hall e he hb
    rw[heq,getD_both (mem_ready.1 hr).1]at h1
    cases h1
   have hap:=hfree j oj hoj hji hjun hnot
   have h2:=wpOp_putY (Y:=fun a=>∀W',F W'→YieldsIn P ops (CW W') oi v a) hoj hap (fun cs b=>hsel j oj cs b hoj) hQ (fun a h u W' hW'=>Xaz hap (fun cs b=>hsel i oi cs b hi) (h W' hW')) (fun a h d W' hW'=>(h W' hW').of_same rfl rfl) hy h1
   have hfree':∀k ok,ops[k]? =some ok→k≠i→(listed.setIfInBounds j true).getD k true=false→(∀e∈ok.after,Region.binds md e=true→e.on≠i)→oi.apart ops ok=true:=fun k ok hk hki hun hno=>by
    refine hfree k ok hk hki ?_ hno
    by_cases hjk:j=k
    ·subst hjk;exact hjun
    ·rw[getD_set_ne true hjk]at hun;exact hun
   refine wpOp_mono (fun a' w' h3=>?_) h2
   obtain⟨hY,W',hF',hw',h4⟩:=h3
   refine⟨W',hF',hw',ih (listed.setIfInBounds j true) a' W' hfree' (ready_mono hr (Ne.symm hji)) hY hF' ?_⟩
   rw[Array.setIfInBounds_comm _ _ hji]
   exact h4
abbrev qq (i:Nat):Bool × Nat × Option Nat:=(true,i,none)
abbrev oo (i:Nat):Bool × Nat × Option Nat:=(false,i,none)
def Z4z (P:Program) (ops:Array Oper) (Q:Exit→Act→World→Prop) (F:World→Prop):List (Bool × Nat × Option Nat)→Act→World→Prop
 | [],a,W=>∀k,Q .normal a (W.drewN k)
 |(true,i,_) ::r,a,W=>∃o v,ops[i]? =some o∧(∀W',F W'→YieldsIn P ops (CW W') o v a)∧Z4z P ops Q F r (a.put o.dst v) W
 |(false,i,none) ::r,a,W=>∀k,wpOp P ops Q i (fun a' w'=>F w'∧Z4z P ops Q F r a' w') a (W.drewN k)
 |(false,i,some j) ::r,a,W=>(∀k,wpOp P ops Q i (fun a' w'=>F w'∧∀k',wpOp P ops Q j (fun a'' w''=>F w''∧Z4z P ops Q F r a'' w'') a' (w'.drewN k')) a (W.drewN k))∧
    (∀k,wpOp P ops Q j (fun a' w'=>F w'∧∀k',wpOp P ops Q i (fun a'' w''=>F w''∧Z4z P ops Q F r a'' w'') a' (w'.drewN k')) a (W.drewN k))
def planB (md:Region.Mode) (ops:Array Oper):List (Bool × Nat × Option Nat)→Array Bool→Bool
 | [],listed=>Region.ready md ops listed==[]
 |(true,i,_) ::r,listed=>(Region.ready md ops listed).contains i&&Region.free md ops listed i&&planB md ops r (listed.setIfInBounds i true)
 |(false,i,none) ::r,listed=>Region.ready md ops listed==[i]&&planB md ops r (listed.setIfInBounds i true)
 |(false,i,some j) ::r,listed=>Region.ready md ops listed==[i,j]&&(decide (i≠j)&&(Region.ready md ops (listed.setIfInBounds i true)==[j]&&(Region.ready md ops (listed.setIfInBounds j true)==[i]&&planB md ops r ((listed.setIfInBounds i true).setIfInBounds j true))))
def planLen:List (Bool × Nat × Option Nat)→Nat
 | []=>0
 |(_,_,none) ::r=>planLen r+1
 |(true,_,some _) ::r=>planLen r+1
 |(false,_,some _) ::r=>planLen r+2
theorem plan_D (hsel:Region.noSelect ops=true) (hQ:∀c a d v w,Q (.panic c) (a.put d v) w→Q (.panic c) a w):∀(l:List (Bool × Nat × Option Nat)) (listed:Array Bool) (a:Act) (W:World),
 planB md ops l listed=true→F W→Z4z P ops Q F l a W→wpAnyD P md ops Q F (planLen l) listed a W
 | [],listed,a,W,hB,_,h=>⟨by simpa[planB]using hB,h⟩
 |(true,i,x) ::r,listed,a,W,hB,hF,h=>by
  simp only[planB,Bool.and_eq_true]at hB
  obtain⟨⟨hr,hf⟩,hB'⟩:=hB
  obtain⟨o,v,ho,hy,hK⟩:=h
  have:=wpAnyD_first ho (Region.noSelect_spec hsel) (fun c a w=>hQ c a _ _ w) (planLen r) listed a W (Region.free_spec ho hf) (by simpa using hr) hy hF (plan_D hsel hQ r _ _ W hB' hF hK)
  cases x<;>exact this
 |(false,i,none) ::r,listed,a,W,hB,hF,h=>by
  simp only[planB,Bool.and_eq_true,beq_iff_eq]at hB
  obtain⟨hr,hB'⟩:=hB
  refine⟨fun h0=>(by rw[hr]at h0;cases h0),fun j hj k=>?_⟩
  rw[hr]at hj
  obtain rfl:j=i:=by simpa using hj
  refine wpOp_mono (fun a' w' h3=>?_) (h k)
  exact⟨w',h3.1,⟨0,rfl⟩,plan_D hsel hQ r _ a' w' hB' h3.1 h3.2⟩
 |(false,i,some j) ::r,listed,a,W,hB,hF,h=>by
  simp only[planB,Bool.and_eq_true,beq_iff_eq,decide_eq_true_eq]at hB
  obtain⟨hr,hij,hri,hrj,hB'⟩:=hB
  have hB'':planB md ops r ((listed.setIfInBounds j true).setIfInBounds i true)=true:=by rw[Array.setIfInBounds_comm _ _ (Ne.symm hij)];exact hB'
  refine⟨fun h0=>(by rw[hr]at h0;cases h0),fun m hm k=>?_⟩
  rw[hr]at hm
  rcases(by simpa using hm:m=i∨m=j)with rfl|rfl
  ·refine wpOp_mono (fun a' w' h3=>⟨w',h3.1,⟨0,rfl⟩,?_⟩) (h.1 k)
   refine⟨fun h0=>(by rw[hri]at h0;cases h0),fun m' hm' k'=>?_⟩
   rw[hri]at hm'
   obtain rfl:m'=j:=by simpa using hm'
   exact wpOp_mono (fun a'' w'' h4=>⟨w'',h4.1,⟨0,rfl⟩,plan_D hsel hQ r _ a'' w'' hB' h4.1 h4.2⟩) (h3.2 k')
  ·refine wpOp_mono (fun a' w' h3=>⟨w',h3.1,⟨0,rfl⟩,?_⟩) (h.2 k)
   refine⟨fun h0=>(by rw[hrj]at h0;cases h0),fun m' hm' k'=>?_⟩
   rw[hrj]at hm'
   obtain rfl:m'=i:=by simpa using hm'
   exact wpOp_mono (fun a'' w'' h4=>⟨w'',h4.1,⟨0,rfl⟩,plan_D hsel hQ r _ a'' w'' hB'' h4.1 h4.2⟩) (h3.2 k')
theorem Q9z {r:List (Bool × Nat × Option Nat)} {A1:Act} {s:Nat}:∀(q:List Nat) (l:List Oper) (a:Act),q.map (ops[·]?)=l.map some→a.tmps.size=s→Xrz s l=true→
 (∀W,F W→wpQuiet P ops (fun w'=>∃k,w'=W.drewN k) (fun a'=>a'=A1) l a)→∀W,F W→(A1.tmps.size=s→Z4z P ops Q F r A1 W)→Z4z P ops Q F (q.map qq++r) a W
 | [],[],a,_,hs,_,h,W,hF,hr=>by
   have hA:a=A1:=h W hF
   rw[hA]at hs ⊢
   exact hr hs
 | [],_ ::_,_,hl,_,_,_,_,_,_=>by cases hl
 |_ ::_,[],_,hl,_,_,_,_,_,_=>by cases hl
 |i ::q,o ::l,a,hl,hs,hp,h,W,hF,hr=>by
  simp only[List.map_cons,List.cons.injEq]at hl
  obtain⟨hi,hl⟩:=hl
  simp only[Xrz,Bool.and_eq_true]at hp
  obtain⟨hp1,hp2⟩:=hp
  cases hd:o.dst with
  |none=>rw[hd]at hp1;cases hp1
  |some d=>
   rw[hd]at hp1
   simp only[Bool.and_eq_true,decide_eq_true_eq,List.all_eq_true]at hp1
   have hfar:∀o'∈l,o'.dst≠some d:=fun o' ho' e=>by have:=hp1.2 o' ho';simp[e]at this
   have key:∀W,F W→YieldsIn P ops (CW W) o (A1.eval (.tmp d)) a∧wpQuiet P ops (CW W) (fun a'=>a'=A1) l (a.put o.dst (A1.eval (.tmp d))):=fun W hW=>by
    have h2:=h W hW
    unfold wpQuiet at h2
    by_cases hw:Region.wanted o (yielded ops a.tmps)=true
    ·simp only[hw,if_true]at h2
     obtain⟨v,qq,nx⟩:=h2
     have e0:=QTz d l _ hfar nx
     rw[hd,Z6z a d _ (by rw[hs];exact hp1.1)]at e0
     rw[e0]
     exact⟨.inl ⟨hw,qq⟩,nx⟩
    ·simp only[hw,Bool.false_eq_true,if_false]at h2
     have e0:=QTz d l _ hfar h2
     rw[hd,Z6z a d _ (by rw[hs];exact hp1.1)]at e0
     rw[e0]
     exact⟨.inr ⟨by simpa using hw,rfl⟩,h2⟩
   exact⟨o,_,hi,fun W' hW'=>(key W' hW').1,Q9z q l _ hl (by rw[put_size,hs]) hp2 (fun W hW=>(key W hW).2) W hF hr⟩
theorem Qbz {r:List (Bool × Nat × Option Nat)} {i:Nat} {o:Oper} {a:Act} {W:World} (hi:ops[i]? =some o) (h:∀k,wpList P ops (PlanQ Q fun a' w'=>F w'∧Z4z P ops Q F r a' w') [o] a (W.drewN k)):Z4z P ops Q F (oo i ::r) a W:=
 fun k=>Ziz hi (h k)
theorem plan_skip {r:List (Bool × Nat × Option Nat)} {i:Nat} {o:Oper} {a:Act} {W:World} (hi:ops[i]? =some o) (hw:Region.wanted o (yielded ops a.tmps)=false) (hF:∀k,F (W.drewN k)) (h:∀k,Z4z P ops Q F r (a.put o.dst undef) (W.drewN k)):Z4z P ops Q F (oo i ::r) a W:=fun k=>by
 unfold wpOp
 simp only[hi,hw]
 exact⟨hF k,h k⟩
theorem Qnz {a:Act} {W:World} (h:∀k,Q .normal a (W.drewN k)):Z4z P ops Q F [] a W:=h
theorem QAz {id:Nat} {a:Act} {w:World} (plan:List (Bool × Nat × Option Nat)) (F:World→Prop) (hm:P.follows .mixedOrders=true)
 (hB:(Region.noSelect ops&&(planLen plan==ops.size&&planB .any ops plan (Array.replicate ops.size false)))=true) (hF:F w.drew)
 (h:Z4z P ops (NoPanic Q) F plan a w.drew):(Code.region id ops true).wp P Q a w:=by
 simp only[Bool.and_eq_true,beq_iff_eq]at hB
 obtain⟨hsel,hlen,hB⟩:=hB
 refine wp_region_noPanic (wp_region_any hm ?_)
 have:=wpAny_of_D _ _ _ _ 0 (plan_D (Q:=NoPanic Q) hsel (fun c a d v w h=>h) plan _ a w.drew hB hF h)
 rw[hlen]at this
 exact this
end
end
section
open Go Go.RowKit
section
variable {P:Program} {ops:Array Oper} {md:Region.Mode} {Q:Exit→Act→World→Prop} {F:World→Prop} {T:Act→World→Prop}
def HeadQ (Q:Exit→Act→World→Prop) (T:Act→World→Prop):Exit→Act→World→Prop
 | .normal,a,w=>T a w
 | .panic _,_,_=>False
 |e,a,w=>Q e a w
theorem HeadQ.normal {a:Act} {w:World} (h:T a w):HeadQ Q T .normal a w:=h
theorem upon_headQ {o:Oper} {a:Act} {K:Act→World→Prop} {r:Result Next} (h:o.upon P a K (HeadQ Q T) r):o.upon P a K Q r:=by
 cases r with
 |ok n w'=>
  cases n<;>simp only[Oper.upon]at h ⊢
  case value=>exact h
  case skip=>exact h
  case defer=>exact h
  case enter f args=>
   refine Calls.mono h fun e w'' he=>?_
   cases e with
   |returned=>exact he
   |panicked=>exact he.elim
   |outgrown=>exact he
  case row row args=>exact h
 |halt x w'=>
  cases x<;>simp only[Oper.upon]at h ⊢
  case panic=>exact h.elim
theorem wpOp_headQ {i:Nat} {K:Act→World→Prop} {a:Act} {w:World} (h:wpOp P ops (HeadQ Q T) i K a w):wpOp P ops Q i K a w:=by
 unfold wpOp at*
 split
 ·rename_i ho;simpa only[ho]using h
 ·rename_i o ho
  simp only[ho]at h
  split
  ·rename_i hw
   simp only[hw,if_true]at h
   rcases h with h|⟨h1,h2⟩
   ·exact .inl (upon_headQ h)
   ·exact .inr ⟨h1,h2⟩
  ·rename_i hw
   simp only[hw]at h
   exact h
def wpAnyT (P:Program) (md:Region.Mode) (ops:Array Oper) (Q:Exit→Act→World→Prop) (F:World→Prop) (n:Nat) (L:Array Bool→Act→World→Prop):Nat→Array Bool→Act→World→Prop
 |0,listed,a,W=>L listed a W
 |f+1,listed,a,W=>Region.ready md ops listed≠[]∧∀i∈Region.ready md ops listed,i<n∧∀k,wpOp P ops Q i (fun a' w'=>∃W',F W'∧CW W' w'∧wpAnyT P md ops Q F n L f (listed.setIfInBounds i true) a' W') a (W.drewN k)
theorem wpAny_of_T {n g:Nat} {L:Array Bool→Act→World→Prop} (hL:∀listed a W k,L listed a W→wpAny P md ops Q g listed a (W.drewN k)):∀(f:Nat) (listed:Array Bool) (a:Act) (W:World) (k:Nat),wpAnyT P md ops (HeadQ Q T) F n L f listed a W→wpAny P md ops Q (f+g) listed a (W.drewN k)
 |0,_,_,_,_,h=>by rw[Nat.zero_add];exact hL _ _ _ _ h
 |f+1,_,_,_,k,h=>by
  rw[show f+1+g=(f+g)+1 by omega]
  exact⟨fun h0=>absurd h0 h.1,fun i hi=>wpOp_mono (fun a' w' ⟨W',_,⟨k',hk⟩,h'⟩=>by rw[hk];exact wpAny_of_T hL f _ a' W' k' h') (wpOp_headQ ((h.2 i hi).2 k))⟩
theorem wpAnyT_first {n i:Nat} {oi:Oper} {v:Value} {L:Array Bool→Act→World→Prop} (hi:ops[i]? =some oi) (hsel:∀(j:Nat) (o:Oper) cs b,ops[j]? =some o→o.op≠ .select cs b)
 (hQ:∀c a w,Q (.panic c) (a.put oi.dst v) w→Q (.panic c) a w) (hs:Region.sinkB md ops n=true) (hc:Region.chainB md ops n=true) (hn:n<ops.size) (hin:i<n) (hdone:∀listed a W,L listed a W→∀j∈Region.ready md ops listed,n≤j):
 ∀(f:Nat) (listed:Array Bool) (a:Act) (W:World),HeadInv md ops n listed→
  (∀j oj,ops[j]? =some oj→j≠i→listed.getD j true=false→(∀e∈oj.after,Region.binds md e=true→e.on≠i)→oi.apart ops oj=true)→
  i∈Region.ready md ops listed→(∀W',F W'→YieldsIn P ops (CW W') oi v a)→F W→
  wpAnyT P md ops Q F n L f (listed.setIfInBounds i true) (a.put oi.dst v) W→wpAnyT P md ops Q F n L (f+1) listed a W:=by
 have low:∀(listed:Array Bool) (j:Nat),HeadInv md ops n listed→i∈Region.ready md ops listed→j∈Region.ready md ops listed→j<n:=fun listed j inv hr hj=>by
  rcases Nat.lt_or_ge j n with h|h
  ·exact h
  ·exact absurd hj (tail_waits hs hc hn inv _ i rfl hin (mem_ready.1 hr).1 j h)
 intro f
 induction f with
 |zero=>
  intro listed a W inv _ hr hy hF H
  refine⟨fun h=>(by rw[h]at hr;cases hr),fun j hj=>⟨low listed j inv hr hj,fun k=>?_⟩⟩
  by_cases hji:j=i
  ·subst hji
   exact wpOp_of_qOp (C:=CW W) ⟨k,rfl⟩ (fun a' w' hw' h'=>⟨W,hF,hw',h'⟩) ((hy W hF).qOp (K:=fun a'=>wpAnyT P md ops Q F n L 0 (listed.setIfInBounds j true) a' W) hi H)
  ·have h1:=hdone _ _ _ H j (ready_mono hj hji)
   have h2:=low listed j inv hr hj
   omega
 |succ f ih=>
  intro listed a W inv hfree hr hy hF H
  refine⟨fun h=>(by rw[h]at hr;cases hr),fun j hj=>⟨low listed j inv hr hj,fun k=>?_⟩⟩
  by_cases hji:j=i
  ·subst hji
   exact wpOp_of_qOp (C:=CW W) ⟨k,rfl⟩ (fun a' w' hw' h'=>⟨W,hF,hw',h'⟩) ((hy W hF).qOp (K:=fun a'=>wpAnyT P md ops Q F n L (f+1) (listed.setIfInBounds j true) a' W) hi H)
  ·have h1:=(H.2 j (ready_mono hj hji)).2 k
   obtain⟨hjun,oj,hoj,hall⟩:=mem_ready.1 hj
   have hnot:∀e∈oj.after,Region.binds md e=true→e.on≠i:=fun e he hb heq=>by
    have h1:=hall e he hb
    rw[heq,getD_both (mem_ready.1 hr).1]at h1
    cases h1
   have hap:=hfree j oj hoj hji hjun hnot
   have h2:=wpOp_putY (Y:=fun a=>∀W',F W'→YieldsIn P ops (CW W') oi v a) hoj hap (fun cs b=>hsel j oj cs b hoj) hQ (fun a h u W' hW'=>Xaz hap (fun cs b=>hsel i oi cs b hi) (h W' hW')) (fun a h d W' hW'=>(h W' hW').of_same rfl rfl) hy h1
   have hfree':∀k ok,ops[k]? =some ok→k≠i→(listed.setIfInBounds j true).getD k true=false→(∀e∈ok.after,Region.binds md e=true→e.on≠i)→oi.apart ops ok=true:=fun k ok hk hki hun hno=>by
    refine hfree k ok hk hki ?_ hno
    by_cases hjk:j=k
    ·subst hjk;exact hjun
    ·rw[getD_set_ne true hjk]at hun;exact hun
   refine wpOp_mono (fun a' w' h3=>?_) h2
   obtain⟨hY,W',hF',hw',h4⟩:=h3
   refine⟨W',hF',hw',ih (listed.setIfInBounds j true) a' W' (inv.set hj (low listed j inv hr hj)) hfree' (ready_mono hr (Ne.symm hji)) hY hF' ?_⟩
   rw[Array.setIfInBounds_comm _ _ hji]
   exact h4
def planTB (md:Region.Mode) (ops:Array Oper) (n:Nat):List (Bool × Nat × Option Nat)→Array Bool→Bool
 | [],listed=>Region.seqB md ops (ops.size-n) n listed
 |(true,i,_) ::r,listed=>decide (i<n)&&((Region.ready md ops listed).contains i&&Region.free md ops listed i&&planTB md ops n r (listed.setIfInBounds i true))
 |(false,i,none) ::r,listed=>decide (i<n)&&(Region.ready md ops listed==[i]&&planTB md ops n r (listed.setIfInBounds i true))
 |(false,i,some j) ::r,listed=>decide (i<n)&&(decide (j<n)&&(Region.ready md ops listed==[i,j]&&(decide (i≠j)&&(Region.ready md ops (listed.setIfInBounds i true)==[j]&&(Region.ready md ops (listed.setIfInBounds j true)==[i]&&planTB md ops n r ((listed.setIfInBounds i true).setIfInBounds j true))))))
theorem plan_T {n:Nat} (hsel:Region.noSelect ops=true) (hs:Region.sinkB md ops n=true) (hc:Region.chainB md ops n=true) (hn:n<ops.size) (hQ:∀c a d v w,Q (.panic c) (a.put d v) w→Q (.panic c) a w):∀(l:List (Bool × Nat × Option Nat)) (listed:Array Bool) (a:Act) (W:World),
 HeadInv md ops n listed→planTB md ops n l listed=true→F W→Z4z P ops Q F l a W→wpAnyT P md ops Q F n (fun listed' a' W'=>Region.seqB md ops (ops.size-n) n listed'=true∧∀k,Q .normal a' (W'.drewN k)) (planLen l) listed a W
 | [],listed,a,W,_,hB,_,h=>⟨hB,h⟩
 |(true,i,x) ::r,listed,a,W,inv,hB,hF,h=>by
  simp only[planTB,Bool.and_eq_true,decide_eq_true_eq]at hB
  obtain⟨hin,⟨hr,hf⟩,hB'⟩:=hB
  have hr':i∈Region.ready md ops listed:=by simpa using hr
  obtain⟨o,v,ho,hy,hK⟩:=h
  have:=wpAnyT_first ho (Region.noSelect_spec hsel) (fun c a w=>hQ c a _ _ w) hs hc hn hin (fun _ _ _ hL=>seqB_ready hL.1) (planLen r) listed a W inv (Region.free_spec ho hf) hr' hy hF (plan_T hsel hs hc hn hQ r _ _ W (inv.set hr' hin) hB' hF hK)
  cases x<;>exact this
 |(false,i,none) ::r,listed,a,W,inv,hB,hF,h=>by
  simp only[planTB,Bool.and_eq_true,beq_iff_eq,decide_eq_true_eq]at hB
  obtain⟨hin,hr,hB'⟩:=hB
  refine⟨fun h0=>(by rw[hr]at h0;cases h0),fun j hj=>?_⟩
  have hj0:=hj
  rw[hr]at hj
  obtain rfl:j=i:=by simpa using hj
  refine⟨hin,fun k=>wpOp_mono (fun a' w' h3=>?_) (h k)⟩
  exact⟨w',h3.1,⟨0,rfl⟩,plan_T hsel hs hc hn hQ r _ a' w' (inv.set hj0 hin) hB' h3.1 h3.2⟩
 |(false,i,some j) ::r,listed,a,W,inv,hB,hF,h=>by
  simp only[planTB,Bool.and_eq_true,beq_iff_eq,decide_eq_true_eq]at hB
  obtain⟨hin,hjn,hr,hij,hri,hrj,hB'⟩:=hB
  have hB'':planTB md ops n r ((listed.setIfInBounds j true).setIfInBounds i true)=true:=by rw[Array.setIfInBounds_comm _ _ (Ne.symm hij)];exact hB'
  have hi0:i∈Region.ready md ops listed:=by rw[hr];simp
  have hj0:j∈Region.ready md ops listed:=by rw[hr];simp
  have hji:j∈Region.ready md ops (listed.setIfInBounds i true):=by rw[hri];simp
  have hjj:i∈Region.ready md ops (listed.setIfInBounds j true):=by rw[hrj];simp
  refine⟨fun h0=>(by rw[hr]at h0;cases h0),fun m hm=>?_⟩
  rw[hr]at hm
  rcases(by simpa using hm:m=i∨m=j)with rfl|rfl
  ·refine⟨hin,fun k=>wpOp_mono (fun a' w' h3=>⟨w',h3.1,⟨0,rfl⟩,?_⟩) (h.1 k)⟩
   refine⟨fun h0=>(by rw[hri]at h0;cases h0),fun m' hm'=>?_⟩
   rw[hri]at hm'
   obtain rfl:m'=j:=by simpa using hm'
   exact⟨hjn,fun k'=>wpOp_mono (fun a'' w'' h4=>⟨w'',h4.1,⟨0,rfl⟩,plan_T hsel hs hc hn hQ r _ a'' w'' ((inv.set hi0 hin).set hji hjn) hB' h4.1 h4.2⟩) (h3.2 k')⟩
  ·refine⟨hjn,fun k=>wpOp_mono (fun a' w' h3=>⟨w',h3.1,⟨0,rfl⟩,?_⟩) (h.2 k)⟩
   refine⟨fun h0=>(by rw[hrj]at h0;cases h0),fun m' hm'=>?_⟩
   rw[hrj]at hm'
   obtain rfl:m'=i:=by simpa using hm'
   exact⟨hin,fun k'=>wpOp_mono (fun a'' w'' h4=>⟨w'',h4.1,⟨0,rfl⟩,plan_T hsel hs hc hn hQ r _ a'' w'' ((inv.set hj0 hjn).set hjj hin) hB'' h4.1 h4.2⟩) (h3.2 k')⟩
theorem Qdz {id:Nat} {a:Act} {w:World} {l:List Oper} (plan:List (Bool × Nat × Option Nat)) (m:Nat) (F:World→Prop) (hm:P.follows .mixedOrders=true)
 (hB:(Region.noSelect l.toArray&&(decide (m<l.length)&&(Region.sinkB .any l.toArray m&&(Region.chainB .any l.toArray m&&(planLen plan==m&&planTB .any l.toArray m plan (Array.replicate l.toArray.size false))))))=true) (hF:F w.drew)
 (h:Z4z P l.toArray (HeadQ Q fun a' w'=>wpList P l.toArray Q (l.drop m) a' w') F plan a w.drew):(Code.region id l.toArray true).wp P Q a w:=by
 simp only[Bool.and_eq_true,beq_iff_eq,decide_eq_true_eq]at hB
 obtain⟨hsel,hml,hs,hc,hlen,hB⟩:=hB
 have hn:m<l.toArray.size:=by simpa using hml
 have hdl:(l.drop m).length=l.toArray.size-m:=by simp
 have inv0:HeadInv .any l.toArray m (Array.replicate l.toArray.size false):=
  ⟨by simp,fun j oj _ hl=>(by rw[getD_replicate_false]at hl;cases hl),fun t _ ht=>getD_in (by simpa using ht) (getD_replicate_false _ _)⟩
 refine wp_region_any hm ?_
 have:=wpAny_of_T (Q:=Q) (g:=l.toArray.size-m) (fun listed a' W k hL=>by
  have:=wpAny_of_seq (P:=P) (md:=.any) (Q':=Q) (l.drop m) m listed a' (W.drewN k) (fun j=>by simp[List.getElem?_drop]) (by rw[hdl];exact hL.1) (hL.2 k)
  rwa [hdl]at this) _ _ _ _ 0 (plan_T (Q:=HeadQ Q fun a' w'=>wpList P l.toArray Q (l.drop m) a' w') hsel hs hc hn (fun c a d v w h=>h) plan _ a w.drew inv0 hB hF h)
 rw[hlen,show m+(l.toArray.size-m)=l.toArray.size by omega]at this
 exact this
end
end
section
open Go.RowKit
section
variable {w w':World}
theorem Blk.fut {g:Nat} {t:TypeId} {cs:Array Value} (h:Blk w g t cs) (hb:Below w.heap.size w w'):Blk w' g t cs:=h.below hb h.lt
theorem Row8.fut {p:Option Addr} {bs:List (BitVec 8)} (h:Row8 w p bs) (hb:Below w.heap.size w w'):Row8 w' p bs:=h.below hb (Nat.le_refl _)
theorem Own8.fut {B:Nat} {v:Value} {bs:List (BitVec 8)} (h:Own8 w B v bs) (hb:Below w.heap.size w w'):Own8 w' B v bs:=h.below hb (Nat.le_refl _)
theorem Q3z {B:Nat} {w0:World} (h:Below B w0 w) (hb:Below w.heap.size w w') (hB:B≤w0.heap.size):Below B w0 w':=h.trans (hb.mono (Nat.le_trans hB h.size))
theorem Q1z (w:World) (o:Obj):Below w.heap.size w (w.alloc o):=(Below.refl _ _).alloc (Nat.le_refl _) o
theorem Q0z (w:World) (k:Nat):Below w.heap.size w (w.drewN k):=Q7z (Below.refl _ _) k
end
end
section
open Go.RowKit
theorem equal_same (p1 p2:Option Addr) (n c m d:Nat) (bs:List (BitVec 8)) (w:World) (h1:Row8 w p1 bs) (h2:Row8 w p2 bs) (hn:bs.length=n) (hm:bs.length=m):
 Calls Tryz.prog 11 #[.slice p1 n c,.slice p2 m d] w fun e w'=>e= .returned (.bool true)∧w'=w:=
 (equal_any p1 p2 n c m d bs bs w h1 h2 hn hm).mono fun e w' ⟨h,h2⟩=>⟨by rw[h,decide_eq_true rfl],h2⟩
theorem Own8.open {w:World} {B:Nat} {v:Value} {bs:List (BitVec 8)} (h:Own8 w B v bs):∃p n c,v= .slice p n c∧Hid (bs.length=n)∧n≤c∧c≤9223372036854775807∧Row8 w p bs:=by
 obtain⟨p,c,h1,h2,h3,h4⟩:=h.row
 exact⟨p,bs.length,c,h1,Lib.hid rfl,h2,by unfold maxLen at h3;omega,h4⟩
end
section
open Go Go.RowKit
section
variable {P:Program} {ops:Array Oper} {md:Region.Mode} {Q:Exit→Act→World→Prop} {F:World→Prop}
def wpAnyE (P:Program) (md:Region.Mode) (ops:Array Oper) (Q:Exit→Act→World→Prop):Nat→(World→Prop)→Array Bool→Act→World→Prop
 |0,_,listed,a,W=>Region.ready md ops listed=[]∧∀k,Q .normal a (W.drewN k)
 |f+1,F,listed,a,W=>(Region.ready md ops listed=[]→∀k,Q .normal a (W.drewN k))∧
  ∀i∈Region.ready md ops listed,∀k,wpOp P ops Q i (fun a' w'=>∃(W':World) (F':World→Prop),(∀x,F' x→F x)∧F' W'∧CW W' w'∧wpAnyE P md ops Q f F' (listed.setIfInBounds i true) a' W') a (W.drewN k)
theorem wpAny_of_E:∀(f:Nat) (F:World→Prop) (listed:Array Bool) (a:Act) (W:World) (k:Nat),wpAnyE P md ops Q f F listed a W→wpAny P md ops Q f listed a (W.drewN k)
 |0,_,_,_,_,k,h=>⟨h.1,h.2 k⟩
 |f+1,F,_,_,_,k,h=>⟨fun h0=>h.1 h0 k,fun i hi=>wpOp_mono (fun a' w' ⟨W',F',_,_,⟨k',hk⟩,h'⟩=>by rw[hk];exact wpAny_of_E f F' _ a' W' k' h') (h.2 i hi k)⟩
theorem wpAnyE_first {i:Nat} {oi:Oper} {v:Value} (hi:ops[i]? =some oi) (hsel:∀(j:Nat) (o:Oper) cs b,ops[j]? =some o→o.op≠ .select cs b)
 (hQ:∀c a w,Q (.panic c) (a.put oi.dst v) w→Q (.panic c) a w):∀(f:Nat) (F:World→Prop) (listed:Array Bool) (a:Act) (W:World),
   (∀j oj,ops[j]? =some oj→j≠i→listed.getD j true=false→(∀e∈oj.after,Region.binds md e=true→e.on≠i)→oi.apart ops oj=true)→
   i∈Region.ready md ops listed→(∀W',F W'→YieldsIn P ops (CW W') oi v a)→F W→
   wpAnyE P md ops Q f F (listed.setIfInBounds i true) (a.put oi.dst v) W→wpAnyE P md ops Q (f+1) F listed a W:=by
 intro f
 induction f with
 |zero=>
  intro F listed a W hfree hr hy hF H
  refine⟨fun h=>(by rw[h]at hr;cases hr),fun j hj k=>?_⟩
  by_cases hji:j=i
  ·subst hji
   exact wpOp_of_qOp (C:=CW W) ⟨k,rfl⟩ (fun a' w' hw' h'=>⟨W,F,fun _ h=>h,hF,hw',h'⟩) ((hy W hF).qOp (K:=fun a'=>wpAnyE P md ops Q 0 F (listed.setIfInBounds j true) a' W) hi H)
  ·have:=ready_mono hj hji
   rw[H.1]at this
   cases this
 |succ f ih=>
  intro F listed a W hfree hr hy hF H
  refine⟨fun h=>(by rw[h]at hr;cases hr),fun j hj k=>?_⟩
  by_cases hji:j=i
  ·subst hji
   exact wpOp_of_qOp (C:=CW W) ⟨k,rfl⟩ (fun a' w' hw' h'=>⟨W,F,fun _ h=>h,hF,hw',h'⟩) ((hy W hF).qOp (K:=fun a'=>wpAnyE P md ops Q (f+1) F (listed.setIfInBounds j true) a' W) hi H)
  ·have h1:=H.2 j (ready_mono hj hji) k
   obtain⟨hjun,oj,hoj,hall⟩:=mem_ready.1 hj
   have hnot:∀e∈oj.after,Region.binds md e=true→e.on≠i:=fun e he hb heq=>by
    have h1:=hall e he hb
    rw[heq,getD_both (mem_ready.1 hr).1]at h1
    cases h1
   have hap:=hfree j oj hoj hji hjun hnot
   have h2:=wpOp_putY (Y:=fun a=>∀W',F W'→YieldsIn P ops (CW W') oi v a) hoj hap (fun cs b=>hsel j oj cs b hoj) hQ (fun a h u W' hW'=>Xaz hap (fun cs b=>hsel i oi cs b hi) (h W' hW')) (fun a h d W' hW'=>(h W' hW').of_same rfl rfl) hy h1
   have hfree':∀k ok,ops[k]? =some ok→k≠i→(listed.setIfInBounds j true).getD k true=false→(∀e∈ok.after,Region.binds md e=true→e.on≠i)→oi.apart ops ok=true:=fun k ok hk hki hun hno=>by
    refine hfree k ok hk hki ?_ hno
    by_cases hjk:j=k
    ·subst hjk;exact hjun
    ·rw[getD_set_ne true hjk]at hun;exact hun
   refine wpOp_mono (fun a' w' h3=>?_) h2
   obtain⟨hY,W',F',hsub,hF',hw',h4⟩:=h3
   refine⟨W',F',hsub,hF',hw',ih F' (listed.setIfInBounds j true) a' W' hfree' (ready_mono hr (Ne.symm hji)) (fun W'' h=>hY W'' (hsub _ h)) hF' ?_⟩
   rw[Array.setIfInBounds_comm _ _ hji]
   exact h4
inductive PTree where
 |done
 |q (i:Nat) (r:PTree)
 |o (i:Nat) (r:PTree)
 |two (i:Nat) (ri:PTree) (j:Nat) (rj:PTree)
 |three (i:Nat) (ri:PTree) (j:Nat) (rj:PTree) (k:Nat) (rk:PTree)
def PTree.qs:List Nat→PTree→PTree
 | [],r=>r
 |i ::l,r=>.q i (PTree.qs l r)
def Grows (F:World→Prop) (T:(World→Prop)→Act→World→Prop) (a:Act) (w:World):Prop:=∃F':World→Prop,(∀x,F' x→F x)∧F' w∧T F' a w
theorem Grows.same {T:(World→Prop)→Act→World→Prop} {a:Act} {w:World} (hF:F w) (h:T F a w):Grows F T a w:=⟨F,fun _ h=>h,hF,h⟩
theorem Grows.more {T:(World→Prop)→Act→World→Prop} {a:Act} {w:World} (F':World→Prop) (hs:∀x,F' x→F x) (hF:F' w) (h:T F' a w):Grows F T a w:=⟨F',hs,hF,h⟩
def XJz (P:Program) (ops:Array Oper) (Q:Exit→Act→World→Prop):PTree→(World→Prop)→Act→World→Prop
 | .done,_,a,W=>∀k,Q .normal a (W.drewN k)
 | .q i r,F,a,W=>∃o v,ops[i]? =some o∧(∀W',F W'→YieldsIn P ops (CW W') o v a)∧XJz P ops Q r F (a.put o.dst v) W
 | .o i r,F,a,W=>∀k,wpOp P ops Q i (Grows F (XJz P ops Q r)) a (W.drewN k)
 | .two i ri j rj,F,a,W=>(∀k,wpOp P ops Q i (Grows F (XJz P ops Q ri)) a (W.drewN k))∧(∀k,wpOp P ops Q j (Grows F (XJz P ops Q rj)) a (W.drewN k))
 | .three i ri j rj m rm,F,a,W=>(∀k,wpOp P ops Q i (Grows F (XJz P ops Q ri)) a (W.drewN k))∧(∀k,wpOp P ops Q j (Grows F (XJz P ops Q rj)) a (W.drewN k))∧(∀k,wpOp P ops Q m (Grows F (XJz P ops Q rm)) a (W.drewN k))
def XCz:PTree→Nat
 | .done=>0
 | .q _ r=>XCz r+1
 | .o _ r=>XCz r+1
 | .two _ r _ _=>XCz r+1
 | .three _ r _ _ _ _=>XCz r+1
def treeB (md:Region.Mode) (ops:Array Oper):PTree→Array Bool→Bool
 | .done,listed=>Region.ready md ops listed==[]
 | .q i r,listed=>(Region.ready md ops listed).contains i&&Region.free md ops listed i&&treeB md ops r (listed.setIfInBounds i true)
 | .o i r,listed=>Region.ready md ops listed==[i]&&treeB md ops r (listed.setIfInBounds i true)
 | .two i ri j rj,listed=>Region.ready md ops listed==[i,j]&&(XCz ri==XCz rj&&(treeB md ops ri (listed.setIfInBounds i true)&&treeB md ops rj (listed.setIfInBounds j true)))
 | .three i ri j rj m rm,listed=>Region.ready md ops listed==[i,j,m]&&(XCz ri==XCz rj&&(XCz ri==XCz rm&&(treeB md ops ri (listed.setIfInBounds i true)&&(treeB md ops rj (listed.setIfInBounds j true)&&treeB md ops rm (listed.setIfInBounds m true)))))
theorem tree_D (hsel:Region.noSelect ops=true) (hQ:∀c a d v w,Q (.panic c) (a.put d v) w→Q (.panic c) a w):∀(t:PTree) (F:World→Prop) (listed:Array Bool) (a:Act) (W:World),
 treeB md ops t listed=true→F W→XJz P ops Q t F a W→wpAnyE P md ops Q (XCz t) F listed a W
 | .done,F,listed,a,W,hB,_,h=>⟨by simpa[treeB]using hB,h⟩
 | .q i r,F,listed,a,W,hB,hF,h=>by
   simp only[treeB,Bool.and_eq_true]at hB
   obtain⟨⟨hr,hf⟩,hB'⟩:=hB
   obtain⟨o,v,ho,hy,hK⟩:=h
   exact wpAnyE_first ho (Region.noSelect_spec hsel) (fun c a w=>hQ c a _ _ w) (XCz r) F listed a W (Region.free_spec ho hf) (by simpa using hr) hy hF (tree_D hsel hQ r F _ _ W hB' hF hK)
 | .o i r,F,listed,a,W,hB,hF,h=>by
   simp only[treeB,Bool.and_eq_true,beq_iff_eq]at hB
   obtain⟨hr,hB'⟩:=hB
   refine⟨fun h0=>(by rw[hr]at h0;cases h0),fun j hj k=>?_⟩
   rw[hr]at hj
   obtain rfl:j=i:=by simpa using hj
   exact wpOp_mono (fun a' w' ⟨F',hs,h3,h4⟩=>⟨w',F',hs,h3,⟨0,rfl⟩,tree_D hsel hQ r F' _ a' w' hB' h3 h4⟩) (h k)
 | .two i ri j rj,F,listed,a,W,hB,hF,h=>by
   simp only[treeB,Bool.and_eq_true,beq_iff_eq]at hB
   obtain⟨hr,hl,hBi,hBj⟩:=hB
   refine⟨fun h0=>(by rw[hr]at h0;cases h0),fun m hm k=>?_⟩
   rw[hr]at hm
   rcases(by simpa using hm:m=i∨m=j)with rfl|rfl
   ·exact wpOp_mono (fun a' w' ⟨F',hs,h3,h4⟩=>⟨w',F',hs,h3,⟨0,rfl⟩,tree_D hsel hQ ri F' _ a' w' hBi h3 h4⟩) (h.1 k)
   ·exact wpOp_mono (fun a' w' ⟨F',hs,h3,h4⟩=>⟨w',F',hs,h3,⟨0,rfl⟩,by rw[hl];exact tree_D hsel hQ rj F' _ a' w' hBj h3 h4⟩) (h.2 k)
 | .three i ri j rj m0 rm,F,listed,a,W,hB,hF,h=>by
   simp only[treeB,Bool.and_eq_true,beq_iff_eq]at hB
   obtain⟨hr,hl,hl2,hBi,hBj,hBm⟩:=hB
   refine⟨fun h0=>(by rw[hr]at h0;cases h0),fun m hm k=>?_⟩
   rw[hr]at hm
   rcases(by simpa using hm:m=i∨m=j∨m=m0)with rfl|rfl|rfl
   ·exact wpOp_mono (fun a' w' ⟨F',hs,h3,h4⟩=>⟨w',F',hs,h3,⟨0,rfl⟩,tree_D hsel hQ ri F' _ a' w' hBi h3 h4⟩) (h.1 k)
   ·exact wpOp_mono (fun a' w' ⟨F',hs,h3,h4⟩=>⟨w',F',hs,h3,⟨0,rfl⟩,by rw[hl];exact tree_D hsel hQ rj F' _ a' w' hBj h3 h4⟩) (h.2.1 k)
   ·exact wpOp_mono (fun a' w' ⟨F',hs,h3,h4⟩=>⟨w',F',hs,h3,⟨0,rfl⟩,by rw[hl2];exact tree_D hsel hQ rm F' _ a' w' hBm h3 h4⟩) (h.2.2 k)
theorem Qxz {r:PTree} {A1:Act} {s:Nat}:∀(q:List Nat) (l:List Oper) (a:Act),q.map (ops[·]?)=l.map some→a.tmps.size=s→Xrz s l=true→
 (∀W,F W→wpQuiet P ops (fun w'=>∃k,w'=W.drewN k) (fun a'=>a'=A1) l a)→∀W,F W→(A1.tmps.size=s→XJz P ops Q r F A1 W)→XJz P ops Q (PTree.qs q r) F a W
 | [],[],a,_,hs,_,h,W,hF,hr=>by
   have hA:a=A1:=h W hF
   rw[hA]at hs ⊢
   exact hr hs
 | [],_ ::_,_,hl,_,_,_,_,_,_=>by cases hl
 |_ ::_,[],_,hl,_,_,_,_,_,_=>by cases hl
 |i ::q,o ::l,a,hl,hs,hp,h,W,hF,hr=>by
  simp only[List.map_cons,List.cons.injEq]at hl
  obtain⟨hi,hl⟩:=hl
  simp only[Xrz,Bool.and_eq_true]at hp
  obtain⟨hp1,hp2⟩:=hp
  cases hd:o.dst with
  |none=>rw[hd]at hp1;cases hp1
  |some d=>
   rw[hd]at hp1
   simp only[Bool.and_eq_true,decide_eq_true_eq,List.all_eq_true]at hp1
   have hfar:∀o'∈l,o'.dst≠some d:=fun o' ho' e=>by have:=hp1.2 o' ho';simp[e]at this
   have key:∀W,F W→YieldsIn P ops (CW W) o (A1.eval (.tmp d)) a∧wpQuiet P ops (CW W) (fun a'=>a'=A1) l (a.put o.dst (A1.eval (.tmp d))):=fun W hW=>by
    have h2:=h W hW
    unfold wpQuiet at h2
    by_cases hw:Region.wanted o (yielded ops a.tmps)=true
    ·simp only[hw,if_true]at h2
     obtain⟨v,qq,nx⟩:=h2
     have e0:=QTz d l _ hfar nx
     rw[hd,Z6z a d _ (by rw[hs];exact hp1.1)]at e0
     rw[e0]
     exact⟨.inl ⟨hw,qq⟩,nx⟩
    ·simp only[hw,Bool.false_eq_true,if_false]at h2
     have e0:=QTz d l _ hfar h2
     rw[hd,Z6z a d _ (by rw[hs];exact hp1.1)]at e0
     rw[e0]
     exact⟨.inr ⟨by simpa using hw,rfl⟩,h2⟩
   exact⟨o,_,hi,fun W' hW'=>(key W' hW').1,Qxz q l _ hl (by rw[put_size,hs]) hp2 (fun W hW=>(key W hW).2) W hF hr⟩
theorem Qvz {r:PTree} {i:Nat} {o:Oper} {a:Act} {W:World} (hi:ops[i]? =some o) (h:∀k,wpList P ops (PlanQ Q (Grows F (XJz P ops Q r))) [o] a (W.drewN k)):XJz P ops Q (.o i r) F a W:=
 fun k=>Ziz hi (h k)
theorem tree_two {ri rj:PTree} {i j:Nat} {oi oj:Oper} {a:Act} {W:World} (hi:ops[i]? =some oi) (hj:ops[j]? =some oj)
 (h1:∀k,wpList P ops (PlanQ Q (Grows F (XJz P ops Q ri))) [oi] a (W.drewN k)) (h2:∀k,wpList P ops (PlanQ Q (Grows F (XJz P ops Q rj))) [oj] a (W.drewN k)):XJz P ops Q (.two i ri j rj) F a W:=
 ⟨fun k=>Ziz hi (h1 k),fun k=>Ziz hj (h2 k)⟩
theorem XBz {a:Act} {W:World} (h:∀k,Q .normal a (W.drewN k)):XJz P ops Q .done F a W:=h
theorem XMz {id:Nat} {a:Act} {w:World} (t:PTree) (F:World→Prop) (hm:P.follows .mixedOrders=true)
 (hB:(Region.noSelect ops&&(XCz t==ops.size&&treeB .any ops t (Array.replicate ops.size false)))=true) (hF:F w.drew)
 (h:XJz P ops (NoPanic Q) t F a w.drew):(Code.region id ops true).wp P Q a w:=by
 simp only[Bool.and_eq_true,beq_iff_eq]at hB
 obtain⟨hsel,hlen,hB⟩:=hB
 refine wp_region_noPanic (wp_region_any hm ?_)
 have:=wpAny_of_E _ _ _ _ _ 0 (tree_D (Q:=NoPanic Q) hsel (fun c a d v w h=>h) t F _ a w.drew hB hF h)
 rw[hlen]at this
 exact this
end
end
section
open Go Go.RowKit
section
variable {P:Program} {ops:Array Oper} {C:World→Prop} {Q:Act→Prop} {a:Act} {o:Oper} {rest:List Oper}
theorem Qtz (hw:Region.wanted o (yielded ops a.tmps)=true) (ty:TypeId) (x:Operand) (ho:o.op= .load ty x) (b o':Nat) (hx:a.eval x= .pointer (some ⟨b,o',none⟩)) (cs:List Value) (d:TypeDesc)
 (hS:∀w,C w→w.rangeAt b o' cs) (hu:P.underlying ty=some d) (hd:d.isRow=true) (hi:(P.info? ty).map (·.size)=some cs.length) (h:wpQuiet P ops C Q rest (a.put o.dst (.agg cs.toArray))):wpQuiet P ops C Q (o ::rest) a:=
 BigFrame.wpQuiet_want hw fun K hK=>⟨_,fun w hw=>by
  unfold Oper.quietAt execOp
  simp only[ho,hx,Instr.loadAt,Instr.sureAddr,Sem.run_bind,Sem.run_pure,Result.andThen_ok,run_loadVar_mid w b o' ty cs d (hS w hw) hu hd hi]
  exact⟨rfl,rfl⟩,hK _ h⟩
theorem Xbz (hw:Region.wanted o (yielded ops a.tmps)=true) (t:TypeId) (parts:Array (Nat × Operand)) (ho:o.op= .build t parts) (cells:Array Value)
 (hf:P.built t (parts.map fun(i,x)=>(i,a.eval x)).toList=some cells) (h:wpQuiet P ops C Q rest (a.put o.dst (.agg cells))):wpQuiet P ops C Q (o ::rest) a:=
 BigFrame.wpQuiet_want hw fun K hK=>⟨_,fun w _=>by
  unfold Oper.quietAt execOp
  simp only[ho,Sem.run_bind,run_build w t _ cells hf,Result.andThen_ok]
  exact⟨rfl,rfl⟩,hK _ h⟩
end
end
end Go.Proofs.YtjbijcjcejfpcaaGreatDoor
