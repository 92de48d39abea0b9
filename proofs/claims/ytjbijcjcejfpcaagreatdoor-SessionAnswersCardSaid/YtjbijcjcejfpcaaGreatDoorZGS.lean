/- The size of a hash's cells. · SHA-256: plain; the small functions of both sides: -/
import Derived.Deep.DeepCutAuto
import Derived.Deep.CutBlock
import Derived.RegionTactic
import Derived.Test.YtjbijcjcejfpcaaGreatDoorZGB
namespace Go.Proofs.YtjbijcjcejfpcaaGreatDoor
set_option linter.unusedVariables false
set_option maxRecDepth 100000
set_option maxHeartbeats 16000000
section
open Go Go.RowKit
theorem Quz {l:List (BitVec 8)} (h:l.length=32):(Tryz.prog.info? 32).map (·.size)=some (Q5z l).length:=by rw[Q5z,List.length_map,h];kernel_rfl
theorem Qsz {l:List (BitVec 8)} (h:l.length=32):(Tryz.prog.info? 32).map (·.size)=some (Q5z l).toArray.size:=by rw[List.size_toArray];exact Quz h
end
section
open Go.RowKit
def rr (x:BitVec 32) (n:Nat):BitVec 32:=x.rotateRight n
theorem rr_bit (x:BitVec 32) (n:Nat) (hn:n<32) (i:Nat) (hi:i<32):(rr x n).getLsbD i=x.getLsbD ((i+n) % 32):=by
 unfold rr
 rw[BitVec.getLsbD_rotateRight,Nat.mod_eq_of_lt hn]
 by_cases h:i<32-n
 ·simp only[h,decide_true,cond_true]
  rw[Nat.mod_eq_of_lt (by omega),Nat.add_comm]
 ·simp only[h,decide_false,cond_false]
  rw[show i-(32-n)=(i+n) % 32 by omega]
  simp[hi]
theorem rr_zero (x:BitVec 32):rr x 0=x:=by
 apply BitVec.eq_of_getLsbD_eq
 intro j hj
 rw[rr_bit x 0 (by omega) j hj,Nat.add_zero,Nat.mod_eq_of_lt hj]
theorem rr_succ (x:BitVec 32) (n:Nat) (h:n<31):(rr x n >>> 1) ||| (rr x n <<< 31)=rr x (n+1):=by
 apply BitVec.eq_of_getLsbD_eq
 intro j hj
 rw[rr_bit x (n+1) (by omega) j hj,BitVec.getLsbD_or,BitVec.getLsbD_ushiftRight,BitVec.getLsbD_shiftLeft]
 by_cases h1:j<31
 ·rw[rr_bit x n (by omega) (1+j) (by omega)]
  simp[h1,show(1+j+n) % 32=(j+(n+1)) % 32 by omega]
 ·have hj31:j=31:=by omega
  subst hj31
  rw[BitVec.getLsbD_of_ge _ (1+31) (by omega),rr_bit x n (by omega) (31-31) (by omega)]
  simp[show n % 32=(31+(n+1)) % 32 by omega]
theorem rr_or (x:BitVec 32) (n:Nat) (h:n<32):(x <<< (32-n)) ||| (x >>> n)=rr x n:=by
 unfold rr
 rw[BitVec.or_comm]
 exact ror32 x n h
theorem turned_any (x:BitVec 32) (n:Nat) (hn:n<32) (w:World):
 Calls Tryz.prog 128 #[u32 x,.int .i64 (n:Int)] w fun e w'=>e= .returned (u32 (rr x n))∧w'=w:=by
 go_enter Tryz.func128,Tryz.ntmps128
 go_wp2
 go_loopw[0,6] (fun v i wr=>∃k:Nat,k≤n∧i= .int .i64 k∧v=u32 (rr x k)∧wr=w) (fun _ i _=>n-(intOf i).toNat)
 case atStart=>exact⟨0,by omega,rfl,by rw[rr_zero],rfl⟩
 case round=>
  obtain⟨k,hk,rfl,rfl,rfl⟩:=hrel
  by_cases hkn:k<n
  ·have hlt:(k:Int)<(n:Int):=by omega
   have s1:=shr32 (rr x k) 1 2 (by rfl)
   have s2:=shl32 (rr x k) 31 2147483648 (by rfl)
   have s3:=or32 (rr x k >>> 1) (rr x k <<< 31)
   rw[rr_succ x k (by omega)]at s3
   go_wp2
   go_roundw
   case rel=>exact⟨k+1,by omega,by go_num,rfl,trivial⟩
   case measure=>simp[intOf];omega
  ·obtain rfl:k=n:=by omega
   go_wp2
   go_ret
   exact⟨rfl,rfl⟩
end
section
open Go.RowKit
def kWords:List (BitVec 32):=[1116352408#32,1899447441#32,3049323471#32,3921009573#32,961987163#32,1508970993#32,2453635748#32,2870763221#32,3624381080#32,310598401#32,607225278#32,1426881987#32,1925078388#32,2162078206#32,2614888103#32,3248222580#32,3835390401#32,4022224774#32,264347078#32,604807628#32,770255983#32,1249150122#32,1555081692#32,1996064986#32,2554220882#32,2821834349#32,2952996808#32,3210313671#32,3336571891#32,3584528711#32,113926993#32,338241895#32,666307205#32,773529912#32,1294757372#32,1396182291#32,1695183700#32,1986661051#32,2177026350#32,2456956037#32,2730485921#32,2820302411#32,3259730800#32,3345764771#32,3516065817#32,3600352804#32,4094571909#32,275423344#32,430227734#32,506948616#32,659060556#32,883997877#32,958139571#32,1322822218#32,1537002063#32,1747873779#32,1955562222#32,2024104815#32,2227730452#32,2361852424#32,2428436474#32,2756734187#32,3204031479#32,3329325298#32]
theorem kWords_len:kWords.length=64:=by decide
def kW (i:Nat):BitVec 32:=kWords[i]?.getD 0#32
theorem kW_at (i:Nat) (h:i<64):kWords[i]? =some (kW i):=by
 unfold kW
 rw[List.getElem?_eq_getElem (by rw[kWords_len];exact h)];rfl
def kCells:Array Value:=(kWords.map u32).toArray
theorem kCells_at (i:Nat) (h:i<64):kCells[i]? =some (.int .u32 (iv32 (kW i))):=by
 unfold kCells
 rw[List.getElem?_toArray,List.getElem?_map,kW_at i h];rfl
theorem constant_any (i:Nat) (hi:i<64) (w:World):
 Calls Tryz.prog 129 #[.int .i64 (i:Int)] w fun e w'=>e= .returned (u32 (kW i))∧Below w.heap.size w w':=by
 go_enter Tryz.func129,Tryz.ntmps129
 go_upto_region 2 with fail
 refine X9z (fun w'=>Hid (Blk w' w.heap.size 30 kCells)∧Below w.heap.size w w') ⟨Lib.hid (by have:=Blk.new w 30 kCells;exact this),(Below.refl _ _).alloc (Nat.le_refl _) _⟩ ?_
 rintro w1 ⟨hb1,hbel1⟩
 have hc:w1.cell? ⟨w.heap.size,i,none⟩=some (.int .u32 (iv32 (kW i))):=by rw[hb1.out.cell];exact kCells_at i hi
 have hi0:(0:Int)≤(i:Int):=by omega
 have hi1:(i:Int)<64:=by omega
 go_wp2
 go_ret
 exact⟨rfl,hbel1⟩
theorem and31:∀k:Fin 32,0<k.val→bits BinOp.and IntKind.u64 (IntKind.u64.wrap (-(k.val:Int))) 31=((32-k.val:Nat):Int):=by
 decide+kernel
theorem rot32_any (x:BitVec 32) (k:Nat) (h0:0<k) (h1:k<32) (w:World):
 Calls Tryz.prog 155 #[u32 x,.int .i64 (-(k:Int))] w fun e w'=>e= .returned (u32 (rr x k))∧w'=w:=by
 have ha:=and31 ⟨k,h1⟩ h0
 simp only[]at ha
 obtain⟨s,hs⟩:∃s:Nat,s=32-k:=⟨_,rfl⟩
 rw[←hs]at ha
 have hs1:s<32:=by omega
 have hs2:((32:Int)-(s:Int))=(k:Int):=by omega
 have hk0:(0:Int)≤(32:Int)-(s:Int):=by omega
 go_enter Tryz.func155,Tryz.ntmps155
 go_wp2
 go_ret
 refine⟨ret_int ?_,rfl⟩
 show bits BinOp.or IntKind.u32 (iv32 x*2 ^ (32-k) % 4294967296) (iv32 x / 2 ^ (32-(32-k)))=iv32 (rr x k)
 rw[show 32-(32-k)=k by omega,← wrapU32,shlp32,shrp32,or32,rr_or x k h1]
theorem xor3_any (x:BitVec 32) (a b:Nat) (c:BitVec 32) (ha0:0<a) (ha:a<32) (hb0:0<b) (hb:b<32) (w:World):
 Calls Tryz.prog 154 #[u32 x,.int .i64 (a:Int),.int .i64 (b:Int),u32 c] w fun e w'=>e= .returned (u32 ((rr x a ^^^ rr x b) ^^^ c))∧w'=w:=by
 have x1:=xor32 (rr x a) (rr x b)
 have x2:=xor32 (rr x a ^^^ rr x b) c
 go_enter Tryz.func154,Tryz.ntmps154
 go_wp2_with fail
 refine(rot32_any x a ha0 ha _).mono ?_
 rintro e w1 ⟨rfl,hw1⟩
 replace hw1:=hw1.symm
 subst hw1
 go_wp2_with fail
 refine(rot32_any x b hb0 hb _).mono ?_
 rintro e w1 ⟨rfl,hw1⟩
 replace hw1:=hw1.symm
 subst hw1
 go_wp2
 go_ret
 exact⟨rfl,rfl⟩
end
section
open Go.RowKit
def sm0 (x:BitVec 32):BitVec 32:=(rr x 7 ^^^ rr x 18) ^^^ (x >>> 3)
def sm1 (x:BitVec 32):BitVec 32:=(rr x 17 ^^^ rr x 19) ^^^ (x >>> 10)
def beTo (bs:List (BitVec 8)) (at0:Nat):Nat→BitVec 32
 |0=>0#32
 |k+1=>beTo bs at0 k*256#32+(bs[at0+k]?.getD 0#8).setWidth 32
def atW (l:List (BitVec 32)) (i:Nat):BitVec 32:=l[i]?.getD 0#32
def nextW (l:List (BitVec 32)) (i:Nat):BitVec 32:=atW l (i-16)+sm0 (atW l (i-15))+atW l (i-7)+sm1 (atW l (i-2))
def wl (bs:List (BitVec 8)):Nat→List (BitVec 32)
 |0=>[]
 |i+1=>wl bs i++[if i<16 then beTo bs (4*i) 4 else nextW (wl bs i) i]
theorem wl_len (bs:List (BitVec 8)) (i:Nat):(wl bs i).length=i:=by
 induction i with
 |zero=>rfl
 |succ i ih=>simp[wl,ih]
def Xuz (l:List (BitVec 32)) (x:BitVec 32):Array Value:=(l.map u32++(u32 x ::List.replicate (63-l.length) (u32 0#32))).toArray
theorem XZz (l:List (BitVec 32)) (x:BitVec 32) (i:Nat) (h:i<l.length):(Xuz l x)[i]? =some (.int .u32 (iv32 (atW l i))):=by
 unfold Xuz atW
 rw[List.getElem?_toArray,List.getElem?_append_left (by simpa using h),List.getElem?_map,List.getElem?_eq_getElem h]
 rfl
theorem wCells_here (l:List (BitVec 32)) (x:BitVec 32):(Xuz l x)[l.length]? =some (.int .u32 (iv32 x)):=by
 unfold Xuz
 rw[List.getElem?_toArray,List.getElem?_append_right (by simp)]
 simp
theorem wCells_set (l:List (BitVec 32)) (x y:BitVec 32):(Xuz l x).setIfInBounds l.length (.int .u32 (iv32 y))=Xuz l y:=by
 unfold Xuz
 rw[List.setIfInBounds_toArray,List.set_append_right _ _ (by simp)]
 simp
theorem wCells_next (l:List (BitVec 32)) (x:BitVec 32) (h:l.length<63):Xuz l x=Xuz (l++[x]) 0#32:=by
 unfold Xuz
 simp only[List.map_append,List.append_assoc,List.length_append,List.length_singleton]
 rw[show 63-l.length=(63-(l.length+1))+1 by omega,List.replicate_succ]
 rfl
def wAll (l:List (BitVec 32)):Array Value:=(l.map u32).toArray
theorem wCells_last (l:List (BitVec 32)) (x:BitVec 32) (h:l.length=63):Xuz l x=wAll (l++[x]):=by
 unfold Xuz wAll
 rw[h]
 simp
def wDone (l:List (BitVec 32)):Array Value:=if l.length<64 then Xuz l 0#32 else wAll l
theorem wDone_next (l:List (BitVec 32)) (x:BitVec 32) (h:l.length<64):Xuz l x=wDone (l++[x]):=by
 unfold wDone
 by_cases h1:l.length<63
 ·rw[if_pos (by simp;omega)];exact wCells_next l x h1
 ·rw[if_neg (by simp;omega)];exact wCells_last l x (by omega)
theorem zero_of2 {P:Program} {t:TypeId} {z:Value} (h:(P.info? t).map (·.zero)=some (some z)):∀w,(zeroValue t).run P w= .ok z w:=by
 intro w
 cases hi:P.info? t with
 |none=>rw[hi]at h;cases h
 |some i=>
  rw[hi]at h
  simp only[Option.map_some,Option.some.injEq]at h
  simp[zeroValue,typeInfo,hi,h,go_sem]
theorem zero64:∀w,(zeroValue 214).run Tryz.prog w= .ok (.agg (wDone [])) w:=zero_of2 (by kernel_rfl)
theorem Blk.range64 {w:World} {g:Nat} {t:TypeId} {l:List (BitVec 32)} (h:Blk w g t (wAll l)):w.rangeAt g 0 (l.map u32):=fun j v hj=>by
 rw[Nat.zero_add,h.cell,wAll,List.getElem?_toArray];exact hj
theorem wAll_size (bs:List (BitVec 8)):(wAll (wl bs 64)).size=64:=by rw[wAll,List.size_toArray,List.length_map,wl_len]
theorem wAll_info (bs:List (BitVec 8)):(Tryz.prog.info? 214).map (·.size)=some (wAll (wl bs 64)).size:=by rw[wAll_size];kernel_rfl
theorem wAll_one (bs:List (BitVec 8)):(wAll (wl bs 64)).all (·.oneCell')=true:=by
 rw[wAll,List.all_toArray];simp[Value.oneCell']
theorem spread_any (p:Option Addr) (c:Nat) (bs:List (BitVec 8)) (w:World) (hn:bs.length=64) (hr:Row8 w p bs):
 Calls Tryz.prog 127 #[.slice p 64 c] w fun e w'=>e= .returned (.agg (wAll (wl bs 64)))∧Below w.heap.size w w':=by
 have HN:=Lib.hid hn
 obtain⟨bb,of,rfl,hbl,hcell⟩:=hr (fun e=>by rw[e]at hn;simp at hn)
 have hz:=zero64
 obtain⟨Z,hZ⟩:∃Z,Z=wDone []:=⟨_,rfl⟩
 rw[←hZ]at hz
 have HZ:=Lib.hid hZ
 clear hZ hn
 go_enter Tryz.func127,Tryz.ntmps127
 go_upto_region 2 with fail
 refine X9z (fun w'=>Hid (Blk w' w.heap.size 214 Z)∧Hid (Blk w' (w.heap.size+1) 214 (wDone (wl bs 0)))∧Below w.heap.size w w')
  ⟨Lib.hid ((Blk.new w _ _).alloc _),Lib.hid (by rw[show wDone (wl bs 0)=Z from HZ.out.symm];exact Blk.new2 w _ _ _),((Below.refl _ _).alloc (Nat.le_refl _) _).alloc (by simp) _⟩ ?_
 rintro w1 ⟨hk0,hk1,hbel1⟩
 have hr1:=hr.below hbel1 (Nat.le_refl _)
 go_wp2_with fail
 go_loopw[8] (fun i wr=>∃k:Nat,k≤64∧i= .int .i64 k∧Hid (Blk wr (w.heap.size+1) 214 (wDone (wl bs k)))∧Hid (Blk wr w.heap.size 214 Z)∧Below w.heap.size w wr) (fun i _=>64-(intOf i).toNat)
 case atStart=>exact⟨0,by omega,rfl,hk1,hk0,hbel1⟩
 case round=>
  obtain⟨k,hk,rfl,hb1,hb0,hbel⟩:=hrel
  clear hk0 hk1 hbel1 hr1
  have hlt1:=hb1.out.lt
  by_cases hk64:k<64
  ·have hlt:(k:Int)<64:=by omega
   obtain⟨l,hl⟩:∃l,l=wl bs k:=⟨_,rfl⟩
   have hll:l.length=k:=by rw[hl,wl_len]
   have hwd:wDone (wl bs k)=Xuz l 0#32:=by rw[←hl];unfold wDone;rw[if_pos (by omega)]
   rw[hwd]at hb1
   have HLL:=Lib.hid hll
   have HL:=Lib.hid hl
   clear hwd hll hl
   by_cases hk16:k<16
   ·have hlt16:(k:Int)<16:=by omega
    go_wp2
    go_loopw[13] (fun j wr2=>∃m:Nat,m≤4∧j= .int .i64 m∧Hid (Blk wr2 (w.heap.size+1) 214 (Xuz l (beTo bs (4*k) m)))∧Hid (Blk wr2 w.heap.size 214 Z)∧Below w.heap.size w wr2) (fun j _=>4-(intOf j).toNat)
    case atStart=>exact⟨0,by omega,rfl,hb1,hb0,hbel⟩
    case round=>
     obtain⟨m,hm,rfl,hb2,hb02,hbel2⟩:=hrel
     clear hb1 hb0 hbel
     by_cases hm4:m<4
     ·have hltm:(m:Int)<4:=by omega
      have hc1:=hb2.out.cell k
      have hcc:=wCells_here l (beTo bs (4*k) m)
      rw[HLL.out]at hcc
      rw[hcc]at hc1
      obtain⟨x,hx⟩:∃x,bs[4*k+m]? =some x:=⟨bs[4*k+m]'(by rw[HN.out];omega),List.getElem?_eq_getElem _⟩
      have hrow2:=hr.below hbel2 (Nat.le_refl _)
      obtain⟨bb',of',e',_,hcell2⟩:=hrow2 (fun e=>by have:=HN.out;rw[e]at this;simp at this)
      injection e' with e'
      injection e' with e1 e2 _
      subst e1
      subst e2
      have hc2:=hcell2 _ x hx
      have hf1:=hb2.out.frozen k
      have hstep:beTo bs (4*k) (m+1)=beTo bs (4*k) m*256#32+x.setWidth 32:=by rw[beTo,hx];rfl
      have HST:=Lib.hid hstep
      have s1:IntKind.u32.wrap (iv32 (beTo bs (4*k) m)*256)=iv32 (beTo bs (4*k) m*256#32):=mul32 _ 256#32
      have s2:=XRz x
      have s3:=add32 (beTo bs (4*k) m*256#32) (x.setWidth 32)
      have i1:(4:Int)*(k:Int)+(m:Int)<64:=by omega
      have i0:(0:Int)≤(4:Int)*(k:Int)+(m:Int):=by omega
      clear hcell2 hcc hstep hx hrow2
      have w1:IntKind.i64.wrap (4*(k:Int))=4*(k:Int):=by rw[IntKind.wrap_i64];omega
      have w2:IntKind.i64.wrap (4*(k:Int)+(m:Int))=4*(k:Int)+(m:Int):=by rw[IntKind.wrap_i64];omega
      have n1:(4*(k:Int)+(m:Int)).toNat=4*k+m:=by omega
      go_wp2
      refine QZz 15 (by kernel_rfl) (by kernel_rfl) ?_
      simp only[List.take_succ_cons,List.take_zero,List.drop_succ_cons,List.drop_zero]
      repeat (go_big_quiet_step (fail))
      refine wpQuiet_nil ?_
      rintro _ ⟨nq,rfl⟩
      clear s1 s2 s3 hc2
      go_wp2
      go_roundw
      case rel=>
       refine⟨m+1,by omega,by go_num,Lib.hid ?_,Lib.hid ?_,?_⟩
       ·rw[HST.out]
        have:=(hb2.out.drewN nq).set k (.int .u32 (iv32 (beTo bs (4*k) m*256#32+x.setWidth 32)))
        have e:=wCells_set l (beTo bs (4*k) m) (beTo bs (4*k) m*256#32+x.setWidth 32)
        rw[HLL.out]at e
        rw[e]at this
        exact this
       ·exact(hb02.out.drewN nq).far (by simp) _
       ·exact(Q7z hbel2 nq).setCell (by simp) _
      case measure=>simp[intOf];omega
     ·have hm4':m=4:=by omega
      subst hm4'
      have hwn:Xuz l (beTo bs (4*k) 4)=wDone (wl bs (k+1)):=by
       rw[wDone_next l _ (by rw[HLL.out];omega),wl,if_pos hk16,← HL.out]
      rw[hwn]at hb2
      have hge4:¬((4:Nat):Int)<4:=by omega
      clear hwn
      go_wp2
      go_roundw
      case rel=>exact⟨k+1,by omega,by go_num,hb2,hb02,hbel2⟩
      case measure=>simp[intOf];omega
   ·have hge16:¬(k:Int)<16:=by omega
    go_upto_region 11 with fail
    have hnx:nextW l k=atW l (k-16)+sm0 (atW l (k-15))+atW l (k-7)+sm1 (atW l (k-2)):=rfl
    have HNX:=Lib.hid hnx
    have e16:IntKind.i64.wrap ((k:Int)-16)=(k:Int)-16:=by rw[IntKind.wrap_i64];omega
    have n16:((k:Int)-16).toNat=k-16:=by omega
    have p16:(0:Int)≤(k:Int)-16:=by omega
    have q16:(k:Int)-16<64:=by omega
    have c16:wr.cell? ⟨w.heap.size+1,k-16,none⟩=some (.int .u32 (iv32 (atW l (k-16)))):=by rw[hb1.out.cell];exact XZz l _ _ (by rw[HLL.out];omega)
    have e15:IntKind.i64.wrap ((k:Int)-15)=(k:Int)-15:=by rw[IntKind.wrap_i64];omega
    have n15:((k:Int)-15).toNat=k-15:=by omega
    have p15:(0:Int)≤(k:Int)-15:=by omega
    have q15:(k:Int)-15<64:=by omega
    have c15:wr.cell? ⟨w.heap.size+1,k-15,none⟩=some (.int .u32 (iv32 (atW l (k-15)))):=by rw[hb1.out.cell];exact XZz l _ _ (by rw[HLL.out];omega)
    have e7:IntKind.i64.wrap ((k:Int)-7)=(k:Int)-7:=by rw[IntKind.wrap_i64];omega
    have n7:((k:Int)-7).toNat=k-7:=by omega
    have p7:(0:Int)≤(k:Int)-7:=by omega
    have q7:(k:Int)-7<64:=by omega
    have c7:wr.cell? ⟨w.heap.size+1,k-7,none⟩=some (.int .u32 (iv32 (atW l (k-7)))):=by rw[hb1.out.cell];exact XZz l _ _ (by rw[HLL.out];omega)
    have e2:IntKind.i64.wrap ((k:Int)-2)=(k:Int)-2:=by rw[IntKind.wrap_i64];omega
    have n2:((k:Int)-2).toNat=k-2:=by omega
    have p2:(0:Int)≤(k:Int)-2:=by omega
    have q2:(k:Int)-2<64:=by omega
    have c2:wr.cell? ⟨w.heap.size+1,k-2,none⟩=some (.int .u32 (iv32 (atW l (k-2)))):=by rw[hb1.out.cell];exact XZz l _ _ (by rw[HLL.out];omega)
    have hf1:=hb1.out.frozen k
    have ck:wr.cell? ⟨w.heap.size+1,k,none⟩=some (.int .u32 (iv32 0#32)):=by rw[hb1.out.cell];have:=wCells_here l 0#32;rw[HLL.out]at this;exact this
    obtain⟨X,hX⟩:∃X,X=atW l (k-15):=⟨_,rfl⟩
    obtain⟨Y,hY⟩:∃Y,Y=atW l (k-2):=⟨_,rfl⟩
    obtain⟨A,hA⟩:∃A,A=atW l (k-16):=⟨_,rfl⟩
    obtain⟨B,hB⟩:∃B,B=atW l (k-7):=⟨_,rfl⟩
    rw[←hX]at c15
    rw[←hY]at c2
    rw[←hA]at c16
    rw[←hB]at c7
    have HN2:Hid (nextW l k=A+sm0 X+B+sm1 Y):=Lib.hid (by rw[hA,hX,hB,hY];rfl)
    clear hX hY hA hB hnx
    go_quiet (fail)
    clear e16 n16 p16 q16 e7 n7 p7 q7 e15 n15 p15 q15 e2 n2 p2 q2
    go_upto_region 12 with fail
    obtain⟨W,hW⟩:∃W,W=wr.drewN nq:=⟨_,rfl⟩
    rw[←hW]
    have hB1:Hid (Blk W (w.heap.size+1) 214 (Xuz l 0#32)):=Lib.hid (by rw[hW];exact hb1.out)
    have hB0:Hid (Blk W w.heap.size 214 Z):=Lib.hid (by rw[hW];exact hb0.out)
    have hBel:Below w.heap.size w W:=by rw[hW];exact Q7z hbel nq
    have C16:W.cell? ⟨w.heap.size+1,k-16,none⟩=some (.int .u32 (iv32 A)):=by rw[hW];exact c16
    have C7:W.cell? ⟨w.heap.size+1,k-7,none⟩=some (.int .u32 (iv32 B)):=by rw[hW];exact c7
    have CK:W.cell? ⟨w.heap.size+1,k,none⟩=some (.int .u32 (iv32 0#32)):=by rw[hW];exact ck
    have F1:=hB1.out.frozen k
    clear hW hf1 ck c15 c2 c16 c7
    have e16:IntKind.i64.wrap ((k:Int)-16)=(k:Int)-16:=by rw[IntKind.wrap_i64];omega
    have n16:((k:Int)-16).toNat=k-16:=by omega
    have p16:(0:Int)≤(k:Int)-16:=by omega
    have q16:(k:Int)-16<64:=by omega
    have e7:IntKind.i64.wrap ((k:Int)-7)=(k:Int)-7:=by rw[IntKind.wrap_i64];omega
    have n7:((k:Int)-7).toNat=k-7:=by omega
    have p7:(0:Int)≤(k:Int)-7:=by omega
    have q7:(k:Int)-7<64:=by omega
    have T:∀(Z:BitVec 32) (s:Nat) (s1:Int),s1=(s:Int)→s<32→∀j,Calls Tryz.prog 128 #[.int .u32 (iv32 Z),.int .i64 s1] (W.drewN j) fun e w''=>e= .returned (.int .u32 (iv32 (rr Z s)))∧∃m,w''=W.drewN m:=by
     intro Z s s1 e hs j
     subst e
     exact(turned_any Z s hs (W.drewN j)).mono fun _ _ ⟨he,hm⟩=>⟨he,j,hm⟩
    have T7:=T X 7 7 rfl (by omega)
    have T18:=T X 18 18 rfl (by omega)
    have T17:=T Y 17 17 rfl (by omega)
    have T19:=T Y 19 19 rfl (by omega)
    have x1:=xor32 (rr X 7) (rr X 18)
    have x2:bits .xor .u32 (iv32 (rr X 7 ^^^ rr X 18)) (iv32 (X >>> 3))=iv32 (sm0 X):=by unfold sm0;exact xor32 _ _
    have x3:=xor32 (rr Y 17) (rr Y 19)
    have x4:bits .xor .u32 (iv32 (rr Y 17 ^^^ rr Y 19)) (iv32 (Y >>> 10))=iv32 (sm1 Y):=by unfold sm1;exact xor32 _ _
    have h1:=shr32 X 3 8 (by rfl)
    have h2:=shr32 Y 10 1024 (by rfl)
    have a1:=add32 A (sm0 X)
    have a2:=add32 (A+sm0 X) B
    have a3:=add32 (A+sm0 X+B) (sm1 Y)
    clear T
    refine QZz 29 (by kernel_rfl) (by kernel_rfl) ?_
    simp only[List.take_succ_cons,List.take_zero,List.drop_succ_cons,List.drop_zero]
    iterate 7 (go_big_quiet_step (exact T7 _))
    iterate 2 (go_big_quiet_step (exact T18 _))
    iterate 12 (go_big_quiet_step (exact T17 _))
    iterate 2 (go_big_quiet_step (exact T19 _))
    iterate 6 (go_big_quiet_step (exact T19 _))
    refine wpQuiet_nil ?_
    rintro _ ⟨nq,rfl⟩
    clear e16 n16 p16 q16 e7 n7 p7 q7 T7 T18 T17 T19 x1 x2 x3 x4 h1 h2 a1 a2 a3 C16 C7
    go_wp2
    go_roundw
    case rel=>
     refine⟨k+1,by omega,by go_num,Lib.hid ?_,Lib.hid ?_,?_⟩
     ·have:=(hB1.out.drewN nq).set k (.int .u32 (iv32 (A+sm0 X+B+sm1 Y)))
      have e:=wCells_set l 0#32 (A+sm0 X+B+sm1 Y)
      rw[HLL.out]at e
      rw[e,wDone_next l _ (by rw[HLL.out];omega)]at this
      rw[wl,if_neg hk16,← HL.out,HN2.out]
      exact this
     ·exact(hB0.out.drewN nq).far (by simp) _
     ·exact(Q7z hBel nq).setCell (by simp) _
    case measure=>simp[intOf];omega
  ·have hk64':k=64:=by omega
   subst hk64'
   have hge:¬((64:Nat):Int)<64:=by omega
   have hwd:wDone (wl bs 64)=wAll (wl bs 64):=by unfold wDone;rw[if_neg (by rw[wl_len];omega)]
   rw[hwd]at hb1
   have hlen:Hid ((wl bs 64).length=64):=Lib.hid (wl_len bs 64)
   clear hwd
   have hrg:=hb1.out.range64
   have hZs:Hid (Z.size=64):=Lib.hid (by rw[HZ.out];rfl)
   go_wp2_with(first
    |(with_reducible refine wpList_load_mid (op:=⟨some 70,_,_,_,_,_⟩) ?_ 214 (.tmp 3) ?_ (w.heap.size+1) 0 ?_ ((wl bs 64).map Go.Proofs.YtjbijcjcejfpcaaGreatDoor.u32) _ hrg Tryz.underlying214 ?_ ?_ ?_
      ·rfl
      ·rfl
      ·rfl
      ·rfl
      ·rw[List.length_map,hlen.out];kernel_rfl)
    |(with_reducible refine Q4z (o:=⟨none,_,_,_,_,_⟩) ?_ 214 (.tmp 2) (.tmp 70) ?_ w.heap.size 214 Z (wAll (wl bs 64)) ?_ ?_ hb0.out ?_ ?_ ?_ w.heap.size w hbel ?_ ?_
      ·rfl
      ·rfl
      ·rfl
      ·rfl
      ·exact wAll_info bs
      ·exact hZs.out.trans (wAll_size bs).symm
      ·exact wAll_one bs
      ·exact Nat.le_refl _
      intro w6 hb6 hbel6 _ _))
   refine bodyPost_ret (Qqz rfl _ _ _ w.heap.size _ ((wl bs 64).map Go.Proofs.YtjbijcjcejfpcaaGreatDoor.u32) _ rfl hb6.out Tryz.underlying214 rfl (by rw[List.length_map,hlen.out];kernel_rfl)) rfl ?_
   exact⟨rfl,hbel6⟩
end
section
open Go.RowKit
structure S8 where
 a:BitVec 32
 b:BitVec 32
 c:BitVec 32
 d:BitVec 32
 e:BitVec 32
 f:BitVec 32
 g:BitVec 32
 h:BitVec 32
def S8.list (s:S8):List (BitVec 32):=[s.a,s.b,s.c,s.d,s.e,s.f,s.g,s.h]
def S8.cells (s:S8):List Value:=s.list.map u32
def bg0 (a:BitVec 32):BitVec 32:=(rr a 2 ^^^ rr a 13) ^^^ rr a 22
def bg1 (e:BitVec 32):BitVec 32:=(rr e 6 ^^^ rr e 11) ^^^ rr e 25
def chP (e f g:BitVec 32):BitVec 32:=(e &&& f) ^^^ (~~~e &&& g)
def mjP (a b c:BitVec 32):BitVec 32:=((a &&& b) ^^^ (a &&& c)) ^^^ (b &&& c)
def S8.t1 (s:S8) (k:Nat) (x:BitVec 32):BitVec 32:=s.h+bg1 s.e+chP s.e s.f s.g+kW k+x
def S8.t2 (s:S8):BitVec 32:=bg0 s.a+mjP s.a s.b s.c
def S8.round (s:S8) (k:Nat) (x:BitVec 32):S8:=⟨s.t1 k x+s.t2,s.a,s.b,s.c,s.d+s.t1 k x,s.e,s.f,s.g⟩
def S8.rounds (s:S8) (ws:List (BitVec 32)):Nat→S8
 |0=>s
 |k+1=>(s.rounds ws k).round k (atW ws k)
def shC (s:S8) (j:Nat):Array Value:=((s.list.take (j+1)++(s.list.drop j).take (7-j)).map u32).toArray
def atS (s:S8) (i:Nat):BitVec 32:=atW s.list i
theorem shC_seven (s:S8):shC s 7=s.cells.toArray:=rfl
theorem shC_at (s:S8) (j:Nat) (h0:0<j) (h:j≤7):(shC s j)[j-1]? =some (.int .u32 (iv32 (atS s (j-1)))):=by
 obtain⟨a,b,c,d,e,f,g,h⟩:=s
 match j,h0,h with
 |1,_,_|2,_,_|3,_,_|4,_,_|5,_,_|6,_,_|7,_,_=>rfl
theorem shC_here (s:S8) (j:Nat) (h:j≤7):(shC s j)[j]? =some (.int .u32 (iv32 (atS s j))):=by
 obtain⟨a,b,c,d,e,f,g,h⟩:=s
 match j,h with
 |0,_|1,_|2,_|3,_|4,_|5,_|6,_|7,_=>rfl
theorem shC_set (s:S8) (j:Nat) (h0:0<j) (h:j≤7):(shC s j).setIfInBounds j (.int .u32 (iv32 (atS s (j-1))))=shC s (j-1):=by
 obtain⟨a,b,c,d,e,f,g,h⟩:=s
 match j,h0,h with
 |1,_,_|2,_,_|3,_,_|4,_,_|5,_,_|6,_,_|7,_,_=>rfl
theorem shC_end (s:S8) (x y:BitVec 32):((shC s 0).setIfInBounds 0 (.int .u32 (iv32 x))).setIfInBounds 4 (.int .u32 (iv32 y))=(S8.cells ⟨x,s.a,s.b,s.c,y,s.e,s.f,s.g⟩).toArray:=by
 obtain⟨a,b,c,d,e,f,g,h⟩:=s
 rfl
def zero8L:List Value:=S8.cells ⟨0#32,0#32,0#32,0#32,0#32,0#32,0#32,0#32⟩
theorem zero8:∀w,(zeroValue 174).run Tryz.prog w= .ok (.agg zero8L.toArray) w:=zero_of2 (by kernel_rfl)
theorem S8.cells_len (s:S8):s.cells.length=8:=rfl
theorem S8.cells_one (s:S8):s.cells.toArray.all (·.oneCell')=true:=by
 rw[List.all_toArray,S8.cells];simp[Value.oneCell']
theorem S8.info (s:S8):(Tryz.prog.info? 174).map (·.size)=some s.cells.toArray.size:=by rw[List.size_toArray,S8.cells_len];kernel_rfl
theorem Blk.range8 {w:World} {g:Nat} {t:TypeId} {cs:List Value} (h:Blk w g t cs.toArray):w.rangeAt g 0 cs:=fun j v hj=>by
 rw[Nat.zero_add,h.cell,List.getElem?_toArray];exact hj
theorem not32 (x:BitVec 32):bits BinOp.xor IntKind.u32 (if IntKind.u32.signed=true then-1 else IntKind.u32.max) (iv32 x)=iv32 (~~~x):=by
 have:=xor32 (BitVec.allOnes 32) x
 rw[BitVec.allOnes_xor]at this
 exact this
theorem S8.infoL (s:S8):(Tryz.prog.info? 174).map (·.size)=some s.cells.length:=by rw[S8.cells_len];kernel_rfl
def SBw (w2 w':World):Prop:=Below w2.heap.size w2 w'
theorem SBw.drew {w2 w':World} (h:SBw w2 w'):SBw w2 w'.drew:=Below.drew h
theorem SBw.drewN {w2 w':World} (h:SBw w2 w') (k:Nat):SBw w2 (w'.drewN k):=Q7z h k
theorem SBw.refl (w2:World):SBw w2 w2:=Below.refl _ _
theorem wAll_at (l:List (BitVec 32)) (i:Nat) (h:i<l.length):(wAll l)[i]? =some (.int .u32 (iv32 (atW l i))):=by
 unfold wAll atW
 rw[List.getElem?_toArray,List.getElem?_map,List.getElem?_eq_getElem h]
 rfl
theorem act_put_someD (cs:Array Value) (ds:List Deferred) (n:Nat) (v:Value):(Act.mk cs ds).put (some n) v=⟨cs.setIfInBounds n v,ds⟩:=rfl
def S8.add (s t:S8):S8:=⟨s.a+t.a,s.b+t.b,s.c+t.c,s.d+t.d,s.e+t.e,s.f+t.f,s.g+t.g,s.h+t.h⟩
def adC (v s:S8) (q:Nat):Array Value:=(((v.add s).list.take q++v.list.drop q).map u32).toArray
theorem adC_zero (v s:S8):adC v s 0=v.cells.toArray:=rfl
theorem adC_end (v s:S8):adC v s 8=(v.add s).cells.toArray:=rfl
theorem adC_here (v s:S8) (q:Nat) (h:q<8):(adC v s q)[q]? =some (.int .u32 (iv32 (atS v q))):=by
 match q,h with
 |0,_|1,_|2,_|3,_|4,_|5,_|6,_|7,_=>rfl
theorem cells_here (s:S8) (q:Nat) (h:q<8):s.cells.toArray[q]? =some (.int .u32 (iv32 (atS s q))):=by
 match q,h with
 |0,_|1,_|2,_|3,_|4,_|5,_|6,_|7,_=>rfl
theorem adC_set (v s:S8) (q:Nat) (h:q<8):(adC v s q).setIfInBounds q (.int .u32 (iv32 (atS v q+atS s q)))=adC v s (q+1):=by
 match q,h with
 |0,_|1,_|2,_|3,_|4,_|5,_|6,_|7,_=>rfl
def S8.mix (s:S8) (bs:List (BitVec 8)):S8:=(s.rounds (wl bs 64) 64).add s
theorem mix_any (s:S8) (p:Option Addr) (c:Nat) (bs:List (BitVec 8)) (w:World) (hn:bs.length=64) (hr:Row8 w p bs):
 Calls Tryz.prog 97 #[.agg s.cells.toArray,.slice p 64 c] w fun e w'=>e= .returned (.agg (s.mix bs).cells.toArray)∧Below w.heap.size w w':=by
 have HN:=Lib.hid hn
 have hz8:=zero8
 have hz64:=zero64
 obtain⟨Z,hZ⟩:∃Z,Z=zero8L.toArray:=⟨_,rfl⟩
 obtain⟨Y,hY⟩:∃Y,Y=wDone []:=⟨_,rfl⟩
 obtain⟨S,hS⟩:∃S,S=s.cells.toArray:=⟨_,rfl⟩
 rw[←hZ]at hz8
 rw[←hY]at hz64
 rw[←hS]
 have HZ:=Lib.hid hZ
 have HY:=Lib.hid hY
 have HS:=Lib.hid hS
 clear hZ hY hS hn
 go_enter Tryz.func97,Tryz.ntmps97
 go_upto_region 1 with fail
 refine X9z (fun w'=>Hid (Blk w' w.heap.size 174 s.cells.toArray)∧Hid (Blk w' (w.heap.size+1) 174 Z)∧Below w.heap.size w w')
  ⟨Lib.hid (by rw[←HS.out];exact(Blk.new w _ _).alloc _),Lib.hid (by exact Blk.new2 w _ _ _),((Below.refl _ _).alloc (Nat.le_refl _) _).alloc (by simp) _⟩ ?_
 rintro w1 ⟨hs1,hz1,hbel1⟩
 have hr1:=hr.below hbel1 (Nat.le_refl _)
 go_wp2_with fail
 refine(spread_any p c bs _ HN.out hr1).mono ?_
 rintro e w2 ⟨rfl,hbel2⟩
 have hlt:=hz1.out.lt
 have hs2:=Lib.hid (hs1.out.below hbel2 (by omega))
 have hz2:=Lib.hid (hz1.out.below hbel2 hlt)
 have hbw2:=hbel1.trans (hbel2.mono hbel1.size)
 obtain⟨ws,hws⟩:∃ws,ws=wl bs 64:=⟨_,rfl⟩
 rw[←hws]
 have HW:=Lib.hid hws
 have hYs:Hid (Y.size=64):=Lib.hid (by rw[HY.out];rfl)
 have hwi:=wAll_info bs
 have hws1:=wAll_size bs
 have hwo:=wAll_one bs
 rw[←hws]at hwi hws1 hwo
 have HI:=Lib.hid hwi
 have HS1:=Lib.hid hws1
 have HO:=Lib.hid hwo
 clear hws hs1 hz1 hbel1 hbel2 hr1 hwi hws1 hwo
 have hlt2:=hz2.out.lt
 go_wp2_with(first
  |(with_reducible refine Q4z (o:=⟨none,_,_,_,_,_⟩) ?_ 214 (.tmp 5) (.tmp 14) ?_ w2.heap.size 214 Y (wAll ws) ?_ ?_ (Blk.new w2 _ _) ?_ ?_ ?_ w2.heap.size w2 ?_ ?_ ?_
    ·rfl
    ·rfl
    ·rfl
    ·rfl
    ·exact HI.out
    ·exact hYs.out.trans HS1.out.symm
    ·exact HO.out
    ·exact(Below.refl _ _).alloc (Nat.le_refl _) _
    ·exact Nat.le_refl _
    intro w3 hw3 hbel3 _ _
    have hrg3:=(hs2.out.below hbel3 (by omega)).range8
    have hs3:=Lib.hid (hs2.out.below hbel3 (by omega))
    have hz3:=Lib.hid (hz2.out.below hbel3 hlt2)
    have hlt3:=hw3.out.lt)
  |(with_reducible refine wpList_load_mid (op:=⟨some 15,_,_,_,_,_⟩) ?_ 174 (.tmp 2) ?_ w.heap.size 0 ?_ s.cells _ hrg3 Tryz.underlying174 ?_ ?_ ?_
    ·rfl
    ·rfl
    ·rfl
    ·rfl
    ·exact S8.infoL s)
  |(with_reducible refine Q4z (o:=⟨none,_,_,_,_,_⟩) ?_ 174 (.tmp 6) (.tmp 15) ?_ w3.heap.size 174 Z s.cells.toArray ?_ ?_ (Blk.new w3 _ _) ?_ ?_ ?_ w3.heap.size w3 ?_ ?_ ?_
    ·rfl
    ·rfl
    ·rfl
    ·rfl
    ·exact S8.info s
    ·rw[HZ.out];rfl
    ·exact S8.cells_one s
    ·exact(Below.refl _ _).alloc (Nat.le_refl _) _
    ·exact Nat.le_refl _
    intro w4 hv4 hbel4 _ _))
 have hs4:=Lib.hid (hs3.out.below hbel4 (by omega))
 have hz4:=Lib.hid (hz3.out.below hbel4 (by omega))
 have hw4:=Lib.hid (hw3.out.below hbel4 hlt3)
 have hbw4:=(hbw2.trans (hbel3.mono hbw2.size)).trans (hbel4.mono (Nat.le_trans hbw2.size hbel3.size))
 clear hs2 hz2 hbw2 hrg3 hs3 hz3 hw3 hbel3 hbel4
 generalize w2.heap.size=G5 at*
 generalize w3.heap.size=G6 at*
 clear hz8 hz64 HI HO HS1 hYs HY hlt
 go_loopw[16] (fun i wr=>∃k:Nat,k≤64∧i= .int .i64 k∧Hid (Blk wr G6 174 (s.rounds ws k).cells.toArray)∧Hid (Blk wr G5 214 (wAll ws))∧Hid (Blk wr (w.heap.size+1) 174 Z)∧Hid (Blk wr w.heap.size 174 s.cells.toArray)∧Below w.heap.size w wr) (fun i _=>64-(intOf i).toNat)
 case atStart=>exact⟨0,by omega,rfl,hv4,hw4,hz4,hs4,hbw4⟩
 case round=>
  obtain⟨k,hk,rfl,hv,hw5,hz5,hs5,hbel⟩:=hrel
  clear hv4 hw4 hz4 hs4 hbw4
  by_cases hk64:k<64
  ·have hlt:(k:Int)<64:=by omega
   obtain⟨v,hvv⟩:∃v,v=s.rounds ws k:=⟨_,rfl⟩
   rw[←hvv]at hv
   have HV:=Lib.hid hvv
   clear hvv
   go_upto_region 6 with fail
   have f4:wr.cell? ⟨G6,4,none⟩=some (.int .u32 (iv32 v.e)):=by rw[hv.out.cell];rfl
   have T:∀(x:BitVec 32) (a:Nat) (b:Int),b=(a:Int)→a<32→∀W j,Calls Tryz.prog 128 #[.int .u32 (iv32 x),.int .i64 b] (World.drewN W j) fun e w''=>e= .returned (.int .u32 (iv32 (rr x a)))∧∃m,w''=World.drewN W m:=by
    intro x a b e hs W j
    subst e
    exact(turned_any x a hs (World.drewN W j)).mono fun _ _ ⟨he,hm⟩=>⟨he,j,hm⟩
   have T6:=T v.e 6 6 rfl (by omega) wr
   have T11:=T v.e 11 11 rfl (by omega) wr
   have T25:=T v.e 25 25 rfl (by omega) wr
   have x1:=xor32 (rr v.e 6) (rr v.e 11)
   have x2:bits .xor .u32 (iv32 (rr v.e 6 ^^^ rr v.e 11)) (iv32 (rr v.e 25))=iv32 (bg1 v.e):=by unfold bg1;exact xor32 _ _
   refine quiet_in (fun k=>wr.drewN k) 1 rfl (by kernel_rfl) (by kernel_rfl) ?_
   iterate 3 (go_big_quiet_step (exact T6 _))
   iterate 3 (go_big_quiet_step (exact T11 _))
   iterate 6 (go_big_quiet_step (exact T25 _))
   refine wpQuiet_nil ?_
   rintro _ ⟨nq,rfl⟩
   clear T6 T11 T25 x1 x2 f4
   go_upto_region 7 with fail
   obtain⟨W2,hW2⟩:∃W2,W2=wr.drewN nq:=⟨_,rfl⟩
   rw[←hW2]
   have hv2:Hid (Blk W2 G6 174 v.cells.toArray):=Lib.hid (by rw[hW2];exact hv.out)
   have hw2:Hid (Blk W2 G5 214 (wAll ws)):=Lib.hid (by rw[hW2];exact hw5.out)
   have hz2:Hid (Blk W2 (w.heap.size+1) 174 Z):=Lib.hid (by rw[hW2];exact hz5.out)
   have hs2:Hid (Blk W2 w.heap.size 174 s.cells.toArray):=Lib.hid (by rw[hW2];exact hs5.out)
   have hbel2:Below w.heap.size w W2:=by rw[hW2];exact Q7z hbel nq
   clear hW2 hv hw5 hz5 hs5 hbel
   have hx:atW (wl bs 64) k=atW ws k:=by rw[HW.out]
   have a1:=add32 v.h (bg1 v.e)
   have a2:=add32 (v.h+bg1 v.e) (chP v.e v.f v.g)
   have a3:=add32 (v.h+bg1 v.e+chP v.e v.f v.g) (kW k)
   have a4:=add32 (v.h+bg1 v.e+chP v.e v.f v.g+kW k) (atW ws k)
   have b0:=not32 v.e
   have b1:=and32 v.e v.f
   have b2:=and32 (~~~v.e) v.g
   have b3:bits .xor .u32 (iv32 (v.e &&& v.f)) (iv32 (~~~v.e &&& v.g))=iv32 (chP v.e v.f v.g):=by unfold chP;exact xor32 _ _
   refine' early_mid 18 24 (by omega) (by kernel_rfl) (by kernel_rfl) 117 rfl (by kernel_rfl) (by kernel_rfl) _ rfl rfl (.int .u32 (iv32 (kW k))) (SBw W2) (SBw W2) (SBw.refl _).drew (fun _ h=>h) _ _ ?h1 ?hx ?h2 ?ht
   case h1=>
    intro W hW
    have hvW:Blk W G6 174 v.cells.toArray:=hv2.out.below hW hv2.out.lt
    have f4:W.cell? ⟨G6,4,none⟩=some (.int .u32 (iv32 v.e)):=by rw[hvW.cell];rfl
    have f5:W.cell? ⟨G6,5,none⟩=some (.int .u32 (iv32 v.f)):=by rw[hvW.cell];rfl
    have f6:W.cell? ⟨G6,6,none⟩=some (.int .u32 (iv32 v.g)):=by rw[hvW.cell];rfl
    have f7:W.cell? ⟨G6,7,none⟩=some (.int .u32 (iv32 v.h)):=by rw[hvW.cell];rfl
    simp only[List.take_succ_cons,List.take_zero]
    iterate 18 (go_big_quiet_step (fail))
    refine wpQuiet_nil ?_
    rfl
   case hx=>
    intro j
    simp[go_sem]
    refine(constant_any k hk64 (W2.drewN (1+j))).mono ?_
    rintro e w' ⟨rfl,hb⟩
    exact⟨_,rfl,rfl,(Q7z (Below.refl _ _) _).trans hb⟩
   case h2=>
    intro W hW
    have hwW:Blk W G5 214 (wAll ws):=hw2.out.below hW hw2.out.lt
    have fk:W.cell? ⟨G5,k,none⟩=some (.int .u32 (iv32 (atW ws k))):=by
     rw[hwW.cell];exact wAll_at ws k (by rw[HW.out,wl_len];exact hk64)
    have hk0:(0:Int)≤(k:Int):=by omega
    simp only[List.drop_succ_cons,List.drop_zero,List.take_succ_cons,List.take_zero,act_put_someD,List.setIfInBounds_toArray,List.set_cons_succ,List.set_cons_zero]
    iterate 5 (go_big_quiet_step (fail))
    refine wpQuiet_nil ?_
    rfl
   case ht=>
    intro W j hW
    simp only[List.drop_succ_cons,List.drop_zero]
    have hv3:Hid (Blk (W.drewN j) G6 174 v.cells.toArray):=Lib.hid (hv2.out.below (hW.drewN j) hv2.out.lt)
    have hw3:Hid (Blk (W.drewN j) G5 214 (wAll ws)):=Lib.hid (hw2.out.below (hW.drewN j) hw2.out.lt)
    have hz3:Hid (Blk (W.drewN j) (w.heap.size+1) 174 Z):=Lib.hid (hz2.out.below (hW.drewN j) hz2.out.lt)
    have hs3:Hid (Blk (W.drewN j) w.heap.size 174 s.cells.toArray):=Lib.hid (hs2.out.below (hW.drewN j) hs2.out.lt)
    have hbel3:=Q7z (hbel2.trans (Below.mono hW hbel2.size)) j
    generalize W.drewN j=W3 at*
    clear a1 a2 a3 a4 b0 b1 b2 b3 hv2 hw2 hz2 hs2 hbel2
    go_upto_region 8 with fail
    have T:∀(x:BitVec 32) (a:Nat) (b:Int),b=(a:Int)→a<32→∀W j,Calls Tryz.prog 128 #[.int .u32 (iv32 x),.int .i64 b] (World.drewN W j) fun e w''=>e= .returned (.int .u32 (iv32 (rr x a)))∧∃m,w''=World.drewN W m:=by
     intro x a b e hs W j
     subst e
     exact(turned_any x a hs (World.drewN W j)).mono fun _ _ ⟨he,hm⟩=>⟨he,j,hm⟩
    have T2:=T v.a 2 2 rfl (by omega) W3
    have T13:=T v.a 13 13 rfl (by omega) W3
    have T22:=T v.a 22 22 rfl (by omega) W3
    have f0:W3.cell? ⟨G6,0,none⟩=some (.int .u32 (iv32 v.a)):=by rw[hv3.out.cell];rfl
    have f1:W3.cell? ⟨G6,1,none⟩=some (.int .u32 (iv32 v.b)):=by rw[hv3.out.cell];rfl
    have f2:W3.cell? ⟨G6,2,none⟩=some (.int .u32 (iv32 v.c)):=by rw[hv3.out.cell];rfl
    have x1:=xor32 (rr v.a 2) (rr v.a 13)
    have x2:bits .xor .u32 (iv32 (rr v.a 2 ^^^ rr v.a 13)) (iv32 (rr v.a 22))=iv32 (bg0 v.a):=by unfold bg0;exact xor32 _ _
    have c1:=and32 v.a v.b
    have c2:=and32 v.a v.c
    have c3:=xor32 (v.a &&& v.b) (v.a &&& v.c)
    have c4:=and32 v.b v.c
    have c5:bits .xor .u32 (iv32 (v.a &&& v.b ^^^ v.a &&& v.c)) (iv32 (v.b &&& v.c))=iv32 (mjP v.a v.b v.c):=by unfold mjP;exact xor32 _ _
    have c6:=add32 (bg0 v.a) (mjP v.a v.b v.c)
    clear T
    refine quiet_in (fun k=>W3.drewN k) 1 rfl (by kernel_rfl) (by kernel_rfl) ?_
    iterate 3 (go_big_quiet_step (exact T2 _))
    iterate 3 (go_big_quiet_step (exact T13 _))
    iterate 4 (go_big_quiet_step (exact T22 _))
    iterate 20 (go_big_quiet_step (fail))
    refine wpQuiet_nil ?_
    rintro _ ⟨nq,rfl⟩
    have hv4:Hid (Blk (W3.drewN nq) G6 174 (shC v 7)):=Lib.hid (by rw[shC_seven];exact hv3.out)
    have hw4:Hid (Blk (W3.drewN nq) G5 214 (wAll ws)):=Lib.hid hw3.out
    have hz4:Hid (Blk (W3.drewN nq) (w.heap.size+1) 174 Z):=Lib.hid hz3.out
    have hs4:Hid (Blk (W3.drewN nq) w.heap.size 174 s.cells.toArray):=Lib.hid hs3.out
    have hbel4:=Q7z hbel3 nq
    clear T2 T13 T22 f0 f1 f2 x1 x2 c1 c2 c3 c4 c5 c6 hv3 hw3 hz3 hs3 hbel3
    generalize W3.drewN nq=W4 at*
    obtain⟨A,hA⟩:∃A,A=v.t1 k (atW ws k):=⟨_,rfl⟩
    obtain⟨B,hB⟩:∃B,B=v.t2:=⟨_,rfl⟩
    rw[show v.h+bg1 v.e+chP v.e v.f v.g+kW k+atW ws k=A from hA.symm,show bg0 v.a+mjP v.a v.b v.c=B from hB.symm]
    have HA:=Lib.hid hA
    have HBB:=Lib.hid hB
    clear hA hB
    go_wp2_with fail
    go_loopw[11] (fun kk wr2=>∃j:Nat,j≤7∧kk= .int .i64 j∧Hid (Blk wr2 G6 174 (shC v j))∧Hid (Blk wr2 G5 214 (wAll ws))∧Hid (Blk wr2 (w.heap.size+1) 174 Z)∧Hid (Blk wr2 w.heap.size 174 s.cells.toArray)∧Below w.heap.size w wr2) (fun kk _=>(intOf kk).toNat)
    case atStart=>exact⟨7,by omega,rfl,hv4,hw4,hz4,hs4,hbel4⟩
    case round=>
     obtain⟨q,hq,rfl,hv5,hw5,hz5,hs5,hbel5⟩:=hrel
     clear hv4 hw4 hz4 hs4 hbel4
     have hltq:=hv5.out.lt
     by_cases hq0:0<q
     ·have hgt:(0:Int)<(q:Int):=by omega
      have eq1:IntKind.i64.wrap ((q:Int)-1)=(q:Int)-1:=by rw[IntKind.wrap_i64];omega
      have nq1:((q:Int)-1).toNat=q-1:=by omega
      have pq1:(0:Int)≤(q:Int)-1:=by omega
      have qq1:(q:Int)-1<8:=by omega
      have qq2:(q:Int)<8:=by omega
      have cA:=hv5.out.cell (q-1)
      rw[shC_at v q hq0 hq]at cA
      have cB:=hv5.out.cell q
      rw[shC_here v q hq]at cB
      have fz:=hv5.out.frozen q
      go_wp2
      clear eq1 nq1 pq1 qq1 qq2 cA cB fz
      go_roundw
      case rel=>
       refine⟨q-1,by omega,by rw[show((q-1:Nat):Int)=(q:Int)-1 by omega],Lib.hid ?_,Lib.hid ?_,Lib.hid ?_,Lib.hid ?_,?_⟩
       ·rw[←shC_set v q hq0 hq];exact hv5.out.set q _
       ·exact hw5.out.far (by show G5≠G6;omega) _
       ·exact hz5.out.far (by show w.heap.size+1≠G6;omega) _
       ·exact hs5.out.far (by show w.heap.size≠G6;omega) _
       ·exact hbel5.setCell (by show w.heap.size≤G6;omega) _
      case measure=>simp[intOf];omega
     ·have hq00:q=0:=by omega
      subst hq00
      have hgt:¬(0:Int)<((0:Nat):Int):=by omega
      have f0:wr.cell? ⟨G6,0,none⟩=some (.int .u32 (iv32 (atS v 0))):=by rw[hv5.out.cell];exact shC_here v 0 (by omega)
      have f4:wr.cell? ⟨G6,4,none⟩=some (.int .u32 (iv32 v.d)):=by rw[hv5.out.cell];rfl
      have g0:=hv5.out.frozen 0
      have g4:=hv5.out.frozen 4
      have a1:=add32 A B
      have a2:=add32 v.d A
      go_wp2
      clear f0 f4 g0 g4 a1 a2
      go_roundw
      case rel=>
       refine⟨k+1,by omega,by go_num,Lib.hid ?_,Lib.hid ?_,Lib.hid ?_,Lib.hid ?_,?_⟩
       ·have:=(hv5.out.set 0 (.int .u32 (iv32 (A+B)))).set 4 (.int .u32 (iv32 (v.d+A)))
        rw[shC_end v (A+B) (v.d+A)]at this
        have e:s.rounds ws (k+1)=⟨A+B,v.a,v.b,v.c,v.d+A,v.e,v.f,v.g⟩:=by rw[S8.rounds,← HV.out,HA.out,HBB.out];rfl
        rw[e]
        exact this
       ·exact(hw5.out.far (by show G5≠G6;omega) _).far (by show G5≠G6;omega) _
       ·exact(hz5.out.far (by show w.heap.size+1≠G6;omega) _).far (by show w.heap.size+1≠G6;omega) _
       ·exact(hs5.out.far (by show w.heap.size≠G6;omega) _).far (by show w.heap.size≠G6;omega) _
       ·exact(hbel5.setCell (by show w.heap.size≤G6;omega) _).setCell (by show w.heap.size≤G6;omega) _
      case measure=>simp[intOf];omega
  ·have hk64':k=64:=by omega
   subst hk64'
   have hge:¬((64:Nat):Int)<64:=by omega
   obtain⟨v,hvv⟩:∃v,v=s.rounds ws 64:=⟨_,rfl⟩
   rw[←hvv]at hv
   have HV:=Lib.hid hvv
   clear hvv
   have hv0:Hid (Blk wr G6 174 (adC v s 0)):=Lib.hid (by rw[adC_zero];exact hv.out)
   go_wp2_with fail
   go_loopw[103] (fun i wr2=>∃q:Nat,q≤8∧i= .int .i64 q∧Hid (Blk wr2 G6 174 (adC v s q))∧Hid (Blk wr2 (w.heap.size+1) 174 Z)∧Hid (Blk wr2 w.heap.size 174 s.cells.toArray)∧Below w.heap.size w wr2) (fun i _=>8-(intOf i).toNat)
   case atStart=>exact⟨0,by omega,rfl,hv0,hz5,hs5,hbel⟩
   case round=>
    obtain⟨q,hq,rfl,hv6,hz6,hs6,hbel6⟩:=hrel
    clear hv hv0 hw5 hz5 hs5 hbel
    by_cases hq8:q<8
    ·have hltq:(q:Int)<8:=by omega
     go_upto_region 19 with fail
     have cA:wr.cell? ⟨G6,q,none⟩=some (.int .u32 (iv32 (atS v q))):=by rw[hv6.out.cell];exact adC_here v s q hq8
     have cB:wr.cell? ⟨w.heap.size,q,none⟩=some (.int .u32 (iv32 (atS s q))):=by rw[hs6.out.cell];exact cells_here s q hq8
     have fz:=hv6.out.frozen q
     have a1:=add32 (atS v q) (atS s q)
     have q0:(0:Int)≤(q:Int):=by omega
     refine QZz 9 (by kernel_rfl) (by kernel_rfl) ?_
     simp only[List.take_succ_cons,List.take_zero,List.drop_succ_cons,List.drop_zero]
     iterate 9 (go_big_quiet_step (fail))
     refine wpQuiet_nil ?_
     rintro _ ⟨nq,rfl⟩
     clear cB a1
     go_wp2
     go_roundw
     case rel=>
      refine⟨q+1,by omega,by go_num,Lib.hid ?_,Lib.hid ?_,Lib.hid ?_,?_⟩
      ·rw[←adC_set v s q hq8];exact(hv6.out.drewN nq).set q _
      ·exact(hz6.out.drewN nq).far (by show w.heap.size+1≠G6;omega) _
      ·exact(hs6.out.drewN nq).far (by show w.heap.size≠G6;omega) _
      ·exact(Q7z hbel6 nq).setCell (by show w.heap.size≤G6;omega) _
     case measure=>simp[intOf];omega
    ·have hq8':q=8:=by omega
     subst hq8'
     have hgeq:¬((8:Nat):Int)<8:=by omega
     rw[adC_end]at hv6
     have hm:v.add s=s.mix bs:=by unfold S8.mix;rw[HV.out,HW.out]
     rw[hm]at hv6
     clear hm
     obtain⟨M,hM⟩:∃M,M=s.mix bs:=⟨_,rfl⟩
     rw[←hM]at hv6
     have HM:=Lib.hid hM
     clear hM
     have hrg:wr.rangeAt G6 0 M.cells:=hv6.out.range8
     go_wp2_with(first
      |(with_reducible refine wpList_load_mid (op:=⟨some 116,_,_,_,_,_⟩) ?_ 174 (.tmp 6) ?_ G6 0 ?_ M.cells _ hrg Tryz.underlying174 ?_ ?_ ?_
        ·rfl
        ·rfl
        ·rfl
        ·rfl
        ·exact S8.infoL M)
      |(with_reducible refine Q4z (o:=⟨none,_,_,_,_,_⟩) ?_ 174 (.tmp 4) (.tmp 116) ?_ (w.heap.size+1) 174 Z M.cells.toArray ?_ ?_ hz6.out ?_ ?_ ?_ w.heap.size w hbel6 ?_ ?_
        ·rfl
        ·rfl
        ·rfl
        ·rfl
        ·exact S8.info _
        ·rw[HZ.out];rfl
        ·exact S8.cells_one _
        ·omega
        intro w7 hz7 hbel7 _ _))
     refine bodyPost_ret (Qqz rfl _ _ _ (w.heap.size+1) _ M.cells _ rfl hz7.out Tryz.underlying174 rfl (S8.infoL M)) rfl ?_
     refine⟨?_,hbel7⟩
     rw[HM.out]
end
section
open Go.RowKit
def Qcz (n:Nat):List (BitVec 8):=List.replicate n 0#8
theorem noughts_succ (n:Nat):Qcz (n+1)=Qcz n++[0#8]:=by simp[Qcz,List.replicate_succ']
def beN (n:BitVec 64) (i:Nat):BitVec 8:=(n >>> (56-8*i)).setWidth 8
def be64 (n:BitVec 64) (k:Nat):List (BitVec 8):=(List.range k).map (beN n)
theorem be64_succ (n:BitVec 64) (k:Nat):be64 n (k+1)=be64 n k++[beN n k]:=by simp[be64,List.range_succ]
theorem Z7z (n:BitVec 64) (k:Nat):(be64 n k).length=k:=by simp[be64]
theorem new_oneS (w:World) (b:BitVec 8):Row8 (w.alloc (.cells #[u8 b] 5)) (some ⟨w.heap.size,0,none⟩) [b]:=fun _=>
 ⟨_,0,rfl,by simp,fun i x hx=>by
  rw[(Blk.new w _ _).cell]
  cases i with
  |zero=>simp at hx ⊢;rw[hx]
  |succ i=>simp at hx⟩
def padZ (n:Nat):Nat:=(119-n % 64) % 64
theorem own_open {w:World} {B:Nat} {v:Value} {bs:List (BitVec 8)} (h:Own8 w B v bs):∃p n c,v= .slice p n c∧Hid (bs.length=n)∧n≤c∧c≤9223372036854775807∧Row8 w p bs:=by
 obtain⟨p,c,h1,h2,h3,h4⟩:=h.row
 exact⟨p,bs.length,c,h1,Lib.hid rfl,h2,by unfold maxLen at h3;omega,h4⟩
def lenS:Value→Nat
 | .slice _ n _=>n
 |_=>0
def pad (bs:List (BitVec 8)):List (BitVec 8):=bs++[128#8]++Qcz (padZ bs.length)++be64 (BitVec.ofNat 64 (8*bs.length)) 8
theorem padded_any (p:Option Addr) (n c:Nat) (bs:List (BitVec 8)) (w:World) (hr:Row8 w p bs) (hn:bs.length=n) (hbig:n≤140737488355000):
 Calls Tryz.prog 96 #[.slice p n c] w (GivesOwn w (pad bs)):=by
 have HN:=Lib.hid hn
 clear hn
 go_enter Tryz.func96,Tryz.ntmps96
 have ho0:Own8 (w.alloc (.cells #[] 5)) w.heap.size (.slice (some ⟨w.heap.size,0,none⟩) 0 0) []:=
  ⟨rfl,.inr ⟨w.heap.size,0,#[],rfl,Nat.le_refl _,Blk.new w _ _,Nat.le_refl _,by unfold maxLen;omega,rfl,rfl⟩⟩
 have hb0:Below w.heap.size w (w.alloc (.cells #[] 5)):=(Below.refl _ _).alloc (Nat.le_refl _) _
 have hr0:=hr.below hb0 (Nat.le_refl _)
 have hsz0:=hb0.size
 go_wp2_with(first
  |(with_reducible refine Qaz (o:=⟨some 8,_,_,_,_,_⟩) ?_ (.tmp 6) (.tmp 7) ?_ w.heap.size _ [] ?_ ho0 p n c bs ?_ HN.out hr0 ?_ hsz0 w.heap.size w hb0 ?_ ?_
    ·rfl
    ·rfl
    ·rfl
    ·rfl
    ·rw[HN.out];simp only[List.length_nil];omega
    ·exact Nat.le_refl _
    intro v1 w1 ho1 hb1 _ _
    have hsz1:=hb1.size
    have hb1a:=hb1.alloc hsz1 (.cells #[.int .u8 128] 5)
    have hsz1a:=hb1a.size
    have ho1a:=ho1.alloc (.cells #[.int .u8 128] 5)
    have hrow1:Row8 (w1.alloc (.cells #[.int .u8 128] 5)) (some ⟨w1.heap.size,0,none⟩) [128#8]:=new_oneS w1 128#8)
  |(with_reducible refine Qaz (o:=⟨some 10,_,_,_,_,_⟩) ?_ (.tmp 8) (.tmp 9) ?_ w.heap.size _ ([]++bs) ?_ ho1a (some ⟨w1.heap.size,0,none⟩) 1 1 [128#8] ?_ rfl hrow1 ?_ hsz1a w.heap.size w hb1a ?_ ?_
    ·rfl
    ·rfl
    ·rfl
    ·rfl
    ·rw[List.nil_append,HN.out];simp only[List.length_cons,List.length_nil];omega
    ·exact Nat.le_refl _
    intro v2 w2 ho2 hb2 _ _))
 obtain⟨P,hP⟩:∃P,P=bs++[128#8]:=⟨_,rfl⟩
 rw[List.nil_append,← hP]at ho2
 have hPl:P.length=n+1:=by rw[hP,List.length_append,HN.out];rfl
 have HP:=Lib.hid hP
 have HPL:=Lib.hid hPl
 clear hP hPl hb0 hr0 hsz0 ho0
 go_loopw[3] (fun v wr=>∃k:Nat,k≤padZ n∧Own8 wr w.heap.size v (P++Qcz k)∧Below w.heap.size w wr) (fun v _=>n+1+padZ n-lenS v)
 case atStart=>exact⟨0,Nat.zero_le _,by simpa[Qcz]using ho2,hb2⟩
 case round=>
  obtain⟨k,hk,ho3,hb3⟩:=hrel
  have hl:(P++Qcz k).length=n+1+k:=by rw[List.length_append,HPL.out];simp[Qcz]
  obtain⟨q,len,cap,rfl,hlen,hl3,hm3,hr3⟩:=own_open ho3
  have hln:len=n+1+k:=by rw[←hlen.out,hl]
  have hz64:padZ n≤63:=by unfold padZ;omega
  obtain⟨R,hR⟩:∃R:Nat,R=len % 64:=⟨_,rfl⟩
  have ht:Int.tmod (len:Int) 64=(R:Int):=by rw[Int.tmod_eq_emod_of_nonneg (by omega),hR];omega
  have ht2:(len:Int) % 64=(R:Int):=by rw[hR];omega
  have HR:=Lib.hid hR
  have HLN:=Lib.hid hln
  clear hR hln hl
  by_cases hkz:k<padZ n
  ·have hne:((R:Int) != 56)=true:=by
    have:=HR.out
    have:=HLN.out
    unfold padZ at hkz
    simp
    omega
   have hsz3:=hb3.size
   have hb3a:=hb3.alloc hsz3 (.cells #[.int .u8 0] 5)
   have hsz3a:=hb3a.size
   have ho3a:=ho3.alloc (.cells #[.int .u8 0] 5)
   have hrow3:Row8 (wr.alloc (.cells #[.int .u8 0] 5)) (some ⟨wr.heap.size,0,none⟩) [0#8]:=new_oneS wr 0#8
   go_wp2_with(with_reducible refine Qaz (o:=⟨some 17,_,_,_,_,_⟩) ?_ (.tmp 15) (.tmp 16) ?_ w.heap.size _ (P++Qcz k) ?_ ho3a (some ⟨wr.heap.size,0,none⟩) 1 1 [0#8] ?_ rfl hrow3 ?_ hsz3a w.heap.size w hb3a ?_ ?_
               ·rfl
               ·rfl
               ·rfl
               ·rfl
               ·rw[hlen.out,HLN.out];simp only[List.length_cons,List.length_nil];omega
               ·exact Nat.le_refl _
               intro v4 w4 ho4 hb4 _ _)
   have ho5:Own8 w4 w.heap.size v4 (P++Qcz (k+1)):=by rw[noughts_succ,← List.append_assoc];exact ho4
   have hl4:(P++Qcz (k+1)).length=n+1+(k+1):=by rw[List.length_append,HPL.out];simp[Qcz]
   obtain⟨q4,len4,cap4,rfl,hlen4,_,_,_⟩:=own_open ho5
   go_roundw
   case rel=>exact⟨k+1,by omega,ho5,hb4⟩
   case measure=>
    have e1:=HLN.out
    have e2:len4=n+1+(k+1):=by rw[←hlen4.out,hl4]
    simp only[lenS]
    omega
  ·have hkz':k=padZ n:=by omega
   subst hkz'
   have hne:((R:Int) != 56)=false:=by
    have:=HR.out
    have:=HLN.out
    unfold padZ at this
    simp
    omega
   obtain⟨N,hN⟩:∃N,N=BitVec.ofNat 64 (8*n):=⟨_,rfl⟩
   have hiv:iv64 N=(n:Int)*8:=by
    rw[hN];unfold iv64;rw[BitVec.toNat_ofNat,Nat.mod_eq_of_lt (by omega)];omega
   obtain⟨Q,hQ⟩:∃Q,Q=P++Qcz (padZ n):=⟨_,rfl⟩
   rw[←hQ]at ho3 hlen
   have HQ:=Lib.hid hQ
   have HNN:=Lib.hid hN
   have HIV:=Lib.hid hiv
   clear hQ hN hiv hr3 ho1a hrow1 ho1 hb1a hsz1a
   go_wp2
   go_loopw[3,22] (fun v i wr=>∃k:Nat,k≤8∧i= .int .i64 k∧Own8 wr w.heap.size v (Q++be64 N k)∧Below w.heap.size w wr) (fun _ i _=>8-(intOf i).toNat)
   case atStart=>exact⟨0,by omega,rfl,by simpa[be64]using ho3,hb3⟩
   case round=>
    obtain⟨k,hk8,rfl,ho6,hb6⟩:=hrel
    have hlk:(Q++be64 N k).length=len+k:=by rw[List.length_append,hlen.out,Z7z]
    have HLK:=Lib.hid hlk
    clear hlk
    by_cases hk:k<8
    ·have hlt:(k:Int)<8:=by omega
     have hsz6:=hb6.size
     have hb1:(0:Int)≤8*(k:Int):=by omega
     have hb2:8*(k:Int)≤56:=by omega
     have hb3':(0:Int)≤56-8*(k:Int):=by omega
     have hsh:IntKind.u8.wrap ((n:Int)*8 / 2 ^ (56-8*k))=iv8 (beN N k):=by rw[←HIV.out,shrp64,cut64_8];rfl
     have hrow6:=new_oneS wr (beN N k)
     go_wp2_with(with_reducible refine Qaz (o:=⟨some 33,_,_,_,_,_⟩) ?_ (.tmp 25) (.tmp 32) ?_ w.heap.size _ (Q++be64 N k) ?_ (ho6.alloc _) (some ⟨wr.heap.size,0,none⟩) 1 1 [beN N k] ?_ rfl ?_ ?_ ?_ w.heap.size w ?_ ?_ ?_
                 ·rfl
                 ·rfl
                 ·rfl
                 ·rfl
                 ·exact hrow6
                 ·rw[HLK.out,HLN.out];simp only[List.length_cons,List.length_nil];omega
                 ·simp only[World.size_alloc];omega
                 ·exact hb6.alloc hsz6 _
                 ·exact Nat.le_refl _
                 intro v7 w7 ho7 hb7 _ _)
     rw[List.append_assoc,← be64_succ]at ho7
     go_roundw
     case rel=>exact⟨k+1,by omega,by go_num,ho7,hb7⟩
     case measure=>simp[intOf];omega
    ·have hk8':k=8:=by omega
     subst hk8'
     have hge:¬((8:Nat):Int)<8:=by omega
     go_wp2
     go_ret
     have e:pad bs=Q++be64 N 8:=by unfold pad;rw[HN.out,← HNN.out,← HP.out,← HQ.out]
     exact⟨_,rfl,by rw[e];exact ho6,hb6⟩
end
section
open Go.RowKit
def s8First:S8:=⟨1779033703#32,3144134277#32,1013904242#32,2773480762#32,1359893119#32,2600822924#32,528734635#32,1541459225#32⟩
def Xjz (all:List (BitVec 8)):Nat→S8
 |0=>s8First
 |k+1=>(Xjz all k).mix ((all.drop (64*k)).take 64)
def S8.byte (s:S8) (i:Nat):BitVec 8:=(atS s (i / 4) >>> (24-8*(i % 4))).setWidth 8
def S8.hashTo (s:S8) (k:Nat):List (BitVec 8):=(List.range k).map s.byte
def hC (s:S8) (m:Nat):Array Value:=((s.hashTo m++Qcz (32-m)).map u8).toArray
theorem X0z (s:S8) (k:Nat):(s.hashTo k).length=k:=by simp[S8.hashTo]
theorem hC_here (s:S8) (m:Nat) (h:m<32):(hC s m)[m]? =some (.int .u8 (iv8 0#8)):=by
 unfold hC
 rw[List.getElem?_toArray,List.getElem?_map,List.getElem?_append_right (by rw[X0z];omega),X0z,Nat.sub_self]
 simp[Qcz,show 0<32-m by omega]
theorem hC_set (s:S8) (m:Nat) (h:m<32):(hC s m).setIfInBounds m (.int .u8 (iv8 (s.byte m)))=hC s (m+1):=by
 unfold hC
 rw[List.setIfInBounds_toArray,List.map_append,List.set_append_right _ _ (by rw[List.length_map,X0z];omega),List.length_map,X0z,Nat.sub_self]
 rw[show 32-m=(32-(m+1))+1 by omega]
 simp[S8.hashTo,List.range_succ,Qcz,List.replicate_succ]
theorem hC_end (s:S8):hC s 32=((s.hashTo 32).map u8).toArray:=by unfold hC;simp[Qcz]
def sha (bs:List (BitVec 8)):List (BitVec 8):=(Xjz (pad bs) ((pad bs).length / 64)).hashTo 32
theorem pad_len (bs:List (BitVec 8)):(pad bs).length=bs.length+1+padZ bs.length+8:=by simp[pad,Z7z,Qcz];omega
theorem pad_mod (bs:List (BitVec 8)):(pad bs).length % 64=0:=by rw[pad_len];unfold padZ;omega
theorem zero32:∀w,(zeroValue 32).run Tryz.prog w= .ok (.agg ((Qcz 32).map u8).toArray) w:=zero_of2 (by kernel_rfl)
theorem quiet_load_midS {P:Program} {ops:Array Oper} {C:World→Prop} {Q:Act→Prop} {a:Act} {o:Oper} {rest:List Oper} (hw:Region.wanted o (yielded ops a.tmps)=true) (ty:TypeId) (x:Operand) (ho:o.op= .load ty x) (b o':Nat) (hx:a.eval x= .pointer (some ⟨b,o',none⟩)) (cs:List Value) (d:TypeDesc)
 (hS:∀w,C w→w.rangeAt b o' cs) (hu:P.underlying ty=some d) (hd:d.isRow=true) (hi:(P.info? ty).map (·.size)=some cs.length) (h:wpQuiet P ops C Q rest (a.put o.dst (.agg cs.toArray))):wpQuiet P ops C Q (o ::rest) a:=
 BigFrame.wpQuiet_want hw fun K hK=>⟨_,fun w hw=>by
  unfold Oper.quietAt execOp
  simp only[ho,hx,Instr.loadAt,Instr.sureAddr,Sem.run_bind,Sem.run_pure,Result.andThen_ok,run_loadVar_mid w b o' ty cs d (hS w hw) hu hd hi]
  exact⟨rfl,rfl⟩,hK _ h⟩
theorem own_row {w:World} {B n c:Nat} {p:Option Addr} {bs:List (BitVec 8)} (h:Own8 w B (.slice p n c) bs):Row8 w p bs:=by
 obtain⟨p',c',e,_,_,h⟩:=h.row
 injection e with e1 e2 e3
 subst e1
 exact h
theorem zero8lit:∀w,(zeroValue 174).run Tryz.prog w= .ok (.agg #[.int .u32 0,.int .u32 0,.int .u32 0,.int .u32 0,.int .u32 0,.int .u32 0,.int .u32 0,.int .u32 0]) w:=zero_of2 (by kernel_rfl)
theorem refSum_any (p:Option Addr) (n c:Nat) (bs:List (BitVec 8)) (w:World) (hr:Row8 w p bs) (hn:bs.length=n) (hbig:n≤140737488355000):
 Calls Tryz.prog 71 #[.slice p n c] w fun e w'=>e= .returned (.agg ((sha bs).map u8).toArray)∧Below w.heap.size w w':=by
 have HN:=Lib.hid hn
 clear hn
 have hz8:=zero8lit
 have hz32:=zero32
 obtain⟨Y,hY⟩:∃Y,Y=((Qcz 32).map u8).toArray:=⟨_,rfl⟩
 rw[←hY]at hz32
 have HY:=Lib.hid hY
 clear hY
 go_enter Tryz.func71,Tryz.ntmps71
 go_upto_region 2 with fail
 refine X9z (fun w'=>Hid (Blk w' w.heap.size 32 Y)∧Hid (Blk w' (w.heap.size+1) 174 s8First.cells.toArray)∧Below w.heap.size w w') ⟨Lib.hid ?_,Lib.hid ?_,?_⟩ ?_
 ·exact(Blk.new w _ _).alloc _
 ·exact Blk.new2 w _ _ _
 ·exact((Below.refl _ _).alloc (Nat.le_refl _) _).alloc (by simp) _
 rintro w1 ⟨hy1,hv1,hbel1⟩
 have hlt1:=hv1.out.lt
 have hr1:=hr.below hbel1 (Nat.le_refl _)
 clear hz8
 go_wp2_with fail
 refine(padded_any p n c bs _ hr1 HN.out hbig).mono ?_
 rintro e w2 ⟨va,rfl,hoa,hbel2⟩
 have hy2:=Lib.hid (hy1.out.below hbel2 (by omega))
 have hv2:=Lib.hid (hv1.out.below hbel2 hlt1)
 have hbw2:=hbel1.trans (hbel2.mono hbel1.size)
 obtain⟨all,hall⟩:∃all,all=pad bs:=⟨_,rfl⟩
 have hm:=pad_mod bs
 have hpl:=pad_len bs
 rw[←hall]at hoa hm hpl
 obtain⟨q,L,cap,rfl,hL,hlc,hcm,hra⟩:=own_open hoa
 rw[hL.out]at hm hpl
 have hL9:9≤L:=by omega
 have hz63:padZ bs.length≤63:=by unfold padZ;omega
 have hLb:L≤140737488355328:=by have:=HN.out;omega
 have HM:=Lib.hid hm
 have HA:=Lib.hid hall
 obtain⟨bb,of,rfl,hbb,_⟩:=hra (fun e=>by have:=hL.out;rw[e]at this;simp at this;omega)
 clear hm hpl hall hy1 hv1 hbel1 hbel2 hr1
 go_wp2_with fail
 go_loopw[5] (fun i wr=>∃k at0:Nat,Hid (at0=64*k)∧at0≤L∧i= .int .i64 (at0:Int)∧Hid (Blk wr (w.heap.size+1) 174 (Xjz all k).cells.toArray)∧Hid (Blk wr w.heap.size 32 Y)∧Own8 wr w1.heap.size (.slice (some ⟨bb,of,none⟩) L cap) all∧Below w.heap.size w wr) (fun i _=>L-(intOf i).toNat)
 case atStart=>exact⟨0,0,Lib.hid rfl,by omega,rfl,hv2,hy2,hoa,hbw2⟩
 case round=>
  obtain⟨k,at0,hat,hk,rfl,hv3,hy3,ho3,hb3⟩:=hrel
  clear hv2 hy2 hra hbw2 hoa
  have hr3:=own_row ho3
  have hlt3:=hv3.out.lt
  obtain⟨T,hT⟩:∃T,T=Xjz all k:=⟨_,rfl⟩
  rw[←hT]at hv3
  have HT:=Lib.hid hT
  clear hT
  by_cases hkL:at0<L
  ·have hlt:(at0:Int)<(L:Int):=by omega
   have h64:at0+64≤L:=by have:=hat.out;have:=HM.out;omega
   go_upto_region 6 with fail
   have s1:IntKind.i64.wrap ((at0:Int)+64)=(at0:Int)+64:=by rw[IntKind.wrap_i64];omega
   have s2:(0:Int)≤(at0:Int):=by omega
   have s3:(at0:Int)≤(at0:Int)+64:=by omega
   have s4:(at0:Int)+64≤(cap:Int):=by omega
   have s5:¬cap=at0:=by omega
   have s6:at0+64-at0=64:=by omega
   have s7:((at0:Int)+64).toNat=at0+64:=by omega
   have hrg:∀j,(wr.drewN j).rangeAt (w.heap.size+1) 0 T.cells:=fun j=>hv3.out.range8
   refine QZz 6 (by kernel_rfl) (by kernel_rfl) ?_
   simp only[List.take_succ_cons,List.take_zero,List.drop_succ_cons,List.drop_zero]
   refine quiet_load_midS rfl 174 (.tmp 3) rfl (w.heap.size+1) 0 rfl T.cells _ (fun w' ⟨j,hj⟩=>by rw[hj];exact hrg j) Tryz.underlying174 rfl (S8.infoL T) ?_
   simp only[act_put_someD,List.setIfInBounds_toArray,List.set_cons_succ,List.set_cons_zero]
   iterate 5 (go_big_quiet_step (fail))
   refine wpQuiet_nil ?_
   rintro _ ⟨nq,rfl⟩
   have hW:∃W,W=wr.drewN nq:=⟨_,rfl⟩
   obtain⟨W,hW⟩:=hW
   rw[←hW]
   have hvW:Hid (Blk W (w.heap.size+1) 174 T.cells.toArray):=Lib.hid (by rw[hW];exact hv3.out)
   have hyW:Hid (Blk W w.heap.size 32 Y):=Lib.hid (by rw[hW];exact hy3.out)
   have hoW:Own8 W w1.heap.size (.slice (some ⟨bb,of,none⟩) L cap) all:=by rw[hW];exact ho3.drewN nq
   have hbW:Below w.heap.size w W:=by rw[hW];exact Q7z hb3 nq
   have hrW:=(own_row hoW).drop (k:=at0) (c:=cap) (by rw[hL.out];exact hlc)
   rw[if_neg s5,Option.map_some,Addr.add_lit]at hrW
   have hrT:=hrW.take 64
   have hlT:((all.drop at0).take 64).length=64:=by rw[List.length_take,List.length_drop,hL.out];omega
   clear hW hv3 hy3 ho3 hb3 hr3 s1 s3 s4 s6 s7 hrg hrW
   go_wp2_with fail
   refine(mix_any T (some ⟨bb,of+at0,none⟩) (cap-at0) ((all.drop at0).take 64) W hlT hrT).mono ?_
   rintro e w4 ⟨rfl,hb4⟩
   obtain⟨M,hM⟩:∃M,M=T.mix ((all.drop at0).take 64):=⟨_,rfl⟩
   rw[←hM]
   have HM2:Hid (Xjz all (k+1)=M):=Lib.hid (by rw[Xjz,← HT.out,← hat.out,hM])
   clear hM
   have hltW:=hvW.out.lt
   have hv4:=Lib.hid (hvW.out.below hb4 hltW)
   have hy4:=Lib.hid (hyW.out.below hb4 (by omega))
   have ho4:=hoW.below hb4 (Nat.le_refl _)
   have hbw4:=hbW.trans (hb4.mono hbW.size)
   clear hvW hyW hoW hbW hb4
   go_wp2_with(with_reducible refine Q4z (o:=⟨none,_,_,_,_,_⟩) ?_ 174 (.tmp 3) (.tmp 23) ?_ (w.heap.size+1) 174 T.cells.toArray M.cells.toArray ?_ ?_ hv4.out ?_ ?_ ?_ (w.heap.size+1) w4 ?_ ?_ ?_
               ·rfl
               ·rfl
               ·rfl
               ·rfl
               ·exact S8.info M
               ·rfl
               ·exact S8.cells_one M
               ·exact Below.refl _ _
               ·exact Nat.le_refl _
               intro w5 hv5 hb5 hg5 _)
   have hy5:=Lib.hid (hy4.out.below hb5 (by omega))
   have ho5:=ho4.kept hg5.out (.inr (fun e=>by
    injection e with e
    have:=(World.ownsRow.lt ho4 bb rfl).1
    have e2:bb=w.heap.size+1:=e
    omega))
   have hbw5:=hbw4.trans (hb5.mono (by omega))
   rw[←HM2.out]at hv5
   go_roundw
   case rel=>exact⟨k+1,at0+64,Lib.hid (by have:=hat.out;omega),h64,by go_num,hv5,hy5,ho5,hbw5⟩
   case measure=>simp[intOf];omega
  ·have hkE:at0=L:=by omega
   have hlt:¬(at0:Int)<(L:Int):=by omega
   have hkk:L / 64=k:=by have:=hat.out;have:=HM.out;omega
   have hsha:Hid (sha bs=T.hashTo 32):=Lib.hid (by unfold sha;rw[←HA.out,hL.out,hkk,HT.out])
   have hsz3:=hb3.size
   have hG:Hid (Blk (wr.alloc (.cells Y 32)) wr.heap.size 32 (hC T 0)):=Lib.hid (by rw[show hC T 0=Y by rw[HY.out];rfl];exact Blk.new wr _ _)
   have hv4:=Lib.hid (hv3.out.alloc (.cells Y 32))
   have hy4:=Lib.hid (hy3.out.alloc (.cells Y 32))
   have hb4:=hb3.alloc hsz3 (.cells Y 32)
   clear hv3 hy3 ho3 hb3 hr3 hkk hkE
   obtain⟨G,hGG⟩:∃G,G=wr.heap.size:=⟨_,rfl⟩
   have HG:=Lib.hid hGG
   have hGlt:w.heap.size+1<G:=by omega
   rw[←hGG]at hG
   clear hGG
   go_wp2
   rw[←HG.out]
   go_loopw[24] (fun i wr2=>∃m:Nat,m≤32∧i= .int .i64 (m:Int)∧Hid (Blk wr2 G 32 (hC T m))∧Hid (Blk wr2 (w.heap.size+1) 174 T.cells.toArray)∧Hid (Blk wr2 w.heap.size 32 Y)∧Below w.heap.size w wr2) (fun i _=>32-(intOf i).toNat)
   case atStart=>exact⟨0,by omega,rfl,hG,hv4,hy4,hb4⟩
   case round=>
    obtain⟨m,hm,rfl,hg5,hv5,hy5,hb5⟩:=hrel
    clear hG hv4 hy4 hb4
    by_cases hm32:m<32
    ·have hltm:(m:Int)<32:=by omega
     have q1:Int.tdiv (m:Int) 4=((m / 4:Nat):Int):=by rw[Int.tdiv_eq_ediv_of_nonneg (by omega)];omega
     have q2:(m:Int) / 4=((m / 4:Nat):Int):=by omega
     have q3:Int.tmod (m:Int) 4=((m % 4:Nat):Int):=by rw[Int.tmod_eq_emod_of_nonneg (by omega)];omega
     have q4:(m:Int) % 4=((m % 4:Nat):Int):=by omega
     obtain⟨d,hd⟩:∃d,d=m / 4:=⟨_,rfl⟩
     obtain⟨r,hr4⟩:∃r,r=m % 4:=⟨_,rfl⟩
     rw[←hd]at q1 q2
     rw[←hr4]at q3 q4
     have d8:d<8:=by omega
     have d8i:(d:Int)<8:=by omega
     have r4:r<4:=by omega
     have e1:(0:Int)≤24-8*(r:Int):=by omega
     have e2:IntKind.i64.wrap (8*(r:Int))=8*(r:Int):=by rw[IntKind.wrap_i64];omega
     have e3:IntKind.i64.wrap (24-8*(r:Int))=24-8*(r:Int):=by rw[IntKind.wrap_i64];omega
     have cA:wr.cell? ⟨w.heap.size+1,d,none⟩=some (.int .u32 (iv32 (atS T d))):=by rw[hv5.out.cell];exact cells_here T d d8
     have cB:wr.cell? ⟨G,m,none⟩=some (.int .u8 (iv8 0#8)):=by rw[hg5.out.cell];exact hC_here T m hm32
     have fz:=hg5.out.frozen m
     have m0:(0:Int)≤(m:Int):=by omega
     have hsh:IntKind.u8.wrap (iv32 (atS T d) / 2 ^ (24-8*r))=iv8 (T.byte m):=by rw[shrp32,cut32_8,hd,hr4];rfl
     clear hd hr4
     go_wp2
     clear cA cB fz hsh q1 q2 q3 q4 e1 e2 e3
     go_roundw
     case rel=>
      refine⟨m+1,by omega,by go_num,Lib.hid ?_,Lib.hid ?_,Lib.hid ?_,?_⟩
      ·rw[←hC_set T m hm32];exact hg5.out.set m _
      ·exact hv5.out.far (by show w.heap.size+1≠G;omega) _
      ·exact hy5.out.far (by show w.heap.size≠G;omega) _
      ·exact hb5.setCell (by show w.heap.size≤G;omega) _
     case measure=>simp[intOf];omega
    ·have hm':m=32:=by omega
     subst hm'
     have hge:¬((32:Nat):Int)<32:=by omega
     obtain⟨X,hX⟩:∃X,X=sha bs:=⟨_,rfl⟩
     have hxl:X.length=32:=by rw[hX,hsha.out,X0z]
     rw[hC_end,← hsha.out,← hX]at hg5
     have HX:=Lib.hid hX
     have HXL:=Lib.hid hxl
     clear hX hxl
     have hrg:wr.rangeAt G 0 (X.map Go.Proofs.YtjbijcjcejfpcaaGreatDoor.u8):=hg5.out.range8
     have hYs:Hid (Y.size=32):=Lib.hid (by rw[HY.out];rfl)
     go_wp2_with(first
      |(with_reducible refine wpList_load_mid (op:=⟨some 40,_,_,_,_,_⟩) ?_ 32 (.tmp 6) ?_ G 0 ?_ (X.map Go.Proofs.YtjbijcjcejfpcaaGreatDoor.u8) _ hrg Tryz.underlying32 ?_ ?_ ?_
        ·rfl
        ·rfl
        ·rfl
        ·rfl
        ·rw[List.length_map,HXL.out];kernel_rfl)
      |(with_reducible refine Q4z (o:=⟨none,_,_,_,_,_⟩) ?_ 32 (.tmp 2) (.tmp 40) ?_ w.heap.size 32 Y (X.map Go.Proofs.YtjbijcjcejfpcaaGreatDoor.u8).toArray ?_ ?_ hy5.out ?_ ?_ ?_ w.heap.size w hb5 ?_ ?_
        ·rfl
        ·rfl
        ·rfl
        ·rfl
        ·rw[List.size_toArray,List.length_map,HXL.out];kernel_rfl
        ·exact hYs.out.trans (by rw[List.size_toArray,List.length_map,HXL.out])
        ·rw[List.all_toArray];simp[Value.oneCell']
        ·exact Nat.le_refl _
        intro w7 hz7 hbel7 _ _))
     refine bodyPost_ret (Qqz rfl _ _ _ w.heap.size _ (X.map Go.Proofs.YtjbijcjcejfpcaaGreatDoor.u8) _ rfl hz7.out Tryz.underlying32 rfl (by rw[List.length_map,HXL.out];kernel_rfl)) rfl ?_
     refine⟨?_,hbel7⟩
     rw[HX.out]
end
section
open Go.RowKit
theorem Z2z (bs:List (BitVec 8)):(sha bs).length=32:=by unfold sha;exact X0z _ _
theorem refDouble_any (p:Option Addr) (n c:Nat) (bs:List (BitVec 8)) (w:World) (hr:Row8 w p bs) (hn:bs.length=n) (hbig:n≤140737488355000):
 Calls Tryz.prog 41 #[.slice p n c] w fun e w'=>e= .returned (.agg (Q5z (sha (sha bs))).toArray)∧Below w.heap.size w w':=by
 have HN:=Lib.hid hn
 have hz32:=zero32
 obtain⟨Y,hY⟩:∃Y,Y=((Qcz 32).map u8).toArray:=⟨_,rfl⟩
 rw[←hY]at hz32
 have HYS:Hid (Y.size=32):=Lib.hid (by rw[hY];rfl)
 obtain⟨X,hX⟩:∃X,X=sha bs:=⟨_,rfl⟩
 have hxl:X.length=32:=by rw[hX,Z2z]
 rw[←hX]
 obtain⟨V,hV⟩:∃V,V=sha X:=⟨_,rfl⟩
 have hvl:V.length=32:=by rw[hV,Z2z]
 rw[←hV]
 have HX:=Lib.hid hX
 have HXL:=Lib.hid hxl
 have HV:=Lib.hid hV
 have HVL:=Lib.hid hvl
 clear hY hX hxl hV hvl hn
 go_enter Tryz.func41,Tryz.ntmps41
 go_upto_region 1 with fail
 refine X9z (fun w'=>Hid (Blk w' w.heap.size 32 Y)∧Below w.heap.size w w') ⟨Lib.hid (by exact Blk.new w _ _),(Below.refl _ _).alloc (Nat.le_refl _) _⟩ ?_
 rintro w1 ⟨hy1,hb1⟩
 have hr1:=hr.below hb1 (Nat.le_refl _)
 go_wp2_with fail
 refine(refSum_any p n c bs w1 hr1 HN.out hbig).mono ?_
 rw[←HX.out]
 rintro e w2 ⟨rfl,hb2⟩
 have hlt1:=hy1.out.lt
 have hy2:=Lib.hid (hy1.out.below hb2 hlt1)
 have hbw2:=hb1.trans (hb2.mono hb1.size)
 clear hr1 hy1 hb1 hb2
 go_wp2_with(with_reducible refine Q4z (o:=⟨none,_,_,_,_,_⟩) ?_ 32 (.tmp 3) (.tmp 5) ?_ w2.heap.size 32 Y (Q5z X).toArray ?_ ?_ (Blk.new w2 _ _) ?_ ?_ ?_ w2.heap.size w2 ?_ ?_ ?_
             ·rfl
             ·rfl
             ·rfl
             ·rfl
             ·exact Qsz HXL.out
             ·exact HYS.out.trans (by rw[List.size_toArray,Q5z,List.length_map,HXL.out])
             ·exact Qzz X
             ·exact(Below.refl _ _).alloc (Nat.le_refl _) _
             ·exact Nat.le_refl _
             intro w3 hx3 hb3 _ _)
 have hlt2:=hy2.out.lt
 have hy3:=Lib.hid (hy2.out.below hb3 hlt2)
 have hbw3:=hbw2.trans (hb3.mono hbw2.size)
 have hrow3:=QOz hx3.out
 clear hy2 hbw2 hb3
 refine(refSum_any (some ⟨w2.heap.size,0,none⟩) 32 32 X w3 hrow3 HXL.out (by omega)).mono ?_
 rw[←HV.out]
 rintro e w4 ⟨rfl,hb4⟩
 have hlt3:=hy3.out.lt
 have hy4:=Lib.hid (hy3.out.below hb4 hlt3)
 have hbw4:=hbw3.trans (hb4.mono hbw3.size)
 go_wp2_with(with_reducible refine Q4z (o:=⟨none,_,_,_,_,_⟩) ?_ 32 (.tmp 2) (.tmp 7) ?_ w.heap.size 32 Y (Q5z V).toArray ?_ ?_ hy4.out ?_ ?_ ?_ w.heap.size w hbw4 ?_ ?_
             ·rfl
             ·rfl
             ·rfl
             ·rfl
             ·exact Qsz HVL.out
             ·exact HYS.out.trans (by rw[List.size_toArray,Q5z,List.length_map,HVL.out])
             ·exact Qzz V
             ·exact Nat.le_refl _
             intro w5 hz5 hb5 _ _)
 refine bodyPost_ret (Qqz rfl _ _ _ w.heap.size _ (Q5z V) _ rfl hz5.out Tryz.underlying32 rfl (Quz HVL.out)) rfl ?_
 exact⟨rfl,hb5⟩
end
section
open Go.RowKit
theorem ch_prog (e f g:BitVec 32):g ^^^ (e &&& (f ^^^ g))=chP e f g:=by
 unfold chP
 apply BitVec.eq_of_getLsbD_eq
 intro j hj
 simp only[BitVec.getLsbD_xor,BitVec.getLsbD_and,BitVec.getLsbD_not]
 cases e.getLsbD j<;>cases f.getLsbD j<;>cases g.getLsbD j<;>simp[hj]
theorem mj_prog (a b c:BitVec 32):(a &&& b) ||| (c &&& (a ||| b))=mjP a b c:=by
 unfold mjP
 apply BitVec.eq_of_getLsbD_eq
 intro j hj
 simp only[BitVec.getLsbD_xor,BitVec.getLsbD_and,BitVec.getLsbD_or]
 cases a.getLsbD j<;>cases b.getLsbD j<;>cases c.getLsbD j<;>rfl
theorem be_prog (bs:List (BitVec 8)) (k:Nat) (x0 x1 x2 x3:BitVec 8) (h0:bs[k]? =some x0) (h1:bs[k+1]? =some x1) (h2:bs[k+2]? =some x2) (h3:bs[k+3]? =some x3):
 ((x0.setWidth 32 <<< 24 ||| x1.setWidth 32 <<< 16) ||| x2.setWidth 32 <<< 8) ||| x3.setWidth 32=beTo bs k 4:=by
 have e:beTo bs k 4=(((0#32*256#32+x0.setWidth 32)*256#32+x1.setWidth 32)*256#32+x2.setWidth 32)*256#32+x3.setWidth 32:=by
  simp only[beTo,Nat.add_zero,h0,h1,h2,h3,Option.getD_some]
 rw[e]
 have low8:∀(b:BitVec 8) (j:Nat),8≤j→(b.setWidth 32).getLsbD j=false:=fun b j hj=>by
  rw[BitVec.getLsbD_setWidth,BitVec.getLsbD_of_ge b j hj];simp
 have z1:(x0.setWidth 32 <<< 24) &&& (x1.setWidth 32 <<< 16)=0#32:=by
  apply BitVec.eq_of_getLsbD_eq
  intro j hj
  rw[BitVec.getLsbD_and,BitVec.getLsbD_shiftLeft,BitVec.getLsbD_shiftLeft,BitVec.getLsbD_zero]
  by_cases h:j<24
  ·simp[h]
  ·simp[low8 x1 (j-16) (by omega)]
 have z2:(x0.setWidth 32 <<< 24 ||| x1.setWidth 32 <<< 16) &&& (x2.setWidth 32 <<< 8)=0#32:=by
  apply BitVec.eq_of_getLsbD_eq
  intro j hj
  rw[BitVec.getLsbD_and,BitVec.getLsbD_or,BitVec.getLsbD_shiftLeft,BitVec.getLsbD_shiftLeft,BitVec.getLsbD_shiftLeft,BitVec.getLsbD_zero]
  by_cases h:j<16
  ·simp[h,show j<24 by omega]
  ·simp[low8 x2 (j-8) (by omega)]
 have z3:((x0.setWidth 32 <<< 24 ||| x1.setWidth 32 <<< 16) ||| x2.setWidth 32 <<< 8) &&& x3.setWidth 32=0#32:=by
  apply BitVec.eq_of_getLsbD_eq
  intro j hj
  rw[BitVec.getLsbD_and,BitVec.getLsbD_or,BitVec.getLsbD_or,BitVec.getLsbD_shiftLeft,BitVec.getLsbD_shiftLeft,BitVec.getLsbD_shiftLeft,BitVec.getLsbD_zero]
  by_cases h:j<8
  ·simp[h,show j<24 by omega,show j<16 by omega]
  ·simp[low8 x3 j (by omega)]
 rw[←BitVec.add_eq_or_of_and_eq_zero _ _ z3,← BitVec.add_eq_or_of_and_eq_zero _ _ z2,← BitVec.add_eq_or_of_and_eq_zero _ _ z1]
 have b0:=x0.isLt
 have b1:=x1.isLt
 have b2:=x2.isLt
 have b3:=x3.isLt
 apply BitVec.eq_of_toNat_eq
 simp only[BitVec.toNat_add,BitVec.toNat_mul,BitVec.toNat_shiftLeft,BitVec.toNat_setWidth,BitVec.toNat_ofNat,Nat.shiftLeft_eq]
 omega
end
section
open Go.RowKit
abbrev gTop:Nat:=max 0 1+1
structure Laid (w:World):Prop where
 size:gTop≤w.heap.size
 first:∀i,i<8→w.cell? ⟨0,i,none⟩=some (.int .u32 (iv32 (atS s8First i)))
 words:∀i,i<64→w.cell? ⟨1,i,none⟩=some (.int .u32 (iv32 (kW i)))
theorem lt_top1 {n:Nat} (h:gTop≤n):0<n:=by unfold gTop at h;omega
theorem lt_top2 {n:Nat} (h:gTop≤n):1<n:=by unfold gTop at h;omega
theorem Laid.kept {w w':World} {H:Nat} (h:Laid w) (hg:w.grownBy w' (some H)) (hH:gTop≤H):Laid w':=
 ⟨Nat.le_trans h.size hg.size,
  fun i hi=>(World.cell?_of_block (a:=⟨0,i,none⟩) (hg.block _ (lt_top1 h.size) (by intro e;injection e with e;exact Nat.ne_of_lt (lt_top1 hH) e))).trans (h.first i hi),
  fun i hi=>(World.cell?_of_block (a:=⟨1,i,none⟩) (hg.block _ (lt_top2 h.size) (by intro e;injection e with e;exact Nat.ne_of_lt (lt_top2 hH) e))).trans (h.words i hi)⟩
theorem Laid.below {w w':World} {B:Nat} (h:Laid w) (hb:Below B w w') (hB:gTop≤B):Laid w':=
 ⟨Nat.le_trans h.size hb.size,
  fun i hi=>(hb.cell (p:=⟨0,i,none⟩) (lt_top1 hB)).trans (h.first i hi),
  fun i hi=>(hb.cell (p:=⟨1,i,none⟩) (lt_top2 hB)).trans (h.words i hi)⟩
def stC (pre post:List Value) (l:List (BitVec 32)):Array Value:=(pre++(l.map u32++post)).toArray
theorem stC_at (pre post:List Value) (l:List (BitVec 32)) (i:Nat) (h:i<l.length):(stC pre post l)[pre.length+i]? =some (.int .u32 (iv32 (atW l i))):=by
 unfold stC atW
 rw[List.getElem?_toArray,List.getElem?_append_right (by omega),show pre.length+i-pre.length=i by omega,List.getElem?_append_left (by simpa using h),List.getElem?_map,List.getElem?_eq_getElem h]
 rfl
theorem stC_set (pre post:List Value) (l:List (BitVec 32)) (i:Nat) (h:i<l.length) (y:BitVec 32):(stC pre post l).setIfInBounds (pre.length+i) (.int .u32 (iv32 y))=stC pre post (l.set i y):=by
 unfold stC
 rw[List.setIfInBounds_toArray,List.set_append_right _ _ (by omega),show pre.length+i-pre.length=i by omega,List.set_append_left _ _ (by simpa using h),List.map_set]
theorem S8.list_len (s:S8):s.list.length=8:=rfl
def adL (s v:S8) (q:Nat):List (BitVec 32):=(s.add v).list.take q++s.list.drop q
theorem adL_len (s v:S8) (q:Nat) (h:q≤8):(adL s v q).length=8:=by
 unfold adL;rw[List.length_append,List.length_take,List.length_drop,S8.list_len,S8.list_len];omega
theorem adL_zero (s v:S8):adL s v 0=s.list:=rfl
theorem adL_end (s v:S8):adL s v 8=(s.add v).list:=rfl
theorem adL_at (s v:S8) (q:Nat) (h:q<8):atW (adL s v q) q=atS s q:=by
 match q,h with
 |0,_|1,_|2,_|3,_|4,_|5,_|6,_|7,_=>rfl
theorem adL_set (s v:S8) (q:Nat) (h:q<8):(adL s v q).set q (atS s q+atS v q)=adL s v (q+1):=by
 match q,h with
 |0,_|1,_|2,_|3,_|4,_|5,_|6,_|7,_=>rfl
theorem S8.add_comm (s v:S8):s.add v=v.add s:=by
 unfold S8.add
 simp only[BitVec.add_comm]
theorem atA_cells (v:S8) (q:Nat) (h:q<8):atA v.cells.toArray q= .int .u32 (iv32 (atS v q)):=by
 unfold atA;rw[cells_here v q h];rfl
theorem block_any (H:Nat) (t:TypeId) (pre post:List Value) (s:S8) (bs:List (BitVec 8)) (w:World) (hl:bs.length=64) (hb:Blk w H t (stC pre post s.list)) (hH:gTop≤H) (hK:Laid w):
 Calls Tryz.prog 134 #[.pointer (some ⟨H,pre.length,none⟩),.agg (bs.map u8).toArray] w fun e w'=>e= .returned (.tuple #[])∧Blk w' H t (stC pre post (s.mix bs).list)∧w.grownBy w' (some H):=by
 have HN:=Lib.hid hl
 have HK:=Lib.hid hK
 have HB:=Lib.hid hb
 obtain⟨off,hoff⟩:∃off,off=pre.length:=⟨_,rfl⟩
 rw[←hoff]
 have HO:=Lib.hid hoff
 have hz64:=zero64
 obtain⟨Z,hZ⟩:∃Z,Z=wDone []:=⟨_,rfl⟩
 rw[←hZ]at hz64
 have HZ:=Lib.hid hZ
 obtain⟨PB,hPB⟩:∃PB,PB=(bs.map u8).toArray:=⟨_,rfl⟩
 rw[←hPB]
 have HP:=Lib.hid hPB
 have hHlt:=hb.lt
 clear hl hb hK hoff hZ hPB
 go_enter Tryz.func134,Tryz.ntmps134
 go_upto_region 2 with fail
 refine X9z (fun w'=>Hid (Blk w' w.heap.size 222 PB)∧Hid (Blk w' (w.heap.size+1) 214 (wDone (wl bs 0)))∧Below w.heap.size w w')
  ⟨Lib.hid ((Blk.new w _ _).alloc _),Lib.hid (by rw[show wDone (wl bs 0)=Z from HZ.out.symm];exact Blk.new2 w _ _ _),((Below.refl _ _).alloc (Nat.le_refl _) _).alloc (by simp) _⟩ ?_
 rintro w1 ⟨hp1,hk1,hbel1⟩
 go_wp2_with fail
 go_loopw[20] (fun i wr=>∃k:Nat,k≤16∧i= .int .i64 k∧Hid (Blk wr (w.heap.size+1) 214 (wDone (wl bs k)))∧Hid (Blk wr w.heap.size 222 PB)∧Below w.heap.size w wr) (fun i _=>16-(intOf i).toNat)
 case atStart=>exact⟨0,by omega,rfl,hk1,hp1,hbel1⟩
 case round=>
  obtain⟨k,hk,rfl,hb1,hp2,hbel⟩:=hrel
  clear hk1 hp1 hbel1
  by_cases hk16:k<16
  ·have hlt:(k:Int)<16:=by omega
   obtain⟨l,hl⟩:∃l,l=wl bs k:=⟨_,rfl⟩
   have hll:l.length=k:=by rw[hl,wl_len]
   have hwd:wDone (wl bs k)=Xuz l 0#32:=by rw[←hl];unfold wDone;rw[if_pos (by omega)]
   rw[hwd]at hb1
   have HLL:=Lib.hid hll
   have HL:=Lib.hid hl
   clear hwd hll hl
   go_upto_region 5 with fail
   have hf1:=hb1.out.frozen k
   have ck:wr.cell? ⟨w.heap.size+1,k,none⟩=some (.int .u32 (iv32 0#32)):=by rw[hb1.out.cell];have:=wCells_here l 0#32;rw[HLL.out]at this;exact this
   have hx:∀j,j<4→∃x,bs[4*k+j]? =some x∧wr.cell? ⟨w.heap.size,4*k+j,none⟩=some (.int .u8 (iv8 x)):=by
    intro j hj
    have hlt2:4*k+j<bs.length:=by rw[HN.out];omega
    refine⟨bs[4*k+j]'hlt2,List.getElem?_eq_getElem _,?_⟩
    rw[hp2.out.cell,HP.out,List.getElem?_toArray,List.getElem?_map,List.getElem?_eq_getElem hlt2]
    rfl
   obtain⟨x0,hx0,c0⟩:=hx 0 (by omega)
   obtain⟨x1,hx1,c1⟩:=hx 1 (by omega)
   obtain⟨x2,hx2,c2⟩:=hx 2 (by omega)
   obtain⟨x3,hx3,c3⟩:=hx 3 (by omega)
   rw[Nat.add_zero]at c0 hx0
   have HBE:=Lib.hid (be_prog bs (4*k) x0 x1 x2 x3 hx0 hx1 hx2 hx3)
   clear hx hx0 hx1 hx2 hx3
   have w0:IntKind.i64.wrap (4*(k:Int))=4*(k:Int):=by rw[IntKind.wrap_i64];omega
   have w1:IntKind.i64.wrap (4*(k:Int)+1)=4*(k:Int)+1:=by rw[IntKind.wrap_i64];omega
   have w2:IntKind.i64.wrap (4*(k:Int)+2)=4*(k:Int)+2:=by rw[IntKind.wrap_i64];omega
   have w3:IntKind.i64.wrap (4*(k:Int)+3)=4*(k:Int)+3:=by rw[IntKind.wrap_i64];omega
   have n0:(4*(k:Int)).toNat=4*k:=by omega
   have n1:(4*(k:Int)+1).toNat=4*k+1:=by omega
   have n2:(4*(k:Int)+2).toNat=4*k+2:=by omega
   have n3:(4*(k:Int)+3).toNat=4*k+3:=by omega
   have p0:(0:Int)≤4*(k:Int):=by omega
   have p1:(0:Int)≤4*(k:Int)+1:=by omega
   have p2:(0:Int)≤4*(k:Int)+2:=by omega
   have p3:(0:Int)≤4*(k:Int)+3:=by omega
   have q0:4*(k:Int)<64:=by omega
   have q1:4*(k:Int)+1<64:=by omega
   have q2:4*(k:Int)+2<64:=by omega
   have q3:4*(k:Int)+3<64:=by omega
   have pk:(0:Int)≤(k:Int):=by omega
   have qk:(k:Int)<64:=by omega
   have e0:=XRz x0
   have e1:=XRz x1
   have e2:=XRz x2
   have e3:=XRz x3
   have s0:=shl32 (x0.setWidth 32) 24 16777216 (by rfl)
   have s1:=shl32 (x1.setWidth 32) 16 65536 (by rfl)
   have s2:=shl32 (x2.setWidth 32) 8 256 (by rfl)
   have o1:=or32 (x0.setWidth 32 <<< 24) (x1.setWidth 32 <<< 16)
   have o2:=or32 (x0.setWidth 32 <<< 24 ||| x1.setWidth 32 <<< 16) (x2.setWidth 32 <<< 8)
   have o3:bits .or .u32 (iv32 ((x0.setWidth 32 <<< 24 ||| x1.setWidth 32 <<< 16) ||| x2.setWidth 32 <<< 8)) (iv32 (x3.setWidth 32))=iv32 (beTo bs (4*k) 4):=by rw[or32,HBE.out]
   refine QZz 31 (by kernel_rfl) (by kernel_rfl) ?_
   simp only[List.take_succ_cons,List.take_zero,List.drop_succ_cons,List.drop_zero]
   iterate 31 (go_big_quiet_step (fail))
   refine wpQuiet_nil ?_
   rintro _ ⟨nq,rfl⟩
   clear w0 w1 w2 w3 n0 n1 n2 n3 p0 p1 p2 p3 q0 q1 q2 q3 e0 e1 e2 e3 s0 s1 s2 o1 o2 o3 c0 c1 c2 c3
   go_wp2
   go_roundw
   case rel=>
    refine⟨k+1,by omega,by go_num,Lib.hid ?_,Lib.hid ?_,?_⟩
    ·have:=(hb1.out.drewN nq).set k (.int .u32 (iv32 (beTo bs (4*k) 4)))
     have e:=wCells_set l 0#32 (beTo bs (4*k) 4)
     rw[HLL.out]at e
     rw[e,wDone_next l _ (by rw[HLL.out];omega)]at this
     rw[wl,if_pos hk16,← HL.out]
     exact this
    ·exact(hp2.out.drewN nq).far (by simp) _
    ·exact(Q7z hbel nq).setCell (by simp) _
   case measure=>simp[intOf];omega
  ·have hk16':k=16:=by omega
   subst hk16'
   have hge:¬((16:Nat):Int)<16:=by omega
   go_wp2_with fail
   go_loopw[6] (fun i wr=>∃k:Nat,16≤k∧k≤64∧i= .int .i64 k∧Hid (Blk wr (w.heap.size+1) 214 (wDone (wl bs k)))∧Below w.heap.size w wr) (fun i _=>64-(intOf i).toNat)
   case atStart=>exact⟨16,by omega,by omega,rfl,hb1,hbel⟩
   case round=>
    obtain⟨k,hk16,hk,rfl,hb2,hbel2⟩:=hrel
    clear hb1 hp2 hbel
    by_cases hk64:k<64
    ·have hlt:(k:Int)<64:=by omega
     obtain⟨l,hl⟩:∃l,l=wl bs k:=⟨_,rfl⟩
     have hll:l.length=k:=by rw[hl,wl_len]
     have hwd:wDone (wl bs k)=Xuz l 0#32:=by rw[←hl];unfold wDone;rw[if_pos (by omega)]
     rw[hwd]at hb2
     have HLL:=Lib.hid hll
     have HL:=Lib.hid hl
     clear hwd hll hl
     go_upto_region 10 with fail
     have e16:IntKind.i64.wrap ((k:Int)-16)=(k:Int)-16:=by rw[IntKind.wrap_i64];omega
     have n16:((k:Int)-16).toNat=k-16:=by omega
     have p16:(0:Int)≤(k:Int)-16:=by omega
     have q16:(k:Int)-16<64:=by omega
     have c16:wr.cell? ⟨w.heap.size+1,k-16,none⟩=some (.int .u32 (iv32 (atW l (k-16)))):=by rw[hb2.out.cell];exact XZz l _ _ (by rw[HLL.out];omega)
     have e15:IntKind.i64.wrap ((k:Int)-15)=(k:Int)-15:=by rw[IntKind.wrap_i64];omega
     have n15:((k:Int)-15).toNat=k-15:=by omega
     have p15:(0:Int)≤(k:Int)-15:=by omega
     have q15:(k:Int)-15<64:=by omega
     have c15:wr.cell? ⟨w.heap.size+1,k-15,none⟩=some (.int .u32 (iv32 (atW l (k-15)))):=by rw[hb2.out.cell];exact XZz l _ _ (by rw[HLL.out];omega)
     have e7:IntKind.i64.wrap ((k:Int)-7)=(k:Int)-7:=by rw[IntKind.wrap_i64];omega
     have n7:((k:Int)-7).toNat=k-7:=by omega
     have p7:(0:Int)≤(k:Int)-7:=by omega
     have q7:(k:Int)-7<64:=by omega
     have c7:wr.cell? ⟨w.heap.size+1,k-7,none⟩=some (.int .u32 (iv32 (atW l (k-7)))):=by rw[hb2.out.cell];exact XZz l _ _ (by rw[HLL.out];omega)
     have e2:IntKind.i64.wrap ((k:Int)-2)=(k:Int)-2:=by rw[IntKind.wrap_i64];omega
     have n2:((k:Int)-2).toNat=k-2:=by omega
     have p2:(0:Int)≤(k:Int)-2:=by omega
     have q2:(k:Int)-2<64:=by omega
     have c2:wr.cell? ⟨w.heap.size+1,k-2,none⟩=some (.int .u32 (iv32 (atW l (k-2)))):=by rw[hb2.out.cell];exact XZz l _ _ (by rw[HLL.out];omega)
     have hf1:=hb2.out.frozen k
     have ck:wr.cell? ⟨w.heap.size+1,k,none⟩=some (.int .u32 (iv32 0#32)):=by rw[hb2.out.cell];have:=wCells_here l 0#32;rw[HLL.out]at this;exact this
     obtain⟨X,hX⟩:∃X,X=atW l (k-15):=⟨_,rfl⟩
     obtain⟨Y,hY⟩:∃Y,Y=atW l (k-2):=⟨_,rfl⟩
     obtain⟨A,hA⟩:∃A,A=atW l (k-16):=⟨_,rfl⟩
     obtain⟨B,hB⟩:∃B,B=atW l (k-7):=⟨_,rfl⟩
     rw[←hX]at c15
     rw[←hY]at c2
     rw[←hA]at c16
     rw[←hB]at c7
     have hnx:nextW l k=((sm1 Y+B)+sm0 X)+A:=by
      rw[hA,hX,hB,hY]
      show atW l (k-16)+sm0 (atW l (k-15))+atW l (k-7)+sm1 (atW l (k-2))=_
      ac_rfl
     obtain⟨N,hN⟩:∃N,N=nextW l k:=⟨_,rfl⟩
     rw[←hN]at hnx
     have HNX:Hid (wl bs (k+1)=l++[N]):=Lib.hid (by rw[wl,if_neg (by omega),← HL.out,hN])
     have r1:=shr32 Y 10 1024 (by rfl)
     have r2:=shr32 X 3 8 (by rfl)
     have a1:=add32 (sm1 Y) B
     have a2:=add32 (sm1 Y+B) (sm0 X)
     have a3:IntKind.u32.wrap (iv32 (sm1 Y+B+sm0 X)+iv32 A)=iv32 N:=by rw[add32,hnx]
     have T1:∀j,Calls Tryz.prog 154 #[.int .u32 (iv32 Y),.int .i64 17,.int .i64 19,.int .u32 (iv32 (Y >>> 10))] (wr.drewN j) fun e w''=>e= .returned (.int .u32 (iv32 (sm1 Y)))∧∃m,w''=wr.drewN m:=fun j=>
      (xor3_any Y 17 19 (Y >>> 10) (by omega) (by omega) (by omega) (by omega) (wr.drewN j)).mono fun _ _ ⟨he,hm⟩=>⟨he,j,hm⟩
     have T2:∀j,Calls Tryz.prog 154 #[.int .u32 (iv32 X),.int .i64 7,.int .i64 18,.int .u32 (iv32 (X >>> 3))] (wr.drewN j) fun e w''=>e= .returned (.int .u32 (iv32 (sm0 X)))∧∃m,w''=wr.drewN m:=fun j=>
      (xor3_any X 7 18 (X >>> 3) (by omega) (by omega) (by omega) (by omega) (wr.drewN j)).mono fun _ _ ⟨he,hm⟩=>⟨he,j,hm⟩
     clear hX hY hA hB hN hnx
     refine QZz 33 (by kernel_rfl) (by kernel_rfl) ?_
     simp only[List.take_succ_cons,List.take_zero,List.drop_succ_cons,List.drop_zero]
     iterate 11 (go_big_quiet_step (exact T1 _))
     iterate 22 (go_big_quiet_step (exact T2 _))
     refine wpQuiet_nil ?_
     rintro _ ⟨nq,rfl⟩
     clear e16 n16 p16 q16 e7 n7 p7 q7 e15 n15 p15 q15 e2 n2 p2 q2 r1 r2 a1 a2 a3 T1 T2 c16 c15 c7 c2
     go_wp2
     go_roundw
     case rel=>
      refine⟨k+1,by omega,by omega,by go_num,Lib.hid ?_,?_⟩
      ·have:=(hb2.out.drewN nq).set k (.int .u32 (iv32 N))
       have e:=wCells_set l 0#32 N
       rw[HLL.out]at e
       rw[e,wDone_next l _ (by rw[HLL.out];omega)]at this
       rw[HNX.out]
       exact this
      ·exact(Q7z hbel2 nq).setCell (by simp) _
     case measure=>simp[intOf];omega
    ·have hk64':k=64:=by omega
     subst hk64'
     have hge64:¬((64:Nat):Int)<64:=by omega
     go_upto_region 11 with fail
     have hH1:=Lib.hid (HB.out.below hbel2 hHlt)
     have f0:wr.cell? ⟨H,off,none⟩=some (.int .u32 (iv32 s.a)):=by rw[hH1.out.cell,HO.out];exact stC_at pre post s.list 0 (by rw[S8.list_len];omega)
     have f1:wr.cell? ⟨H,off+1,none⟩=some (.int .u32 (iv32 s.b)):=by rw[hH1.out.cell,HO.out];exact stC_at pre post s.list 1 (by rw[S8.list_len];omega)
     have f2:wr.cell? ⟨H,off+2,none⟩=some (.int .u32 (iv32 s.c)):=by rw[hH1.out.cell,HO.out];exact stC_at pre post s.list 2 (by rw[S8.list_len];omega)
     have f3:wr.cell? ⟨H,off+3,none⟩=some (.int .u32 (iv32 s.d)):=by rw[hH1.out.cell,HO.out];exact stC_at pre post s.list 3 (by rw[S8.list_len];omega)
     have f4:wr.cell? ⟨H,off+4,none⟩=some (.int .u32 (iv32 s.e)):=by rw[hH1.out.cell,HO.out];exact stC_at pre post s.list 4 (by rw[S8.list_len];omega)
     have f5:wr.cell? ⟨H,off+5,none⟩=some (.int .u32 (iv32 s.f)):=by rw[hH1.out.cell,HO.out];exact stC_at pre post s.list 5 (by rw[S8.list_len];omega)
     have f6:wr.cell? ⟨H,off+6,none⟩=some (.int .u32 (iv32 s.g)):=by rw[hH1.out.cell,HO.out];exact stC_at pre post s.list 6 (by rw[S8.list_len];omega)
     have f7:wr.cell? ⟨H,off+7,none⟩=some (.int .u32 (iv32 s.h)):=by rw[hH1.out.cell,HO.out];exact stC_at pre post s.list 7 (by rw[S8.list_len];omega)
     refine quiet_in (fun k=>wr.drewN k) 1 rfl (by kernel_rfl) (by kernel_rfl) ?_
     iterate 40 (go_big_quiet_step (fail))
     refine wpQuiet_nil ?_
     rintro _ ⟨nq,rfl⟩
     clear f0 f1 f2 f3 f4 f5 f6 f7 hH1
     have hb3:=Lib.hid (hb2.out.drewN nq)
     have hbel3:=Q7z hbel2 nq
     clear hb2 hbel2
     generalize wr.drewN nq=W3 at*
     obtain⟨ws,hws⟩:∃ws,ws=wl bs 64:=⟨_,rfl⟩
     rw[show wDone (wl bs 64)=wAll ws by rw[hws];unfold wDone;rw[if_neg (by rw[wl_len];omega)]]at hb3
     have HW:=Lib.hid hws
     clear hws
     go_wp2_with fail
     go_loopw[7,8,9,10,11,12,13,14,124] (fun x0 x1 x2 x3 x4 x5 x6 x7 i wr=>∃(k:Nat) (v:S8),k≤64∧Hid (v=s.rounds ws k)∧i= .int .i64 k∧x0= .int .u32 (iv32 v.a)∧x1= .int .u32 (iv32 v.b)∧x2= .int .u32 (iv32 v.c)∧x3= .int .u32 (iv32 v.d)∧x4= .int .u32 (iv32 v.e)∧x5= .int .u32 (iv32 v.f)∧x6= .int .u32 (iv32 v.g)∧x7= .int .u32 (iv32 v.h)∧Hid (Blk wr (w.heap.size+1) 214 (wAll ws))∧Below w.heap.size w wr) (fun _ _ _ _ _ _ _ _ i _=>64-(intOf i).toNat)
     case atStart=>exact⟨0,s,by omega,Lib.hid rfl,rfl,rfl,rfl,rfl,rfl,rfl,rfl,rfl,rfl,hb3,hbel3⟩
     case round=>
      obtain⟨k,v,hk,HV,rfl,rfl,rfl,rfl,rfl,rfl,rfl,rfl,rfl,hb4,hbel4⟩:=hrel
      clear hb3 hbel3
      by_cases hk64:k<64
      ·have hlt:(k:Int)<64:=by omega
       go_upto_region 15 with fail
       have cw:wr.cell? ⟨w.heap.size+1,k,none⟩=some (.int .u32 (iv32 (atW ws k))):=by
        rw[hb4.out.cell];exact wAll_at ws k (by rw[HW.out,wl_len];exact hk64)
       have cg:=(HK.out.below hbel4 (Nat.le_trans hH (Nat.le_of_lt hHlt))).words k hk64
       have R1:∀j,Calls Tryz.prog 155 #[.int .u32 (iv32 v.e),.int .i64 (-25)] (wr.drewN j) fun e w''=>e= .returned (.int .u32 (iv32 (rr v.e 25)))∧∃m,w''=wr.drewN m:=fun j=>
        (rot32_any v.e 25 (by omega) (by omega) (wr.drewN j)).mono fun _ _ ⟨he,hm⟩=>⟨he,j,hm⟩
       have T1:∀j,Calls Tryz.prog 154 #[.int .u32 (iv32 v.e),.int .i64 6,.int .i64 11,.int .u32 (iv32 (rr v.e 25))] (wr.drewN j) fun e w''=>e= .returned (.int .u32 (iv32 (bg1 v.e)))∧∃m,w''=wr.drewN m:=fun j=>
        (xor3_any v.e 6 11 (rr v.e 25) (by omega) (by omega) (by omega) (by omega) (wr.drewN j)).mono fun _ _ ⟨he,hm⟩=>⟨he,j,hm⟩
       have a1:=add32 v.h (bg1 v.e)
       have a2:=add32 (v.h+bg1 v.e) (chP v.e v.f v.g)
       have a3:=add32 (v.h+bg1 v.e+chP v.e v.f v.g) (kW k)
       have a4:IntKind.u32.wrap (iv32 (v.h+bg1 v.e+chP v.e v.f v.g+kW k)+iv32 (atW ws k))=iv32 (v.t1 k (atW ws k)):=by rw[add32];rfl
       have b1:=xor32 v.f v.g
       have b2:=and32 v.e (v.f ^^^ v.g)
       have b3:bits .xor .u32 (iv32 v.g) (iv32 (v.e &&& (v.f ^^^ v.g)))=iv32 (chP v.e v.f v.g):=by rw[xor32,ch_prog]
       have pk:(0:Int)≤(k:Int):=by omega
       refine quiet_in (fun k=>wr.drewN k) 1 rfl (by kernel_rfl) (by kernel_rfl) ?_
       iterate 4 (go_big_quiet_step (exact R1 _))
       iterate 19 (go_big_quiet_step (exact T1 _))
       refine wpQuiet_nil ?_
       rintro _ ⟨nq,rfl⟩
       have hb5:=Lib.hid (hb4.out.drewN nq)
       have hbel5:=Q7z hbel4 nq
       clear hb4 hbel4 cw cg R1 T1 a1 a2 a3 a4 b1 b2 b3
       generalize wr.drewN nq=W4 at*
       obtain⟨A,hA⟩:∃A,A=v.t1 k (atW ws k):=⟨_,rfl⟩
       rw[←hA]
       have HA:=Lib.hid hA
       clear hA
       have g1:=and32 v.a v.b
       have g2:=or32 v.a v.b
       have g3:=and32 v.c (v.a ||| v.b)
       have g4:bits .or .u32 (iv32 (v.a &&& v.b)) (iv32 (v.c &&& (v.a ||| v.b)))=iv32 (mjP v.a v.b v.c):=by rw[or32,mj_prog]
       have g5:IntKind.u32.wrap (iv32 (bg0 v.a)+iv32 (mjP v.a v.b v.c))=iv32 v.t2:=by rw[add32];rfl
       have g6:=add32 A v.t2
       have g7:=add32 v.d A
       go_wp2_with fail
       refine(rot32_any v.a 22 (by omega) (by omega) _).mono ?_
       rintro e w5 ⟨rfl,hw5⟩
       replace hw5:=hw5.symm
       subst hw5
       go_wp2_with fail
       refine(xor3_any v.a 2 13 (rr v.a 22) (by omega) (by omega) (by omega) (by omega) _).mono ?_
       rintro e w5 ⟨rfl,hw5⟩
       replace hw5:=hw5.symm
       subst hw5
       rw[show(rr v.a 2 ^^^ rr v.a 13) ^^^ rr v.a 22=bg0 v.a from rfl]
       go_wp2
       clear g1 g2 g3 g4 g5 g6 g7
       go_roundw
       case rel=>exact⟨k+1,s.rounds ws (k+1),by omega,Lib.hid rfl,by go_num,by rw[S8.rounds,← HV.out,HA.out];rfl,by rw[S8.rounds,← HV.out];rfl,by rw[S8.rounds,← HV.out];rfl,by rw[S8.rounds,← HV.out];rfl,by rw[S8.rounds,← HV.out,HA.out];rfl,by rw[S8.rounds,← HV.out];rfl,by rw[S8.rounds,← HV.out];rfl,by rw[S8.rounds,← HV.out];rfl,hb5,hbel5⟩
       case measure=>simp[intOf];omega
      ·have hk64':k=64:=by omega
       subst hk64'
       have hge64:¬((64:Nat):Int)<64:=by omega
       go_upto_region 20 with fail
       have hsv:Hid (s.add v=s.mix bs):=Lib.hid (by rw[S8.add_comm,HV.out,HW.out];rfl)
       obtain⟨CS,hCS⟩:∃CS,CS=v.cells.toArray:=⟨_,rfl⟩
       rw[show(#[Value.int .u32 (iv32 v.a),.int .u32 (iv32 v.b),.int .u32 (iv32 v.c),.int .u32 (iv32 v.d),.int .u32 (iv32 v.e),.int .u32 (iv32 v.f),.int .u32 (iv32 v.g),.int .u32 (iv32 v.h)]:Array Value)=CS from hCS.symm]
       have hsz:CS.size=8:=by rw[hCS];rfl
       have HEL:Hid (∀q,q<8→atA CS q= .int .u32 (iv32 (atS v q))):=Lib.hid (fun q hq=>by rw[hCS];exact atA_cells v q hq)
       obtain⟨ti,hti,hts⟩:∃ti,Tryz.prog.info? 30=some ti∧ti.size=1:=by
        have:(Tryz.prog.info? 30).map (·.size)=some 1:=by kernel_rfl
        exact Option.map_eq_some_iff.1 this
       have HIX:=Lib.hid (run_index_arr (P:=Tryz.prog) 174 30 8 .u32 ti Tryz.underlying174 Tryz.underlying30 hti hts)
       have hst:Hid (Blk wr H t (stC pre post (adL s v 0))):=Lib.hid (by rw[adL_zero];exact HB.out.below hbel4 hHlt)
       have hgr:w.grownBy wr (some H):=grown_below hbel4 (Nat.le_refl _)
       clear hCS hti hts hb4 hbel4
       go_loopw[185] (fun i wr2=>∃q:Nat,q≤8∧i= .int .i64 q∧Hid (Blk wr2 H t (stC pre post (adL s v q)))∧w.grownBy wr2 (some H)) (fun i _=>8-(intOf i).toNat)
       case atStart=>exact⟨0,by omega,rfl,hst,hgr⟩
       case round=>
        obtain⟨q,hq,rfl,hst2,hgr2⟩:=hrel
        clear hst hgr
        by_cases hq8:q<8
        ·have hltq:(q:Int)<8:=by omega
         have hix:=HIX.out
         have hx:=HEL.out q hq8
         go_upto_region 22 with fail
         clear hix hx
         have f0:wr.cell? ⟨H,off+q,none⟩=some (.int .u32 (iv32 (atS s q))):=by
          rw[hst2.out.cell,HO.out,stC_at pre post _ q (by rw[adL_len s v q hq];exact hq8),adL_at s v q hq8]
         have a1:=add32 (atS s q) (atS v q)
         have fz:=hst2.out.frozen (off+q)
         have pq:(0:Int)≤(q:Int):=by omega
         refine QZz 9 (by kernel_rfl) (by kernel_rfl) ?_
         simp only[List.take_succ_cons,List.take_zero,List.drop_succ_cons,List.drop_zero]
         iterate 9 (go_big_quiet_step (fail))
         refine wpQuiet_nil ?_
         rintro _ ⟨nq,rfl⟩
         clear a1
         go_wp2
         go_roundw
         case rel=>
          refine⟨q+1,by omega,by go_num,Lib.hid ?_,?_⟩
          ·have:=(hst2.out.drewN nq).set (off+q) (.int .u32 (iv32 (atS s q+atS v q)))
           rw[HO.out,stC_set pre post _ q (by rw[adL_len s v q hq];exact hq8),adL_set s v q hq8]at this
           rw[HO.out]
           exact this
          ·exact XIz (grown_drewN hgr2 nq) _ _
         case measure=>simp[intOf];omega
        ·have hq8':q=8:=by omega
         subst hq8'
         have hge8:¬((8:Nat):Int)<8:=by omega
         rw[adL_end,hsv.out]at hst2
         go_wp2
         refine bodyPost_end (results_none rfl _ _ _) rfl ?_
         exact⟨rfl,hst2.out,hgr2⟩
end
section
open Go.RowKit
def hsC (s:S8) (part:List (BitVec 8)) (L:Nat):List Value:=[.bool true]++(s.list.map u32++(part.map u8++[.int .u64 (L:Int)]))
theorem hsC_len (s:S8) (part:List (BitVec 8)) (L:Nat) (h:part.length=64):(hsC s part L).length=74:=by
 simp[hsC,S8.list_len,h]
theorem hsC_pre (s:S8) (part:List (BitVec 8)) (L:Nat):hsC s part L=([.bool true]++s.list.map u32)++(part.map u8++[.int .u64 (L:Int)]):=by
 unfold hsC;rw[List.append_assoc]
theorem pre_len (s:S8):([Value.bool true]++s.list.map u32).length=9:=rfl
theorem hsC_made (s:S8) (part:List (BitVec 8)) (L:Nat):(hsC s part L).toArray[0]? =some (.bool true):=rfl
theorem hsC_n (s:S8) (part:List (BitVec 8)) (L:Nat) (h:part.length=64):(hsC s part L).toArray[73]? =some (.int .u64 (L:Int)):=by
 rw[hsC_pre,List.getElem?_toArray,List.getElem?_append_right (by rw[pre_len];omega),pre_len,List.getElem?_append_right (by rw[List.length_map,h];omega),List.length_map,h]
 rfl
theorem hsC_setn (s:S8) (part:List (BitVec 8)) (L M:Nat) (h:part.length=64):(hsC s part L).toArray.setIfInBounds 73 (.int .u64 (M:Int))=(hsC s part M).toArray:=by
 rw[hsC_pre,hsC_pre,List.setIfInBounds_toArray,List.set_append_right _ _ (by rw[pre_len];omega),pre_len,List.set_append_right _ _ (by rw[List.length_map,h];omega),List.length_map,h]
 rfl
theorem hsC_part (s:S8) (part:List (BitVec 8)) (L:Nat) (i:Nat) (x:Value) (hx:(part.map u8)[i]? =some x):(hsC s part L).toArray[9+i]? =some x:=by
 have hi:i<(part.map u8).length:=(List.getElem?_eq_some_iff.1 hx).1
 rw[hsC_pre,List.getElem?_toArray,List.getElem?_append_right (by rw[pre_len];omega),pre_len,show 9+i-9=i by omega,List.getElem?_append_left hi]
 exact hx
theorem hsC_splice (s:S8) (part:List (BitVec 8)) (L at0:Nat) (x:List (BitVec 8)) (h:part.length=64) (ha:at0+x.length≤64):
 splice (hsC s part L) (9+at0) (x.map u8)=hsC s (part.take at0++x++part.drop (at0+x.length)) L:=by
 unfold splice
 rw[hsC_pre,hsC_pre,List.take_append,pre_len,show 9+at0-9=at0 by omega,List.take_of_length_le (by rw[pre_len];omega),List.take_append_of_le_length (by rw[List.length_map,h];omega),
  List.length_map,List.drop_append,pre_len,List.drop_of_length_le (by rw[pre_len];omega),List.nil_append,show 9+at0+x.length-9=at0+x.length by omega,List.drop_append_of_le_length (by rw[List.length_map,h];omega)]
 simp only[List.map_append,List.map_take,List.map_drop,List.append_assoc]
theorem hsC_one (s:S8) (part:List (BitVec 8)) (L:Nat):(hsC s part L).toArray.all (·.oneCell')=true:=by
 rw[List.all_toArray,hsC];simp[Value.oneCell',List.all_append]
theorem hsC_infoL (s:S8) (part:List (BitVec 8)) (L:Nat) (h:part.length=64):(Tryz.prog.info? 224).map (·.size)=some (hsC s part L).length:=by rw[hsC_len _ _ _ h];kernel_rfl
theorem hsC_info (s:S8) (part:List (BitVec 8)) (L:Nat) (h:part.length=64):(Tryz.prog.info? 224).map (·.size)=some (hsC s part L).toArray.size:=by rw[List.size_toArray];exact hsC_infoL s part L h
def Hasher (w:World) (H:Nat) (all:List (BitVec 8)):Prop:=∃part:List (BitVec 8),part.length=64∧part.take (all.length % 64)=all.drop (64*(all.length / 64))∧Blk w H 224 (hsC (Xjz all (all.length / 64)) part all.length).toArray
theorem Hasher.lt {w:World} {H:Nat} {all:List (BitVec 8)} (h:Hasher w H all):H<w.heap.size:=by
 obtain⟨part,h1,h2,h3⟩:=h
 exact h3.lt
theorem blocks_append (all x:List (BitVec 8)) (k:Nat) (h:64*k≤all.length):Xjz (all++x) k=Xjz all k:=by
 induction k with
 |zero=>rfl
 |succ k ih=>
  rw[Xjz,Xjz,ih (by omega),List.drop_append_of_le_length (by omega),List.take_append_of_le_length (by rw[List.length_drop];omega)]
section
variable (all x part:List (BitVec 8)) (hp:part.length=64) (ht:part.take (all.length % 64)=all.drop (64*(all.length / 64)))
def partP (part x:List (BitVec 8)) (at0:Nat):List (BitVec 8):=part.take at0++x++part.drop (at0+x.length)
include hp in
theorem partP_len (at0:Nat) (h:at0+x.length≤64):(partP part x at0).length=64:=by
 unfold partP
 rw[List.length_append,List.length_append,List.length_take,List.length_drop];omega
include ht
theorem partP_take:(partP part x (all.length % 64)).take (all.length % 64+x.length)=(all++x).drop (64*(all.length / 64)):=by
 unfold partP
 rw[ht,List.drop_append_of_le_length (by omega),List.take_append_of_le_length (by rw[List.length_append,List.length_drop];omega)]
 rw[List.take_of_length_le (by rw[List.length_append,List.length_drop];omega)]
theorem hash_more (h:all.length % 64+x.length<64):(all++x).length / 64=all.length / 64∧Xjz (all++x) (all.length / 64)=Xjz all (all.length / 64)∧(partP part x (all.length % 64)).take ((all++x).length % 64)=(all++x).drop (64*(all.length / 64)):=by
 have hl:(all++x).length=all.length+x.length:=List.length_append
 refine⟨by omega,blocks_append _ _ _ (by omega),?_⟩
 rw[←partP_take all x part ht,show(all++x).length % 64=all.length % 64+x.length by omega]
include hp in
theorem hash_full (h:all.length % 64+x.length=64):(all++x).length / 64=all.length / 64+1∧(all++x).length % 64=0∧Xjz (all++x) (all.length / 64+1)=(Xjz all (all.length / 64)).mix (partP part x (all.length % 64)):=by
 have hl:(all++x).length=all.length+x.length:=List.length_append
 refine⟨by omega,by omega,?_⟩
 rw[Xjz,blocks_append _ _ _ (by omega),← partP_take all x part ht,List.take_take,show min 64 (all.length % 64+x.length)=64 by omega,List.take_of_length_le (by rw[partP_len x part hp _ (by omega)];omega)]
end
theorem Blk.rangeAt {w:World} {g:Nat} {t:TypeId} {cs:Array Value} (h:Blk w g t cs) (o:Nat) (xs:List Value) (hx:∀j v,xs[j]? =some v→cs[o+j]? =some v):w.rangeAt g o xs:=fun j v hj=>by
 rw[h.cell];exact hx j v hj
theorem built_new:Tryz.prog.built 224 [(0,.bool true),(1,.agg s8First.cells.toArray)]=some (hsC s8First (Qcz 64) 0).toArray:=by kernel_rfl
theorem Laid.range {w:World} (h:Laid w):w.rangeAt 0 0 s8First.cells:=fun j v hj=>by
 have hj8:j<8:=by have:=(List.getElem?_eq_some_iff.1 hj).1;rwa [S8.cells_len]at this
 rw[Nat.zero_add,h.first j hj8,← hj]
 have:=cells_here s8First j hj8
 rw[List.getElem?_toArray]at this
 exact this.symm
theorem new_any (w:World) (hK:Laid w):Calls Tryz.prog 104 #[] w fun e w'=>e= .returned (.pointer (some ⟨w.heap.size,0,none⟩))∧Hasher w' w.heap.size []∧Below w.heap.size w w':=by
 have hrg:=hK.range
 have hbn:=built_new
 obtain⟨F,hF⟩:∃F,F=s8First.cells:=⟨_,rfl⟩
 rw[←hF]at hrg hbn
 have hfl:(Tryz.prog.info? 221).map (·.size)=some F.length:=by rw[hF];kernel_rfl
 obtain⟨N,hN⟩:∃N,N=(hsC s8First (Qcz 64) 0).toArray:=⟨_,rfl⟩
 rw[←hN]at hbn
 have HN:=Lib.hid hN
 have HFL:=Lib.hid hfl
 have HBN:=Lib.hid hbn
 clear hF hN hfl hbn
 go_enter Tryz.func104,Tryz.ntmps104
 go_wp2_with(with_reducible refine wpList_load_mid (op:=⟨some 1,_,_,_,_,_⟩) ?_ 221 (.global 0) ?_ 0 0 ?_ F _ hrg Tryz.underlying221 ?_ ?_ ?_
             ·rfl
             ·rfl
             ·rfl
             ·rfl
             ·exact HFL.out
             refine Qjz (o:=⟨some 2,_,_,_,_,_⟩) rfl 224 _ rfl _ rfl N HBN.out ?_)
 go_ret
 refine⟨rfl,⟨Qcz 64,rfl,rfl,?_⟩,(Below.refl _ _).alloc (Nat.le_refl _) _⟩
 rw[HN.out]
 exact Blk.new w _ _
end
section
open Go.RowKit
theorem hasher_more {w:World} {H:Nat} {A x part:List (BitVec 8)} (hp:part.length=64) (ht:part.take (A.length % 64)=A.drop (64*(A.length / 64))) (h:A.length % 64+x.length<64)
 (hB:Blk w H 224 (hsC (Xjz A (A.length / 64)) (partP part x (A.length % 64)) (A.length+x.length)).toArray):Hasher w H (A++x):=by
 obtain⟨h1,h2,h3⟩:=hash_more A x part ht h
 refine⟨partP part x (A.length % 64),partP_len x part hp _ (by omega),by rw[h1];exact h3,?_⟩
 rw[h1,h2,List.length_append]
 exact hB
theorem hasher_full {w:World} {H:Nat} {A x part:List (BitVec 8)} (hp:part.length=64) (ht:part.take (A.length % 64)=A.drop (64*(A.length / 64))) (h:A.length % 64+x.length=64)
 (hB:Blk w H 224 (hsC ((Xjz A (A.length / 64)).mix (partP part x (A.length % 64))) (partP part x (A.length % 64)) (A.length+x.length)).toArray):Hasher w H (A++x):=by
 obtain⟨h1,h2,h3⟩:=hash_full A x part hp ht h
 refine⟨partP part x (A.length % 64),partP_len x part hp _ (by omega),?_,?_⟩
 ·rw[h2,h1,List.take_zero]
  refine(List.drop_of_length_le ?_).symm
  rw[List.length_append];omega
 ·rw[h1,h3,List.length_append]
  exact hB
theorem take_split {α:Type} (rest x:List α) (a k m:Nat) (hx:x=rest.take a) (hm:rest.length=m) (hk:k=min m a):rest=x++rest.drop k:=by
 subst hx
 have:rest.take a=rest.take k:=by rw[List.take_eq_take_min,hk,hm,Nat.min_comm]
 rw[this,List.take_append_drop]
theorem write_any (H:Nat) (all bs:List (BitVec 8)) (p:Option Addr) (n c:Nat) (w:World) (hK:Laid w) (hH:gTop≤H) (hr:Row8 w p bs) (hn:bs.length=n) (hnc:n≤c) (hcm:c≤9223372036854775807) (hf:bs≠[]→Far p H)
 (hbig:all.length+n≤4611686018427387904) (hh:Hasher w H all):
 Calls Tryz.prog 105 #[.pointer (some ⟨H,0,none⟩),.slice p n c] w fun e w'=>e= .returned (.int .i64 0)∧Hasher w' H (all++bs)∧w.grownBy w' (some H):=by
 have HK:=Lib.hid hK
 have HH:=Lib.hid hh
 have HF:=Lib.hid hf
 have HN:=Lib.hid hn
 have HR:=Lib.hid hr
 have c0:w.cell? ⟨H,0,none⟩=some (.bool true):=by
  obtain⟨part,h1,h2,h3⟩:=hh
  rw[h3.cell];exact hsC_made _ _ _
 have hHlt:=hh.lt
 clear hK hh hf hn hr
 go_enter Tryz.func105,Tryz.ntmps105
 go_wp2_with fail
 clear c0
 go_loopw[1] (fun v wr=>∃(done rest:List (BitVec 8)) (m c':Nat) (p':Option Addr),Hid (bs=done++rest)∧Hid (rest.length=m)∧v= .slice p' m c'∧m≤c'∧c'≤9223372036854775807∧Hid (Row8 wr p' rest)∧Hid (rest≠[]→Far p' H)∧Hid (Hasher wr H (all++done))∧w.grownBy wr (some H)) (fun v _=>lenS v)
 case atStart=>exact⟨[],bs,n,c,p,Lib.hid rfl,HN,rfl,hnc,hcm,HR,HF,by rw[List.append_nil];exact HH,World.grownBy.refl w _⟩
 case round=>
  obtain⟨done,rest,m,c',p',HE,HM,rfl,hmc,hcm',HR',HF',HH',hgr⟩:=hrel
  by_cases hm:0<m
  ·obtain⟨part,hp,ht,hB⟩:=HH'.out
   have e1:=HE.out
   have e2:=HM.out
   have e3:=HN.out
   obtain⟨A,hA⟩:∃A,A=all++done:=⟨_,rfl⟩
   rw[←hA]at ht hB
   obtain⟨L,hL⟩:∃L,L=A.length:=⟨_,rfl⟩
   have hLb:L+m≤4611686018427387904:=by
    rw[hL,hA,List.length_append];rw[e1,List.length_append]at e3;omega
   obtain⟨S,hS⟩:∃S,S=Xjz A (A.length / 64):=⟨_,rfl⟩
   rw[←hS,← hL]at hB
   have cn:wr.cell? ⟨H,73,none⟩=some (.int .u64 (L:Int)):=by rw[hB.cell];exact hsC_n _ _ _ hp
   have fn:wr.frozen? ⟨H,73,none⟩=false:=hB.frozen _
   obtain⟨at0,hat⟩:∃x,x=L % 64:=⟨_,rfl⟩
   have hat64:at0<64:=by omega
   have hmod:(L:Int) % 64=(at0:Int):=by omega
   have HB:=Lib.hid hB
   have HP:=Lib.hid hp
   have HT:=Lib.hid ht
   have HS:=Lib.hid hS
   have HL:=Lib.hid hL
   have HA:=Lib.hid hA
   have HAT:=Lib.hid hat
   clear hB hp ht hS hL hA hat e1 e2 e3
   have hL0:(L:Int)≤9223372036854775807:=by omega
   have hmi:(0:Int)<(m:Int):=by omega
   have a0:(0:Int)≤(at0:Int):=by omega
   have a1:(at0:Int)≤64:=by omega
   have a2:¬((64:Nat)=at0):=by omega
   obtain⟨kk,hkk⟩:∃x,x=min m (64-at0):=⟨_,rfl⟩
   have hk0:0<kk:=by omega
   have hk1:kk≤m:=by omega
   have hk2:at0+kk≤64:=by omega
   have hfit:9+at0+kk≤(hsC S part L).length:=by rw[hsC_len _ _ _ HP.out];omega
   obtain⟨x,hx⟩:∃x,x=rest.take (64-at0):=⟨_,rfl⟩
   have hxl:x.length=kk:=by rw[hx,List.length_take,HM.out,hkk,Nat.min_comm]
   have hxs:splice (hsC S part L) (9+at0) ((rest.take (64-at0)).map u8)=hsC S (partP part x at0) L:=by
    rw[←hx,hsC_splice _ _ _ _ _ HP.out (by omega),hxl];unfold partP;rw[hxl]
   have hpl:(partP part x at0).length=64:=partP_len x part HP.out at0 (by omega)
   have HX:=Lib.hid hx
   have HXL:=Lib.hid hxl
   have HXS:=Lib.hid hxs
   have HPL:=Lib.hid hpl
   have HKK:=Lib.hid hkk
   have HSP:Hid (rest=x++rest.drop kk):=Lib.hid (take_split _ _ _ _ _ hx HM.out hkk)
   clear hx hxl hxs hpl hkk
   have HNR:Hid (∀w2,wr.grownBy w2 (some H)→Row8 w2 (cutAt p' c' kk) (rest.drop kk)):=Lib.hid (fun w2 h2=>(HR'.out.kept h2 HF'.out).cut (by rw[HM.out];exact hmc))
   have HNF:Hid (rest.drop kk≠[]→Far (cutAt p' c' kk) H):=Lib.hid (fun hne=>(HF'.out (by intro e;rw[e]at hne;simp at hne)).cut)
   have HRel:Hid (∀w2,wr.grownBy w2 (some H)→Hasher w2 H (A++x)→∃(done rest:List (BitVec 8)) (m' c'':Nat) (p'':Option Addr),Hid (bs=done++rest)∧Hid (rest.length=m')∧Value.slice (cutAt p' c' kk) (m-kk) (c'-kk)= .slice p'' m' c''∧m'≤c''∧c''≤9223372036854775807∧Hid (Row8 w2 p'' rest)∧Hid (rest≠[]→Far p'' H)∧Hid (Hasher w2 H (all++done))∧w.grownBy w2 (some H)):=
    Lib.hid (fun w2 h2 hh=>⟨done++x,rest.drop kk,m-kk,c'-kk,cutAt p' c' kk,Lib.hid (by rw[List.append_assoc,← HSP.out];exact HE.out),Lib.hid (by rw[List.length_drop,HM.out]),rfl,by omega,by omega,Lib.hid (HNR.out _ h2),HNF,Lib.hid (by rw[←List.append_assoc,← HA.out];exact hh),grown_trans hgr h2⟩)
   go_wp2_with(with_reducible refine wp_copy8g (o:=⟨some 31,_,_,_,_,_⟩) ?_ (.tmp 29) (.tmp 30) 26 26 ?_ 5 Tryz.underlying26 ?_ (64-at0) (64-at0) m c' p' rest H (9+at0) ?_ ?_ HM.out HR'.out (hsC S part L) _ HB.out kk HKK.out hfit ?_
               ·rfl
               ·rfl
               ·rfl
               ·rfl
               ·rfl
               intro w2 hB2 hg2 hz2
               have hB3:=hB2.out
               rw[HXS.out]at hB3
               have cn2:w2.cell? ⟨H,73,none⟩=some (.int .u64 (L:Int)):=by rw[hB3.cell];exact hsC_n _ _ _ HPL.out
               have fn2:w2.frozen? ⟨H,73,none⟩=false:=hB3.frozen _
               have s0:(0:Int)≤(L:Int)+(kk:Int):=by omega
               have s1:(L:Int)+(kk:Int)≤9223372036854775807:=by omega
               have s2:(0:Int)≤(kk:Int):=by omega
               have s3:(kk:Int)≤9223372036854775807:=by omega
               have s4:(at0:Int)+(kk:Int)≤64:=by omega
               have s5:(kk:Int)≤(m:Int):=by omega
               have sl:=fun w=>slice_from8 w p' m c' kk hk1
               have hB4:=hB3.set 73 (.int .u64 ((L:Int)+(kk:Int)))
               have e4:=hsC_setn S (partP part x at0) L (L+kk) HPL.out
               rw[Int.natCast_add]at e4
               rw[e4]at hB4
               have HB4:=Lib.hid hB4
               clear hB2 hB3 hB4 e4 cn fn hfit hmod a2)
   ·have hfull:at0+kk=64:=by
     have h1:((at0:Int)+(kk:Int)==64)=true:=by assumption
     rw[beq_iff_eq]at h1;omega
    have hgr3:=XIz hg2 73 (.int .u64 ((L:Int)+(kk:Int)))
    have hst:Hid (Blk (w2.setCell ⟨H,73,none⟩ (.int .u64 ((L:Int)+(kk:Int)))) H 224 (stC [.bool true] ((partP part x at0).map u8++[.int .u64 ((L+kk:Nat):Int)]) S.list)):=HB4
    have hrg:∀j,((w2.setCell ⟨H,73,none⟩ (.int .u64 ((L:Int)+(kk:Int)))).drewN j).rangeAt H 9 ((partP part x at0).map u8):=fun j=>(HB4.out.drewN j).rangeAt 9 _ (fun i v hv=>hsC_part _ _ _ _ _ hv)
    have HRG:=Lib.hid hrg
    have HBA:Hid (∀j,Calls Tryz.prog 134 #[.pointer (some ⟨H,1,none⟩),.agg ((partP part x at0).map u8).toArray] ((w2.setCell ⟨H,73,none⟩ (.int .u64 ((L:Int)+(kk:Int)))).drewN j) fun e w'=>e= .returned (.tuple #[])∧Blk w' H 224 (stC [.bool true] ((partP part x at0).map u8++[.int .u64 ((L+kk:Nat):Int)]) (S.mix (partP part x at0)).list)∧((w2.setCell ⟨H,73,none⟩ (.int .u64 ((L:Int)+(kk:Int)))).drewN j).grownBy w' (some H)):=
     Lib.hid (fun j=>block_any H _ [.bool true] _ S _ _ HPL.out (hst.out.drewN j) hH ((HK.out.kept (grown_trans hgr hgr3) hH).kept (grown_drewN (World.grownBy.refl _ _) j) hH))
    clear hrg hst cn2 fn2
    refine QZz 7 (by kernel_rfl) (by kernel_rfl) ?_
    simp only[List.take_succ_cons,List.take_zero,List.drop_succ_cons,List.drop_zero]
    iterate 6 (go_big_quiet_step (fail))
    refine quiet_load_midS rfl 222 (.tmp 53) rfl H 9 rfl ((partP part x at0).map u8) _ (fun w' ⟨j,hj⟩=>by rw[hj];exact HRG.out j) Tryz.underlying222 rfl (by rw[List.length_map,HPL.out];kernel_rfl) ?_
    refine wpQuiet_nil ?_
    rintro _ ⟨nq,rfl⟩
    go_wp2_with fail
    refine(HBA.out nq).mono ?_
    rintro e w3 ⟨rfl,hB5,hg5⟩
    have HB5:=Lib.hid hB5
    clear hB5
    go_wp2
    go_roundw
    case rel=>
     refine HRel.out _ (grown_trans (grown_trans hgr3 (grown_drewN (World.grownBy.refl _ _) nq)) hg5) (hasher_full HP.out HT.out ?_ ?_)
     ·rw[←HL.out,HXL.out,← HAT.out];omega
     ·have:=HB5.out
      rw[HS.out,← HL.out]at this
      rw[←HL.out,HXL.out,← HAT.out]
      exact this
    case measure=>simp[lenS];omega
   ·have hmore:at0+kk<64:=by
     have h1:((at0:Int)+(kk:Int)==64)=false:=by assumption
     rw[beq_eq_false_iff_ne]at h1;omega
    go_roundw
    case rel=>
     refine HRel.out _ (XIz hg2 _ _) (hasher_more HP.out HT.out ?_ ?_)
     ·rw[←HL.out,HXL.out,← HAT.out];omega
     ·have:=HB4.out
      rw[HS.out,← HL.out]at this
      rw[←HL.out,HXL.out,← HAT.out]
      exact this
    case measure=>simp[lenS];omega
  ·have h0:m=0:=by omega
   subst h0
   have hd:Hid (done=bs):=Lib.hid (by have h1:=HE.out;have h2:=List.eq_nil_of_length_eq_zero HM.out;rw[h1,h2,List.append_nil])
   rw[hd.out]at HH'
   go_wp2
   go_ret
   exact⟨rfl,HH'.out,hgr⟩
end
section
open Go.RowKit
def tlC (n:BitVec 64) (z m:Nat):List (BitVec 8):=[128#8]++Qcz z++be64 n m++Qcz (71-z-m)
theorem QDz (k:Nat):(Qcz k).length=k:=by simp[Qcz]
theorem noughts_add (a b:Nat):Qcz (a+b)=Qcz a++Qcz b:=by unfold Qcz;exact List.replicate_append_replicate.symm
theorem tlC_len (n:BitVec 64) (z m:Nat) (h:z+m≤71):(tlC n z m).length=72:=by
 unfold tlC
 simp only[List.length_append,QDz,Z7z,List.length_cons,List.length_nil];omega
theorem tlC_zero (n:BitVec 64) (z:Nat) (h:z≤71):tlC n z 0=[128#8]++Qcz 71:=by
 unfold tlC
 rw[show be64 n 0=[]from rfl,List.append_nil,List.append_assoc,← noughts_add,show z+(71-z-0)=71 by omega]
theorem tlC_set (n:BitVec 64) (z m:Nat) (h:z+m<71):((tlC n z m).map u8).toArray.setIfInBounds (z+1+m) (.int .u8 (iv8 (beN n m)))=((tlC n z (m+1)).map u8).toArray:=by
 have hz:Qcz (71-z-m)=0#8 ::Qcz (71-z-(m+1)):=by
  rw[show 71-z-m=1+(71-z-(m+1)) by omega,noughts_add];rfl
 rw[List.setIfInBounds_toArray]
 unfold tlC
 rw[hz,be64_succ,List.map_append,List.set_append_right _ _ (by simp only[List.length_map,List.length_append,QDz,Z7z,List.length_cons,List.length_nil];omega)]
 have e:z+1+m-(([128#8]++Qcz z++be64 n m).map u8).length=0:=by
  simp only[List.length_map,List.length_append,QDz,Z7z,List.length_cons,List.length_nil];omega
 rw[e]
 simp[u8]
theorem tlC_here (n:BitVec 64) (z m:Nat) (h:z+m<71):((tlC n z m).map u8).toArray[z+1+m]? =some (.int .u8 (iv8 0#8)):=by
 have hz:Qcz (71-z-m)=0#8 ::Qcz (71-z-(m+1)):=by
  rw[show 71-z-m=1+(71-z-(m+1)) by omega,noughts_add];rfl
 unfold tlC
 rw[hz,List.getElem?_toArray,List.map_append,List.getElem?_append_right (by simp only[List.length_map,List.length_append,QDz,Z7z,List.length_cons,List.length_nil];omega)]
 have e:z+1+m-(([128#8]++Qcz z++be64 n m).map u8).length=0:=by
  simp only[List.length_map,List.length_append,QDz,Z7z,List.length_cons,List.length_nil];omega
 rw[e]
 rfl
theorem tlC_take (n:BitVec 64) (z:Nat) (_h:z+8≤71):(tlC n z 8).take (z+9)=[128#8]++Qcz z++be64 n 8:=by
 unfold tlC
 rw[List.take_append_of_le_length (by simp only[List.length_append,QDz,Z7z,List.length_cons,List.length_nil];omega),List.take_of_length_le (by simp only[List.length_append,QDz,Z7z,List.length_cons,List.length_nil];omega)]
theorem padZ_le (n:Nat):padZ n≤63:=by unfold padZ;omega
def oC (s:S8) (q:Nat):List Value:=(s.hashTo (4*q)++Qcz (32-4*q)).map u8
theorem oC_zero (s:S8):oC s 0=(Qcz 32).map u8:=rfl
theorem oC_end (s:S8):oC s 8=Q5z (s.hashTo 32):=by unfold oC Q5z;simp[Qcz]
theorem oC_len (s:S8) (q:Nat) (h:q≤8):(oC s q).length=32:=by
 unfold oC;simp only[List.length_map,List.length_append,QDz,X0z];omega
theorem oC_next (s:S8) (q:Nat) (h:q<8):splice (oC s q) (4*q) (([(atS s q >>> 24).setWidth 8,(atS s q >>> 16).setWidth 8,(atS s q >>> 8).setWidth 8,(atS s q).setWidth 8]:List (BitVec 8)).map u8)=oC s (q+1):=by
 have hz:Qcz (32-4*q)=[0#8,0#8,0#8,0#8]++Qcz (32-4*(q+1)):=by
  rw[show 32-4*q=4+(32-4*(q+1)) by omega,noughts_add];rfl
 have b0:s.byte (4*q)=(atS s q >>> 24).setWidth 8:=by unfold S8.byte;rw[show 4*q / 4=q by omega,show 24-8*(4*q % 4)=24 by omega]
 have b1:s.byte (4*q+1)=(atS s q >>> 16).setWidth 8:=by unfold S8.byte;rw[show(4*q+1) / 4=q by omega,show 24-8*((4*q+1) % 4)=16 by omega]
 have b2:s.byte (4*q+2)=(atS s q >>> 8).setWidth 8:=by unfold S8.byte;rw[show(4*q+2) / 4=q by omega,show 24-8*((4*q+2) % 4)=8 by omega]
 have b3:s.byte (4*q+3)=(atS s q).setWidth 8:=by unfold S8.byte;rw[show(4*q+3) / 4=q by omega,show 24-8*((4*q+3) % 4)=0 by omega];simp
 have hh:s.hashTo (4*(q+1))=s.hashTo (4*q)++[s.byte (4*q),s.byte (4*q+1),s.byte (4*q+2),s.byte (4*q+3)]:=by
  unfold S8.hashTo
  rw[show 4*(q+1)=4*q+1+1+1+1 by omega]
  simp[List.range_succ]
 unfold splice oC
 rw[hz,hh,b0,b1,b2,b3,List.map_append,List.take_append_of_le_length (by simp only[List.length_map,X0z];omega),List.take_of_length_le (by simp only[List.length_map,X0z];omega),List.drop_append]
 have e1:((s.hashTo (4*q)).map u8).drop (4*q+(([(atS s q >>> 24).setWidth 8,(atS s q >>> 16).setWidth 8,(atS s q >>> 8).setWidth 8,(atS s q).setWidth 8]:List (BitVec 8)).map u8).length)=[]:=List.drop_of_length_le (by simp only[List.length_map,X0z];omega)
 rw[e1]
 simp[X0z]
theorem pad_tail (all:List (BitVec 8)):all++(tlC (BitVec.ofNat 64 (8*all.length)) (padZ all.length) 8).take (padZ all.length+9)=pad all:=by
 rw[tlC_take _ _ (by have:=padZ_le all.length;omega)]
 unfold pad
 simp only[List.append_assoc]
end
section
open Go.RowKit
def hsZ:List Value:=[.bool false]++(List.replicate 8 (u32 0#32)++(List.replicate 64 (u8 0#8)++[.int .u64 0]))
theorem zeroHs:∀w,(zeroValue 224).run Tryz.prog w= .ok (.agg hsZ.toArray) w:=zero_of2 (by kernel_rfl)
theorem zeroTl:∀w,(zeroValue 226).run Tryz.prog w= .ok (.agg ((Qcz 72).map u8).toArray) w:=zero_of2 (by kernel_rfl)
theorem built_tl:Tryz.prog.built 226 [(0,.int .u8 128)]=some ((([128#8]++Qcz 71).map u8).toArray):=by kernel_rfl
theorem mapu8_one (l:List (BitVec 8)):(l.map u8).toArray.all (·.oneCell')=true:=by
 rw[List.all_toArray,List.all_eq_true];exact Xzz l
theorem tl_info:(Tryz.prog.info? 226).map (·.size)=some 72:=by kernel_rfl
theorem hsC_words (s:S8) (part:List (BitVec 8)) (L:Nat) (j:Nat) (v:Value) (h:s.cells[j]? =some v):(hsC s part L).toArray[1+j]? =some v:=by
 have hj:j<s.cells.length:=(List.getElem?_eq_some_iff.1 h).1
 rw[List.getElem?_toArray,hsC,List.getElem?_append_right (by simp),show 1+j- [Value.bool true].length=j by simp]
 show(s.cells++_)[j]? =_
 rw[List.getElem?_append_left hj]
 exact h
theorem row_new4 (w:World) (t:TypeId) (x0 x1 x2 x3:BitVec 8):Row8 (w.alloc (.cells #[.int .u8 (iv8 x0),.int .u8 (iv8 x1),.int .u8 (iv8 x2),.int .u8 (iv8 x3)] t)) (some ⟨w.heap.size,0,none⟩) [x0,x1,x2,x3]:=
 QOz (l:=[x0,x1,x2,x3]) (Blk.new w t _)
theorem hsum_any (H:Nat) (all:List (BitVec 8)) (w:World) (hK:Laid w) (hbig:all.length≤1152921504606846976) (hh:Hasher w H all):
 Calls Tryz.prog 106 #[.pointer (some ⟨H,0,none⟩)] w fun e w'=>e= .returned (.agg (Q5z (sha all)).toArray)∧Below w.heap.size w w':=by
 have hHlt:=hh.lt
 obtain⟨part,hp,ht,hB⟩:=hh
 obtain⟨L,hL⟩:∃L,L=all.length:=⟨_,rfl⟩
 obtain⟨S,hS⟩:∃S,S=Xjz all (all.length / 64):=⟨_,rfl⟩
 rw[←hS,← hL]at hB
 rw[←hL]at hbig
 have c0:w.cell? ⟨H,0,none⟩=some (.bool true):=by rw[hB.cell];exact hsC_made _ _ _
 have HB:=Lib.hid hB
 have HP:=Lib.hid hp
 have HT:=Lib.hid ht
 have HS:=Lib.hid hS
 have HL:=Lib.hid hL
 have HK:=Lib.hid hK
 clear hB hp ht hS hL hK
 have hz:=zero32
 obtain⟨Y,hY⟩:∃Y,Y=((Qcz 32).map u8).toArray:=⟨_,rfl⟩
 rw[←hY]at hz
 have HY:=Lib.hid hY
 clear hY
 go_enter Tryz.func106,Tryz.ntmps106
 go_upto_region 3 with fail
 refine X9z (fun w'=>Hid (Blk w' w.heap.size 32 Y)∧Below w.heap.size w w'∧w.heap.size<w'.heap.size) ⟨Lib.hid (Blk.new w _ _),(Below.refl _ _).alloc (Nat.le_refl _) _,by simp⟩ ?_
 rintro w1 ⟨hy1,hb1,hz1⟩
 have hz:=zeroHs
 obtain⟨Z,hZ⟩:∃Z,Z=hsZ.toArray:=⟨_,rfl⟩
 rw[←hZ]at hz
 have HZ:=Lib.hid hZ
 have hrg:w1.rangeAt H 0 (hsC S part L):=(HB.out.below hb1 hHlt).rangeAt 0 _ (fun j v hv=>by rw[Nat.zero_add,List.getElem?_toArray];exact hv)
 clear hZ c0
 go_upto_region 4 with(first
  |(with_reducible refine wpList_load_mid (op:=⟨some 22,_,_,_,_,_⟩) ?_ 224 (.tmp 21) ?_ H 0 ?_ (hsC S part L) _ hrg Tryz.underlying224 ?_ ?_ ?_
    ·rfl
    ·rfl
    ·rfl
    ·rfl
    ·exact hsC_infoL _ _ _ HP.out)
  |(with_reducible refine Q4z (o:=⟨none,_,_,_,_,_⟩) ?_ 224 (.tmp 3) (.tmp 22) ?_ w1.heap.size 224 Z (hsC S part L).toArray ?_ ?_ (Blk.new w1 _ _) ?_ ?_ ?_ w.heap.size w ?_ ?_ ?_
    ·rfl
    ·rfl
    ·rfl
    ·rfl
    ·exact hsC_info _ _ _ HP.out
    ·rw[HZ.out,List.size_toArray,List.size_toArray,hsC_len _ _ _ HP.out];rfl
    ·exact hsC_one _ _ _
    ·exact hb1.alloc hb1.size _
    ·exact hb1.size
    intro w2 hB2 hb2 hg2 hs2))
 obtain⟨C,hC⟩:∃C,C=w1.heap.size:=⟨_,rfl⟩
 rw[←hC]at hB2 hg2 hz1 ⊢
 have hCs:C<w2.heap.size:=by rw[hs2.out,hC];simp
 have hy2:Hid (Blk w2 w.heap.size 32 Y):=Lib.hid ((hy1.out.alloc _).kept hg2.out (by omega))
 clear hC hy1 hb1 hrg hz hs2 hg2
 obtain⟨at0,hat⟩:∃x,x=L % 64:=⟨_,rfl⟩
 obtain⟨z,hzz⟩:∃x,x=padZ L:=⟨_,rfl⟩
 have hz63:z≤63:=by rw[hzz];exact padZ_le L
 have a0:(0:Int)≤(at0:Int):=by omega
 have a1:(at0:Int)≤63:=by omega
 have a2:(0:Int)≤(L:Int):=by omega
 have a3:(L:Int)≤1152921504606846976:=by omega
 have a4:(L:Int) % 64=(at0:Int):=by omega
 have a5:(119-(at0:Int)) % 64=(z:Int):=by rw[hzz];unfold padZ;omega
 have a6:(0:Int)≤(z:Int):=by omega
 have a7:(z:Int)≤63:=by omega
 have HZZ:=Lib.hid hzz
 clear hat hzz
 have cn:w2.cell? ⟨H,73,none⟩=some (.int .u64 (L:Int)):=by rw[(HB.out.below hb2 hHlt).cell];exact hsC_n _ _ _ HP.out
 have hz:=zeroTl
 obtain⟨TZ,hTZ⟩:∃x,x=((Qcz 72).map u8).toArray:=⟨_,rfl⟩
 obtain⟨T0,hT0⟩:∃x,x=(([128#8]++Qcz 71).map u8).toArray:=⟨_,rfl⟩
 rw[←hTZ]at hz
 have hbt:=built_tl
 rw[←hT0]at hbt
 have HBT:=Lib.hid hbt
 have HTZ:=Lib.hid hTZ
 have HT0:=Lib.hid hT0
 clear hTZ hT0 hbt
 go_upto_region 5 with(first
  |(with_reducible refine Qjz (o:=⟨some 23,_,_,_,_,_⟩) ?_ 226 #[(0,.const (.int .u8 128))] ?_ [(0,.int .u8 128)] ?_ T0 HBT.out ?_
    ·rfl
    ·rfl
    ·rfl)
  |(with_reducible refine Q4z (o:=⟨none,_,_,_,_,_⟩) ?_ 226 (.tmp 4) (.tmp 23) ?_ w2.heap.size 226 TZ T0 ?_ ?_ (Blk.new w2 _ _) ?_ ?_ ?_ w.heap.size w ?_ ?_ ?_
    ·rfl
    ·rfl
    ·rfl
    ·rfl
    ·rw[HT0.out];exact tl_info
    ·rw[HT0.out,HTZ.out];rfl
    ·rw[HT0.out];exact mapu8_one _
    ·exact hb2.alloc hb2.size _
    ·exact hb2.size
    intro w3 hT3 hb3 hg3 hs3))
 obtain⟨D,hD⟩:∃D,D=w2.heap.size:=⟨_,rfl⟩
 rw[←hD]at hT3 hg3 hCs ⊢
 have hDs:D<w3.heap.size:=by rw[hs3.out,hD];simp
 have hy3:Hid (Blk w3 w.heap.size 32 Y):=Lib.hid ((hy2.out.alloc _).kept hg3.out (by omega))
 have hB3:Hid (Blk w3 C 224 (hsC S part L).toArray):=Lib.hid ((hB2.out.alloc _).kept hg3.out (by omega))
 have cn3:w3.cell? ⟨H,73,none⟩=some (.int .u64 (L:Int)):=by rw[(HB.out.below hb3 hHlt).cell];exact hsC_n _ _ _ HP.out
 clear hD hy2 hB2 hb2 hz hs3 hg3 cn
 go_wp2_with fail
 obtain⟨N,hN⟩:∃x,x=BitVec.ofNat 64 (8*L):=⟨_,rfl⟩
 have hiv:iv64 N=(L:Int)*8:=by
  rw[hN];unfold iv64;rw[BitVec.toNat_ofNat,Nat.mod_eq_of_lt (by omega)];omega
 have HIV:=Lib.hid hiv
 have HN:=Lib.hid hN
 have hT4:Hid (Blk w3 D 226 ((tlC N z 0).map u8).toArray):=Lib.hid (by rw[tlC_zero N z (by omega),← HT0.out];exact hT3.out)
 clear hiv hN hT3 a4 a5 cn3
 go_loopw[33] (fun i wr=>∃k:Nat,k≤8∧i= .int .i64 k∧Hid (Blk wr D 226 ((tlC N z k).map u8).toArray)∧Hid (Blk wr w.heap.size 32 Y)∧Hid (Blk wr C 224 (hsC S part L).toArray)∧Below w.heap.size w wr) (fun i _=>8-(intOf i).toNat)
 case atStart=>exact⟨0,by omega,rfl,hT4,hy3,hB3,hb3⟩
 case round=>
  obtain⟨k,hk,rfl,hT5,hy5,hB5,hb5⟩:=hrel
  clear hT4 hy3 hB3 hb3
  by_cases hk8:k<8
  ·have hlt:(k:Int)<8:=by omega
   have cn5:wr.cell? ⟨H,73,none⟩=some (.int .u64 (L:Int)):=by rw[(HB.out.below hb5 hHlt).cell];exact hsC_n _ _ _ HP.out
   have fr5:=hT5.out.frozen (z+1+k)
   have ch5:wr.cell? ⟨D,z+1+k,none⟩=some (.int .u8 (iv8 0#8)):=by rw[hT5.out.cell];exact tlC_here N z k (by omega)
   have b1:(0:Int)≤(z:Int)+1+(k:Int):=by omega
   have b2:(z:Int)+1+(k:Int)<72:=by omega
   have b3:((z:Int)+1+(k:Int)).toNat=z+1+k:=by omega
   have b4:(0:Int)≤8*(k:Int):=by omega
   have b5:8*(k:Int)≤56:=by omega
   have b6:(0:Int)≤56-8*(k:Int):=by omega
   have hsh:IntKind.u8.wrap ((L:Int)*8 / 2 ^ (56-8*k))=iv8 (beN N k):=by rw[←HIV.out,shrp64,cut64_8];rfl
   go_wp2_with fail
   refine⟨⟨k+1,by omega,by go_num,Lib.hid ?_,Lib.hid (hy5.out.far (by show _≠D;omega) _),Lib.hid (hB5.out.far (by show _≠D;omega) _),hb5.setCell (by show _≤D;omega) _⟩,by simp[intOf];omega⟩
   rw[←tlC_set N z k (by omega)]
   exact hT5.out.set _ _
  ·have hk8':k=8:=by omega
   subst hk8'
   have hge:¬((8:Nat):Int)<8:=by omega
   have b1:(0:Int)≤(z:Int)+1+8:=by omega
   have b2:(z:Int)+1+8≤72:=by omega
   have b3:((z:Int)+1+8).toNat=z+9:=by omega
   have hrT:Row8 wr (some ⟨D,0,none⟩) ((tlC N z 8).take (z+9)):=(QOz (l:=tlC N z 8) hT5.out).take _
   have hlT:((tlC N z 8).take (z+9)).length=z+9:=by rw[List.length_take,tlC_len _ _ _ (by omega)];omega
   have HLT:=Lib.hid hlT
   have hKr:Laid wr:=HK.out.below hb5 HK.out.size
   have hgC:gTop≤C:=by have:=HK.out.size;omega
   have hhr:Hasher wr C all:=⟨part,HP.out,HT.out,by rw[←HL.out,HL.out,← HS.out,← HL.out];exact hB5.out⟩
   have hpad:Hid (all++(tlC N z 8).take (z+9)=pad all):=Lib.hid (by rw[HN.out,HZZ.out,HL.out];exact pad_tail all)
   clear hlT
   go_wp2_with fail
   refine(write_any C all ((tlC N z 8).take (z+9)) (some ⟨D,0,none⟩) (z+9) 72 _ hKr hgC hrT HLT.out (by omega) (by omega) (by intro _ a ha;injection ha with ha;subst ha;show D≠C;omega) (by rw[←HL.out];omega) hhr).mono ?_
   rintro e w6 ⟨rfl,hh6,hg6⟩
   rw[hpad.out]at hh6
   have hy6:Hid (Blk w6 w.heap.size 32 Y):=Lib.hid (hy5.out.kept hg6 (by omega))
   have hb6:Below w.heap.size w w6:=hb5.grown hg6 hb5.size (fun k hk=>by injection hk with hk;omega)
   clear hKr hhr hrT hg6 hT5 hy5 hB5 b1 b2 b3
   obtain⟨part6,hp6,ht6,hB6⟩:=hh6
   obtain⟨S6,hS6⟩:∃x,x=Xjz (pad all) ((pad all).length / 64):=⟨_,rfl⟩
   have hsha:Hid (S6.hashTo 32=sha all):=Lib.hid (by rw[hS6];rfl)
   rw[←hS6]at hB6
   have hrg6:(w6.alloc (.cells Y 32)).rangeAt C 1 S6.cells:=(hB6.alloc _).rangeAt 1 _ (fun j v hv=>hsC_words _ _ _ _ _ hv)
   clear hS6 hp6 ht6 hB6
   obtain⟨CL,hCL⟩:∃x,x=S6.cells:=⟨_,rfl⟩
   rw[←hCL]at hrg6
   have hil:Hid ((Tryz.prog.info? 221).map (·.size)=some CL.length):=Lib.hid (by rw[hCL,S8.cells_len];kernel_rfl)
   obtain⟨CS,hCS⟩:∃x,x=CL.toArray:=⟨_,rfl⟩
   have HCS:=Lib.hid hCS
   have hsz:CS.size=8:=by rw[hCS,hCL];rfl
   have HEL:Hid (∀q,q<8→atA CS q= .int .u32 (iv32 (atS S6 q))):=Lib.hid (fun q hq=>by rw[hCS,hCL];exact atA_cells S6 q hq)
   obtain⟨ti,hti,hts⟩:∃ti,Tryz.prog.info? 30=some ti∧ti.size=1:=by
    have:(Tryz.prog.info? 30).map (·.size)=some 1:=by kernel_rfl
    exact Option.map_eq_some_iff.1 this
   have HIX:=Lib.hid (run_index_arr (P:=Tryz.prog) 221 30 8 .u32 ti Tryz.underlying221 Tryz.underlying30 hti hts)
   have hG:=hb6.size
   have hyG:=hy6.out.lt
   clear hCL hCS hti hts
   go_wp2_with(with_reducible refine wpList_load_mid (op:=⟨some 56,_,_,_,_,_⟩) ?_ 221 (.tmp 55) ?_ C 1 ?_ CL _ hrg6 Tryz.underlying221 ?_ ?_ ?_
               ·rfl
               ·rfl
               ·rfl
               ·rfl
               ·exact hil.out)
   rw[←HCS.out]
   have hO7:Hid (Blk (w6.alloc (.cells Y 32)) w6.heap.size 32 (oC S6 0).toArray):=Lib.hid (by rw[oC_zero,← HY.out];exact Blk.new w6 _ _)
   have hy7:Hid (Blk (w6.alloc (.cells Y 32)) w.heap.size 32 Y):=Lib.hid (hy6.out.alloc _)
   have hb7:=hb6.alloc hG (.cells Y 32)
   clear hrg6 hy6 hil
   go_loopw[57] (fun i wr2=>∃q:Nat,q≤8∧i= .int .i64 q∧Hid (Blk wr2 w6.heap.size 32 (oC S6 q).toArray)∧Hid (Blk wr2 w.heap.size 32 Y)∧Below w.heap.size w wr2) (fun i _=>8-(intOf i).toNat)
   case atStart=>exact⟨0,by omega,rfl,hO7,hy7,hb7⟩
   case round=>
    obtain⟨q,hq,rfl,hO8,hy8,hb8⟩:=hrel
    clear hO7 hy7 hb7
    have hO8lt:=hO8.out.lt
    have hs8:=hb8.size
    by_cases hq8:q<8
    ·have hlt:(q:Int)<8:=by omega
     have hix:=HIX.out
     have hx:=HEL.out q hq8
     go_upto_region 16 with fail
     clear hix hx
     obtain⟨x,hx⟩:∃x,x=atS S6 q:=⟨_,rfl⟩
     rw[←hx]
     have HX:=Lib.hid hx
     clear hx
     have q0:(0:Int)≤4*(q:Int):=by omega
     have q1:4*(q:Int)≤32:=by omega
     have q2:(4*(q:Int)).toNat=4*q:=by omega
     have q3:¬(32=4*q):=by omega
     have r0:=shr32 x 24 16777216 (by rfl)
     have r1:=shr32 x 16 65536 (by rfl)
     have r2:=shr32 x 8 256 (by rfl)
     have t0:=cut32_8 (x >>> 24)
     have t1:=cut32_8 (x >>> 16)
     have t2:=cut32_8 (x >>> 8)
     have t3:=cut32_8 x
     have hO9:=Lib.hid (hO8.out.alloc (.cells #[.int .u8 (iv8 ((x >>> 24).setWidth 8)),.int .u8 (iv8 ((x >>> 16).setWidth 8)),.int .u8 (iv8 ((x >>> 8).setWidth 8)),.int .u8 (iv8 (x.setWidth 8))] 5))
     have hy9:=Lib.hid (hy8.out.alloc (.cells #[.int .u8 (iv8 ((x >>> 24).setWidth 8)),.int .u8 (iv8 ((x >>> 16).setWidth 8)),.int .u8 (iv8 ((x >>> 8).setWidth 8)),.int .u8 (iv8 (x.setWidth 8))] 5))
     have hb9:=hb8.alloc hs8 (.cells #[.int .u8 (iv8 ((x >>> 24).setWidth 8)),.int .u8 (iv8 ((x >>> 16).setWidth 8)),.int .u8 (iv8 ((x >>> 8).setWidth 8)),.int .u8 (iv8 (x.setWidth 8))] 5)
     have hR9:=row_new4 wr 5 ((x >>> 24).setWidth 8) ((x >>> 16).setWidth 8) ((x >>> 8).setWidth 8) (x.setWidth 8)
     have hmn:Hid (4=min 4 (32-4*q)):=Lib.hid (by omega)
     have hft:4*q+4≤(oC S6 q).length:=by rw[oC_len _ _ hq];omega
     have hsp:Hid (splice (oC S6 q) (4*q) ((([(x >>> 24).setWidth 8,(x >>> 16).setWidth 8,(x >>> 8).setWidth 8,x.setWidth 8]:List (BitVec 8)).take (32-4*q)).map Go.Proofs.YtjbijcjcejfpcaaGreatDoor.u8)=oC S6 (q+1)):=Lib.hid (by
      rw[List.take_of_length_le (by simp only[List.length_cons,List.length_nil];omega),HX.out];exact oC_next S6 q hq8)
     go_wp2_with(with_reducible refine wp_copy8g (o:=⟨some 76,_,_,_,_,_⟩) ?_ (.tmp 63) (.tmp 75) 26 26 ?_ 5 Tryz.underlying26 ?_ (32-4*q) (32-4*q) 4 4 (some ⟨wr.heap.size,0,none⟩) [(x >>> 24).setWidth 8,(x >>> 16).setWidth 8,(x >>> 8).setWidth 8,x.setWidth 8] w6.heap.size (4*q) ?_ ?_ rfl hR9 (oC S6 q) _ hO9.out 4 hmn.out hft ?_
                 ·rfl
                 ·rfl
                 ·rfl
                 ·rfl
                 ·rfl
                 intro w8 hB8 hg8 hz8)
     refine⟨⟨q+1,by omega,by go_num,Lib.hid (by rw[←hsp.out];exact hB8.out),Lib.hid (hy9.out.kept hg8 (by omega)),hb9.grown hg8 (by simp;omega) (fun k hk=>by injection hk with hk;omega)⟩,by simp[intOf];omega⟩
    ·have hq8':q=8:=by omega
     subst hq8'
     have hge8:¬((8:Nat):Int)<8:=by omega
     obtain⟨RS,hRS⟩:∃x,x=sha all:=⟨_,rfl⟩
     have hRl:RS.length=32:=by rw[hRS];exact Z2z _
     rw[oC_end,hsha.out,← hRS]at hO8
     have HRS:=Lib.hid hRS
     have HRL:=Lib.hid hRl
     have hrO:wr.rangeAt w6.heap.size 0 (Q5z RS):=hO8.out.rangeAt 0 _ (fun j v hv=>by rw[Nat.zero_add,List.getElem?_toArray];exact hv)
     clear hRS hRl
     go_wp2_with(first
      |(with_reducible refine wpList_load_mid (op:=⟨some 78,_,_,_,_,_⟩) ?_ 32 (.tmp 7) ?_ w6.heap.size 0 ?_ (Q5z RS) _ hrO Tryz.underlying32 ?_ ?_ ?_
        ·rfl
        ·rfl
        ·rfl
        ·rfl
        ·exact Quz HRL.out)
      |(with_reducible refine Q4z (o:=⟨none,_,_,_,_,_⟩) ?_ 32 (.tmp 2) (.tmp 78) ?_ w.heap.size 32 Y (Q5z RS).toArray ?_ ?_ hy8.out ?_ ?_ ?_ w.heap.size w hb8 ?_ ?_
        ·rfl
        ·rfl
        ·rfl
        ·rfl
        ·exact Qsz HRL.out
        ·rw[HY.out,List.size_toArray,List.size_toArray,Q5z,List.length_map,List.length_map,HRL.out];rfl
        ·exact Qzz _
        ·exact Nat.le_refl _
        intro w9 hR9 hb9 hg9 hs9))
     refine bodyPost_ret (Qqz rfl _ _ _ w.heap.size _ (Q5z RS) _ rfl hR9.out Tryz.underlying32 rfl (Quz HRL.out)) rfl ?_
     exact⟨by rw[HRS.out],hb9⟩
end
section
open Go.RowKit
theorem shaSum_any (p:Option Addr) (n c:Nat) (bs:List (BitVec 8)) (w:World) (hK:Laid w) (hr:Row8 w p bs) (hn:bs.length=n) (hnc:n≤c) (hcm:c≤9223372036854775807) (hbig:n≤1152921504606846976):
 Calls Tryz.prog 75 #[.slice p n c] w fun e w'=>e= .returned (.agg (Q5z (sha bs)).toArray)∧Below w.heap.size w w':=by
 have HN:=Lib.hid hn
 have HK:=Lib.hid hK
 have hKs:=hK.size
 have HR:=Lib.hid hr
 clear hn hK hr
 have hz:=zero32
 obtain⟨Y,hY⟩:∃Y,Y=((Qcz 32).map u8).toArray:=⟨_,rfl⟩
 rw[←hY]at hz
 have HY:=Lib.hid hY
 clear hY
 go_enter Tryz.func75,Tryz.ntmps75
 go_upto_region 1 with fail
 refine X9z (fun w'=>Hid (Blk w' w.heap.size 32 Y)∧Below w.heap.size w w') ⟨Lib.hid (Blk.new w _ _),(Below.refl _ _).alloc (Nat.le_refl _) _⟩ ?_
 rintro w1 ⟨hy1,hb1⟩
 have hlt1:=hy1.out.lt
 have hK1:=HK.out.below hb1 hKs
 clear hz
 go_wp2_with fail
 refine(new_any w1 hK1).mono ?_
 rintro e w2 ⟨rfl,hh2,hb2⟩
 obtain⟨C,hC⟩:∃C,C=w1.heap.size:=⟨_,rfl⟩
 have hb2':=hb1.trans (hb2.mono hb1.size)
 have hy2:=Lib.hid (hy1.out.below hb2 hlt1)
 have hK2:=HK.out.below hb2' hKs
 have hr2:=HR.out.below hb2' (Nat.le_refl _)
 have hf2:=HR.out.far hb1.size
 have hs1:=hb1.size
 rw[←hC]at hh2 hf2 hs1 hlt1 ⊢
 clear hC hy1 hb1 hb2 hK1
 go_wp2_with fail
 refine(write_any C [] bs p n c w2 hK2 (by omega) hr2 HN.out hnc hcm hf2 (by simp only[List.length_nil];omega) hh2).mono ?_
 rintro e w3 ⟨rfl,hh3,hg3⟩
 rw[List.nil_append]at hh3
 have hy3:=Lib.hid (hy2.out.kept hg3 (by omega))
 have hb3:=hb2'.grown hg3 hb2'.size (fun k hk=>by injection hk with hk;omega)
 have hK3:=HK.out.below hb3 hKs
 clear hy2 hb2' hg3 hh2 hr2 hK2 hf2
 go_wp2_with fail
 refine(hsum_any C bs w3 hK3 (by rw[HN.out];exact hbig) hh3).mono ?_
 rintro e w4 ⟨rfl,hb4⟩
 have hy4:=Lib.hid (hy3.out.below hb4 hy3.out.lt)
 have hb4':=hb3.trans (hb4.mono hb3.size)
 clear hy3 hh3 hb3 hb4 hK3
 obtain⟨RS,hRS⟩:∃x,x=sha bs:=⟨_,rfl⟩
 have hRl:RS.length=32:=by rw[hRS];exact Z2z _
 rw[←hRS]
 have HRS:=Lib.hid hRS
 have HRL:=Lib.hid hRl
 clear hRS hRl
 go_wp2_with(with_reducible refine Q4z (o:=⟨none,_,_,_,_,_⟩) ?_ 32 (.tmp 2) (.tmp 9) ?_ w.heap.size 32 Y (Q5z RS).toArray ?_ ?_ hy4.out ?_ ?_ ?_ w.heap.size w hb4' ?_ ?_
             ·rfl
             ·rfl
             ·rfl
             ·rfl
             ·exact Qsz HRL.out
             ·rw[HY.out,List.size_toArray,List.size_toArray,Q5z,List.length_map,List.length_map,HRL.out];rfl
             ·exact Qzz _
             ·exact Nat.le_refl _
             intro w5 hR5 hb5 hg5 hs5)
 refine bodyPost_ret (Qqz rfl _ _ _ w.heap.size _ (Q5z RS) _ rfl hR5.out Tryz.underlying32 rfl (Quz HRL.out)) rfl ?_
 exact⟨by rw[HRS.out],hb5⟩
theorem shaDouble_any (p:Option Addr) (n c:Nat) (bs:List (BitVec 8)) (w:World) (hK:Laid w) (hr:Row8 w p bs) (hn:bs.length=n) (hnc:n≤c) (hcm:c≤9223372036854775807) (hbig:n≤1152921504606846976):
 Calls Tryz.prog 44 #[.slice p n c] w fun e w'=>e= .returned (.agg (Q5z (sha (sha bs))).toArray)∧Below w.heap.size w w':=by
 have HN:=Lib.hid hn
 have HK:=Lib.hid hK
 have hKs:=hK.size
 have hz32:=zero32
 obtain⟨Y,hY⟩:∃Y,Y=((Qcz 32).map u8).toArray:=⟨_,rfl⟩
 rw[←hY]at hz32
 have HYS:Hid (Y.size=32):=Lib.hid (by rw[hY];rfl)
 obtain⟨X,hX⟩:∃X,X=sha bs:=⟨_,rfl⟩
 have hxl:X.length=32:=by rw[hX,Z2z]
 rw[←hX]
 obtain⟨V,hV⟩:∃V,V=sha X:=⟨_,rfl⟩
 have hvl:V.length=32:=by rw[hV,Z2z]
 rw[←hV]
 have HX:=Lib.hid hX
 have HXL:=Lib.hid hxl
 have HV:=Lib.hid hV
 have HVL:=Lib.hid hvl
 clear hY hX hxl hV hvl hn hK
 go_enter Tryz.func44,Tryz.ntmps44
 go_upto_region 1 with fail
 refine X9z (fun w'=>Hid (Blk w' w.heap.size 32 Y)∧Below w.heap.size w w') ⟨Lib.hid (by exact Blk.new w _ _),(Below.refl _ _).alloc (Nat.le_refl _) _⟩ ?_
 rintro w1 ⟨hy1,hb1⟩
 have hr1:=hr.below hb1 (Nat.le_refl _)
 go_wp2_with fail
 refine(shaSum_any p n c bs w1 (HK.out.below hb1 hKs) hr1 HN.out hnc hcm hbig).mono ?_
 rw[←HX.out]
 rintro e w2 ⟨rfl,hb2⟩
 have hlt1:=hy1.out.lt
 have hy2:=Lib.hid (hy1.out.below hb2 hlt1)
 have hbw2:=hb1.trans (hb2.mono hb1.size)
 clear hr1 hy1 hb1 hb2
 go_wp2_with(with_reducible refine Q4z (o:=⟨none,_,_,_,_,_⟩) ?_ 32 (.tmp 3) (.tmp 5) ?_ w2.heap.size 32 Y (Q5z X).toArray ?_ ?_ (Blk.new w2 _ _) ?_ ?_ ?_ w2.heap.size w2 ?_ ?_ ?_
             ·rfl
             ·rfl
             ·rfl
             ·rfl
             ·exact Qsz HXL.out
             ·exact HYS.out.trans (by rw[List.size_toArray,Q5z,List.length_map,HXL.out])
             ·exact Qzz X
             ·exact(Below.refl _ _).alloc (Nat.le_refl _) _
             ·exact Nat.le_refl _
             intro w3 hx3 hb3 _ _)
 have hlt2:=hy2.out.lt
 have hy3:=Lib.hid (hy2.out.below hb3 hlt2)
 have hbw3:=hbw2.trans (hb3.mono hbw2.size)
 have hrow3:=QOz hx3.out
 clear hy2 hbw2 hb3
 refine(shaSum_any (some ⟨w2.heap.size,0,none⟩) 32 32 X w3 (HK.out.below hbw3 hKs) hrow3 HXL.out (by omega) (by omega) (by omega)).mono ?_
 rw[←HV.out]
 rintro e w4 ⟨rfl,hb4⟩
 have hlt3:=hy3.out.lt
 have hy4:=Lib.hid (hy3.out.below hb4 hlt3)
 have hbw4:=hbw3.trans (hb4.mono hbw3.size)
 go_wp2_with(with_reducible refine Q4z (o:=⟨none,_,_,_,_,_⟩) ?_ 32 (.tmp 2) (.tmp 7) ?_ w.heap.size 32 Y (Q5z V).toArray ?_ ?_ hy4.out ?_ ?_ ?_ w.heap.size w hbw4 ?_ ?_
             ·rfl
             ·rfl
             ·rfl
             ·rfl
             ·exact Qsz HVL.out
             ·exact HYS.out.trans (by rw[List.size_toArray,Q5z,List.length_map,HVL.out])
             ·exact Qzz V
             ·exact Nat.le_refl _
             intro w5 hz5 hb5 _ _)
 refine bodyPost_ret (Qqz rfl _ _ _ w.heap.size _ (Q5z V) _ rfl hz5.out Tryz.underlying32 rfl (Quz HVL.out)) rfl ?_
 exact⟨rfl,hb5⟩
end
section
open Go.RowKit
theorem of_fn32 {α:Type} (p:List α) (n:Nat) (h:p.length=n):∃x:Fin n→α,p=List.ofFn x:=by
 subst h
 exact⟨fun i=>p[i],List.ofFn_getElem.symm⟩
def hLits (l:List (BitVec 8)):List Lit:=l.map fun x=>.int .u8 (iv8 x)
theorem mapM_someH {α β:Type} {f:α→Option β} (g:α→β):∀(l:List α),(∀i∈l,f i=some (g i))→l.mapM f=some (l.map g)
 | [],_=>rfl
 |i ::l,h=>by
  rw[List.mapM_cons,h i (by simp),mapM_someH g l (fun j hj=>h j (by simp[hj]))]
  rfl
theorem litsH_u8 (d:Nat) (x:BitVec 8):Tryz.prog.keyLits (d+1) 5 [u8 x]=some [.int .u8 (iv8 x)]:=by
 unfold Program.keyLits
 rw[Tryz.underlying5]
 simp only[wf8 x,and_self,if_true]
theorem cellsOfHash:Tryz.prog.cellsOf 32=32:=by kernel_rfl
theorem cellsOfByte:Tryz.prog.cellsOf 5=1:=by kernel_rfl
theorem hLits_of (d:Nat) (p:List (BitVec 8)) (hp:p.length=32):Tryz.prog.keyLits (d+2) 32 (Q5z p)=some (hLits p):=by
 unfold Program.keyLits Q5z
 rw[Tryz.underlying32]
 simp only[cellsOfHash,cellsOfByte,List.length_map,hp,if_true]
 rw[mapM_someH (fun i=>[Lit.int .u8 (iv8 (p[i]?.getD 0#8))]) (List.range 32) (fun i hi=>by
  have hi':i<32:=List.mem_range.1 hi
  have hx:p[i]? =some (p[i]'(by omega)):=List.getElem?_eq_getElem (by omega)
  have e:((p.map u8).drop (i*1)).take 1=[u8 (p[i]'(by omega))]:=by
   rw[Nat.mul_one,List.drop_eq_getElem_cons (by simp;omega)]
   simp
  rw[e,litsH_u8,hx]
  rfl)]
 unfold hLits
 obtain⟨x,rfl⟩:=of_fn32 p 32 hp
 kernel_rfl
theorem hash_formed (p:List (BitVec 8)) (hp:p.length=32):(Value.agg (Q5z p).toArray).formed Tryz.prog 32=true:=by
 obtain⟨x,rfl⟩:=of_fn32 p 32 hp
 kernel_rfl
theorem hLits_inj {p q:List (BitVec 8)}:hLits p=hLits q↔p=q:=by
 constructor
 ·intro h
  refine List.map_inj_right (f:=fun x=>Lit.int .u8 (iv8 x)) (fun x y hxy=>?_) |>.1 h
  injection hxy with _ h2
  exact iv8_inj.1 h2
 ·rintro rfl;rfl
theorem hash_eq (p q:List (BitVec 8)) (hp:p.length=32) (hq:q.length=32) (w:World):
 (Op.equalIn 10000 32 (.agg (Q5z p).toArray) (.agg (Q5z q).toArray)).run Tryz.prog w= .ok (decide (p=q)) w:=by
 obtain⟨r,hr,hiff⟩:=run_equalIn_deep (10000-3) 3 32 (by kernel_rfl) w 3 3 _ _ (hLits p) (hLits q) (hash_formed p hp) (hash_formed q hq) (hLits_of 1 p hp) (hLits_of 1 q hq)
 rw[show 10000-3+3=10000 by omega]at hr
 rw[hr]
 congr 1
 rw[Bool.eq_iff_iff,hiff,hLits_inj,decide_eq_true_iff]
theorem hash_same (p:List (BitVec 8)) (hp:p.length=32) (w:World):
 (Op.equalIn 10000 32 (.agg (Q5z p).toArray) (.agg (Q5z p).toArray)).run Tryz.prog w= .ok true w:=by
 rw[hash_eq p p hp hp,decide_eq_true rfl]
end
end Go.Proofs.YtjbijcjcejfpcaaGreatDoor
