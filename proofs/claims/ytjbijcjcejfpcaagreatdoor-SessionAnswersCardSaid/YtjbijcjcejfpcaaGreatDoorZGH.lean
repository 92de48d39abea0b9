/- sporran/header.Encode: a header as data, the closure that puts a number's bytes. -/
import Derived.Test.YtjbijcjcejfpcaaGreatDoorZGZ
namespace Go.Proofs.YtjbijcjcejfpcaaGreatDoor
set_option linter.unusedVariables false
set_option maxRecDepth 100000
set_option maxHeartbeats 16000000
section
open Go.RowKit
structure Hdr where
 v:BitVec 32
 p:List (BitVec 8)
 m:List (BitVec 8)
 t:BitVec 32
 b:BitVec 32
 n:BitVec 32
def Hdr.ok (h:Hdr):Prop:=h.p.length=32∧h.m.length=32
def Hdr.cells (h:Hdr):List Value:=u32 h.v ::(h.p.map u8++(h.m.map u8++[u32 h.t,u32 h.b,u32 h.n]))
theorem Hdr.cells_len {h:Hdr} (hk:h.ok):h.cells.length=68:=by simp[Hdr.cells,hk.1,hk.2]
def le32 (n:BitVec 32):List (BitVec 8):=low (n.setWidth 64) 4
theorem QEz (n:BitVec 32):(le32 n).length=4:=Qez _ _
def Hdr.bytes (h:Hdr):List (BitVec 8):=le32 h.v++(h.p++(h.m++(le32 h.t++(le32 h.b++le32 h.n))))
theorem Hdr.bytes_len {h:Hdr} (hk:h.ok):h.bytes.length=80:=by simp[Hdr.bytes,QEz,hk.1,hk.2]
theorem shrB32 (n:BitVec 32) (i:Nat):IntKind.u8.wrap (iv32 n / 2 ^ (8*i))=iv8 (byteN (n.setWidth 64) i):=by
 rw[shrp32,cut32_8]
 unfold byteN
 congr 1
theorem splice_map {α β:Type} (f:α→β) (L:List α) (off:Nat) (cs:List α):(splice L off cs).map f=splice (L.map f) off (cs.map f):=by
 simp[splice,List.map_append,List.map_take,List.map_drop]
theorem splice_nil {α:Type} (L:List α) (off:Nat):splice L off []=L:=by simp[splice]
theorem splice_snoc {α:Type} (L:List α) (off:Nat) (xs:List α) (x:α) (h:off+xs.length<L.length):(splice L off xs).set (off+xs.length) x=splice L off (xs++[x]):=by
 unfold splice
 have h1:(L.take off).length=off:=by rw[List.length_take];omega
 rw[List.set_append_right _ _ (by omega),h1,List.set_append_right _ _ (by omega),show off+xs.length-off-xs.length=0 by omega]
 have h2:L.drop (off+xs.length)=L[off+xs.length] ::L.drop (off+xs.length+1):=List.drop_eq_getElem_cons h
 rw[h2,List.set_cons_zero,List.length_append,List.length_singleton,← Nat.add_assoc]
 simp
theorem put_any (at0:Nat) (n:BitVec 32) (g:Nat) (cs:List (BitVec 8)) (w:World) (hat:at0+4≤80) (hcs:cs.length=80) (hg:Blk w g 166 (cs.map u8).toArray):
 Calls Tryz.prog 93 #[.int .i64 (at0:Int),u32 n,.pointer (some ⟨g,0,none⟩)] w fun e w'=>e= .returned (.tuple #[])∧Hid (Blk w' g 166 ((splice cs at0 (le32 n)).map u8).toArray)∧Below g w w':=by
 have HCS:=Lib.hid hcs
 have HG:=Lib.hid hg
 clear hcs hg
 go_enter Tryz.func93,Tryz.ntmps93
 go_wp2
 go_loopw[6] (fun i wr=>∃k:Nat,k≤4∧i= .int .i64 k∧Hid (Blk wr g 166 ((splice cs at0 (low (n.setWidth 64) k)).map u8).toArray)∧Below g w wr) (fun i _=>4-(intOf i).toNat)
 case atStart=>exact⟨0,by omega,rfl,by exact Lib.hid (by rw[show low (n.setWidth 64) 0=[] by rfl,splice_nil];exact HG.out),Below.refl _ _⟩
 case round=>
  obtain⟨k,hk,rfl,hblk,hbel⟩:=hrel
  by_cases hkm:k<4
  ·have hlt:(k:Int)<4:=by omega
   have hsh:=shrB32 n k
   have hb1:(0:Int)≤8*(k:Int):=by omega
   have hb2:8*(k:Int)≤24:=by omega
   have hl:(splice cs at0 (low (n.setWidth 64) k)).length=80:=by rw[length_splice _ _ _ (by rw[Qez,HCS.out];omega),HCS.out]
   obtain⟨x,hx⟩:∃x,(splice cs at0 (low (n.setWidth 64) k))[at0+k]? =some x:=⟨_,List.getElem?_eq_getElem (by omega)⟩
   have hcell:wr.cell? ⟨g,at0+k,none⟩=some (.int .u8 (iv8 x)):=by rw[hblk.out.cell];simp[hx]
   have hfz:=hblk.out.frozen (at0+k)
   have hi0:(0:Int)≤(at0:Int)+(k:Int):=by omega
   have hi1:(at0:Int)+(k:Int)<80:=by omega
   have hst:splice cs at0 (low (n.setWidth 64) (k+1))=(splice cs at0 (low (n.setWidth 64) k)).set (at0+k) (byteN (n.setWidth 64) k):=by
    have:=splice_snoc cs at0 (low (n.setWidth 64) k) (byteN (n.setWidth 64) k) (by rw[Qez,HCS.out];omega)
    rw[Qez]at this
    rw[low_succ,this]
   have HST:=Lib.hid hst
   clear hl hx hst
   go_wp2
   clear hcell hfz hsh
   go_roundw
   case rel=>
    refine⟨k+1,by omega,by go_num,Lib.hid ?_,hbel.setCell (Nat.le_refl _) _⟩
    rw[HST.out]
    have:=hblk.out.set (at0+k) (.int .u8 (iv8 (byteN (n.setWidth 64) k)))
    rw[List.setIfInBounds_toArray,← List.map_set]at this
    exact this
   case measure=>simp[intOf];omega
  ·have hge:¬(k:Int)<4:=by omega
   have hb4:=hblk.out
   rw[show k=4 by omega]at hb4
   have hb5:=Lib.hid hb4
   clear hb4 hblk
   go_wp2
   go_end0
   exact⟨rfl,hb5,hbel⟩
def zeros (n:Nat):List (BitVec 8):=List.replicate n 0#8
theorem Xwz (X Y:List (BitVec 8)) (k n:Nat) (hn:X.length=n) (_hk:Y.length≤k):splice (X++zeros k) n Y=(X++Y)++zeros (k-Y.length):=by
 subst hn
 unfold splice zeros
 rw[List.take_left',List.drop_append,List.drop_of_length_le (by omega),List.drop_replicate]
 ·simp
 ·rfl
theorem hdr_chain (h:Hdr) (hk:h.ok):
 splice (splice (splice (splice (splice (splice (zeros 80) 0 (le32 h.v)) 4 h.p) 36 h.m) 68 (le32 h.t)) 72 (le32 h.b)) 76 (le32 h.n)=h.bytes:=by
 have l4:=QEz
 rw[show zeros 80=[]++zeros 80 by rfl,Xwz [] (le32 h.v) 80 0 rfl (by rw[l4];omega),l4,List.nil_append]
 rw[Xwz (le32 h.v) h.p _ 4 (l4 _) (by rw[hk.1];omega),hk.1]
 rw[Xwz (le32 h.v++h.p) h.m _ 36 (by rw[List.length_append,l4,hk.1]) (by rw[hk.2];omega),hk.2]
 rw[Xwz (le32 h.v++h.p++h.m) (le32 h.t) _ 68 (by rw[List.length_append,List.length_append,l4,hk.1,hk.2]) (by rw[l4];omega),l4]
 rw[Xwz (le32 h.v++h.p++h.m++le32 h.t) (le32 h.b) _ 72 (by rw[List.length_append,List.length_append,List.length_append,l4,l4,hk.1,hk.2]) (by rw[l4];omega),l4]
 rw[Xwz (le32 h.v++h.p++h.m++le32 h.t++le32 h.b) (le32 h.n) _ 76 (by rw[List.length_append,List.length_append,List.length_append,List.length_append,l4,l4,l4,hk.1,hk.2]) (by rw[l4];omega),l4]
 simp[zeros,Hdr.bytes,List.append_assoc]
theorem hdr_row_p {w:World} {g:Nat} {t:TypeId} {h:Hdr} (_hk:h.ok) (hb:Blk w g t h.cells.toArray):Row8 w (some ⟨g,1,none⟩) h.p:=fun _=>
 ⟨g,1,rfl,hb.lt,fun i x hx=>by
  rw[hb.cell,List.getElem?_toArray,Hdr.cells,Nat.add_comm,List.getElem?_cons_succ,List.getElem?_append_left (by rw[List.length_map];exact(List.getElem?_eq_some_iff.1 hx).1),List.getElem?_map,hx]
  rfl⟩
theorem hdr_row_m {w:World} {g:Nat} {t:TypeId} {h:Hdr} (hk:h.ok) (hb:Blk w g t h.cells.toArray):Row8 w (some ⟨g,33,none⟩) h.m:=fun _=>
 ⟨g,33,rfl,hb.lt,fun i x hx=>by
  have h1:=(List.getElem?_eq_some_iff.1 hx).1
  rw[hb.cell,List.getElem?_toArray,Hdr.cells,show 33+i=(32+i)+1 by omega,List.getElem?_cons_succ,List.getElem?_append_right (by rw[List.length_map,hk.1];omega),List.length_map,hk.1,show 32+i-32=i by omega,
   List.getElem?_append_left (by rw[List.length_map];exact h1),List.getElem?_map,hx]
  rfl⟩
theorem Xez {h:Hdr} (hk:h.ok) (i:Nat):h.cells[65+i]? =[u32 h.t,u32 h.b,u32 h.n][i]? :=by
 rw[Hdr.cells,show 65+i=(64+i)+1 by omega,List.getElem?_cons_succ,List.getElem?_append_right (by rw[List.length_map,hk.1];omega),List.length_map,hk.1,List.getElem?_append_right (by rw[List.length_map,hk.2];omega),List.length_map,hk.2]
 congr 1;omega
theorem QNz (cs:Array Value) (ds:List Deferred) (n:Nat) (v:Value):(Act.mk cs ds).put (some n) v=⟨cs.setIfInBounds n v,ds⟩:=rfl
theorem zero_of {P:Program} {t:TypeId} {z:Value} (h:(P.info? t).map (·.zero)=some (some z)):∀w,(zeroValue t).run P w= .ok z w:=by
 intro w
 cases hi:P.info? t with
 |none=>rw[hi]at h;cases h
 |some i=>
  rw[hi]at h
  simp only[Option.map_some,Option.some.injEq]at h
  simp[zeroValue,typeInfo,hi,h,go_sem]
theorem zero80:∀w,(zeroValue 166).run Tryz.prog w= .ok (.agg ((zeros 80).map u8).toArray) w:=zero_of (by kernel_rfl)
theorem hdrEncode_any (h:Hdr) (hk:h.ok) (w:World):
 Calls Tryz.prog 61 #[.agg h.cells.toArray] w fun e w'=>∃g,e= .returned (.slice (some ⟨g,0,none⟩) 80 80)∧Hid (Blk w' g 166 (h.bytes.map u8).toArray)∧w.heap.size≤g∧Below w.heap.size w w':=by
 have hmf:∀(fn:Fn) (first cap:Array Value) (w:World),(Instr.makeFunc fn first cap).run Tryz.prog w= .ok (.func fn first cap) w:=fun _ _ _ _=>rfl
 have hz80:=zero80
 obtain⟨Z,hZ⟩:∃Z,Z=((zeros 80).map u8).toArray:=⟨_,rfl⟩
 obtain⟨C,hC⟩:∃C,C=h.cells.toArray:=⟨_,rfl⟩
 rw[←hZ]at hz80
 rw[←hC]
 have HZ:=Lib.hid hZ
 have HC:=Lib.hid hC
 clear hZ hC
 go_enter Tryz.func61,Tryz.ntmps61
 go_upto_region 3 with fail
 refine X9z (fun w'=>Hid (Blk w' w.heap.size 36 h.cells.toArray)∧Hid (Blk w' (w.heap.size+1) 166 ((zeros 80).map u8).toArray)∧Below w.heap.size w w') ⟨Lib.hid (by rw[←HC.out];exact(Blk.new w _ _).alloc _),Lib.hid (by rw[←HZ.out];exact Blk.new2 w _ _ _),((Below.refl _ _).alloc (Nat.le_refl _) _).alloc (by simp) _⟩ ?_
 rintro w1 ⟨hc1,hb1,hbel1⟩
 clear hz80 hmf
 have f0:w1.cell? ⟨w.heap.size,0,none⟩=some (.int .u32 (iv32 h.v)):=by rw[hc1.out.cell];rfl
 go_wp2_with fail
 refine(put_any 0 h.v _ (zeros 80) _ (by omega) rfl hb1.out).mono ?_
 rintro e w2 ⟨rfl,hb2,hbel2⟩
 have hc2:Hid (Blk w2 w.heap.size 36 h.cells.toArray):=Lib.hid (hc1.out.below hbel2 (by omega))
 have hbw2:=hbel1.trans (hbel2.mono (by omega))
 obtain⟨D2,hD2⟩:∃D2,D2=splice (zeros 80) 0 (le32 h.v):=⟨_,rfl⟩
 rw[←hD2]at hb2
 have HD2:=Lib.hid hD2
 have HL2:Hid (D2.length=80):=Lib.hid (by rw[hD2,length_splice _ _ _ (by rw[QEz];simp[zeros])];rfl)
 clear hD2 f0 hc1 hb1 hbel1 hbel2
 go_wp2_with fail
 refine QZz 3 (by kernel_rfl) (by kernel_rfl) ?_
 simp only[List.take_succ_cons,List.take_zero,List.drop_succ_cons,List.drop_zero]
 repeat (go_big_quiet_step (fail))
 refine wpQuiet_nil ?_
 rintro _ ⟨nq,rfl⟩
 refine wp_copy8 (o:=⟨some 13,_,_,_,_,_⟩) rfl (.tmp 10) (.tmp 12) 26 26 rfl 5 Tryz.underlying26 (by kernel_rfl) 76 76 32 (some ⟨w.heap.size,1,none⟩) h.p (w.heap.size+1) 4 rfl (by rw[hk.1];rfl) ((hdr_row_p hk hc2.out).below (Q7z (Below.refl _ _) nq) (Nat.le_refl _)) (D2.map u8) 166 hb2.out 32 (by rw[hk.1];rfl) (by rw[List.length_map,HL2.out];omega) (w.heap.size+1) w2 (Q7z (Below.refl _ _) nq) (Nat.le_refl _) ?_
 intro w3 hb3' hbel3 _
 simp only[QNz,List.setIfInBounds_toArray,List.set_cons_succ,List.set_cons_zero,goInt]
 have hc3:Hid (Blk w3 w.heap.size 36 h.cells.toArray):=Lib.hid (hc2.out.below hbel3 (by omega))
 have hbw3:=hbw2.trans (hbel3.mono (by omega))
 rw[List.take_of_length_le (l:=h.p) (by rw[hk.1];omega),← splice_map]at hb3'
 obtain⟨D3,hD3⟩:∃D3,D3=splice D2 4 h.p:=⟨_,rfl⟩
 rw[←hD3]at hb3'
 have HD3:=Lib.hid hD3
 have HL3:Hid (D3.length=80):=Lib.hid (by rw[hD3,length_splice _ _ _ (by rw[hk.1,HL2.out];omega),HL2.out])
 clear hD3 hb2 hc2 hbw2 hbel3
 go_wp2_with fail
 refine QZz 3 (by kernel_rfl) (by kernel_rfl) ?_
 simp only[List.take_succ_cons,List.take_zero,List.drop_succ_cons,List.drop_zero]
 repeat (go_big_quiet_step (fail))
 refine wpQuiet_nil ?_
 rintro _ ⟨nq,rfl⟩
 refine wp_copy8 (o:=⟨some 17,_,_,_,_,_⟩) rfl (.tmp 14) (.tmp 16) 26 26 rfl 5 Tryz.underlying26 (by kernel_rfl) 44 44 32 (some ⟨w.heap.size,33,none⟩) h.m (w.heap.size+1) 36 rfl (by rw[hk.2];rfl) ((hdr_row_m hk hc3.out).below (Q7z (Below.refl _ _) nq) (Nat.le_refl _)) (D3.map u8) 166 hb3'.out 32 (by rw[hk.2];rfl) (by rw[List.length_map,HL3.out];omega) (w.heap.size+1) w3 (Q7z (Below.refl _ _) nq) (Nat.le_refl _) ?_
 intro w4 hb4 hbel4 _
 simp only[QNz,List.setIfInBounds_toArray,List.set_cons_succ,List.set_cons_zero,goInt]
 have hc4:Hid (Blk w4 w.heap.size 36 h.cells.toArray):=Lib.hid (hc3.out.below hbel4 (by omega))
 have hbw4:=hbw3.trans (hbel4.mono (by omega))
 rw[List.take_of_length_le (l:=h.m) (by rw[hk.2];omega),← splice_map]at hb4
 obtain⟨D4,hD4⟩:∃D4,D4=splice D3 36 h.m:=⟨_,rfl⟩
 rw[←hD4]at hb4
 have HD4:=Lib.hid hD4
 have HL4:Hid (D4.length=80):=Lib.hid (by rw[hD4,length_splice _ _ _ (by rw[hk.2,HL3.out];omega),HL3.out])
 clear hD4 hb3' hc3 hbw3 hbel4
 have f5:w4.cell? ⟨w.heap.size,65,none⟩=some (.int .u32 (iv32 h.t)):=by rw[hc4.out.cell,List.getElem?_toArray];exact Xez hk 0
 go_wp2_with fail
 refine(put_any 68 h.t _ D4 _ (by omega) HL4.out hb4.out).mono ?_
 rintro e w5 ⟨rfl,hb5,hbel5⟩
 have hc5:Hid (Blk w5 w.heap.size 36 h.cells.toArray):=Lib.hid (hc4.out.below hbel5 (by omega))
 have hbw5:=hbw4.trans (hbel5.mono (by omega))
 obtain⟨D5,hD5⟩:∃D5,D5=splice D4 68 (le32 h.t):=⟨_,rfl⟩
 rw[←hD5]at hb5
 have HD5:=Lib.hid hD5
 have HL5:Hid (D5.length=80):=Lib.hid (by rw[hD5,length_splice _ _ _ (by rw[QEz,HL4.out];omega),HL4.out])
 clear hD5 f5 hc4 hb4 hbw4 hbel5
 have f6:w5.cell? ⟨w.heap.size,66,none⟩=some (.int .u32 (iv32 h.b)):=by rw[hc5.out.cell,List.getElem?_toArray];exact Xez hk 1
 go_wp2_with fail
 refine(put_any 72 h.b _ D5 _ (by omega) HL5.out hb5.out).mono ?_
 rintro e w6 ⟨rfl,hb6,hbel6⟩
 have hc6:Hid (Blk w6 w.heap.size 36 h.cells.toArray):=Lib.hid (hc5.out.below hbel6 (by omega))
 have hbw6:=hbw5.trans (hbel6.mono (by omega))
 obtain⟨D6,hD6⟩:∃D6,D6=splice D5 72 (le32 h.b):=⟨_,rfl⟩
 rw[←hD6]at hb6
 have HD6:=Lib.hid hD6
 have HL6:Hid (D6.length=80):=Lib.hid (by rw[hD6,length_splice _ _ _ (by rw[QEz,HL5.out];omega),HL5.out])
 clear hD6 f6 hc5 hb5 hbw5 hbel6
 have f7:w6.cell? ⟨w.heap.size,67,none⟩=some (.int .u32 (iv32 h.n)):=by rw[hc6.out.cell,List.getElem?_toArray];exact Xez hk 2
 go_wp2_with fail
 refine(put_any 76 h.n _ D6 _ (by omega) HL6.out hb6.out).mono ?_
 rintro e w7 ⟨rfl,hb7,hbel7⟩
 have hc7:Hid (Blk w7 w.heap.size 36 h.cells.toArray):=Lib.hid (hc6.out.below hbel7 (by omega))
 have hbw7:=hbw6.trans (hbel7.mono (by omega))
 obtain⟨D7,hD7⟩:∃D7,D7=splice D6 76 (le32 h.n):=⟨_,rfl⟩
 rw[←hD7]at hb7
 have HD7:=Lib.hid hD7
 have HL7:Hid (D7.length=80):=Lib.hid (by rw[hD7,length_splice _ _ _ (by rw[QEz,HL6.out];omega),HL6.out])
 clear hD7 f7 hc6 hb6 hbw6 hbel7
 have hD:D7=h.bytes:=by rw[HD7.out,HD6.out,HD5.out,HD4.out,HD3.out,HD2.out];exact hdr_chain h hk
 rw[hD]at hb7
 clear hD
 go_wp2
 go_ret
 exact⟨_,rfl,hb7,by omega,hbw7⟩
end
section
open Go.RowKit
theorem of_fn {α:Type} (p:List α) (n:Nat) (h:p.length=n):∃x:Fin n→α,p=List.ofFn x:=by
 subst h
 exact⟨fun i=>p[i],List.ofFn_getElem.symm⟩
theorem built_hdr (h:Hdr) (hk:h.ok):Tryz.prog.built 36 [(0,u32 h.v),(1,.agg (h.p.map u8).toArray),(2,.agg (h.m.map u8).toArray),(3,u32 h.t),(4,u32 h.b),(5,u32 h.n)]=some h.cells.toArray:=by
 obtain⟨v,p,m,t,b,n⟩:=h
 obtain⟨x,rfl⟩:=of_fn p 32 hk.1
 obtain⟨y,rfl⟩:=of_fn m 32 hk.2
 kernel_rfl
theorem part_any (at0 n gb bb of N c:Nat) (w:World) (hcell:w.cell? ⟨gb,0,none⟩=some (.slice (some ⟨bb,of,none⟩) N c)) (h:at0+n≤N) (hN:N≤c) (hc:c≤9223372036854775807) (hn:0<n):
 Calls Tryz.prog 109 #[.int .i64 (at0:Int),.int .i64 (n:Int),.pointer (some ⟨gb,0,none⟩)] w fun e w'=>e= .returned (.slice (some ⟨bb,of+at0,none⟩) n n)∧w'=w:=by
 have h0:(0:Int)≤(at0:Int):=by omega
 have h1:(at0:Int)≤(at0:Int)+(n:Int):=by omega
 have h2:(at0:Int)+(n:Int)≤(c:Int):=by omega
 have h3:(0:Int)<(n:Int):=by omega
 have h4:¬(at0+n=at0):=by omega
 have h5:Hid (at0+n-at0=n):=Lib.hid (by omega)
 go_enter Tryz.func109,Tryz.ntmps109
 go_wp2
 go_ret
 refine⟨?_,rfl⟩
 show Ending.returned (Value.slice (some ⟨bb,of+at0,none⟩) (at0+n-at0) (at0+n-at0))=_
 rw[h5.out]
theorem num_any (at0 gb gp bb of N c:Nat) (bs:List (BitVec 8)) (w:World) (hcell:w.cell? ⟨gb,0,none⟩=some (.slice (some ⟨bb,of,none⟩) N c)) (hfn:w.cell? ⟨gp,0,none⟩=some (.func (.func 109) #[] #[.pointer (some ⟨gb,0,none⟩)]))
 (hr:Row8 w (some ⟨bb,of,none⟩) bs) (hbs:bs.length=N) (h:at0+4≤N) (hN:N≤c) (hc:c≤9223372036854775807):
 Calls Tryz.prog 110 #[.int .i64 (at0:Int),.pointer (some ⟨gp,0,none⟩)] w fun e w'=>e= .returned (u32 (num32 (bs.drop at0)))∧∃k,w'=w.drewN k:=by
 have hp:=part_any at0 4 gb bb of N c w hcell h hN hc (by omega)
 rw[show((4:Nat):Int)=4 by rfl]at hp
 obtain⟨b',of',e',_,hrow⟩:=hr (fun e=>by rw[e]at hbs;simp at hbs;omega)
 injection e' with e'
 injection e' with e1 e2 _
 subst e1
 subst e2
 have key:∀i,i<4→∃x,bs[at0+i]? =some x∧w.cell? ⟨bb,of+at0+i,none⟩=some (.int .u8 (iv8 x)):=fun i hi=>by
  refine⟨bs[at0+i]'(by omega),List.getElem?_eq_getElem _,?_⟩
  rw[Nat.add_assoc]
  exact hrow _ _ (List.getElem?_eq_getElem _)
 obtain⟨x0,y0,c0⟩:=key 0 (by omega)
 obtain⟨x1,y1,c1⟩:=key 1 (by omega)
 obtain⟨x2,y2,c2⟩:=key 2 (by omega)
 obtain⟨x3,y3,c3⟩:=key 3 (by omega)
 have hnum:Hid (num32 (bs.drop at0)=((x0.setWidth 32 ||| x1.setWidth 32 <<< 8) ||| x2.setWidth 32 <<< 16) ||| x3.setWidth 32 <<< 24):=Lib.hid (by
  rw[num_or,num32_four (bs.drop at0) x0 x1 x2 x3 (by rw[List.getElem?_drop];exact y0) (by rw[List.getElem?_drop];exact y1) (by rw[List.getElem?_drop];exact y2) (by rw[List.getElem?_drop];exact y3)])
 have s1:=shl32 (x1.setWidth 32) 8 256 (by rfl)
 have s2:=shl32 (x2.setWidth 32) 16 65536 (by rfl)
 have s3:=shl32 (x3.setWidth 32) 24 16777216 (by rfl)
 have w0:=XRz x0
 have w1:=XRz x1
 have w2:=XRz x2
 have w3:=XRz x3
 have o1:=or32 (x0.setWidth 32) (x1.setWidth 32 <<< 8)
 have o2:=or32 (x0.setWidth 32 ||| x1.setWidth 32 <<< 8) (x2.setWidth 32 <<< 16)
 have o3:=or32 ((x0.setWidth 32 ||| x1.setWidth 32 <<< 8) ||| x2.setWidth 32 <<< 16) (x3.setWidth 32 <<< 24)
 rw[Nat.add_zero]at c0
 clear key hrow hr y0 y1 y2 y3
 go_enter Tryz.func110,Tryz.ntmps110
 go_wp2_with fail
 refine hp.mono ?_
 rintro e wx ⟨rfl,hw⟩
 replace hw:=hw.symm
 subst hw
 go_wp2_with fail
 go_quiet (fail)
 go_wp2
 go_ret
 refine⟨ret_int ?_,_,rfl⟩
 rw[hnum.out]
end
section
open Go.RowKit
def noHdr:Hdr:=⟨0#32,zeros 32,zeros 32,0#32,0#32,0#32⟩
theorem QGz:noHdr.ok:=⟨rfl,rfl⟩
def hdrOf (bs:List (BitVec 8)):Hdr:=⟨num32 bs,(bs.drop 4).take 32,(bs.drop 36).take 32,num32 (bs.drop 68),num32 (bs.drop 72),num32 (bs.drop 76)⟩
theorem hdrOf_ok (bs:List (BitVec 8)) (h:80≤bs.length):(hdrOf bs).ok:=by
 constructor<;>simp[hdrOf]<;>omega
def hdrP (bs:List (BitVec 8)):Hdr × List (BitVec 8) × Int:=if bs.length<80 then(noHdr,[],50)else(hdrOf bs,bs.drop 80,0)
def HdrPost (w:World) (x:Hdr × List (BitVec 8) × Int) (e:Ending) (w':World):Prop:=
 ∃v,e= .returned (.tuple #[.agg x.1.cells.toArray,v,.int .i64 x.2.2])∧Own8 w' w.heap.size v x.2.1∧Below w.heap.size w w'
theorem Hdr.cells_one (h:Hdr):h.cells.toArray.all (·.oneCell')=true:=by
 rw[List.all_toArray,Hdr.cells]
 simp[List.all_append,Value.oneCell']
theorem Hdr.cells_size {h:Hdr} (hk:h.ok):h.cells.toArray.size=68:=by rw[List.size_toArray,Hdr.cells_len hk]
theorem zeroHdr:∀w,(zeroValue 36).run Tryz.prog w= .ok (.agg noHdr.cells.toArray) w:=zero_of (by kernel_rfl)
theorem builtNo:Tryz.prog.built 36 []=some noHdr.cells.toArray:=by kernel_rfl
theorem Blk.range {w:World} {g:Nat} {t:TypeId} {cs:List Value} (h:Blk w g t cs.toArray):w.rangeAt g 0 cs:=fun j v hj=>by
 rw[Nat.zero_add,h.cell,List.getElem?_toArray];exact hj
theorem X3z {fn:Func} {p u v:Tmp} {ty:TypeId} (h:fn.results=#[.cell p ty,.tmp u,.tmp v]) (tmps:Array Value) (P:Program) (w:World) (g:Nat) (t:TypeId) (cs:List Value) (d:TypeDesc)
 (hp:tmps.getD p undef= .pointer (some ⟨g,0,none⟩)) (hg:Blk w g t cs.toArray) (hu:P.underlying ty=some d) (hd:d.isRow=true) (hi:(P.info? ty).map (·.size)=some cs.length):
 (results fn tmps).run P w= .ok (.tuple #[.agg cs.toArray,tmps.getD u undef,tmps.getD v undef]) w:=by
 have hp':tmps[p]?.getD undef= .pointer (some ⟨g,0,none⟩):=by simpa using hp
 simp[results,h,hp',asAddr,run_loadVar_mid w g 0 ty cs d hg.range hu hd hi]
theorem Row8.range {w:World} {b o:Nat} {bs:List (BitVec 8)} (h:Row8 w (some ⟨b,o,none⟩) bs) (k n:Nat):w.rangeAt b (o+k) (((bs.drop k).take n).map u8):=fun j v hj=>by
 rw[List.getElem?_map,List.getElem?_take]at hj
 split at hj
 ·rw[List.getElem?_drop]at hj
  cases hx:bs[k+j]? with
  |none=>rw[hx]at hj;cases hj
  |some x=>
   rw[hx]at hj
   obtain⟨b',o',e,_,hc⟩:=h (fun e=>by rw[e]at hx;cases hx)
   injection e with e
   injection e with e1 e2 _
   subst e1
   subst e2
   rw[Nat.add_assoc,hc _ _ hx]
   simpa using hj
 ·cases hj
theorem act_put_none (a:Act) (v:Value):a.put none v=a:=rfl
def SB (w2 w':World):Prop:=Below w2.heap.size w2 w'
section
variable {w2 w':World}
theorem SB.drew (h:SB w2 w'):SB w2 w'.drew:=Below.drew h
theorem SB.drewN (h:SB w2 w') (k:Nat):SB w2 (w'.drewN k):=Q7z h k
theorem SB.alloc (h:SB w2 w') (o:Obj):SB w2 (w'.alloc o):=Below.alloc h (Below.size h) o
theorem SB.refl (w2:World):SB w2 w2:=Below.refl _ _
end
theorem run_arrayAt32 (a:Option Addr) (w:World):(Instr.arrayAt 32 (.slice a 32 32)).run Tryz.prog w= .ok (.pointer a) w:=by
 simp[Instr.arrayAt,run_underlying Tryz.underlying32,go_sem]
theorem hdrDecode_any (p:Option Addr) (n c:Nat) (bs:List (BitVec 8)) (w:World) (hr:Row8 w p bs) (hn:bs.length=n) (hl:n≤c) (hb:c≤9223372036854775807) (hbig:n≤140737488355328):
 Calls Tryz.prog 83 #[.slice p n c] w (HdrPost w (hdrP bs)):=by
 have HN:=Lib.hid hn
 clear hn
 have hmf:∀(fn:Fn) (first cap:Array Value) (w:World),(Instr.makeFunc fn first cap).run Tryz.prog w= .ok (.func fn first cap) w:=fun _ _ _ _=>rfl
 have hsf:∀(a:Addr) (fn:Fn) (f c:Array Value) (w:World),(store a (.func fn f c)).run Tryz.prog w=stored Tryz.prog w a (.func fn f c) .plain:=fun a fn f c w=>run_store _ w a _ _ rfl
 have hz:=zeroHdr
 have hbn:∀w,(Instr.build 36 #[]).run Tryz.prog w= .ok (.agg noHdr.cells.toArray) w:=fun w=>run_build w _ _ _ builtNo
 obtain⟨Z,hZ⟩:∃Z,Z=noHdr.cells.toArray:=⟨_,rfl⟩
 rw[←hZ]at hz
 rw[←hZ]at hbn
 have HZ:=Lib.hid hZ
 have hZs:Hid (Z.size=68):=Lib.hid (by rw[hZ,Hdr.cells_size QGz])
 clear hZ
 go_enter Tryz.func83,Tryz.ntmps83
 go_upto_region 1 with fail
 refine X9z (fun w'=>w'.cell? ⟨w.heap.size,0,none⟩=some (.slice p n c)∧Hid (Blk w' (w.heap.size+1) 36 Z)∧Below w.heap.size w w') ⟨?_,Lib.hid (by exact Blk.new2 w _ _ _),((Below.refl _ _).alloc (Nat.le_refl _) _).alloc (by simp) _⟩ ?_
 ·rw[World.cell?_alloc_past _ _ _ (by simp),World.cell?_alloc_at _ _ _ _ rfl];rfl
 rintro w1 ⟨hc1,hb1,hbel1⟩
 by_cases hs:n<80
 ·have HP:Hid (hdrP bs=(noHdr,[],50)):=Lib.hid (by unfold hdrP;rw[if_pos (by rw[HN.out];exact hs)])
  have hsi:(n:Int)<80:=by omega
  clear hs
  go_wp2_with(with_reducible refine Q4z (o:=⟨none,_,_,_,_,_⟩) ?_ 36 (.tmp 2) (.tmp 11) ?_ (w.heap.size+1) 36 Z Z ?_ ?_ hb1.out ?_ ?_ ?_ w.heap.size w hbel1 ?_ ?_
              ·rfl
              ·rfl
              ·rfl
              ·rfl
              ·rw[hZs.out];kernel_rfl
              ·rfl
              ·rw[HZ.out];exact Hdr.cells_one _
              ·omega
              intro w2 hb2 hbel2 _ _)
  refine bodyPost_ret (X3z rfl _ _ _ (w.heap.size+1) _ noHdr.cells _ rfl (by rw[←HZ.out];exact hb2.out) Tryz.underlying36 rfl (by kernel_rfl)) rfl ?_
  rw[HP.out]
  exact⟨_,rfl,Own8.nil _ _,hbel2⟩
 ·have hge:¬(n:Int)<80:=by omega
  have hn80:80≤n:=by omega
  have hHo:=hdrOf_ok bs (by rw[HN.out];exact hn80)
  obtain⟨h,hh⟩:∃h,h=hdrOf bs:=⟨_,rfl⟩
  have HP:Hid (hdrP bs=(h,bs.drop 80,0)):=Lib.hid (by unfold hdrP;rw[if_neg (by rw[HN.out];omega),hh])
  rw[←hh]at hHo
  have HH:=Lib.hid hh
  clear hh hs
  obtain⟨bb,of,rfl,hbl,_⟩:=hr (fun e=>by have:=HN.out;rw[e]at this;simp at this;omega)
  have hlt1:=hb1.out.lt
  go_upto_region 5 with fail
  refine X9z (fun w'=>w'.cell? ⟨w.heap.size,0,none⟩=some (.slice (some ⟨bb,of,none⟩) n c)∧w'.cell? ⟨w1.heap.size,0,none⟩=some (.func (.func 109) #[] #[.pointer (some ⟨w.heap.size,0,none⟩)])∧Hid (Blk w' (w.heap.size+1) 36 Z)∧Below w.heap.size w w'∧w1.heap.size<w'.heap.size)
   ⟨?_,?_,Lib.hid ?_,hbel1.alloc hbel1.size _,by simp⟩ ?_
  ·rw[World.cell?_alloc_past _ _ _ (by omega)];exact hc1
  ·rw[World.cell?_alloc_at _ _ _ _ rfl];rfl
  ·exact hb1.out.alloc _
  rintro w2 ⟨hc2,hf2,hb2,hbel2,hlt2⟩
  clear hsf hmf hbn hc1 hb1 hbel1 hbl
  have hr2:=hr.below hbel2 (Nat.le_refl _)
  have hSof:∀w',SB w2 w'→w'.cell? ⟨w.heap.size,0,none⟩=some (.slice (some ⟨bb,of,none⟩) n c)∧w'.cell? ⟨w1.heap.size,0,none⟩=some (.func (.func 109) #[] #[.pointer (some ⟨w.heap.size,0,none⟩)])∧w'.rangeAt bb (of+4) (h.p.map u8)∧w'.rangeAt bb (of+36) (h.m.map u8):=by
   intro w' hB
   have hr3:=hr2.below hB (Nat.le_refl _)
   refine⟨(Below.cell hB (p:=⟨w.heap.size,0,none⟩) (show w.heap.size<w2.heap.size by omega)).trans hc2,(Below.cell hB (p:=⟨w1.heap.size,0,none⟩) (show w1.heap.size<w2.heap.size by omega)).trans hf2,?_,?_⟩
   ·rw[HH.out];exact hr3.range 4 32
   ·rw[HH.out];exact hr3.range 36 32
  have numC:∀(at0:Nat) (at1:Int) (x:BitVec 32),at1=(at0:Int)→at0+4≤n→num32 (bs.drop at0)=x→∀W,SB w2 W→∀k,Calls Tryz.prog 110 #[.int .i64 at1,.pointer (some ⟨w1.heap.size,0,none⟩)] (W.drewN k) fun e w''=>e= .returned (u32 x)∧∃m,w''=W.drewN m:=by
   intro at0 at1 x e1 h1 e2 W hW k
   subst e1
   subst e2
   have hB:=hW.drewN k
   exact(num_any at0 w.heap.size w1.heap.size bb of n c bs (W.drewN k) (hSof _ hB).1 (hSof _ hB).2.1 (hr2.below hB (Nat.le_refl _)) HN.out h1 hl hb).mono fun _ _ ⟨he,m,hm⟩=>⟨he,k+m,by rw[hm,World.drewN_drewN]⟩
  have partC:∀(at0 m0:Nat) (at1 m1:Int),at1=(at0:Int)→m1=(m0:Int)→at0+m0≤n→0<m0→∀W,SB w2 W→∀k,Calls Tryz.prog 109 #[.int .i64 at1,.int .i64 m1,.pointer (some ⟨w.heap.size,0,none⟩)] (W.drewN k) fun e w''=>e= .returned (.slice (some ⟨bb,of+at0,none⟩) m0 m0)∧∃m,w''=W.drewN m:=by
   intro at0 m0 at1 m1 e1 e2 h1 h2 W hW k
   subst e1
   subst e2
   exact(part_any at0 m0 w.heap.size bb of n c (W.drewN k) (hSof _ (hW.drewN k)).1 h1 hl hb h2).mono fun _ _ ⟨he,hm⟩=>⟨he,k,hm⟩
  have M0:=numC 0 0 h.v rfl (by omega) (by rw[HH.out];rfl)
  have M1:=numC 68 68 h.t rfl (by omega) (by rw[HH.out];rfl)
  have M2:=numC 72 72 h.b rfl (by omega) (by rw[HH.out];rfl)
  have M3:=numC 76 76 h.n rfl (by omega) (by rw[HH.out];rfl)
  have L0:=partC 4 32 4 32 rfl rfl (by omega) (by omega)
  have L1:=partC 36 32 36 32 rfl rfl (by omega) (by omega)
  clear numC partC
  refine' early_alloc 17 (by kernel_rfl) (by kernel_rfl) 35 rfl (by kernel_rfl) 7 36 _ rfl rfl rfl rfl (.agg Z) hz (SB w2) (SB.refl _).drew ((SB.refl _).drew.alloc _) _ ?hWalk ?hTail
  case hWalk=>
   intro W hW
   obtain⟨hcW,hfW,R4,R36⟩:=hSof W hW
   have N0:=M0 W hW
   have N1:=M1 W hW
   have N2:=M2 W hW
   have N3:=M3 W hW
   have P0:=L0 W hW
   have P1:=L1 W hW
   have hAt:=run_arrayAt32
   simp only[List.take_succ_cons,List.take_zero]
   iterate 2 (go_big_quiet_step (exact N0 _))
   iterate 3 (go_big_quiet_step (exact P0 _))
   refine Qtz rfl 32 (.tmp 18) rfl bb (of+4) rfl (h.p.map u8) _ (fun w' ⟨k,hk⟩=>by rw[hk];exact R4) Tryz.underlying32 rfl (by rw[List.length_map,hHo.1];kernel_rfl) ?_
   simp only[QNz,List.setIfInBounds_toArray,List.set_cons_succ,List.set_cons_zero]
   iterate 3 (go_big_quiet_step (exact P1 _))
   refine Qtz rfl 32 (.tmp 22) rfl bb (of+36) rfl (h.m.map u8) _ (fun w' ⟨k,hk⟩=>by rw[hk];exact R36) Tryz.underlying32 rfl (by rw[List.length_map,hHo.2];kernel_rfl) ?_
   simp only[QNz,List.setIfInBounds_toArray,List.set_cons_succ,List.set_cons_zero]
   iterate 2 (go_big_quiet_step (exact N1 _))
   iterate 2 (go_big_quiet_step (exact N2 _))
   iterate 2 (go_big_quiet_step (exact N3 _))
   refine Xbz rfl 36 #[(0,.tmp 15),(1,.tmp 19),(2,.tmp 23),(3,.tmp 25),(4,.tmp 27),(5,.tmp 29)] rfl h.cells.toArray ?_ ?_
   ·simp only[List.map_toArray,List.map_cons,List.map_nil]
    exact built_hdr h hHo
   simp only[QNz,List.setIfInBounds_toArray,List.set_cons_succ,List.set_cons_zero]
   refine wpQuiet_nil ?_
   rfl
  case hTail=>
   intro nq
   simp only[QNz,List.setIfInBounds_toArray,List.set_cons_succ,List.set_cons_zero]
   have HS:Hid (h.cells.length=68):=Lib.hid (Hdr.cells_len hHo)
   obtain⟨w3,hw3⟩:∃w3,w3=(w2.drew.alloc (.cells (Value.agg Z).cells 36)).drewN nq:=⟨_,rfl⟩
   have hk3:Blk w3 w2.heap.size 36 Z:=by rw[hw3];exact Blk.new w2.drew _ _
   have hB3:SB w2 w3:=by rw[hw3];exact((SB.refl _).drew.alloc _).drewN _
   rw[←hw3]
   clear hw3 M0 M1 M2 M3 L0 L1
   have hcell3:=(hSof w3 hB3).1
   have hb3:=Lib.hid (hb2.out.below hB3 (by omega))
   have hbel3:=hbel2.trans (hB3.mono hbel2.size)
   have hr3:=hr2.below hB3 (Nat.le_refl _)
   have hsz2:=hbel2.size
   clear hSof hc2 hf2 hb2 hr2
   refine Q4z (o:=⟨none,_,_,_,_,_⟩) rfl 36 (.tmp 7) (.tmp 30) rfl w2.heap.size 36 Z h.cells.toArray rfl rfl hk3 (by rw[List.size_toArray,HS.out];kernel_rfl) (hZs.out.trans (by rw[List.size_toArray,HS.out])) (Hdr.cells_one _) w2.heap.size w3 (Below.refl _ _) (Nat.le_refl _) ?_
   intro w4 hb4 hbel4 _ _
   rw[act_put_none]
   have hcell4:w4.cell? ⟨w.heap.size,0,none⟩=some (.slice (some ⟨bb,of,none⟩) n c):=(Below.cell hbel4 (p:=⟨w.heap.size,0,none⟩) (show w.heap.size<w2.heap.size by omega)).trans hcell3
   have hb5:=Lib.hid (hb3.out.below hbel4 (by omega))
   have hbw4:=hbel3.trans (hbel4.mono hsz2)
   have hr4:=hr.below hbw4 (Nat.le_refl _)
   have hdr:=hr4.drop (k:=80) (c:=c) (by rw[HN.out];exact hl)
   have hld:Hid ((bs.drop 80).length=n-80):=Lib.hid (by rw[List.length_drop,HN.out])
   have hge2:(80:Int)≤(n:Int):=by omega
   have hn2:(n:Int)≤(c:Int):=by omega
   clear hcell3 hb3 hbel3 hr3 hk3 hbel4
   have hcl:Hid (c≤9223372036854775807):=Lib.hid hb
   go_upto_region 6 with fail
   have hdw:∀q,(c=80→q=some ⟨bb,of,none⟩)→(c≠80→q=some ⟨bb,of+80,none⟩)→Row8 w4 q (bs.drop 80):=by
    intro q h1 h2
    by_cases hc80:c=80
    ·rw[if_pos hc80]at hdr;rw[h1 hc80];exact hdr
    ·rw[if_neg hc80,Option.map_some,Addr.add_lit]at hdr;rw[h2 hc80];exact hdr
   clear hdr
   by_cases hc80:c=80
   ·have hdr:=hdw _ (fun _=>rfl) (fun h=>absurd hc80 h)
    clear hdw
    refine' early_op 3 (by kernel_rfl) (by kernel_rfl) 35 rfl (by kernel_rfl) _ rfl rfl (SB w4) (fun p W=>Own8 W w4.heap.size p (bs.drop 80)∧SB w4 W) (SB.refl _).drew (fun _ _ hR=>hR.2) _ ?hWalk ?hX ?hTail
    case hWalk=>
     intro W hW
     have hcW:W.cell? ⟨w.heap.size,0,none⟩=some (.slice (some ⟨bb,of,none⟩) n c):=(Below.cell hW (p:=⟨w.heap.size,0,none⟩) (show w.heap.size<w4.heap.size by have:=hb5.out.lt;omega)).trans hcell4
     have hrW:W.rangeAt w2.heap.size 0 h.cells:=(Blk.below hb4.out hW hb4.out.lt).range
     simp only[List.take_succ_cons,List.take_zero]
     refine Qtz rfl 36 (.tmp 7) rfl w2.heap.size 0 rfl h.cells _ (fun w' ⟨k,hk⟩=>by rw[hk];exact hrW) Tryz.underlying36 rfl (by rw[HS.out];kernel_rfl) ?_
     simp only[QNz,List.setIfInBounds_toArray,List.set_cons_succ,List.set_cons_zero]
     iterate 2 (go_big_quiet_step (fail))
     refine wpQuiet_nil ?_
     rfl
    case hX=>
     intro k
     simp[go_sem]
     refine(clone_any (some ⟨bb,of,none⟩) (n-80) (0) (bs.drop 80) (w4.drewN (1+k)) (hdr.below (Q7z (Below.refl _ _) _) (Nat.le_refl _)) hld.out (by omega) (fun h=>by cases h)).mono ?_
     rintro e w' ⟨v,rfl,ho,hb⟩
     exact⟨v,rfl,ho,(Q7z (Below.refl _ _) _).trans hb⟩
    case hTail=>
     rintro v W k ⟨hov,hBW⟩
     simp only[List.drop_succ_cons,List.drop_zero,QNz,List.setIfInBounds_toArray,List.set_cons_succ,List.set_cons_zero]
     have hlt4:=hb5.out.lt
     have hBk:SB w4 (W.drewN k):=hBW.drewN k
     have hbW:Blk (W.drewN k) (w.heap.size+1) 36 Z:=hb5.out.below hBk hlt4
     have hovk:Own8 (W.drewN k) w4.heap.size v (bs.drop 80):=hov
     generalize W.drewN k=w5 at*
     have hbw5:=hbw4.trans (hBk.mono hbw4.size)
     refine Q4z (o:=⟨none,_,_,_,_,_⟩) rfl 36 (.tmp 2) (.tmp 31) rfl (w.heap.size+1) 36 Z h.cells.toArray rfl rfl hbW (by rw[List.size_toArray,HS.out];kernel_rfl) (hZs.out.trans (by rw[List.size_toArray,HS.out])) (Hdr.cells_one _) w.heap.size w hbw5 (by omega) ?_
     intro w6 hb6 hbel6 hg6 _
     rw[act_put_none]
     have hov6:Own8 w6 w4.heap.size v (bs.drop 80):=hovk.kept hg6.out (by
      cases hvo:v.ownBlock with
      |none=>exact .inl rfl
      |some q=>
       refine .inr fun e=>?_
       injection e with e
       have:=(World.ownsRow.lt hovk q hvo).1
       omega)
     go_wp2
     refine bodyPost_ret (X3z rfl _ _ _ (w.heap.size+1) _ h.cells _ rfl hb6.out Tryz.underlying36 rfl (by rw[HS.out];kernel_rfl)) rfl ?_
     rw[HP.out]
     exact⟨v,rfl,hov6.mono hbw4.size,hbel6⟩
   ·have hdr:=hdw _ (fun h=>absurd h hc80) (fun _=>rfl)
    clear hdw
    refine' early_op 3 (by kernel_rfl) (by kernel_rfl) 35 rfl (by kernel_rfl) _ rfl rfl (SB w4) (fun p W=>Own8 W w4.heap.size p (bs.drop 80)∧SB w4 W) (SB.refl _).drew (fun _ _ hR=>hR.2) _ ?hWalk ?hX ?hTail
    case hWalk=>
     intro W hW
     have hcW:W.cell? ⟨w.heap.size,0,none⟩=some (.slice (some ⟨bb,of,none⟩) n c):=(Below.cell hW (p:=⟨w.heap.size,0,none⟩) (show w.heap.size<w4.heap.size by have:=hb5.out.lt;omega)).trans hcell4
     have hrW:W.rangeAt w2.heap.size 0 h.cells:=(Blk.below hb4.out hW hb4.out.lt).range
     simp only[List.take_succ_cons,List.take_zero]
     refine Qtz rfl 36 (.tmp 7) rfl w2.heap.size 0 rfl h.cells _ (fun w' ⟨k,hk⟩=>by rw[hk];exact hrW) Tryz.underlying36 rfl (by rw[HS.out];kernel_rfl) ?_
     simp only[QNz,List.setIfInBounds_toArray,List.set_cons_succ,List.set_cons_zero]
     iterate 2 (go_big_quiet_step (fail))
     refine wpQuiet_nil ?_
     rfl
    case hX=>
     intro k
     simp[go_sem]
     refine(clone_any (some ⟨bb,of+80,none⟩) (n-80) (c-80) (bs.drop 80) (w4.drewN (1+k)) (hdr.below (Q7z (Below.refl _ _) _) (Nat.le_refl _)) hld.out (by omega) (fun h=>by cases h)).mono ?_
     rintro e w' ⟨v,rfl,ho,hb⟩
     exact⟨v,rfl,ho,(Q7z (Below.refl _ _) _).trans hb⟩
    case hTail=>
     rintro v W k ⟨hov,hBW⟩
     simp only[List.drop_succ_cons,List.drop_zero,QNz,List.setIfInBounds_toArray,List.set_cons_succ,List.set_cons_zero]
     have hlt4:=hb5.out.lt
     have hBk:SB w4 (W.drewN k):=hBW.drewN k
     have hbW:Blk (W.drewN k) (w.heap.size+1) 36 Z:=hb5.out.below hBk hlt4
     have hovk:Own8 (W.drewN k) w4.heap.size v (bs.drop 80):=hov
     generalize W.drewN k=w5 at*
     have hbw5:=hbw4.trans (hBk.mono hbw4.size)
     refine Q4z (o:=⟨none,_,_,_,_,_⟩) rfl 36 (.tmp 2) (.tmp 31) rfl (w.heap.size+1) 36 Z h.cells.toArray rfl rfl hbW (by rw[List.size_toArray,HS.out];kernel_rfl) (hZs.out.trans (by rw[List.size_toArray,HS.out])) (Hdr.cells_one _) w.heap.size w hbw5 (by omega) ?_
     intro w6 hb6 hbel6 hg6 _
     rw[act_put_none]
     have hov6:Own8 w6 w4.heap.size v (bs.drop 80):=hovk.kept hg6.out (by
      cases hvo:v.ownBlock with
      |none=>exact .inl rfl
      |some q=>
       refine .inr fun e=>?_
       injection e with e
       have:=(World.ownsRow.lt hovk q hvo).1
       omega)
     go_wp2
     refine bodyPost_ret (X3z rfl _ _ _ (w.heap.size+1) _ h.cells _ rfl hb6.out Tryz.underlying36 rfl (by rw[HS.out];kernel_rfl)) rfl ?_
     rw[HP.out]
     exact⟨v,rfl,hov6.mono hbw4.size,hbel6⟩
end
section
open Go.RowKit Go.ChangeShapes Go.WideShapes
theorem header_cells {H:Type} {enc:TypeId × Value→H} {w:World} {base:Nat} {spare:Nat→Bool} {held:Bool} {fuel:Nat} {cs:List Value} {x:DataW H × List MemPlace} (h:DataW.trod enc Tryz.prog w base spare held fuel 36 cs=some x):
 ∃hd:Hdr,hd.ok∧cs=hd.cells:=by
 have hl:cs.length=68:=by
  obtain⟨_,_,_,_,hl,_⟩:=DataW.trod_struct Tryz.underlying36 h
  rw[hl];kernel_rfl
 obtain⟨n0,y0,h0⟩:=Qgz Tryz.underlying36 h 0 _ rfl 1 (by kernel_rfl)
 obtain⟨n1,y1,h1⟩:=Qgz Tryz.underlying36 h 1 _ rfl 32 (by kernel_rfl)
 obtain⟨n2,y2,h2⟩:=Qgz Tryz.underlying36 h 2 _ rfl 32 (by kernel_rfl)
 obtain⟨n3,y3,h3⟩:=Qgz Tryz.underlying36 h 3 _ rfl 1 (by kernel_rfl)
 obtain⟨n4,y4,h4⟩:=Qgz Tryz.underlying36 h 4 _ rfl 1 (by kernel_rfl)
 obtain⟨n5,y5,h5⟩:=Qgz Tryz.underlying36 h 5 _ rfl 1 (by kernel_rfl)
 obtain⟨i0,e0,_,w0⟩:=DataW.trod_int Tryz.underlying30 h0
 obtain⟨i3,e3,_,w3⟩:=DataW.trod_int Tryz.underlying30 h3
 obtain⟨i4,e4,_,w4⟩:=DataW.trod_int Tryz.underlying30 h4
 obtain⟨i5,e5,_,w5⟩:=DataW.trod_int Tryz.underlying30 h5
 obtain⟨p,hp,ep⟩:=Z8z Tryz.underlying32 Tryz.underlying5 XQz XSz h1
 obtain⟨m,hm,em⟩:=Z8z Tryz.underlying32 Tryz.underlying5 XQz XSz h2
 obtain⟨v,rfl⟩:=of32 i0 w0
 obtain⟨t,rfl⟩:=of32 i3 w3
 obtain⟨b,rfl⟩:=of32 i4 w4
 obtain⟨n,rfl⟩:=of32 i5 w5
 refine⟨⟨v,p,m,t,b,n⟩,⟨hp,hm⟩,?_⟩
 have q1:=parts3 cs 1 32 35 (by omega)
 have q2:=parts3 ((cs.drop 33).take 35) 32 1 2 (by simp;omega)
 have q3:=parts2 ((((cs.drop 33).take 35).drop 33).take 2) 1 1 (by simp;omega)
 have a0:(cs.drop 0).take 1=[u32 v]:=e0
 have a1:(cs.drop 1).take 32=p.map u8:=ep
 have a2:(((cs.drop 33).take 35).drop 0).take 32=m.map u8:=by rw[List.drop_zero,List.take_take];exact em
 have a3:(((cs.drop 33).take 35).drop 32).take 1=[u32 t]:=by rw[List.drop_take,List.drop_drop,List.take_take];exact e3
 have a4:(((((cs.drop 33).take 35).drop 33).take 2).drop 0).take 1=[u32 b]:=by rw[List.drop_zero,List.take_take,List.drop_take,List.drop_drop,List.take_take];exact e4
 have a5:(((((cs.drop 33).take 35).drop 33).take 2).drop 1).take 1=[u32 n]:=by rw[List.drop_take,List.take_take,List.drop_take,List.drop_take,List.drop_drop,List.drop_drop,List.take_take];exact e5
 rw[a4,a5]at q3
 rw[a2,a3,q3]at q2
 rw[a0,a1,q2]at q1
 rw[q1]
 simp[Hdr.cells]
theorem hdr_row {w:World} {g:Nat} {t:TypeId} {bs:List (BitVec 8)} (h:Blk w g t (bs.map u8).toArray):Row8 w (some ⟨g,0,none⟩) bs:=fun _=>
 ⟨g,0,rfl,h.lt,fun i x hx=>by rw[Nat.zero_add,h.cell,List.getElem?_toArray,List.getElem?_map,hx];rfl⟩
end
section
open Go.RowKit
theorem XWz {h:Hdr} (hk:h.ok):(Tryz.prog.info? 36).map (·.size)=some h.cells.length:=by rw[Hdr.cells_len hk];kernel_rfl
theorem num32_le32 (x:BitVec 32) (r:List (BitVec 8)):num32 (le32 x++r)=x:=by
 unfold num32 le32
 rw[numTo_low _ 4 r (by rw[BitVec.toNat_setWidth];have:=x.isLt;omega)]
 apply BitVec.eq_of_toNat_eq
 rw[BitVec.toNat_setWidth,BitVec.toNat_setWidth]
 have:=x.isLt
 omega
theorem hdrP_bytes (h:Hdr) (hk:h.ok) (r:List (BitVec 8)):hdrP (h.bytes++r)=(h,r,0):=by
 have l4:=QEz
 unfold hdrP
 rw[if_neg (by rw[List.length_append,Hdr.bytes_len hk];omega)]
 have hr:(h.bytes++r).drop 80=r:=by rw[List.drop_append,List.drop_of_length_le (by rw[Hdr.bytes_len hk];omega),Hdr.bytes_len hk];rfl
 have e:h.bytes++r=le32 h.v++(h.p++(h.m++(le32 h.t++(le32 h.b++(le32 h.n++r))))):=by simp[Hdr.bytes,List.append_assoc]
 have dr:∀(X Y:List (BitVec 8)) (k:Nat),X.length=k→(X++Y).drop k=Y:=fun X Y k hk=>by subst hk;simp
 have d4:(h.bytes++r).drop 4=h.p++(h.m++(le32 h.t++(le32 h.b++(le32 h.n++r)))):=by rw[e];exact dr _ _ _ (l4 _)
 have d36:(h.bytes++r).drop 36=h.m++(le32 h.t++(le32 h.b++(le32 h.n++r))):=by rw[show 36=4+32 by rfl,← List.drop_drop,d4];exact dr _ _ _ hk.1
 have d68:(h.bytes++r).drop 68=le32 h.t++(le32 h.b++(le32 h.n++r)):=by rw[show 68=36+32 by rfl,← List.drop_drop,d36];exact dr _ _ _ hk.2
 have d72:(h.bytes++r).drop 72=le32 h.b++(le32 h.n++r):=by rw[show 72=68+4 by rfl,← List.drop_drop,d68];exact dr _ _ _ (l4 _)
 have d76:(h.bytes++r).drop 76=le32 h.n++r:=by rw[show 76=72+4 by rfl,← List.drop_drop,d72];exact dr _ _ _ (l4 _)
 rw[hr]
 have hh:hdrOf (h.bytes++r)=h:=by
  unfold hdrOf
  rw[d4,d36,d68,d72,d76,num32_le32,num32_le32,num32_le32,e,num32_le32,List.take_left' hk.1,List.take_left' hk.2]
 rw[hh]
end
section
open Go.RowKit
def lastN (h:Hdr) (k:Nat):List (BitVec 8):=([h.t,h.b,h.n].take k).flatMap le32
theorem lastN_len (h:Hdr) (k:Nat) (hk:k≤3):(lastN h k).length=4*k:=by
 rcases(by omega:k=0∨k=1∨k=2∨k=3)with rfl|rfl|rfl|rfl<;>simp[lastN,QEz]
theorem lastN_succ (h:Hdr) (k:Nat) (x:BitVec 32) (hx:[h.t,h.b,h.n][k]? =some x):lastN h (k+1)=lastN h k++le32 x:=by
 unfold lastN
 obtain⟨hk,rfl⟩:=List.getElem?_eq_some_iff.1 hx
 rw[List.take_succ_eq_append_getElem hk,List.flatMap_append]
 simp
theorem hdr_bytes_last (h:Hdr):(le32 h.v++h.p++h.m)++lastN h 3=h.bytes:=by
 unfold Hdr.bytes lastN
 simp[List.append_assoc]
theorem refHdrEncode_any (h:Hdr) (hk:h.ok) (w:World):Calls Tryz.prog 68 #[.agg h.cells.toArray] w (GivesOwn w h.bytes):=by
 obtain⟨C,hC⟩:∃C,C=h.cells.toArray:=⟨_,rfl⟩
 rw[←hC]
 have HC:=Lib.hid hC
 clear hC
 have HK:=Lib.hid hk
 clear hk
 go_enter Tryz.func68,Tryz.ntmps68
 go_upto_region 1 with fail
 refine X9z (fun w'=>Hid (Blk w' w.heap.size 36 h.cells.toArray)∧Below w.heap.size w w') ⟨Lib.hid (by rw[←HC.out];exact Blk.new w _ _),(Below.refl _ _).alloc (Nat.le_refl _) _⟩ ?_
 rintro w1 ⟨hb1,hbel1⟩
 have c0:w1.cell? ⟨w.heap.size,0,none⟩=some (.int .u32 (iv32 h.v)):=by rw[hb1.out.cell];rfl
 have e0:=Xnz h.v
 go_wp2_with fail
 refine(QFz (h.v.setWidth 64) 4 (by omega) _).mono ?_
 rintro e w2 ⟨v2,rfl,ho2,hbel2⟩
 replace ho2:Own8 w2 w1.heap.size v2 (le32 h.v):=ho2
 have hlt1:=hb1.out.lt
 have hp1:=Lib.hid (hdr_row_p HK.out hb1.out)
 have hm1:=Lib.hid (hdr_row_m HK.out hb1.out)
 clear c0 e0
 go_upto_region 2 with fail
 refine QAz [qq 0,qq 1,qq 2,qq 4,qq 5,oo 3,oo 6,qq 7] (fun _=>True) (by kernel_rfl) (by kernel_rfl) trivial ?_
 refine' Q9z (s:=36) (A1:=_) [0,1,2,4,5] [_,_,_,_,_] _ rfl rfl rfl (fun W _=>?hq1) _ trivial (fun _=>?hr1)
 case hq1=>
  simp only[List.getElem_toArray,List.getElem_cons_zero,List.getElem_cons_succ]
  iterate 5 (go_big_quiet_step (fail))
  refine wpQuiet_nil ?_
  rfl
 case hr1=>
 refine Qbz rfl fun k=>?_
 refine Qaz (o:=⟨some 13,_,_,_,_,_⟩) rfl (.tmp 10) (.tmp 12) rfl w1.heap.size v2 (le32 h.v) rfl ((ho2.drew).drewN k) (some ⟨w.heap.size,1,none⟩) 32 32 h.p rfl HK.out.1 ?_ ?_ ?_ w1.heap.size w1 ?_ (Nat.le_refl _) ?_
 ·exact hp1.out.below (Q7z hbel2.drew k) (Nat.le_refl _)
 ·rw[QEz,HK.out.1];omega
 ·exact hbel2.size
 ·exact Q7z hbel2.drew k
 intro v3 w3 ho3 hbel3 _ _
 refine Q2z ⟨trivial,?_⟩
 refine Qbz rfl fun k3=>?_
 refine Qaz (o:=⟨some 16,_,_,_,_,_⟩) rfl (.tmp 13) (.tmp 15) rfl w1.heap.size v3 (le32 h.v++h.p) rfl (ho3.drewN k3) (some ⟨w.heap.size,33,none⟩) 32 32 h.m rfl HK.out.2 ?_ ?_ ?_ w1.heap.size w1 ?_ (Nat.le_refl _) ?_
 ·exact hm1.out.below (Q7z hbel3 k3) (Nat.le_refl _)
 ·rw[List.length_append,QEz,HK.out.1,HK.out.2];omega
 ·exact hbel3.size
 ·exact Q7z hbel3 k3
 intro v4 w4 ho4 hbel4 _ _
 refine Q2z ⟨trivial,?_⟩
 refine' Q9z (s:=36) (A1:=_) (r:=[]) [7] [_] _ rfl rfl rfl (fun W _=>?hq2) _ trivial (fun _=>?hr2)
 case hq2=>
  simp only[List.getElem_toArray,List.getElem_cons_zero,List.getElem_cons_succ,X4z,List.setIfInBounds_toArray,List.set_cons_succ,List.set_cons_zero]
  iterate 1 (go_big_quiet_step (fail))
  refine wpQuiet_nil ?_
  rfl
 case hr2=>
 refine Qnz fun k4=>NoPanic.normal ?_
 clear hbel3 ho3 hp1 hm1 hbel2 ho2
 obtain⟨X,hX⟩:∃X,X=le32 h.v++h.p++h.m:=⟨_,rfl⟩
 rw[←hX]at ho4
 have HX:=Lib.hid hX
 have hXl:Hid (X.length=68):=Lib.hid (by rw[hX,List.length_append,List.length_append,QEz,HK.out.1,HK.out.2])
 clear hX
 have ho5:=ho4.drewN k4
 have hbel5:=Q7z hbel4 k4
 have hb5:=hb1.out.below hbel5 hlt1
 obtain⟨w5,hw5⟩:∃x,x=w4.drewN k4:=⟨_,rfl⟩
 rw[←hw5]at ho5 hbel5 hb5
 have c3:w5.cell? ⟨w.heap.size,65,none⟩=some (.int .u32 (iv32 h.t)):=by rw[hb5.cell,List.getElem?_toArray];exact Xez HK.out 0
 have c4:w5.cell? ⟨w.heap.size,66,none⟩=some (.int .u32 (iv32 h.b)):=by rw[hb5.cell,List.getElem?_toArray];exact Xez HK.out 1
 have c5:w5.cell? ⟨w.heap.size,67,none⟩=some (.int .u32 (iv32 h.n)):=by rw[hb5.cell,List.getElem?_toArray];exact Xez HK.out 2
 rw[←hw5]
 clear hw5 ho4 hbel4 hb5
 go_wp2_with fail
 have hv5:v4.ownBlock≠some w5.heap.size:=by
  intro e
  have:=(World.ownsRow.lt ho5 _ e).2
  omega
 have hG0:Hid (Blk (w5.alloc (.cells #[.int .u32 (iv32 h.t),.int .u32 (iv32 h.b),.int .u32 (iv32 h.n)] 30)) w5.heap.size 30 ([h.t,h.b,h.n].map Go.Proofs.YtjbijcjcejfpcaaGreatDoor.u32).toArray):=Lib.hid (Blk.new w5 _ _)
 have ho6:=ho5.alloc (.cells #[.int .u32 (iv32 h.t),.int .u32 (iv32 h.b),.int .u32 (iv32 h.n)] 30)
 have hbel6:=hbel5.alloc hbel5.size (.cells #[.int .u32 (iv32 h.t),.int .u32 (iv32 h.b),.int .u32 (iv32 h.n)] 30)
 have hXe:Hid (X++lastN h 0=X):=Lib.hid (List.append_nil X)
 rw[←hXe.out]at ho6
 obtain⟨G,hG⟩:∃G,G=w5.heap.size:=⟨_,rfl⟩
 rw[←hG]at hv5 hG0 ⊢
 clear c3 c4 c5 ho5 hbel5 hG
 go_loopw[3,25] (fun v i wr=>∃k:Nat,k≤3∧i= .int .i64 k∧Own8 wr w1.heap.size v (X++lastN h k)∧v.ownBlock≠some G∧Hid (Blk wr G 30 ([h.t,h.b,h.n].map Go.Proofs.YtjbijcjcejfpcaaGreatDoor.u32).toArray)∧Below w1.heap.size w1 wr) (fun _ i _=>3-(intOf i).toNat)
 case atStart=>exact⟨0,by omega,rfl,ho6,hv5,hG0,hbel6⟩
 case round=>
  obtain⟨q,hq,rfl,ho8,hv8,hG8,hbel8⟩:=hrel
  clear ho6 hv5 hG0 hbel6
  by_cases hq3:q<3
  ·have hlt:(q:Int)<3:=by omega
   obtain⟨x,hx⟩:∃x,[h.t,h.b,h.n][q]? =some x:=⟨_,List.getElem?_eq_getElem (by simpa using hq3)⟩
   have cc:wr.cell? ⟨G,q,none⟩=some (.int .u32 (iv32 x)):=by rw[hG8.out.cell,List.getElem?_toArray,List.getElem?_map,hx];rfl
   have e0:=Xnz x
   have HX2:=Lib.hid (lastN_succ h q x hx)
   have hlt8:=hG8.out.lt
   clear hx
   go_wp2_with fail
   refine(QFz (x.setWidth 64) 4 (by omega) _).mono ?_
   rintro e w9 ⟨v9,rfl,ho9,hbel9⟩
   replace ho9:Own8 w9 wr.heap.size v9 (le32 x):=ho9
   obtain⟨p9,n9,c9,rfl,H9,hl9,hm9,hr9⟩:=ho9.open
   have hn9:n9=4:=H9.out.symm.trans (QEz x)
   subst hn9
   have ho10:=ho8.below hbel9 (Nat.le_refl _)
   have hG10:=hG8.out.below hbel9 hlt8
   have hbel10:=hbel8.trans (hbel9.mono hbel8.size)
   have hs9:=hbel9.size
   clear cc e0 ho8 ho9
   go_wp2_with(with_reducible refine Qaz (o:=⟨some 33,_,_,_,_,_⟩) ?_ (.tmp 29) (.tmp 32) ?_ w1.heap.size _ (X++lastN h q) ?_ ho10 p9 4 c9 (le32 x) ?_ H9.out hr9 ?_ ?_ w1.heap.size w1 hbel10 ?_ ?_
               ·rfl
               ·rfl
               ·rfl
               ·rfl
               ·rw[List.length_append,hXl.out,lastN_len h q hq,QEz];omega
               ·exact hbel10.size
               ·exact Nat.le_refl _
               intro v11 w11 ho11 hbel11 hg11 hv11)
   have hv12:v11.ownBlock≠some G:=by
    rcases hv11 with h1|h1
    ·rw[h1];exact hv8
    ·rw[h1];intro e;injection e with e;omega
   have hG11:Blk w11 G 30 ([h.t,h.b,h.n].map Go.Proofs.YtjbijcjcejfpcaaGreatDoor.u32).toArray:=(hg11.block G hG10.lt (Ne.symm hv8)).trans hG10
   rw[List.append_assoc,← HX2.out]at ho11
   go_roundw
   case rel=>exact⟨q+1,by omega,by go_num,ho11,hv12,Lib.hid hG11,hbel11⟩
   case measure=>simp[intOf];omega
  ·have hq3':q=3:=by omega
   subst hq3'
   have hge:¬((3:Nat):Int)<3:=by omega
   rw[HX.out,hdr_bytes_last]at ho8
   have hbw:=hbel1.trans (hbel8.mono hbel1.size)
   go_wp2
   go_ret
   exact⟨_,rfl,ho8.mono hbel1.size,hbw⟩
end
end Go.Proofs.YtjbijcjcejfpcaaGreatDoor
