/- sporranref05.Encode: the walk. · sporran/size.Encode: the walk. · sporran/size.T -/
import Derived.RegionTactic
import Derived.ChangeAlike
import Derived.Deep.RegionWith
import Derived.Deep.DeepCutAuto
import Derived.Deep.CutBlock
import Derived.Test.YtjbijcjcejfpcaaGreatDoorZGB
namespace Go.Proofs.YtjbijcjcejfpcaaGreatDoor
set_option linter.unusedVariables false
set_option maxRecDepth 100000
set_option maxHeartbeats 16000000
section
open Go.RowKit
def enc (n:BitVec 64):List (BitVec 8):=
 if iv64 n<253 then[n.setWidth 8]else if iv64 n≤65535 then 253#8 ::low n 2 else if iv64 n≤4294967295 then 254#8 ::low n 4 else 255#8 ::low n 8
theorem own_one (w:World) (b:BitVec 8):Own8 (w.alloc (.cells #[u8 b] 5)) w.heap.size (.slice (some ⟨w.heap.size,0,none⟩) 1 1) [b]:=
 ⟨rfl,.inr ⟨w.heap.size,1,#[u8 b],rfl,Nat.le_refl _,Blk.new w _ _,Nat.le_refl _,by unfold maxLen;omega,rfl,rfl⟩⟩
theorem GivesOwn.of {w w':World} {bs cs:List (BitVec 8)} {v:Value} (h:Hid (bs=cs)) (ho:Own8 w' w.heap.size v cs) (hb:Below w.heap.size w w'):GivesOwn w bs (.returned v) w':=by
 rw[h.out];exact⟨v,rfl,ho,hb⟩
theorem refEncode_any (n:BitVec 64) (w:World):Calls Tryz.prog 67 #[.int .u64 (iv64 n)] w (GivesOwn w (enc n)):=by
 have hlo:=iv64_lo n
 go_enter Tryz.func67,Tryz.ntmps67
 by_cases h1:iv64 n<253
 ·have HE:Hid (enc n=[n.setWidth 8]):=Lib.hid (by unfold enc;rw[if_pos h1])
  have hc:=cut64_8 n
  have ho:=own_one w (n.setWidth 8)
  have hb0:Below w.heap.size w (w.alloc (.cells #[u8 (n.setWidth 8)] 5)):=(Below.refl _ _).alloc (Nat.le_refl _) _
  go_wp2
  go_ret
  exact GivesOwn.of HE ho hb0
 by_cases h2:iv64 n≤65535
 ·have HE:Hid (enc n=253#8 ::low n 2):=Lib.hid (by unfold enc;rw[if_neg h1,if_pos h2])
  have hb0:Below w.heap.size w (w.alloc (.cells #[u8 253#8] 5)):=(Below.refl _ _).alloc (Nat.le_refl _) _
  have ho:=own_one w 253#8
  go_wp2_with fail
  refine(QFz n 2 (by omega) (w.alloc (.cells #[u8 253#8] 5))).mono ?_
  rintro e w1 ⟨v1,rfl,ho1,hb1⟩
  obtain⟨p1,c1,rfl,hl1,hm1,hr1⟩:=ho1.row
  have hl2:=Qez n 2
  have hsz:=hb0.size
  have hsz1:=hb1.size
  have hbw:=hb0.trans (hb1.mono hsz)
  have ho2:=ho.below hb1 (Nat.le_refl _)
  clear ho ho1 hb1
  go_wp2_with(with_reducible refine Qaz (o:=⟨some 15,_,_,_,_,_⟩) ?_ (.tmp 12) (.tmp 14) ?_ w.heap.size _ [253#8] ?_ ho2 p1 (low n 2).length c1 (low n 2) ?_ rfl hr1 ?_ ?_ w.heap.size w hbw ?_ ?_
              ·rfl
              ·rfl
              ·rfl
              ·rfl
              ·rw[hl2];simp only[List.length_cons,List.length_nil];omega
              ·exact hbw.size
              ·exact Nat.le_refl _
              intro v3 w3 ho3 hb3 _ _)
  go_ret
  exact GivesOwn.of HE ho3 hb3
 by_cases h3:iv64 n≤4294967295
 ·have HE:Hid (enc n=254#8 ::low n 4):=Lib.hid (by unfold enc;rw[if_neg h1,if_neg h2,if_pos h3])
  have hb0:Below w.heap.size w (w.alloc (.cells #[u8 254#8] 5)):=(Below.refl _ _).alloc (Nat.le_refl _) _
  have ho:=own_one w 254#8
  go_wp2_with fail
  refine(QFz n 4 (by omega) (w.alloc (.cells #[u8 254#8] 5))).mono ?_
  rintro e w1 ⟨v1,rfl,ho1,hb1⟩
  obtain⟨p1,c1,rfl,hl1,hm1,hr1⟩:=ho1.row
  have hl4:=Qez n 4
  have hsz:=hb0.size
  have hsz1:=hb1.size
  have hbw:=hb0.trans (hb1.mono hsz)
  have ho2:=ho.below hb1 (Nat.le_refl _)
  clear ho ho1 hb1
  go_wp2_with(with_reducible refine Qaz (o:=⟨some 22,_,_,_,_,_⟩) ?_ (.tmp 19) (.tmp 21) ?_ w.heap.size _ [254#8] ?_ ho2 p1 (low n 4).length c1 (low n 4) ?_ rfl hr1 ?_ ?_ w.heap.size w hbw ?_ ?_
              ·rfl
              ·rfl
              ·rfl
              ·rfl
              ·rw[hl4];simp only[List.length_cons,List.length_nil];omega
              ·exact hbw.size
              ·exact Nat.le_refl _
              intro v3 w3 ho3 hb3 _ _)
  go_ret
  exact GivesOwn.of HE ho3 hb3
 ·have HE:Hid (enc n=255#8 ::low n 8):=Lib.hid (by unfold enc;rw[if_neg h1,if_neg h2,if_neg h3])
  have hb0:Below w.heap.size w (w.alloc (.cells #[u8 255#8] 5)):=(Below.refl _ _).alloc (Nat.le_refl _) _
  have ho:=own_one w 255#8
  go_wp2_with fail
  refine(QFz n 8 (by omega) (w.alloc (.cells #[u8 255#8] 5))).mono ?_
  rintro e w1 ⟨v1,rfl,ho1,hb1⟩
  obtain⟨p1,c1,rfl,hl1,hm1,hr1⟩:=ho1.row
  have hl8:=Qez n 8
  have hsz:=hb0.size
  have hsz1:=hb1.size
  have hbw:=hb0.trans (hb1.mono hsz)
  have ho2:=ho.below hb1 (Nat.le_refl _)
  clear ho ho1 hb1
  go_wp2_with(with_reducible refine Qaz (o:=⟨some 26,_,_,_,_,_⟩) ?_ (.tmp 23) (.tmp 25) ?_ w.heap.size _ [255#8] ?_ ho2 p1 (low n 8).length c1 (low n 8) ?_ rfl hr1 ?_ ?_ w.heap.size w hbw ?_ ?_
              ·rfl
              ·rfl
              ·rfl
              ·rfl
              ·rw[hl8];simp only[List.length_cons,List.length_nil];omega
              ·exact hbw.size
              ·exact Nat.le_refl _
              intro v3 w3 ho3 hb3 _ _)
  go_ret
  exact GivesOwn.of HE ho3 hb3
end
section
open Go.RowKit
def Xpz (f:BitVec 8) (n:BitVec 64) (k:Nat):Array Value:=(u8 f ::((low n k).map u8++List.replicate (8-k) (u8 0#8))).toArray
theorem allCells_size (f:BitVec 8) (n:BitVec 64) (k:Nat) (hk:k≤8):(Xpz f n k).size=9:=by simp[Xpz,Qez];omega
theorem allCells_set (f:BitVec 8) (n:BitVec 64) (k:Nat) (hk:k<8):(Xpz f n k).setIfInBounds (k+1) (u8 (byteN n k))=Xpz f n (k+1):=by
 unfold Xpz
 rw[List.setIfInBounds_toArray,List.set_cons_succ,low_succ,List.map_append]
 congr 2
 rw[List.set_append_right _ _ (by simp[Qez]),show k-((low n k).map u8).length=0 by simp[Qez],show 8-k=(8-(k+1))+1 by omega,List.replicate_succ]
 simp
theorem allCells_first (f g:BitVec 8) (n:BitVec 64) (k:Nat):(Xpz f n k).setIfInBounds 0 (u8 g)=Xpz g n k:=by
 unfold Xpz;simp
theorem allCells_row {w:World} {g:Nat} {t:TypeId} {f:BitVec 8} {n:BitVec 64} (h:Blk w g t (Xpz f n 8)) (j:Nat) (hj:j≤8):Row8 w (some ⟨g,0,none⟩) (f ::low n j):=fun _=>
 ⟨g,0,rfl,h.lt,fun i x hx=>by
  rw[Nat.zero_add,h.cell]
  unfold Xpz
  cases i with
  |zero=>simp at hx ⊢;rw[hx]
  |succ i=>
   simp only[List.getElem?_cons_succ]at hx
   have hi:i<j:=by
    have:=(List.getElem?_eq_some_iff.1 hx).1
    simpa[Qez]using this
   have e:(low n 8)[i]? =some x:=by
    rw[←hx];simp[low,hi,show i<8 by omega]
   obtain⟨_,e2⟩:=List.getElem?_eq_some_iff.1 e
   simp[Qez,show i<8 by omega,e2]⟩
theorem own_nothing (w:World) (B:Nat) (hB:B≤w.heap.size):Own8 (w.alloc (.cells #[] 5)) B (.slice (some ⟨w.heap.size,0,none⟩) 0 0) []:=
 ⟨rfl,.inr ⟨w.heap.size,0,#[],rfl,hB,Blk.new w _ _,Nat.le_refl _,by unfold maxLen;omega,rfl,rfl⟩⟩
theorem encode_any (n:BitVec 64) (w:World):Calls Tryz.prog 60 #[.int .u64 (iv64 n)] w (GivesOwn w (enc n)):=by
 have hlo:=iv64_lo n
 go_enter Tryz.func60,Tryz.ntmps60
 by_cases h1:iv64 n<253
 ·have HE:Hid (enc n=[n.setWidth 8]):=Lib.hid (by unfold enc;rw[if_pos h1])
  have hc:=cut64_8 n
  have ho:=own_one w (n.setWidth 8)
  have hb0:Below w.heap.size w (w.alloc (.cells #[u8 (n.setWidth 8)] 5)):=(Below.refl _ _).alloc (Nat.le_refl _) _
  go_wp2
  go_ret
  exact GivesOwn.of HE ho hb0
 go_wp2
 go_loopw[11] (fun i wr=>∃k:Nat,k≤8∧i= .int .i64 k∧Hid (Blk wr w.heap.size 165 (Xpz 255#8 n k))∧Below w.heap.size w wr) (fun i _=>8-(intOf i).toNat)
 case atStart=>exact⟨0,by omega,rfl,Lib.hid (by exact Blk.new w _ _),(Below.refl _ _).alloc (Nat.le_refl _) _⟩
 case round=>
  obtain⟨k,hk,rfl,hblk,hbel⟩:=hrel
  by_cases hkm:k<8
  ·have hlt:(k:Int)<8:=by omega
   have hsh:=shrB n k
   have hcell:wr.cell? ⟨w.heap.size,k+1,none⟩=(Xpz 255#8 n k)[k+1]? :=hblk.out.cell _
   rw[Array.getElem?_eq_getElem (by rw[allCells_size _ _ _ hk];omega)]at hcell
   have hfz:=hblk.out.frozen (k+1)
   go_wp2
   clear hcell hfz hsh
   go_roundw
   case rel=>exact⟨k+1,by omega,by go_num,Lib.hid (by rw[←allCells_set _ _ _ hkm];exact hblk.out.set (k+1) _),hbel.setCell (Nat.le_refl _) _⟩
   case measure=>simp[intOf];omega
  ·have hge:¬(k:Int)<8:=by omega
   have hb8:=hblk.out
   rw[show k=8 by omega]at hb8
   have hblk:=Lib.hid hb8
   clear hb8 hk hkm
   have hsz:=hbel.size
   have hcell:wr.cell? ⟨w.heap.size,0,none⟩=some (.int .u8 (iv8 255#8)):=hblk.out.cell _
   have hfz:=hblk.out.frozen 0
   by_cases h2:iv64 n<65536
   ·have HE:Hid (enc n=253#8 ::low n 2):=Lib.hid (by unfold enc;rw[if_neg (by omega),if_pos (by omega)])
    have hblk3:=hblk.out.set 0 (u8 253#8)
    have hb3:=hbel.setCell (p:=⟨w.heap.size,0,none⟩) (Nat.le_refl _) (u8 253#8)
    rw[allCells_first]at hblk3
    obtain⟨W,hW⟩:∃W,W=wr.setCell ⟨w.heap.size,0,none⟩ (u8 253#8):=⟨_,rfl⟩
    rw[←hW]at hblk3 hb3
    replace hW:W=wr.setCell ⟨w.heap.size,0,none⟩ (.int .u8 253):=hW
    have hWs:W.heap.size=wr.heap.size:=by rw[hW];simp[World.setCell]
    have hrow:=(allCells_row hblk3 2 (by omega)).below ((Below.refl W.heap.size W).alloc (Nat.le_refl _) (.cells #[] 5)) (Nat.le_refl _)
    have hown:=own_nothing W w.heap.size hb3.size
    have hbw:=hb3.alloc hb3.size (.cells #[] 5)
    have hsz2:=hbw.size
    rw[hWs]at hown
    rw[hW]at hrow hown hbw hsz2
    clear hblk3 hblk hb3 hW hWs
    go_wp2_with(with_reducible refine Qaz (o:=⟨some 29,_,_,_,_,_⟩) ?_ (.tmp 27) (.tmp 28) ?_ w.heap.size _ [] ?_ hown (some ⟨w.heap.size,0,none⟩) 3 9 (253#8 ::low n 2) ?_ (by rw[List.length_cons,Qez]) hrow ?_ ?_ w.heap.size w ?_ ?_ ?_
                ·rfl
                ·rfl
                ·rfl
                ·rfl
                ·rw[List.length_cons,Qez];simp only[List.length_nil];omega
                ·exact hsz2
                ·exact hbw
                ·exact Nat.le_refl _
                intro v3 w3 ho3 hb3 _ _)
    go_ret
    exact GivesOwn.of HE ho3 hb3
   by_cases h3:iv64 n<4294967296
   ·have HE:Hid (enc n=254#8 ::low n 4):=Lib.hid (by unfold enc;rw[if_neg (by omega),if_neg (by omega),if_pos (by omega)])
    have hblk3:=hblk.out.set 0 (u8 254#8)
    have hb3:=hbel.setCell (p:=⟨w.heap.size,0,none⟩) (Nat.le_refl _) (u8 254#8)
    rw[allCells_first]at hblk3
    obtain⟨W,hW⟩:∃W,W=wr.setCell ⟨w.heap.size,0,none⟩ (u8 254#8):=⟨_,rfl⟩
    rw[←hW]at hblk3 hb3
    replace hW:W=wr.setCell ⟨w.heap.size,0,none⟩ (.int .u8 254):=hW
    have hWs:W.heap.size=wr.heap.size:=by rw[hW];simp[World.setCell]
    have hrow:=(allCells_row hblk3 4 (by omega)).below ((Below.refl W.heap.size W).alloc (Nat.le_refl _) (.cells #[] 5)) (Nat.le_refl _)
    have hown:=own_nothing W w.heap.size hb3.size
    have hbw:=hb3.alloc hb3.size (.cells #[] 5)
    have hsz2:=hbw.size
    rw[hWs]at hown
    rw[hW]at hrow hown hbw hsz2
    clear hblk3 hblk hb3 hW hWs
    go_wp2_with(with_reducible refine Qaz (o:=⟨some 36,_,_,_,_,_⟩) ?_ (.tmp 34) (.tmp 35) ?_ w.heap.size _ [] ?_ hown (some ⟨w.heap.size,0,none⟩) 5 9 (254#8 ::low n 4) ?_ (by rw[List.length_cons,Qez]) hrow ?_ ?_ w.heap.size w ?_ ?_ ?_
                ·rfl
                ·rfl
                ·rfl
                ·rfl
                ·rw[List.length_cons,Qez];simp only[List.length_nil];omega
                ·exact hsz2
                ·exact hbw
                ·exact Nat.le_refl _
                intro v3 w3 ho3 hb3 _ _)
    go_ret
    exact GivesOwn.of HE ho3 hb3
   ·have HE:Hid (enc n=255#8 ::low n 8):=Lib.hid (by unfold enc;rw[if_neg (by omega),if_neg (by omega),if_neg (by omega)])
    have hrow:=(allCells_row hblk.out 8 (by omega)).below ((Below.refl wr.heap.size wr).alloc (Nat.le_refl _) (.cells #[] 5)) (Nat.le_refl _)
    have hown:=own_nothing wr w.heap.size hbel.size
    have hbw:=hbel.alloc hbel.size (.cells #[] 5)
    have hsz2:=hbw.size
    clear hblk
    go_wp2_with(with_reducible refine Qaz (o:=⟨some 39,_,_,_,_,_⟩) ?_ (.tmp 37) (.tmp 38) ?_ w.heap.size _ [] ?_ hown (some ⟨w.heap.size,0,none⟩) 9 9 (255#8 ::low n 8) ?_ (by rw[List.length_cons,Qez]) hrow ?_ ?_ w.heap.size w ?_ ?_ ?_
                ·rfl
                ·rfl
                ·rfl
                ·rfl
                ·rw[List.length_cons,Qez];simp only[List.length_nil];omega
                ·exact hsz2
                ·exact hbw
                ·exact Nat.le_refl _
                intro v3 w3 ho3 hb3 _ _)
    go_ret
    exact GivesOwn.of HE ho3 hb3
end
section
open Go.RowKit
theorem Row8.none_len {w:World} {q:Option Addr} {bs:List (BitVec 8)} (h:Row8 w q bs) (hq:q=none):bs.length=0:=by
 by_cases hb:bs=[]
 ·rw[hb];rfl
 ·obtain⟨b,off,e,_⟩:=h hb
  rw[hq]at e;cases e
def text (bs:List (BitVec 8)):List (BitVec 8):=enc (BitVec.ofNat 64 bs.length)++bs
theorem enc_len (n:BitVec 64):(enc n).length≤9:=by
 unfold enc
 split
 ·simp
 ·split
  ·simp[Qez]
  ·split<;>simp[Qez]
theorem Zmz (n:Nat) (h:n<18446744073709551616):iv64 (BitVec.ofNat 64 n)=(n:Int):=by
 unfold iv64;rw[BitVec.toNat_ofNat,Nat.mod_eq_of_lt (by omega)]
theorem refText_any (p:Option Addr) (n c:Nat) (bs:List (BitVec 8)) (w:World) (hr:Row8 w p bs) (hn:bs.length=n) (hbig:n≤140737488355000):
 Calls Tryz.prog 69 #[.slice p n c] w (GivesOwn w (text bs)):=by
 have HN:=Lib.hid hn
 clear hn
 have hiv:=Zmz n (by omega)
 have hel:=enc_len (BitVec.ofNat 64 n)
 have HT:Hid (text bs=enc (BitVec.ofNat 64 n)++bs):=Lib.hid (by unfold text;rw[HN.out])
 go_enter Tryz.func69,Tryz.ntmps69
 go_wp2_with fail
 rw[←hiv]
 refine(refEncode_any (BitVec.ofNat 64 n) _).mono ?_
 rintro e w1 ⟨v,rfl,hown,hb1⟩
 have hr1:=hr.below hb1 (Nat.le_refl _)
 have hsz:=hb1.size
 obtain⟨E,hE⟩:∃E,E=enc (BitVec.ofNat 64 n):=⟨_,rfl⟩
 rw[←hE]at hown hel HT
 clear hE hiv
 go_wp2_with(with_reducible refine Qaz (o:=⟨some 8,_,_,_,_,_⟩) ?_ (.tmp 6) (.tmp 7) ?_ w.heap.size v E ?_ hown p n c bs ?_ HN.out hr1 ?_ hsz w.heap.size w hb1 ?_ ?_
             ·rfl
             ·rfl
             ·rfl
             ·rfl
             ·rw[HN.out];omega
             ·exact Nat.le_refl _
             intro v3 w3 ho3 hb3 _ _)
 go_ret
 exact GivesOwn.of HT ho3 hb3
end
section
open Go.RowKit
def Xiz (b:BitVec 8):Nat:=if b=253#8 then 2 else if b=254#8 then 4 else if b=255#8 then 8 else 0
def XHz (b:BitVec 8):Int:=if b=253#8 then 253 else if b=254#8 then 65536 else if b=255#8 then 4294967296 else 0
def WidthPost (w:World) (b:BitVec 8) (e:Ending) (w':World):Prop:=e= .returned (.tuple #[.int .i64 (Xiz b:Int),.int .u64 (XHz b)])∧w'=w
theorem width_any (b:BitVec 8) (w:World):Calls Tryz.prog 156 #[.int .u8 (iv8 b)] w (WidthPost w b):=by
 go_enter Tryz.func156,Tryz.ntmps156
 by_cases h1:b=253#8
 ·have e1:(iv8 b==253)=true:=by rw[h1];rfl
  have hP:Hid (Xiz b=2∧XHz b=253):=Lib.hid (by unfold Xiz XHz;simp[h1])
  clear h1
  go_wp2
  go_ret2
  unfold WidthPost;rw[hP.out.1,hP.out.2];exact⟨rfl,rfl⟩
 have e1:(iv8 b==253)=false:=by rw[beq_eq_false_iff_ne];intro e;exact h1 (iv8_inj.1 (e.trans (by rfl)))
 by_cases h2:b=254#8
 ·have e2:(iv8 b==254)=true:=by rw[h2];rfl
  have hP:Hid (Xiz b=4∧XHz b=65536):=Lib.hid (by unfold Xiz XHz;simp[h2])
  clear h1 h2
  go_wp2
  go_ret2
  unfold WidthPost;rw[hP.out.1,hP.out.2];exact⟨rfl,rfl⟩
 have e2:(iv8 b==254)=false:=by rw[beq_eq_false_iff_ne];intro e;exact h2 (iv8_inj.1 (e.trans (by rfl)))
 by_cases h3:b=255#8
 ·have e3:(iv8 b==255)=true:=by rw[h3];rfl
  have hP:Hid (Xiz b=8∧XHz b=4294967296):=Lib.hid (by unfold Xiz XHz;simp[h3])
  clear h1 h2 h3
  go_wp2
  go_ret2
  unfold WidthPost;rw[hP.out.1,hP.out.2];exact⟨rfl,rfl⟩
 ·have e3:(iv8 b==255)=false:=by rw[beq_eq_false_iff_ne];intro e;exact h3 (iv8_inj.1 (e.trans (by rfl)))
  have hP:Hid (Xiz b=0∧XHz b=0):=Lib.hid (by unfold Xiz XHz;simp[h1,h2,h3])
  clear h1 h2 h3
  go_wp2
  go_ret2
  unfold WidthPost;rw[hP.out.1,hP.out.2];exact⟨rfl,rfl⟩
end
section
open Go.RowKit
def cutP:List (BitVec 8)→BitVec 64 × List (BitVec 8) × Int
 | []=>(0#64,[],50)
 |b ::r=>if Xiz b=0 then(b.setWidth 64,r,0)else if r.length<Xiz b then(0#64,[],50)else if iv64 (numTo r (Xiz b))<XHz b then(0#64,[],51)else(numTo r (Xiz b),r.drop (Xiz b),0)
def CutPost (w:World) (x:BitVec 64 × List (BitVec 8) × Int) (e:Ending) (w':World):Prop:=
 ∃q d,e= .returned (.tuple #[.int .u64 (iv64 x.1),.slice q x.2.1.length d,.int .i64 x.2.2])∧x.2.1.length≤d∧Row8 w' q x.2.1∧Below w.heap.size w w'
theorem CutPost.bad {w w':World} {x:BitVec 64 × List (BitVec 8) × Int} {k:Int} (h:Hid (x=(0#64,[],k))) (hb:Below w.heap.size w w'):CutPost w x (.returned (.tuple #[.int .u64 0,.slice none 0 0,.int .i64 k])) w':=by
 rw[h.out];exact⟨none,0,rfl,Nat.le_refl _,Row8.nil _ _,hb⟩
theorem CutPost.good {w w':World} {x:BitVec 64 × List (BitVec 8) × Int} {n:BitVec 64} {r:List (BitVec 8)} {q:Option Addr} {m d:Nat} (h:Hid (x=(n,r,0))) (hm:Hid (r.length=m)) (hd:m≤d) (hr:Row8 w' q r) (hb:Below w.heap.size w w'):
 CutPost w x (.returned (.tuple #[.int .u64 (iv64 n),.slice q m d,.int .i64 0])) w':=by
 rw[h.out,← hm.out];exact⟨q,d,rfl,by rw[hm.out];exact hd,hr,hb⟩
theorem cut_any (p:Option Addr) (n c:Nat) (bs:List (BitVec 8)) (w:World) (hr:Row8 w p bs) (hn:bs.length=n) (hl:n≤c) (hb:c≤9223372036854775807):
 Calls Tryz.prog 135 #[.slice p n c] w (CutPost w (cutP bs)):=by
 have HN:=Lib.hid hn
 clear hn
 go_enter Tryz.func135,Tryz.ntmps135
 by_cases hn0:n=0
 ·subst hn0
  have hbe:bs=[]:=List.eq_nil_of_length_eq_zero HN.out
  subst hbe
  have HP:Hid (cutP []=(0#64,[],50)):=Lib.hid rfl
  go_wp2
  go_ret3
  exact CutPost.bad HP (Below.refl _ _)
 ·obtain⟨b,r,rfl⟩:∃b r,bs=b ::r:=by
   cases bs with
   |nil=>exact absurd HN.out.symm hn0
   |cons b r=>exact⟨b,r,rfl⟩
  have hrl:r.length=n-1:=by have:=HN.out;simp at this;omega
  obtain⟨bb,of,rfl,hbl,hcell⟩:=hr (by simp)
  have hx:w.cell? ⟨bb,of,none⟩=some (.int .u8 (iv8 b)):=hcell 0 b rfl
  have hdr:=hr.drop (k:=1) (c:=c) (by rw[HN.out];exact hl)
  rw[List.drop_one,List.tail_cons]at hdr
  have hpos:(0:Int)<(n:Int):=by omega
  have hposn:0<n:=by omega
  have hge1:(1:Int)≤(n:Int):=by omega
  have HRL:=Lib.hid hrl
  have hnb:((n:Int)==0)=false:=by simp;omega
  clear hcell hrl hn0
  go_wp2_with fail
  refine(width_any b _).mono ?_
  rintro e w1 ⟨rfl,hw1⟩
  replace hw1:=hw1.symm
  subst hw1
  obtain⟨W,hW⟩:∃W,W=Xiz b:=⟨_,rfl⟩
  obtain⟨L,hL⟩:∃L,L=XHz b:=⟨_,rfl⟩
  rw[←hW,← hL]
  have HW:=Lib.hid hW
  have HL:=Lib.hid hL
  clear hW hL
  by_cases hW0:W=0
  ·have HP:Hid (cutP (b ::r)=(b.setWidth 64,r,0)):=Lib.hid (by simp only[cutP];rw[←HW.out,if_pos hW0])
   subst hW0
   have he2:=ext8_64 b
   by_cases hc1:c=1
   ·rw[if_pos hc1]at hdr
    go_wp2_with fail
    go_region
    go_wp2
    go_ret3
    exact CutPost.good HP HRL (by omega) hdr ⟨rfl,rfl,rfl,Nat.le_refl _,fun _ _=>rfl⟩
   ·rw[if_neg hc1]at hdr
    go_wp2_with fail
    go_region
    go_wp2
    go_ret3
    exact CutPost.good HP HRL (by omega) hdr ⟨rfl,rfl,rfl,Nat.le_refl _,fun _ _=>rfl⟩
  ·have hWb:((W:Int)==0)=false:=by simp;omega
   have hW8:W≤8:=by rw[HW.out];unfold Xiz;repeat (first|split|omega)
   by_cases hs:n≤W
   ·have HP:Hid (cutP (b ::r)=(0#64,[],50)):=Lib.hid (by simp only[cutP];rw[←HW.out,if_neg hW0,if_pos (by rw[HRL.out];omega)])
    have hsi:(n:Int)≤(W:Int):=by omega
    clear hs
    go_wp2
    go_ret3
    exact CutPost.bad HP (Below.refl _ _)
   ·have hsi:¬(n:Int)≤(W:Int):=by omega
    have hi1:(1:Int)+(W:Int)≤(c:Int):=by omega
    have hi2:(1:Int)≤1+(W:Int):=by omega
    have hi3:(1:Int)+(W:Int)≤(n:Int):=by omega
    have hpr:Row8 w (some ⟨bb,of,none⟩) (b ::r):=hr
    go_wp2
    go_loopw[7,39] (fun s i wr=>∃k:Nat,k≤W∧i= .int .i64 k∧s= .int .u64 (iv64 (numTo r k))∧wr=w) (fun _ i _=>W-(intOf i).toNat)
    case atStart=>exact⟨0,by omega,rfl,rfl,rfl⟩
    case round=>
     obtain⟨k,hk,rfl,rfl,rfl⟩:=hrel
     by_cases hkn:k<W
     ·obtain⟨bb',of',e',_,hcell⟩:=hpr (by simp)
      injection e' with e'
      injection e' with e1 e2 _
      subst e1
      subst e2
      obtain⟨y,hy⟩:∃y,r[k]? =some y:=⟨r[k]'(by rw[HRL.out];omega),List.getElem?_eq_getElem _⟩
      have hxk:wr.cell? ⟨bb,of+1+k,none⟩=some (.int .u8 (iv8 y)):=by
       rw[show of+1+k=of+(k+1) by omega];exact hcell (k+1) y (by simpa using hy)
      have hlt:(k:Int)<(W:Int):=by omega
      have hb2:8*(k:Int)≤56:=by omega
      have hb1:(0:Int)≤8*(k:Int):=by omega
      have hst:=num_step r k y hy
      clear hcell hr hpr hdr hx
      go_wp2
      go_roundw
      case rel=>exact⟨k+1,by omega,by go_num,rfl,trivial⟩
      case measure=>simp[intOf];omega
     ·have hge:¬(k:Int)<(W:Int):=by omega
      have hkW:k=W:=by omega
      have hrw:(b ::r).drop (1+W)=r.drop W:=by rw[Nat.add_comm];rfl
      have hdw:=hpr.drop (k:=1+W) (c:=c) (by rw[HN.out];exact hl)
      rw[hrw]at hdw
      have hln:(r.drop W).length=n-(1+W):=by have:=HRL.out;simp;omega
      have HLN:=Lib.hid hln
      clear hln hrw hpr hdr hx hr
      by_cases hlo:iv64 (numTo r k)<L
      ·have HP:Hid (cutP (b ::r)=(0#64,[],51)):=Lib.hid (by simp only[cutP];rw[←HW.out,← HL.out,← hkW,if_neg (by omega),if_neg (by rw[HRL.out];omega),if_pos hlo])
       clear hkW hdw
       go_wp2
       go_ret3
       exact CutPost.bad HP (Below.refl _ _)
      ·have HP:Hid (cutP (b ::r)=(numTo r k,r.drop W,0)):=Lib.hid (by simp only[cutP];rw[←HW.out,← HL.out,← hkW,if_neg (by omega),if_neg (by rw[HRL.out];omega),if_neg hlo])
       clear hkW
       by_cases hc1:c=1+W
       ·rw[if_pos hc1]at hdw
        go_wp2_with fail
        go_region
        go_wp2
        go_ret3
        exact CutPost.good HP HLN (by omega) (by first|exact hdw|(rw[Option.map_some,Addr.add_lit]at hdw;exact hdw)) ⟨rfl,rfl,rfl,Nat.le_refl _,fun _ _=>rfl⟩
       ·rw[if_neg hc1]at hdw
        go_wp2_with fail
        go_region
        go_wp2
        go_ret3
        exact CutPost.good HP HLN (by omega) (by first|exact hdw|(rw[Option.map_some,Addr.add_lit]at hdw;exact hdw)) ⟨rfl,rfl,rfl,Nat.le_refl _,fun _ _=>rfl⟩
end
section
open Go.RowKit
theorem Xgz (bs:List (BitVec 8)):(cutP bs).2.1.length≤bs.length:=by
 cases bs with
 |nil=>simp[cutP]
 |cons b r=>
  simp only[cutP]
  split
  ·simp
  ·split
   ·simp
   ·split
    ·simp
    ·simp;omega
def DecPost (w:World) (x:BitVec 64 × List (BitVec 8) × Int) (e:Ending) (w':World):Prop:=
 ∃v,e= .returned (.tuple #[.int .u64 (iv64 x.1),v,.int .i64 x.2.2])∧Own8 w' w.heap.size v x.2.1∧Below w.heap.size w w'
theorem decode_any (p:Option Addr) (n c:Nat) (bs:List (BitVec 8)) (w:World) (hr:Row8 w p bs) (hn:bs.length=n) (hl:n≤c) (hb:c≤9223372036854775807) (hbig:n≤200000000000000):
 Calls Tryz.prog 108 #[.slice p n c] w (DecPost w (cutP bs)):=by
 have HN:=Lib.hid hn
 clear hn
 go_enter Tryz.func108,Tryz.ntmps108
 go_wp2_with fail
 refine(cut_any p n c bs _ hr HN.out hl hb).mono ?_
 rintro e w1 ⟨q,d,rfl,hd,hq,hb1⟩
 have hcs:=Xgz bs
 rw[HN.out]at hcs
 obtain⟨x,hx⟩:∃x,x=cutP bs:=⟨_,rfl⟩
 rw[←hx]at hd hq hcs ⊢
 have HX:=Lib.hid hx
 clear hx
 obtain⟨N,R,E⟩:=x
 dsimp only at hd hq hcs ⊢
 go_wp2_with fail
 refine(X8z q _ d R w1 hq rfl (by omega) hq.none_len).mono ?_
 rintro e w2 ⟨v,rfl,hown,hb2⟩
 have hbw:=hb1.trans (hb2.mono hb1.size)
 have hown2:=hown.mono hb1.size
 go_wp2
 go_ret3
 rw[←HX.out]
 exact⟨v,rfl,hown2,hbw⟩
end
section
theorem cutP_enc (n:BitVec 64) (r:List (BitVec 8)):cutP (enc n++r)=(n,r,0):=by
 have hv:iv64 n=(n.toNat:Int):=rfl
 have key:∀(f:BitVec 8) (k:Nat),Xiz f=k→0<k→n.toNat<2 ^ (8*k)→¬iv64 n<XHz f→cutP ((f ::low n k)++r)=(n,r,0):=by
  intro f k hw hk0 hn hl
  rw[List.cons_append]
  simp only[cutP,hw]
  rw[if_neg (by omega),if_neg (by simp[Qez]),numTo_low n k r hn,if_neg hl]
  simp[Qez]
 unfold enc
 split
 ·rename_i h
  have hb:(n.setWidth 8).toNat=n.toNat:=by rw[BitVec.toNat_setWidth];omega
  have hw:Xiz (n.setWidth 8)=0:=by
   unfold Xiz
   rw[if_neg (fun e=>by rw[e]at hb;simp at hb;omega),if_neg (fun e=>by rw[e]at hb;simp at hb;omega),if_neg (fun e=>by rw[e]at hb;simp at hb;omega)]
  simp only[List.cons_append,List.nil_append,cutP,hw,if_true]
  congr 1
  apply BitVec.eq_of_toNat_eq
  rw[BitVec.toNat_setWidth,hb];omega
 ·split
  ·exact key 253#8 2 (by decide) (by omega) (by omega) (by rw[show XHz 253#8=253 by decide];omega)
  ·split
   ·exact key 254#8 4 (by decide) (by omega) (by omega) (by rw[show XHz 254#8=65536 by decide];omega)
   ·exact key 255#8 8 (by decide) (by omega) n.isLt (by rw[show XHz 255#8=4294967296 by decide];omega)
end
section
def textP (bs:List (BitVec 8)) (most:Int):List (BitVec 8) × List (BitVec 8) × Int:=
 if(cutP bs).2.2≠0 then([],[],(cutP bs).2.2)
 else if most<0∧0<iv64 (cutP bs).1∨0≤most∧most<iv64 (cutP bs).1 then([],[],4)
 else if((cutP bs).2.1.length:Int)<iv64 (cutP bs).1 then([],[],50)
 else((cutP bs).2.1.take (cutP bs).1.toNat,(cutP bs).2.1.drop (cutP bs).1.toNat,0)
end
section
open Go.RowKit
def ReadPost (w:World) (x:List (BitVec 8) × List (BitVec 8) × Int) (e:Ending) (w':World):Prop:=
 ∃v1 v2,e= .returned (.tuple #[v1,v2,.int .i64 x.2.2])∧Own8 w' w.heap.size v1 x.1∧Own8 w' w.heap.size v2 x.2.1∧Below w.heap.size w w'
theorem own_none (w:World) (B:Nat):Own8 w B (.slice none 0 0) []:=⟨rfl,.inl ⟨rfl,rfl⟩⟩
theorem ReadPost.bad {w w':World} {x:List (BitVec 8) × List (BitVec 8) × Int} {k:Int} (h:Hid (x=([],[],k))) (hb:Below w.heap.size w w'):ReadPost w x (.returned (.tuple #[.slice none 0 0,.slice none 0 0,.int .i64 k])) w':=by
 rw[h.out];exact⟨_,_,rfl,own_none _ _,own_none _ _,hb⟩
theorem ReadPost.good {w w':World} {x:List (BitVec 8) × List (BitVec 8) × Int} {l r:List (BitVec 8)} {v1 v2:Value} (h:Hid (x=(l,r,0))) (h1:Own8 w' w.heap.size v1 l) (h2:Own8 w' w.heap.size v2 r) (hb:Below w.heap.size w w'):
 ReadPost w x (.returned (.tuple #[v1,v2,.int .i64 0])) w':=by
 rw[h.out];exact⟨_,_,rfl,h1,h2,hb⟩
theorem QUz (w:World):Below w.heap.size w w.drew:=⟨rfl,rfl,rfl,Nat.le_refl _,fun _ _=>rfl⟩
theorem readText_any (p:Option Addr) (n c:Nat) (bs:List (BitVec 8)) (most:Int) (w:World) (hr:Row8 w p bs) (hn:bs.length=n) (hl:n≤c) (hb:c≤9223372036854775807) (hbig:n≤200000000000000)
 (hm0: -9223372036854775808≤most) (hm1:most≤9223372036854775807):
 Calls Tryz.prog 111 #[.slice p n c,.int .i64 most] w (ReadPost w (textP bs most)):=by
 have HN:=Lib.hid hn
 clear hn
 obtain⟨t,ht⟩:∃t,t=textP bs most:=⟨_,rfl⟩
 rw[←ht]
 have HT:=Lib.hid ht
 clear ht
 go_enter Tryz.func111,Tryz.ntmps111
 go_wp2_with fail
 refine(cut_any p n c bs _ hr HN.out hl hb).mono ?_
 rintro e w1 ⟨q,d,rfl,hd,hq,hb1⟩
 have hcs:=Xgz bs
 rw[HN.out]at hcs
 obtain⟨x,hx⟩:∃x,x=cutP bs:=⟨_,rfl⟩
 rw[←hx]at hd hq hcs ⊢
 have hT2:t=textP bs most:=HT.out
 unfold textP at hT2
 rw[←hx]at hT2
 obtain⟨N,R,E⟩:=x
 obtain⟨j,hj⟩:∃j:Nat,j=N.toNat:=⟨_,rfl⟩
 have hiv:iv64 N=(j:Int):=by rw[hj];rfl
 obtain⟨m,hm⟩:∃m,m=R.length:=⟨_,rfl⟩
 have HM:Hid (R.length=m):=Lib.hid hm.symm
 dsimp only at hd hq hcs hT2 ⊢
 rw[hiv,← hj]at hT2
 rw[←hm]at hd hcs hT2 ⊢
 rw[hiv]
 have hj18:j<18446744073709551616:=by rw[hj];exact N.isLt
 clear HT hx hj hiv hm HN
 by_cases hE:E=0
 ·subst hE
  rw[if_neg (by simp)]at hT2
  have hwm:IntKind.u64.wrap (m:Int)=(m:Int):=by rw[wrapU64];omega
  by_cases hmo:most<0
  ·have hge:¬(0≤most):=by omega
   by_cases hN:0<(j:Int)
   ·rw[if_pos (by omega)]at hT2
    have HP:=Lib.hid hT2
    clear hT2
    go_wp2
    go_ret3
    exact ReadPost.bad HP hb1
   ·have hmj:¬(m:Int)<(j:Int):=by omega
    rw[if_neg (by omega),if_neg hmj]at hT2
    have HP:=Lib.hid hT2
    clear hT2
    have hjm:j≤m:=by omega
    have hjd:(j:Int)≤(d:Int):=by omega
    have hj0:(0:Int)≤(j:Int):=by omega
    have hmd:(m:Int)≤(d:Int):=by omega
    have hlt:Hid ((R.take j).length=j):=Lib.hid (by rw[List.length_take,HM.out];omega)
    have hld:Hid ((R.drop j).length=m-j):=Lib.hid (by rw[List.length_drop,HM.out])
    have hrt:=hq.take j
    have hrd:=hq.drop (k:=j) (c:=d) (by rw[HM.out];exact hd)
    have hqn:q=none→j=0:=fun e=>by have:=hq.none_len e;have:=HM.out;omega
    by_cases hdj:d=j
    ·rw[if_pos hdj]at hrd
     have hqn2:q=none→m-j=0:=fun e=>by have:=hq.none_len e;have:=HM.out;omega
     go_wp2_with fail
     go_region_with (first
      |(refine(X8z q j j (R.take j) w1.drew (hrt.below (QUz _) (Nat.le_refl _)) hlt.out (by omega) hqn).mono ?_
        rintro e w2 ⟨v1,rfl,ho1,hb2⟩
        have hrd2:=(hrd.below (QUz _) (Nat.le_refl _)).below hb2 (Nat.le_refl _))
      |(refine(X8z q (m-j) 0 (R.drop j) w2 hrd2 hld.out (by omega) hqn2).mono ?_
        rintro e w3 ⟨v2,rfl,ho2,hb3⟩))
     all_goals (go_wp2;go_ret3;exact ReadPost.good HP ((ho1.below hb3 (Nat.le_refl _)).mono hb1.size) (ho2.mono (Nat.le_trans hb1.size hb2.size)) ((hb1.trans (((QUz _).trans hb2).mono hb1.size)).trans (hb3.mono (Nat.le_trans hb1.size hb2.size))))
    ·rw[if_neg hdj]at hrd
     have hqn2:q.map (·.add j)=none→m-j=0:=fun e=>by have:=hq.none_len (by cases q with|none=>rfl|some _=>cases e);have:=HM.out;omega
     go_wp2_with fail
     go_region_with (first
      |(refine(X8z q j j (R.take j) w1.drew (hrt.below (QUz _) (Nat.le_refl _)) hlt.out (by omega) hqn).mono ?_
        rintro e w2 ⟨v1,rfl,ho1,hb2⟩
        have hrd2:=(hrd.below (QUz _) (Nat.le_refl _)).below hb2 (Nat.le_refl _))
      |(refine(X8z (q.map (·.add j)) (m-j) (d-j) (R.drop j) w2 hrd2 hld.out (by omega) hqn2).mono ?_
        rintro e w3 ⟨v2,rfl,ho2,hb3⟩))
     all_goals (go_wp2;go_ret3;exact ReadPost.good HP ((ho1.below hb3 (Nat.le_refl _)).mono hb1.size) (ho2.mono (Nat.le_trans hb1.size hb2.size)) ((hb1.trans (((QUz _).trans hb2).mono hb1.size)).trans (hb3.mono (Nat.le_trans hb1.size hb2.size))))
  ·have hwo:IntKind.u64.wrap most=most:=by rw[wrapU64];omega
   have hge:0≤most:=by omega
   by_cases hN:most<(j:Int)
   ·rw[if_pos (by omega)]at hT2
    have HP:=Lib.hid hT2
    clear hT2
    go_wp2
    go_ret3
    exact ReadPost.bad HP hb1
   ·rw[if_neg (by omega)]at hT2
    by_cases hmj:(m:Int)<(j:Int)
    ·rw[if_pos hmj]at hT2
     have HP:=Lib.hid hT2
     clear hT2
     go_wp2
     go_ret3
     exact ReadPost.bad HP hb1
    ·rw[if_neg hmj]at hT2
     have HP:=Lib.hid hT2
     clear hT2
     have hjm:j≤m:=by omega
     have hjd:(j:Int)≤(d:Int):=by omega
     have hj0:(0:Int)≤(j:Int):=by omega
     have hmd:(m:Int)≤(d:Int):=by omega
     have hlt:Hid ((R.take j).length=j):=Lib.hid (by rw[List.length_take,HM.out];omega)
     have hld:Hid ((R.drop j).length=m-j):=Lib.hid (by rw[List.length_drop,HM.out])
     have hrt:=hq.take j
     have hrd:=hq.drop (k:=j) (c:=d) (by rw[HM.out];exact hd)
     have hqn:q=none→j=0:=fun e=>by have:=hq.none_len e;have:=HM.out;omega
     by_cases hdj:d=j
     ·rw[if_pos hdj]at hrd
      have hqn2:q=none→m-j=0:=fun e=>by have:=hq.none_len e;have:=HM.out;omega
      go_wp2_with fail
      go_region_with (first
       |(refine(X8z q j j (R.take j) w1.drew (hrt.below (QUz _) (Nat.le_refl _)) hlt.out (by omega) hqn).mono ?_
         rintro e w2 ⟨v1,rfl,ho1,hb2⟩
         have hrd2:=(hrd.below (QUz _) (Nat.le_refl _)).below hb2 (Nat.le_refl _))
       |(refine(X8z q (m-j) 0 (R.drop j) w2 hrd2 hld.out (by omega) hqn2).mono ?_
         rintro e w3 ⟨v2,rfl,ho2,hb3⟩))
      all_goals (go_wp2;go_ret3;exact ReadPost.good HP ((ho1.below hb3 (Nat.le_refl _)).mono hb1.size) (ho2.mono (Nat.le_trans hb1.size hb2.size)) ((hb1.trans (((QUz _).trans hb2).mono hb1.size)).trans (hb3.mono (Nat.le_trans hb1.size hb2.size))))
     ·rw[if_neg hdj]at hrd
      have hqn2:q.map (·.add j)=none→m-j=0:=fun e=>by have:=hq.none_len (by cases q with|none=>rfl|some _=>cases e);have:=HM.out;omega
      go_wp2_with fail
      go_region_with (first
       |(refine(X8z q j j (R.take j) w1.drew (hrt.below (QUz _) (Nat.le_refl _)) hlt.out (by omega) hqn).mono ?_
         rintro e w2 ⟨v1,rfl,ho1,hb2⟩
         have hrd2:=(hrd.below (QUz _) (Nat.le_refl _)).below hb2 (Nat.le_refl _))
       |(refine(X8z (q.map (·.add j)) (m-j) (d-j) (R.drop j) w2 hrd2 hld.out (by omega) hqn2).mono ?_
         rintro e w3 ⟨v2,rfl,ho2,hb3⟩))
      all_goals (go_wp2;go_ret3;exact ReadPost.good HP ((ho1.below hb3 (Nat.le_refl _)).mono hb1.size) (ho2.mono (Nat.le_trans hb1.size hb2.size)) ((hb1.trans (((QUz _).trans hb2).mono hb1.size)).trans (hb3.mono (Nat.le_trans hb1.size hb2.size))))
 ·rw[if_pos hE]at hT2
  have HP:=Lib.hid hT2
  have hEb:(E==0)=false:=by simpa using hE
  clear hT2
  go_wp2
  go_ret3
  exact ReadPost.bad HP hb1
end
end Go.Proofs.YtjbijcjcejfpcaaGreatDoor
