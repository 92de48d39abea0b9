/- slices.Grow at nil and slices.Concat, of bytes: the walks. -/
import Derived.Lib.AppendZerosOnto
import Derived.Lib.AppendZeros
import Derived.Test.YtjbijcjcejfpcaaGreatDoorZGB
namespace Go.Proofs.YtjbijcjcejfpcaaGreatDoor
set_option linter.unusedVariables false
set_option maxRecDepth 100000
set_option maxHeartbeats 16000000
open Go.RowKit
theorem zeros_toList (n:Nat):(Builtin.zeroCells (Value.int .u8 0).cells n).size=n:=by rw[size_zeroCells];exact Nat.mul_one n
theorem grow_nil (n:Nat) (w:World) (hn:n≤140737488355328):Calls Tryz.prog 115 #[.slice none 0 0,.int .i64 (n:Int)] w (GivesOwn w []):=by
 obtain⟨i0,hi,hz0,hz1,hz2⟩:=info_parts u8info
 rcases Nat.eq_zero_or_pos n with h0|h0
 ·subst h0
  go_enter Tryz.func115,Tryz.ntmps115
  go_wp2
  go_ret
  exact⟨_,rfl,⟨rfl,.inl ⟨rfl,rfl⟩⟩,Below.refl _ _⟩
 ·have h1:¬(n:Int)<0:=by omega
  have h4:(0:Int)<(n:Int):=by omega
  have hrz:∀ty,(Builtin.append_ #[26,3] ty #[.slice none 0 0,.int .i64 (n:Int)]).run Tryz.prog w=
   .ok (.slice (some ⟨w.heap.size,0,none⟩) n (grownCap w n 0 5)) (w.drew.alloc (.cells (#[]++Builtin.zeroCells (Value.int .u8 0).cells n++Builtin.zeroCells (Value.int .u8 0).cells (grownCap w n 0 5-n)) 5)):=fun ty=>by
   have h:=Lib.run_append_grow_zeros w 26 3 ty 5 i0 (.int .u8 0) .i64 .i64 Tryz.underlying26 Tryz.underlying3 hi hz0 none 0 0 [] (run_firstCells_none w.drew i0.size 0 0 0) n h0 (by rw[hz1];decide) (by omega) (by omega)
    (by rw[hz2];omega) (growslice_fits (by omega) (by rw[hz2];omega))
   rw[Nat.zero_add]at h
   exact h
  have hGn:n≤grownCap w n 0 5:=grownCap_ge w _ _ _
  have hGm:grownCap w n 0 5≤maxLen:=grownCap_le_maxLen w n 0 _ (by unfold maxLen;omega)
  obtain⟨G,hG⟩:∃G,G=grownCap w n 0 5:=⟨_,rfl⟩
  rw[←hG]at hrz hGn hGm
  have hG63:G≤9223372036854775807:=hGm
  have hown:Own8 (w.drew.alloc (.cells (#[]++Builtin.zeroCells (Value.int .u8 0).cells n++Builtin.zeroCells (Value.int .u8 0).cells (G-n)) 5)) w.heap.size (.slice (some ⟨w.heap.size,0,none⟩) 0 G) []:=
   ⟨rfl,.inr ⟨w.heap.size,G,_,rfl,Nat.le_refl _,heap_alloc_new w.drew _,Nat.zero_le _,hGm,by simp only[Array.size_append,zeros_toList,List.size_toArray,List.length_nil];omega,by simp⟩⟩
  have HOWN:=Lib.hid hown
  have hbel:Below w.heap.size w (w.drew.alloc (.cells (#[]++Builtin.zeroCells (Value.int .u8 0).cells n++Builtin.zeroCells (Value.int .u8 0).cells (G-n)) 5)):=(Below.refl _ _).drew.alloc (Nat.le_refl _) _
  have HB:=Lib.hid hbel
  obtain⟨C,hC⟩:∃C,C=(#[]++Builtin.zeroCells (Value.int .u8 0).cells n++Builtin.zeroCells (Value.int .u8 0).cells (G-n)):=⟨_,rfl⟩
  rw[←hC]at hrz HOWN HB
  clear hC hown hbel hG
  go_enter Tryz.func115,Tryz.ntmps115
  go_wp2_with(at_builtin;refine Lib.wpList_append_run _ rfl _ _ _ _ rfl _ _ rfl rfl _ _ (hrz _) ?_)
  go_ret
  exact⟨_,rfl,HOWN.out,HB.out⟩
theorem lensSum_succ (ls:List (List (BitVec 8))) (k:Nat) (bs:List (BitVec 8)) (h:ls[k]? =some bs):XGz (ls.take (k+1))=XGz (ls.take k)+bs.length:=by
 rw[List.take_add_one,h,lensSum_append];rfl
theorem flatten_succ (ls:List (List (BitVec 8))) (k:Nat) (bs:List (BitVec 8)) (h:ls[k]? =some bs):(ls.take (k+1)).flatten=(ls.take k).flatten++bs:=by
 rw[List.take_add_one,h,List.flatten_append];simp
theorem flatten_lens (ls:List (List (BitVec 8))):ls.flatten.length=XGz ls:=by
 induction ls with
 |nil=>rfl
 |cons x ls ih=>rw[List.flatten_cons,List.length_append,ih];rfl
theorem concat_any (p:Option Addr) (n c:Nat) (ls:List (List (BitVec 8))) (w:World) (hr:Rows8 w p ls) (hn:ls.length=n) (hn9:n≤4611686018427387904) (hbig:XGz ls≤140737488355000):
 Calls Tryz.prog 91 #[.slice p n c] w (GivesOwn w ls.flatten):=by
 have HN:=Lib.hid hn
 have HR:=Lib.hid hr
 have HL:=Lib.hid hbig
 clear hn hr hbig
 go_enter Tryz.func91,Tryz.ntmps91
 go_wp2_with fail
 go_loop [3,11] (fun s i=>∃k m:Nat,k≤n∧s= .int .i64 m∧i= .int .i64 k∧Hid (m=XGz (ls.take k))) (fun _ i=>n-(intOf i).toNat)
 case atStart=>exact⟨0,0,by omega,rfl,rfl,Lib.hid rfl⟩
 case round=>
  obtain⟨k,m,hk,rfl,rfl,hm⟩:=hrel
  have hmb:m≤140737488355000:=by have:=hm.out;have:=lensSum_take ls k;have:=HL.out;omega
  by_cases hkn:k<n
  ·obtain⟨b,off,hp,hlt,hc⟩:=HR.out (by intro e;have:=HN.out;rw[e]at this;simp at this;omega)
   subst hp
   obtain⟨bs,hbs⟩:∃bs,ls[k]? =some bs:=⟨_,List.getElem?_eq_getElem (by rw[HN.out];exact hkn)⟩
   obtain⟨v,hv,q,l,d,rfl,hl,hld,hd,hq,_⟩:=hc k bs hbs
   have hstep:=Lib.hid (lensSum_succ ls k bs hbs)
   have hmb2:m+l≤140737488355000:=by have:=hm.out;have:=hstep.out;have:=lensSum_take ls (k+1);have:=HL.out;rw[←hl];omega
   have hkn':(k:Int)<(n:Int):=by omega
   have hml:¬((m:Int)+(l:Int))<0:=by omega
   have hll:=Lib.hid hl
   clear hc hbs hq hl
   go_wp2_with fail
   go_round
   case rel=>exact⟨k+1,m+l,by omega,by go_num,by go_num,Lib.hid (by rw[hstep.out,← hm.out,hll.out])⟩
   case measure=>simp[intOf];omega
  ·have hkn':¬(k:Int)<(n:Int):=by omega
   have hke:k=n:=by omega
   subst hke
   clear hkn
   go_wp2_with fail
   refine(grow_nil m w (by omega)).mono ?_
   rintro e w1 ⟨v1,rfl,ho1,hb1⟩
   have hrw1:=Lib.hid (HR.out.below hb1 (Nat.le_refl _))
   go_wp2_with fail
   go_loopw[6,27] (fun s i wr=>∃k':Nat,k'≤k∧i= .int .i64 k'∧Own8 wr w.heap.size s (ls.take k').flatten∧Below w.heap.size w wr) (fun _ i _=>k-(intOf i).toNat)
   case atStart=>exact⟨0,by omega,rfl,ho1,hb1⟩
   case round=>
    obtain⟨j,hj,rfl,ho2,hb2⟩:=hrel
    clear ho1 hb1 hrw1
    have hrw2:=HR.out.below hb2 (Nat.le_refl _)
    by_cases hjn:j<k
    ·obtain⟨b,off,hp,hlt,hc⟩:=hrw2 (by intro e;have:=HN.out;rw[e]at this;simp at this;omega)
     subst hp
     obtain⟨bs,hbs⟩:∃bs,ls[j]? =some bs:=⟨_,List.getElem?_eq_getElem (by rw[HN.out];exact hjn)⟩
     obtain⟨v,hv,q,l,d,rfl,hl,hld,hd,hq,_⟩:=hc j bs hbs
     have hstep:=Lib.hid (flatten_succ ls j bs hbs)
     have hlen:Hid ((ls.take j).flatten.length+bs.length≤140737488355328):=Lib.hid (by
      have:=lensSum_succ ls j bs hbs
      have:=lensSum_take ls (j+1)
      have:=HL.out
      rw[flatten_lens];omega)
     have hjn':(j:Int)<(k:Int):=by omega
     have hll:=Lib.hid hl
     have hsz:=hb2.size
     clear hc hbs hrw2 hl
     go_wp2_with(first
      |(with_reducible refine Qaz (o:=⟨some 33,_,_,_,_,_⟩) ?_ (.tmp 31) (.tmp 32) ?_ (w.heap.size) _ ((ls.take j).flatten) ?_ (ho2) (q) (l) (d) (bs) ?_ (hll.out) (hq) ?_ (hsz) (w.heap.size) (w) (hb2) ?_ ?_
        ·rfl
        ·rfl
        ·rfl
        ·rfl
        ·exact hlen.out
        ·exact Nat.le_refl _
        intro v3 w3 ho3 hb3 _ _))
     rw[←hstep.out]at ho3
     go_roundw
     case rel=>exact⟨j+1,by omega,by go_num,ho3,hb3⟩
     case measure=>simp[intOf];omega
    ·have hjn':¬(j:Int)<(k:Int):=by omega
     have hje:j=k:=by omega
     subst hje
     rw[List.take_of_length_le (by rw[HN.out];exact Nat.le_refl _)]at ho2
     have HO:=Lib.hid ho2
     clear ho2 hrw2
     go_wp2_with fail
     go_ret
     exact⟨_,rfl,HO.out,hb2⟩
end Go.Proofs.YtjbijcjcejfpcaaGreatDoor
