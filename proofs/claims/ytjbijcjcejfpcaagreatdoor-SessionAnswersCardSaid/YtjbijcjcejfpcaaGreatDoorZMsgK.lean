/- message.command, kindOf, want: the walks. -/
import Derived.Deep.DeepCutAuto
import Derived.Deep.CutBlock
import Derived.Test.YtjbijcjcejfpcaaGreatDoorZMsgA
import Derived.Test.YtjbijcjcejfpcaaGreatDoorZGB
namespace Go.Proofs.YtjbijcjcejfpcaaGreatDoor
set_option linter.unusedVariables false
set_option maxRecDepth 100000
set_option maxHeartbeats 16000000
open Go Go.RowKit
theorem zero_ofM {P:Program} {t:TypeId} {z:Value} (h:(P.info? t).map (·.zero)=some (some z)):∀w,(zeroValue t).run P w= .ok z w:=by
 intro w
 obtain⟨i,hi,hz⟩:∃i,P.info? t=some i∧i.zero=some z:=by
  cases hi:P.info? t with
  |none=>rw[hi]at h;cases h
  |some i=>rw[hi]at h;exact⟨i,rfl,by simpa using h⟩
 simp[zeroValue,typeInfo,hi,hz]
theorem Zdz (w:World) (B n:Nat) (bs:List (BitVec 8)) (hB:B≤w.heap.size) (hn:bs.length=n) (hm:n≤maxLen):Own8 (w.alloc (.cells (bs.map u8).toArray 5)) B (.slice (some ⟨w.heap.size,0,none⟩) n n) bs:=by
 subst hn
 refine⟨by simp,.inr ⟨w.heap.size,bs.length,(bs.map u8).toArray,rfl,hB,(Blk.new w _ _:Blk _ _ _ _),Nat.le_refl _,hm,by simp,?_⟩⟩
 rw[Nat.mul_one]
 exact List.take_of_length_le (by simp)
def cmdVals:List Value:=(List.range 14).map fun i=>.string (strB (cmdN i))
theorem cmdVals_at (k:Nat) (h:k<14):cmdVals[k]? =some (.string (strB (cmdN k))):=by
 unfold cmdVals
 rw[List.getElem?_map,List.getElem?_range h]
 rfl
theorem cmdVals_built:Tryz.prog.built 163 [(1,(.string ⟨#[118,101,114,115,105,111,110]⟩)),(2,(.string ⟨#[118,101,114,97,99,107]⟩)),(3,(.string ⟨#[112,105,110,103]⟩)),(4,(.string ⟨#[112,111,110,103]⟩)),(5,(.string ⟨#[103,101,116,104,101,97,100,101,114,115]⟩)),(6,(.string ⟨#[104,101,97,100,101,114,115]⟩)),(7,(.string ⟨#[103,101,116,99,102,104,101,97,100,101,114,115]⟩)),(8,(.string ⟨#[99,102,104,101,97,100,101,114,115]⟩)),(9,(.string ⟨#[103,101,116,99,102,105,108,116,101,114,115]⟩)),(10,(.string ⟨#[99,102,105,108,116,101,114]⟩)),(11,(.string ⟨#[103,101,116,100,97,116,97]⟩)),(12,(.string ⟨#[98,108,111,99,107]⟩)),(13,(.string ⟨#[110,111,116,102,111,117,110,100]⟩))]=some cmdVals.toArray:=by kernel_rfl
def cmdZ:List Value:=List.replicate 14 (Value.string ⟨#[]⟩)
theorem zeroCmds:∀w,(zeroValue 163).run Tryz.prog w= .ok (.agg cmdZ.toArray) w:=zero_ofM (by kernel_rfl)
theorem info_cmds:(Tryz.prog.info? 163).map (·.size)=some cmdVals.toArray.size:=by kernel_rfl
theorem cmds_size:cmdZ.toArray.size=cmdVals.toArray.size:=rfl
theorem cmds_one:cmdVals.toArray.all (·.oneCell')=true:=by rw[List.all_toArray];rfl
theorem X6z (k:Int) (w:World):Calls Tryz.prog 56 #[.int .i64 k] w fun e w'=>e= .returned (.string (strB (cmdB k)))∧Below w.heap.size w w':=by
 have hz:=zeroCmds
 have hb:=Q1z w (.cells cmdZ.toArray 163)
 have hbt:=cmdVals_built
 by_cases h1:k<0
 ·have HC:Hid (strB (cmdB k)=⟨#[]⟩):=Lib.hid (by unfold cmdB;rw[if_pos h1];rfl)
  go_enter Tryz.func56,Tryz.ntmps56
  go_wp2_with(first
   |(with_reducible refine Qjz (o:=⟨some 4,_,_,_,_,_⟩) ?_ 163 #[(1,.const (.string ⟨#[118,101,114,115,105,111,110]⟩)),(2,.const (.string ⟨#[118,101,114,97,99,107]⟩)),(3,.const (.string ⟨#[112,105,110,103]⟩)),(4,.const (.string ⟨#[112,111,110,103]⟩)),(5,.const (.string ⟨#[103,101,116,104,101,97,100,101,114,115]⟩)),(6,.const (.string ⟨#[104,101,97,100,101,114,115]⟩)),(7,.const (.string ⟨#[103,101,116,99,102,104,101,97,100,101,114,115]⟩)),(8,.const (.string ⟨#[99,102,104,101,97,100,101,114,115]⟩)),(9,.const (.string ⟨#[103,101,116,99,102,105,108,116,101,114,115]⟩)),(10,.const (.string ⟨#[99,102,105,108,116,101,114]⟩)),(11,.const (.string ⟨#[103,101,116,100,97,116,97]⟩)),(12,.const (.string ⟨#[98,108,111,99,107]⟩)),(13,.const (.string ⟨#[110,111,116,102,111,117,110,100]⟩))] ?_ [(1,(.string ⟨#[118,101,114,115,105,111,110]⟩)),(2,(.string ⟨#[118,101,114,97,99,107]⟩)),(3,(.string ⟨#[112,105,110,103]⟩)),(4,(.string ⟨#[112,111,110,103]⟩)),(5,(.string ⟨#[103,101,116,104,101,97,100,101,114,115]⟩)),(6,(.string ⟨#[104,101,97,100,101,114,115]⟩)),(7,(.string ⟨#[103,101,116,99,102,104,101,97,100,101,114,115]⟩)),(8,(.string ⟨#[99,102,104,101,97,100,101,114,115]⟩)),(9,(.string ⟨#[103,101,116,99,102,105,108,116,101,114,115]⟩)),(10,(.string ⟨#[99,102,105,108,116,101,114]⟩)),(11,(.string ⟨#[103,101,116,100,97,116,97]⟩)),(12,(.string ⟨#[98,108,111,99,107]⟩)),(13,(.string ⟨#[110,111,116,102,111,117,110,100]⟩))] ?_ cmdVals.toArray hbt ?_
     ·rfl
     ·rfl
     ·rfl)
   |(with_reducible refine Q4z (o:=⟨none,_,_,_,_,_⟩) ?_ 163 (.tmp 3) (.tmp 4) ?_ (w.heap.size) 163 (cmdZ.toArray) (cmdVals.toArray) ?_ ?_ (Blk.new w _ _) ?_ ?_ ?_ (w.heap.size) (w) ?_ ?_ ?_
     ·rfl
     ·rfl
     ·rfl
     ·rfl
     ·exact(info_cmds)
     ·exact(cmds_size)
     ·exact(cmds_one)
     ·exact(hb)
     ·exact(Nat.le_refl _)
     intro wa hBa hba hga hsa))
  go_ret
  exact⟨by rw[HC.out];rfl,hba⟩
 ·by_cases h2:14≤k
  ·have HC:Hid (strB (cmdB k)=⟨#[]⟩):=Lib.hid (by
    unfold cmdB
    rw[if_neg h1]
    obtain⟨n,hn⟩:∃n,k.toNat=n+14:=⟨k.toNat-14,by omega⟩
    rw[hn];rfl)
   go_enter Tryz.func56,Tryz.ntmps56
   go_wp2_with(first
    |(with_reducible refine Qjz (o:=⟨some 4,_,_,_,_,_⟩) ?_ 163 #[(1,.const (.string ⟨#[118,101,114,115,105,111,110]⟩)),(2,.const (.string ⟨#[118,101,114,97,99,107]⟩)),(3,.const (.string ⟨#[112,105,110,103]⟩)),(4,.const (.string ⟨#[112,111,110,103]⟩)),(5,.const (.string ⟨#[103,101,116,104,101,97,100,101,114,115]⟩)),(6,.const (.string ⟨#[104,101,97,100,101,114,115]⟩)),(7,.const (.string ⟨#[103,101,116,99,102,104,101,97,100,101,114,115]⟩)),(8,.const (.string ⟨#[99,102,104,101,97,100,101,114,115]⟩)),(9,.const (.string ⟨#[103,101,116,99,102,105,108,116,101,114,115]⟩)),(10,.const (.string ⟨#[99,102,105,108,116,101,114]⟩)),(11,.const (.string ⟨#[103,101,116,100,97,116,97]⟩)),(12,.const (.string ⟨#[98,108,111,99,107]⟩)),(13,.const (.string ⟨#[110,111,116,102,111,117,110,100]⟩))] ?_ [(1,(.string ⟨#[118,101,114,115,105,111,110]⟩)),(2,(.string ⟨#[118,101,114,97,99,107]⟩)),(3,(.string ⟨#[112,105,110,103]⟩)),(4,(.string ⟨#[112,111,110,103]⟩)),(5,(.string ⟨#[103,101,116,104,101,97,100,101,114,115]⟩)),(6,(.string ⟨#[104,101,97,100,101,114,115]⟩)),(7,(.string ⟨#[103,101,116,99,102,104,101,97,100,101,114,115]⟩)),(8,(.string ⟨#[99,102,104,101,97,100,101,114,115]⟩)),(9,(.string ⟨#[103,101,116,99,102,105,108,116,101,114,115]⟩)),(10,(.string ⟨#[99,102,105,108,116,101,114]⟩)),(11,(.string ⟨#[103,101,116,100,97,116,97]⟩)),(12,(.string ⟨#[98,108,111,99,107]⟩)),(13,(.string ⟨#[110,111,116,102,111,117,110,100]⟩))] ?_ cmdVals.toArray hbt ?_
      ·rfl
      ·rfl
      ·rfl)
    |(with_reducible refine Q4z (o:=⟨none,_,_,_,_,_⟩) ?_ 163 (.tmp 3) (.tmp 4) ?_ (w.heap.size) 163 (cmdZ.toArray) (cmdVals.toArray) ?_ ?_ (Blk.new w _ _) ?_ ?_ ?_ (w.heap.size) (w) ?_ ?_ ?_
      ·rfl
      ·rfl
      ·rfl
      ·rfl
      ·exact(info_cmds)
      ·exact(cmds_size)
      ·exact(cmds_one)
      ·exact(hb)
      ·exact(Nat.le_refl _)
      intro wa hBa hba hga hsa))
   go_ret
   exact⟨by rw[HC.out];rfl,hba⟩
  ·obtain⟨n,rfl⟩:∃n:Nat,k=n:=⟨k.toNat,by omega⟩
   have hn:n<14:=by omega
   have HC:Hid (cmdB (n:Int)=cmdN n):=Lib.hid (by unfold cmdB;rw[if_neg h1];rfl)
   have HA:=Lib.hid (cmdVals_at n hn)
   go_enter Tryz.func56,Tryz.ntmps56
   go_upto_region 2 with(first
    |(with_reducible refine Qjz (o:=⟨some 4,_,_,_,_,_⟩) ?_ 163 #[(1,.const (.string ⟨#[118,101,114,115,105,111,110]⟩)),(2,.const (.string ⟨#[118,101,114,97,99,107]⟩)),(3,.const (.string ⟨#[112,105,110,103]⟩)),(4,.const (.string ⟨#[112,111,110,103]⟩)),(5,.const (.string ⟨#[103,101,116,104,101,97,100,101,114,115]⟩)),(6,.const (.string ⟨#[104,101,97,100,101,114,115]⟩)),(7,.const (.string ⟨#[103,101,116,99,102,104,101,97,100,101,114,115]⟩)),(8,.const (.string ⟨#[99,102,104,101,97,100,101,114,115]⟩)),(9,.const (.string ⟨#[103,101,116,99,102,105,108,116,101,114,115]⟩)),(10,.const (.string ⟨#[99,102,105,108,116,101,114]⟩)),(11,.const (.string ⟨#[103,101,116,100,97,116,97]⟩)),(12,.const (.string ⟨#[98,108,111,99,107]⟩)),(13,.const (.string ⟨#[110,111,116,102,111,117,110,100]⟩))] ?_ [(1,(.string ⟨#[118,101,114,115,105,111,110]⟩)),(2,(.string ⟨#[118,101,114,97,99,107]⟩)),(3,(.string ⟨#[112,105,110,103]⟩)),(4,(.string ⟨#[112,111,110,103]⟩)),(5,(.string ⟨#[103,101,116,104,101,97,100,101,114,115]⟩)),(6,(.string ⟨#[104,101,97,100,101,114,115]⟩)),(7,(.string ⟨#[103,101,116,99,102,104,101,97,100,101,114,115]⟩)),(8,(.string ⟨#[99,102,104,101,97,100,101,114,115]⟩)),(9,(.string ⟨#[103,101,116,99,102,105,108,116,101,114,115]⟩)),(10,(.string ⟨#[99,102,105,108,116,101,114]⟩)),(11,(.string ⟨#[103,101,116,100,97,116,97]⟩)),(12,(.string ⟨#[98,108,111,99,107]⟩)),(13,(.string ⟨#[110,111,116,102,111,117,110,100]⟩))] ?_ cmdVals.toArray hbt ?_
      ·rfl
      ·rfl
      ·rfl)
    |(with_reducible refine Q4z (o:=⟨none,_,_,_,_,_⟩) ?_ 163 (.tmp 3) (.tmp 4) ?_ (w.heap.size) 163 (cmdZ.toArray) (cmdVals.toArray) ?_ ?_ (Blk.new w _ _) ?_ ?_ ?_ (w.heap.size) (w) ?_ ?_ ?_
      ·rfl
      ·rfl
      ·rfl
      ·rfl
      ·exact(info_cmds)
      ·exact(cmds_size)
      ·exact(cmds_one)
      ·exact(hb)
      ·exact(Nat.le_refl _)
      intro wa hBa hba hga hsa))
   try simp only[Qpz]
   have hc:wa.cell? ⟨w.heap.size,n,none⟩=some (.string (strB (cmdN n))):=by
    rw[hBa.out.cell,List.getElem?_toArray]
    exact HA.out
   go_wp2_with fail
   go_ret
   exact⟨by rw[HC.out];rfl,hba⟩
theorem want_any (w:World):Calls Tryz.prog 63 #[] w (GivesOwn w [2#8,0#8,0#8,64#8]):=by
 go_enter Tryz.func63,Tryz.ntmps63
 go_wp2_with fail
 have ho:=Zdz w w.heap.size 4 [2#8,0#8,0#8,64#8] (Nat.le_refl _) rfl (by unfold maxLen;omega)
 have hb:=Q1z w (.cells ([2#8,0#8,0#8,64#8].map u8).toArray 5)
 go_ret
 exact⟨_,rfl,ho,hb⟩
theorem kindOf_any (s:List (BitVec 8)) (w:World):Calls Tryz.prog 46 #[.string (strB s)] w fun e w'=>e= .returned (.int .i64 (kindP s:Nat))∧Below w.heap.size w w':=by
 obtain⟨K,hK⟩:∃K,K=kindP s:=⟨_,rfl⟩
 rw[←hK]
 have HK:=Lib.hid hK
 clear hK
 go_enter Tryz.func46,Tryz.ntmps46
 go_upto_region 2 with fail
 go_loopw[3] (fun i wr=>∃k:Nat,1≤k∧k≤14∧i= .int .i64 k∧Hid (∀j,1≤j→j<k→s≠cmdN j)∧Hid (Below w.heap.size w wr)) (fun i _=>14-(intOf i).toNat)
 case atStart=>exact⟨1,by omega,by omega,rfl,Lib.hid (fun j h1 h2=>by omega),Lib.hid (Below.refl _ _)⟩
 case round=>
  obtain⟨k,hk1,hk2,rfl,HA,HB⟩:=hrel
  by_cases hk:k≤13
  ·have hle:(k:Int)≤13:=by omega
   have hcall:=X6z (k:Int) wr
   have HC:Hid (cmdB (k:Int)=cmdN k):=Lib.hid (by unfold cmdB;rw[if_neg (by omega)];rfl)
   rw[HC.out]at hcall
   by_cases he:cmdN k=s
   ·have heq:((strB (cmdN k)).toList==(strB s).toList)=true:=by rw[strB_eq];exact decide_eq_true he
    have HE:Hid (K=k):=Lib.hid (by rw[HK.out];exact kindP_is hk1 hk he.symm)
    clear he
    go_wp2_with fail
    refine hcall.mono ?_
    rintro e w1 ⟨rfl,hb1⟩
    have HB1:=Lib.hid (Q3z HB.out hb1 (Nat.le_refl _))
    clear hb1 hcall
    go_wp2_with fail
    go_ret
    exact⟨by rw[HE.out];rfl,HB1.out⟩
   ·have heq:((strB (cmdN k)).toList==(strB s).toList)=false:=by rw[strB_eq];exact decide_eq_false he
    have HE:Hid (s≠cmdN k):=Lib.hid fun h=>he h.symm
    clear he
    go_wp2_with fail
    refine hcall.mono ?_
    rintro e w1 ⟨rfl,hb1⟩
    have HB1:=Lib.hid (Q3z HB.out hb1 (Nat.le_refl _))
    clear hb1 hcall
    go_wp2_with fail
    go_roundw
    case rel=>exact⟨k+1,by omega,by omega,by go_num,Lib.hid (fun j h1 h2=>by
     rcases Nat.lt_or_ge j k with h|h
     ·exact HA.out j h1 h
     ·obtain rfl:j=k:=by omega
      exact HE.out),HB1⟩
    case measure=>simp[intOf];omega
  ·have hgt:¬(k:Int)≤13:=by omega
   have HE:Hid (K=0):=Lib.hid (by rw[HK.out];exact kindP_no fun j h1 h2=>HA.out j h1 (by omega))
   go_wp2_with fail
   go_ret
   exact⟨by rw[HE.out];rfl,HB.out⟩
end Go.Proofs.YtjbijcjcejfpcaaGreatDoor
