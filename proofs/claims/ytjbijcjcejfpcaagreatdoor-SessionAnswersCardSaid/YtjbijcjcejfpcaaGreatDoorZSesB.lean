/- A session: what its block holds; New, none, Ready. -/
import Derived.Test.YtjbijcjcejfpcaaGreatDoorZMsgJ
import Derived.Test.YtjbijcjcejfpcaaGreatDoorZShaP
import Derived.Test.YtjbijcjcejfpcaaGreatDoorZSesA
namespace Go.Proofs.YtjbijcjcejfpcaaGreatDoor
set_option linter.unusedVariables false
set_option maxRecDepth 100000
set_option maxHeartbeats 16000000
open Go Go.RowKit
def sesC (no:BitVec 64) (rv:Nat) (dn hl bd:Int) (ve ak:Bool) (aq:Option Addr):List Value:=
 [.int .u64 (iv64 no),.pointer (some ⟨rv,0,none⟩),.int .u32 dn,.int .i32 0,.int .u32 0,.int .i32 hl,.int .u32 bd,.bool ve,.bool ak,.pointer aq]
theorem built_ses (no:BitVec 64) (rv:Nat):Tryz.prog.built 77 [(0,.int .u64 (iv64 no)),(1,.pointer (some ⟨rv,0,none⟩))]=some (sesC no rv 0 0 0 false false none).toArray:=by kernel_rfl
theorem new_ses (no:BitVec 64) (w:World):Calls Tryz.prog 19 #[.int .u64 (iv64 no)] w fun e w'=>∃g,e= .returned (.pointer (some ⟨g,0,none⟩))∧w.heap.size<g∧
 Blk w' w.heap.size 113 #[.slice none 0 0,.bool true,.int .i64 0]∧Blk w' g 77 (sesC no w.heap.size 0 0 0 false false none).toArray∧Below w.heap.size w w':=by
 have hbt:=built_ses no w.heap.size
 obtain⟨SC,hSC⟩:∃SC,SC=(sesC no w.heap.size 0 0 0 false false none).toArray:=⟨_,rfl⟩
 rw[←hSC]at hbt ⊢
 clear hSC
 go_enter Tryz.func19,Tryz.ntmps19
 go_wp2_with fail
 refine(new_any09 w).mono ?_
 rintro e w1 ⟨rfl,hr1,hb1⟩
 have hz:=hr1.lt
 go_wp2_with((with_reducible refine Qjz (o:=⟨some 5,_,_,_,_,_⟩) ?_ 77 #[(0,.tmp 3),(1,.tmp 4)] ?_ [(0,.int .u64 (iv64 no)),(1,.pointer (some ⟨w.heap.size,0,none⟩))] ?_ SC hbt ?_
              ·rfl
              ·rfl
              ·rfl))
 go_ret
 exact⟨w1.heap.size,rfl,hz,hr1.alloc _,Blk.new w1 _ _,Q3z hb1 (Q1z w1 _) (Nat.le_refl _)⟩
structure SesL (w:World) (g:Nat) (no:BitVec 64) (rv:Nat) (dn hl bd:Int) (ve ak:Bool) (aq:Option Addr):Prop where
 c0:w.cell? ⟨g,0,none⟩=some (.int .u64 (iv64 no))
 c1:w.cell? ⟨g,1,none⟩=some (.pointer (some ⟨rv,0,none⟩))
 c2:w.cell? ⟨g,2,none⟩=some (.int .u32 dn)
 c3:w.cell? ⟨g,3,none⟩=some (.int .i32 0)
 c5:w.cell? ⟨g,5,none⟩=some (.int .i32 hl)
 c6:w.cell? ⟨g,6,none⟩=some (.int .u32 bd)
 c7:w.cell? ⟨g,7,none⟩=some (.bool ve)
 c8:w.cell? ⟨g,8,none⟩=some (.bool ak)
 c9:w.cell? ⟨g,9,none⟩=some (.pointer aq)
abbrev SesB (w:World) (g:Nat) (no:BitVec 64) (rv:Nat) (dn hl bd:Int) (ve ak:Bool) (aq:Option Addr):Prop:=Blk w g 77 (sesC no rv dn hl bd ve ak aq).toArray
theorem SesB.l {w:World} {g rv:Nat} {no:BitVec 64} {dn hl bd:Int} {ve ak:Bool} {aq:Option Addr} (h:SesB w g no rv dn hl bd ve ak aq):SesL w g no rv dn hl bd ve ak aq:=
 ⟨h.cell 0,h.cell 1,h.cell 2,h.cell 3,h.cell 5,h.cell 6,h.cell 7,h.cell 8,h.cell 9⟩
theorem Zlz (g:Nat) (no:BitVec 64) (rv:Nat) (dn hl bd:Int) (ve ak:Bool) (aq:Option Addr) (w:World) (h:SesB w g no rv dn hl bd ve ak aq):
 Calls Tryz.prog 22 #[.pointer (some ⟨g,0,none⟩)] w fun e w'=>e= .returned (.bool false)∧w'=w:=by
 have c1:=h.l.c1
 clear h
 go_enter Tryz.func22,Tryz.ntmps22
 go_wp2_with fail
 go_ret
 exact⟨rfl,rfl⟩
theorem ready_any (g:Nat) (no:BitVec 64) (rv:Nat) (dn hl bd:Int) (ve ak:Bool) (aq:Option Addr) (w:World) (h:SesB w g no rv dn hl bd ve ak aq):
 Calls Tryz.prog 12 #[.pointer (some ⟨g,0,none⟩)] w fun e w'=>e= .returned (.bool (hl==2&& !(bd != 0)))∧w'=w:=by
 have c5:=i32_load ⟨g,5,none⟩ hl w h.l.c5
 have c6:=Zhz ⟨g,6,none⟩ bd w h.l.c6
 have hn:=Zlz g no rv dn hl bd ve ak aq w h
 have C5:=Lib.hid c5
 have C6:=Lib.hid c6
 clear h c5 c6
 go_enter Tryz.func12,Tryz.ntmps12
 go_wp2_with fail
 refine hn.mono ?_
 rintro e w1 ⟨rfl,hw⟩
 replace hw:=hw.symm
 subst hw
 clear hn
 go_wp2_with fail
 refine C5.out.mono ?_
 rintro e w2 ⟨rfl,hw⟩
 replace hw:=hw.symm
 subst hw
 clear C5
 cases hh:(hl==2)with
 |false=>
  go_wp2_with fail
  go_ret
  exact⟨by rw[hh];rfl,rfl⟩
 |true=>
  go_wp2_with fail
  refine C6.out.mono ?_
  rintro e w3 ⟨rfl,hw⟩
  replace hw:=hw.symm
  subst hw
  go_wp2_with fail
  go_ret
  exact⟨by rw[hh];rfl,rfl⟩
end Go.Proofs.YtjbijcjcejfpcaaGreatDoor
