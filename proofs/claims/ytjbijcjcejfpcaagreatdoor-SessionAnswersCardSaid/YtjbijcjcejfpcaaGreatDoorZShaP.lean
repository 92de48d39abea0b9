/- The row's list of variables, as what the walks ask of memory: the sha's two tabl -/
import Derived.Lib.LaidTab
import Derived.Stop.LaidErr
import Derived.Test.YtjbijcjcejfpcaaGreatDoorZGS
namespace Go.Proofs.YtjbijcjcejfpcaaGreatDoor
set_option linter.unusedVariables false
set_option maxRecDepth 100000
set_option maxHeartbeats 16000000
open Go.RowKit
def kInts:List Int:=kWords.map iv32
def fInts:List Int:=s8First.list.map iv32
theorem laid_words_tab:(Rows.laid_sporran_sha_words:DataW Unit)=Lib.tabData .u32 kInts:=by rfl
theorem laid_first_tab:(Rows.laid_sporran_sha_first:DataW Unit)=Lib.tabData .u32 fInts:=by rfl
theorem cells_words:Tryz.prog.cellsOf 214=64:=by kernel_rfl
theorem cells_state:Tryz.prog.cellsOf 221=8:=by kernel_rfl
theorem cells_u32:Tryz.prog.cellsOf 30=1:=by kernel_rfl
theorem g_words:Tryz.prog.globalNamed "sporran/sha.words" =some 1:=by kernel_rfl
theorem g_first:Tryz.prog.globalNamed "sporran/sha.first" =some 0:=by kernel_rfl
theorem gt_words:(Tryz.prog.globals[1]?).map (·.type)=some 214:=by kernel_rfl
theorem gt_first:(Tryz.prog.globals[0]?).map (·.type)=some 221:=by kernel_rfl
theorem kInts_at (i:Nat) (h:i<64):kInts.getD i 0=iv32 (kW i):=by
 unfold kInts
 rw[List.getD_eq_getElem?_getD,List.getElem?_map,kW_at i h];rfl
theorem fInts_at (i:Nat) (h:i<8):fInts.getD i 0=iv32 (atS s8First i):=by
 match i,h with
 |0,_|1,_|2,_|3,_|4,_|5,_|6,_|7,_=>rfl
theorem laid_of {W:World} (h1:Lib.TabIs Tryz.prog W "sporran/sha.words" .u32 kInts) (h2:Lib.TabIs Tryz.prog W "sporran/sha.first" .u32 fInts):Laid W:=by
 have hw:∀i,i<64→W.cell? ⟨1,i,none⟩=some (.int .u32 (iv32 (kW i))):=fun i hi=>by
  rw[h1.cell g_words i (by unfold kInts;rw[List.length_map,kWords_len];exact hi),kInts_at i hi]
 have hf:∀i,i<8→W.cell? ⟨0,i,none⟩=some (.int .u32 (iv32 (atS s8First i))):=fun i hi=>by
  rw[h2.cell g_first i (by unfold fInts;rw[List.length_map,S8.list_len];exact hi),fInts_at i hi]
 have l1:=World.block_lt_of_cell? W _ (hw 0 (by omega))
 have l2:=World.block_lt_of_cell? W _ (hf 0 (by omega))
 exact⟨by unfold gTop;simp only[]at l1 l2;omega,hf,hw⟩
theorem laid_words_first {rest:List (String × DataW Unit)} {W:World} (h:laidMet Tryz.prog (("sporran/sha.words",Rows.laid_sporran_sha_words) ::("sporran/sha.first",Rows.laid_sporran_sha_first) ::rest) W):Laid W:=by
 have h2:=h.tail
 rw[laid_words_tab]at h
 rw[laid_first_tab]at h2
 exact laid_of (Lib.tabIs_of_head g_words gt_words Tryz.underlying214 Tryz.underlying30 cells_u32 cells_words h) (Lib.tabIs_of_head g_first gt_first Tryz.underlying221 Tryz.underlying30 cells_u32 cells_state h2)
def layCells (cs:Array Value):Obj→Obj
 | .cells _ t frozen=>.cells cs t frozen
 |o=>o
noncomputable def laidWorld (os:Os):World:=
 { World.holding Tryz.prog os ⟨#[],#[],[]⟩with heap:=((World.holding Tryz.prog os ⟨#[],#[],[]⟩).heap.modify 1 (layCells (kWords.map u32).toArray)).modify 0 (layCells (s8First.list.map u32).toArray) }
end Go.Proofs.YtjbijcjcejfpcaaGreatDoor
