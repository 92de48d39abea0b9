/- A string's bytes one by one. -/
import Derived.Test.YtbkpgdfkjijagaaDoorSl8
namespace Go.Proofs.YtbkpgdfkjijagaaDoor
open Go.RowKit

theorem strB_data (bs : List (BitVec 8)) : (strB bs).data.toList = bs.map fun b => UInt8.ofNat (iv8 b).toNat := by unfold strB; rw [strOfNums_data, List.map_map]; rfl
theorem strB_all (s : ByteArray) : ∃ bs, s = strB bs := by
  refine ⟨s.data.toList.map fun x => BitVec.ofNat 8 x.toNat, ?_⟩
  apply ByteArray.ext
  apply Array.toList_inj.1
  rw [strB_data, List.map_map]
  conv => lhs; rw [← List.map_id s.data.toList]
  refine List.map_congr_left fun x _ => ?_
  apply UInt8.toNat_inj.1
  simp [iv8]
theorem strB_at (bs : List (BitVec 8)) (k : Nat) (x : BitVec 8) (h : bs[k]? = some x) (hk : k < (strB bs).size) : ((strB bs)[k].toNat : Int) = iv8 x := by
  have h2 : (strB bs).data.toList[k]? = some (UInt8.ofNat (iv8 x).toNat) := by rw [strB_data, List.getElem?_map, h]; rfl
  have h3 : (strB bs).data.toList[k]? = some (strB bs)[k] := by
    rw [Array.getElem?_toList]
    exact Array.getElem?_eq_getElem hk
  rw [h3] at h2
  injection h2 with h2
  rw [h2]
  simp [iv8]
theorem strB_index (bs : List (BitVec 8)) (k : Nat) (x : BitVec 8) (h : bs[k]? = some x) (w : World) : (Instr.index 9 (.string (strB bs)) (.int .i64 (k : Int))).run Tryd.prog w = .ok (.int .u8 (iv8 x)) w := by
  have hk : k < (strB bs).size := by rw [strB_size]; exact (List.getElem?_eq_some_iff.1 h).1
  have ha := strB_at bs k x h hk
  rw [run_index_string w _ _ _ _ Tryd.underlying9]
  simp [hk, ha]
end Go.Proofs.YtbkpgdfkjijagaaDoor
