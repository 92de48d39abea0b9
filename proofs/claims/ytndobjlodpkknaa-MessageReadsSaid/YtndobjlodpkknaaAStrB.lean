/- A string's bytes one by one.  -/
import Derived.Test.YtndobjlodpkknaaASl8
namespace Go.Proofs.Ytndobjlodpkknaa
open Go.RowKit
theorem strB_data (bs : List (BitVec 8)) : (strB bs).data.toList = bs.map fun b => UInt8.ofNat (iv8 b).toNat := by unfold strB; rw [strOfNums_data, List.map_map]; rfl
theorem strB_all (s : ByteArray) : ∃ bs, s = strB bs := by
  refine ⟨s.data.toList.map fun x => BitVec.ofNat 8 x.toNat, ?_⟩
  apply ByteArray.ext
  apply Array.toList_inj.1
  rw [strB_data, List.map_map]
  conv => lhs; rw [← List.map_id s.data.toList]
  refine List.map_congr_left fun x _ => ?_
  apply UInt8.toNat_inj.1
  simp [iv8]
end Go.Proofs.Ytndobjlodpkknaa
