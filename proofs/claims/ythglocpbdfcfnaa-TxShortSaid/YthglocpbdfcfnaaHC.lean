/- Cells of bytes. -/
import Derived.Test.YthglocpbdfcfnaaGA
namespace Go.Proofs.Ythglocpbdfcfnaa
open Go.RowKit

def hCells (l : List (BitVec 8)) : List Value := l.map u8
theorem hCells_one (l : List (BitVec 8)) : (hCells l).toArray.all (·.oneCell') = true := by
  rw [List.all_toArray, hCells]; simp [Value.oneCell']
theorem hCells_row {w : World} {g : Nat} {t : TypeId} {l : List (BitVec 8)} (h : Blk w g t (hCells l).toArray) : Row8 w (some ⟨g, 0, none⟩) l := fun _ =>
  ⟨g, 0, rfl, h.lt, fun i x hx => by rw [Nat.zero_add, h.cell, List.getElem?_toArray, hCells, List.getElem?_map, hx]; rfl⟩
end Go.Proofs.Ythglocpbdfcfnaa
