/- (*sha.Hasher).Sum: what its tail and its answer hold, plain. -/
import Derived.Test.YtikjhnbehihbjaaDoorShaK
namespace Go.Proofs.YtikjhnbehihbjaaDoor
open Go.RowKit

/-- the tail of seventy-two bytes: a bit, noughts, the first m bytes of a number, noughts -/
def tlC (n : BitVec 64) (z m : Nat) : List (BitVec 8) := [128#8] ++ noughts z ++ be64 n m ++ noughts (71 - z - m)
theorem noughts_len (k : Nat) : (noughts k).length = k := by simp [noughts]
theorem noughts_add (a b : Nat) : noughts (a + b) = noughts a ++ noughts b := by unfold noughts; exact List.replicate_append_replicate.symm
theorem tlC_len (n : BitVec 64) (z m : Nat) (h : z + m ≤ 71) : (tlC n z m).length = 72 := by
  unfold tlC
  simp only [List.length_append, noughts_len, be64_len, List.length_cons, List.length_nil]; omega
theorem tlC_zero (n : BitVec 64) (z : Nat) (h : z ≤ 71) : tlC n z 0 = [128#8] ++ noughts 71 := by
  unfold tlC
  rw [show be64 n 0 = [] from rfl, List.append_nil, List.append_assoc, ← noughts_add, show z + (71 - z - 0) = 71 by omega]
theorem tlC_set (n : BitVec 64) (z m : Nat) (h : z + m < 71) : ((tlC n z m).map u8).toArray.setIfInBounds (z + 1 + m) (.int .u8 (iv8 (beN n m))) = ((tlC n z (m + 1)).map u8).toArray := by
  have hz : noughts (71 - z - m) = 0#8 :: noughts (71 - z - (m + 1)) := by
    rw [show 71 - z - m = 1 + (71 - z - (m + 1)) by omega, noughts_add]; rfl
  rw [List.setIfInBounds_toArray]
  unfold tlC
  rw [hz, be64_succ, List.map_append, List.set_append_right _ _ (by simp only [List.length_map, List.length_append, noughts_len, be64_len, List.length_cons, List.length_nil]; omega)]
  have e : z + 1 + m - (([128#8] ++ noughts z ++ be64 n m).map u8).length = 0 := by
    simp only [List.length_map, List.length_append, noughts_len, be64_len, List.length_cons, List.length_nil]; omega
  rw [e]
  simp [u8]
theorem tlC_here (n : BitVec 64) (z m : Nat) (h : z + m < 71) : ((tlC n z m).map u8).toArray[z + 1 + m]? = some (.int .u8 (iv8 0#8)) := by
  have hz : noughts (71 - z - m) = 0#8 :: noughts (71 - z - (m + 1)) := by
    rw [show 71 - z - m = 1 + (71 - z - (m + 1)) by omega, noughts_add]; rfl
  unfold tlC
  rw [hz, List.getElem?_toArray, List.map_append, List.getElem?_append_right (by simp only [List.length_map, List.length_append, noughts_len, be64_len, List.length_cons, List.length_nil]; omega)]
  have e : z + 1 + m - (([128#8] ++ noughts z ++ be64 n m).map u8).length = 0 := by
    simp only [List.length_map, List.length_append, noughts_len, be64_len, List.length_cons, List.length_nil]; omega
  rw [e]
  rfl
theorem tlC_take (n : BitVec 64) (z : Nat) (_h : z + 8 ≤ 71) : (tlC n z 8).take (z + 9) = [128#8] ++ noughts z ++ be64 n 8 := by
  unfold tlC
  rw [List.take_append_of_le_length (by simp only [List.length_append, noughts_len, be64_len, List.length_cons, List.length_nil]; omega), List.take_of_length_le (by simp only [List.length_append, noughts_len, be64_len, List.length_cons, List.length_nil]; omega)]
theorem padZ_le (n : Nat) : padZ n ≤ 63 := by unfold padZ; omega
/-- the answer behind q words -/
def oC (s : S8) (q : Nat) : List Value := (s.hashTo (4 * q) ++ noughts (32 - 4 * q)).map u8
theorem oC_zero (s : S8) : oC s 0 = (noughts 32).map u8 := rfl
theorem oC_end (s : S8) : oC s 8 = hCells (s.hashTo 32) := by unfold oC hCells; simp [noughts]
theorem oC_len (s : S8) (q : Nat) (h : q ≤ 8) : (oC s q).length = 32 := by
  unfold oC; simp only [List.length_map, List.length_append, noughts_len, hashTo_len]; omega
theorem oC_next (s : S8) (q : Nat) (h : q < 8) : splice (oC s q) (4 * q) (([(atS s q >>> 24).setWidth 8, (atS s q >>> 16).setWidth 8, (atS s q >>> 8).setWidth 8, (atS s q).setWidth 8] : List (BitVec 8)).map u8) = oC s (q + 1) := by
  have hz : noughts (32 - 4 * q) = [0#8, 0#8, 0#8, 0#8] ++ noughts (32 - 4 * (q + 1)) := by
    rw [show 32 - 4 * q = 4 + (32 - 4 * (q + 1)) by omega, noughts_add]; rfl
  have b0 : s.byte (4 * q) = (atS s q >>> 24).setWidth 8 := by unfold S8.byte; rw [show 4 * q / 4 = q by omega, show 24 - 8 * (4 * q % 4) = 24 by omega]
  have b1 : s.byte (4 * q + 1) = (atS s q >>> 16).setWidth 8 := by unfold S8.byte; rw [show (4 * q + 1) / 4 = q by omega, show 24 - 8 * ((4 * q + 1) % 4) = 16 by omega]
  have b2 : s.byte (4 * q + 2) = (atS s q >>> 8).setWidth 8 := by unfold S8.byte; rw [show (4 * q + 2) / 4 = q by omega, show 24 - 8 * ((4 * q + 2) % 4) = 8 by omega]
  have b3 : s.byte (4 * q + 3) = (atS s q).setWidth 8 := by unfold S8.byte; rw [show (4 * q + 3) / 4 = q by omega, show 24 - 8 * ((4 * q + 3) % 4) = 0 by omega]; simp
  have hh : s.hashTo (4 * (q + 1)) = s.hashTo (4 * q) ++ [s.byte (4 * q), s.byte (4 * q + 1), s.byte (4 * q + 2), s.byte (4 * q + 3)] := by
    unfold S8.hashTo
    rw [show 4 * (q + 1) = 4 * q + 1 + 1 + 1 + 1 by omega]
    simp [List.range_succ]
  unfold splice oC
  rw [hz, hh, b0, b1, b2, b3, List.map_append, List.take_append_of_le_length (by simp only [List.length_map, hashTo_len]; omega), List.take_of_length_le (by simp only [List.length_map, hashTo_len]; omega), List.drop_append]
  have e1 : ((s.hashTo (4 * q)).map u8).drop (4 * q + (([(atS s q >>> 24).setWidth 8, (atS s q >>> 16).setWidth 8, (atS s q >>> 8).setWidth 8, (atS s q).setWidth 8] : List (BitVec 8)).map u8).length) = [] := List.drop_of_length_le (by simp only [List.length_map, hashTo_len]; omega)
  rw [e1]
  simp [hashTo_len]
theorem pad_tail (all : List (BitVec 8)) : all ++ (tlC (BitVec.ofNat 64 (8 * all.length)) (padZ all.length) 8).take (padZ all.length + 9) = pad all := by
  rw [tlC_take _ _ (by have := padZ_le all.length; omega)]
  unfold pad
  simp only [List.append_assoc]
end Go.Proofs.YtikjhnbehihbjaaDoor
