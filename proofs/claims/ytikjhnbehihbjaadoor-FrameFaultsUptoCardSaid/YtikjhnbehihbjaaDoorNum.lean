/- A number of four bytes, the lowest first: plain. -/
import Derived.Test.YtikjhnbehihbjaaDoorLow
namespace Go.Proofs.YtikjhnbehihbjaaDoor
set_option linter.unusedVariables false
open Go.RowKit

/-- a number of four bytes, the lowest first -/
def num32 (bs : List (BitVec 8)) : BitVec 32 := (numTo bs 4).setWidth 32
theorem num_or (x0 x1 x2 x3 : BitVec 8) : ((x0.setWidth 32 ||| x1.setWidth 32 <<< 8) ||| x2.setWidth 32 <<< 16) ||| x3.setWidth 32 <<< 24 = num32 [x0, x1, x2, x3] := by
  unfold num32
  apply BitVec.eq_of_getLsbD_eq
  intro j hj
  simp only [numTo, List.getElem?_cons_succ, List.getElem?_cons_zero, Option.getD_some, BitVec.getLsbD_setWidth, BitVec.getLsbD_or, BitVec.getLsbD_shiftLeft, BitVec.getLsbD_zero]
  simp [hj, show j < 64 by omega, show j - 8 < 64 by omega, show j - 16 < 64 by omega, show j - 24 < 64 by omega, show j - 8 < 32 by omega, show j - 16 < 32 by omega, show j - 24 < 32 by omega]
theorem num32_four (bs : List (BitVec 8)) (x0 x1 x2 x3 : BitVec 8) (h0 : bs[0]? = some x0) (h1 : bs[1]? = some x1) (h2 : bs[2]? = some x2) (h3 : bs[3]? = some x3) : num32 bs = num32 [x0, x1, x2, x3] := by
  unfold num32
  simp [numTo, h0, h1, h2, h3]
theorem numTo_lt (L : List (BitVec 8)) (k : Nat) (hk : k ≤ 8) : (numTo L k).toNat < 2 ^ (8 * k) := by
  induction k with
  | zero => simp [numTo]
  | succ k ih =>
    rw [numTo, BitVec.toNat_or]
    refine Nat.or_lt_two_pow (Nat.lt_of_lt_of_le (ih (by omega)) (Nat.pow_le_pow_right (by omega) (by omega))) ?_
    rw [BitVec.toNat_shiftLeft, BitVec.toNat_setWidth, Nat.shiftLeft_eq]
    generalize L[k]?.getD 0#8 = x
    have := x.isLt
    refine Nat.lt_of_le_of_lt (Nat.mod_le _ _) ?_
    refine Nat.lt_of_le_of_lt (Nat.mul_le_mul_right _ (Nat.mod_le _ _)) ?_
    rw [show 8 * (k + 1) = 8 + 8 * k by omega, Nat.pow_add]
    exact Nat.mul_lt_mul_of_pos_right (by omega) (Nat.pow_pos (by omega))
theorem numTo_take (L : List (BitVec 8)) (k m : Nat) (hk : k ≤ m) : numTo (L.take m) k = numTo L k := by
  induction k with
  | zero => rfl
  | succ k ih => rw [numTo, numTo, ih (by omega), List.getElem?_take, if_pos (by omega)]
theorem num64_32 (bs : List (BitVec 8)) : iv64 (numTo (bs.take 4) 4) = ((num32 bs).toNat : Int) := by
  rw [numTo_take _ _ _ (Nat.le_refl _)]
  unfold iv64 num32
  have := numTo_lt bs 4 (by omega)
  rw [BitVec.toNat_setWidth, Nat.mod_eq_of_lt (by simpa using this)]
end Go.Proofs.YtikjhnbehihbjaaDoor
