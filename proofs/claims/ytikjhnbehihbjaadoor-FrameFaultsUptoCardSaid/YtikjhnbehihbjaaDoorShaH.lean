/- SHA-256, plain: the program's ways to write the round. -/
import Derived.Test.YtikjhnbehihbjaaDoorShaG
namespace Go.Proofs.YtikjhnbehihbjaaDoor
open Go.RowKit

theorem ch_prog (e f g : BitVec 32) : g ^^^ (e &&& (f ^^^ g)) = chP e f g := by
  unfold chP
  apply BitVec.eq_of_getLsbD_eq
  intro j hj
  simp only [BitVec.getLsbD_xor, BitVec.getLsbD_and, BitVec.getLsbD_not]
  cases e.getLsbD j <;> cases f.getLsbD j <;> cases g.getLsbD j <;> simp [hj]
theorem mj_prog (a b c : BitVec 32) : (a &&& b) ||| (c &&& (a ||| b)) = mjP a b c := by
  unfold mjP
  apply BitVec.eq_of_getLsbD_eq
  intro j hj
  simp only [BitVec.getLsbD_xor, BitVec.getLsbD_and, BitVec.getLsbD_or]
  cases a.getLsbD j <;> cases b.getLsbD j <;> cases c.getLsbD j <;> rfl
/-- four bytes by shifts -/
theorem be_prog (bs : List (BitVec 8)) (k : Nat) (x0 x1 x2 x3 : BitVec 8) (h0 : bs[k]? = some x0) (h1 : bs[k + 1]? = some x1) (h2 : bs[k + 2]? = some x2) (h3 : bs[k + 3]? = some x3) :
    ((x0.setWidth 32 <<< 24 ||| x1.setWidth 32 <<< 16) ||| x2.setWidth 32 <<< 8) ||| x3.setWidth 32 = beTo bs k 4 := by
  have e : beTo bs k 4 = (((0#32 * 256#32 + x0.setWidth 32) * 256#32 + x1.setWidth 32) * 256#32 + x2.setWidth 32) * 256#32 + x3.setWidth 32 := by
    simp only [beTo, Nat.add_zero, h0, h1, h2, h3, Option.getD_some]
  rw [e]
  have low8 : ∀ (b : BitVec 8) (j : Nat), 8 ≤ j → (b.setWidth 32).getLsbD j = false := fun b j hj => by
    rw [BitVec.getLsbD_setWidth, BitVec.getLsbD_of_ge b j hj]; simp
  have z1 : (x0.setWidth 32 <<< 24) &&& (x1.setWidth 32 <<< 16) = 0#32 := by
    apply BitVec.eq_of_getLsbD_eq
    intro j hj
    rw [BitVec.getLsbD_and, BitVec.getLsbD_shiftLeft, BitVec.getLsbD_shiftLeft, BitVec.getLsbD_zero]
    by_cases h : j < 24
    · simp [h]
    · simp [low8 x1 (j - 16) (by omega)]
  have z2 : (x0.setWidth 32 <<< 24 ||| x1.setWidth 32 <<< 16) &&& (x2.setWidth 32 <<< 8) = 0#32 := by
    apply BitVec.eq_of_getLsbD_eq
    intro j hj
    rw [BitVec.getLsbD_and, BitVec.getLsbD_or, BitVec.getLsbD_shiftLeft, BitVec.getLsbD_shiftLeft, BitVec.getLsbD_shiftLeft, BitVec.getLsbD_zero]
    by_cases h : j < 16
    · simp [h, show j < 24 by omega]
    · simp [low8 x2 (j - 8) (by omega)]
  have z3 : ((x0.setWidth 32 <<< 24 ||| x1.setWidth 32 <<< 16) ||| x2.setWidth 32 <<< 8) &&& x3.setWidth 32 = 0#32 := by
    apply BitVec.eq_of_getLsbD_eq
    intro j hj
    rw [BitVec.getLsbD_and, BitVec.getLsbD_or, BitVec.getLsbD_or, BitVec.getLsbD_shiftLeft, BitVec.getLsbD_shiftLeft, BitVec.getLsbD_shiftLeft, BitVec.getLsbD_zero]
    by_cases h : j < 8
    · simp [h, show j < 24 by omega, show j < 16 by omega]
    · simp [low8 x3 j (by omega)]
  rw [← BitVec.add_eq_or_of_and_eq_zero _ _ z3, ← BitVec.add_eq_or_of_and_eq_zero _ _ z2, ← BitVec.add_eq_or_of_and_eq_zero _ _ z1]
  have b0 := x0.isLt
  have b1 := x1.isLt
  have b2 := x2.isLt
  have b3 := x3.isLt
  apply BitVec.eq_of_toNat_eq
  simp only [BitVec.toNat_add, BitVec.toNat_mul, BitVec.toNat_shiftLeft, BitVec.toNat_setWidth, BitVec.toNat_ofNat, Nat.shiftLeft_eq]
  omega
end Go.Proofs.YtikjhnbehihbjaaDoor
