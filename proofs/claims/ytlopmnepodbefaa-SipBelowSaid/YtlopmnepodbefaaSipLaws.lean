/- sporranlaw02: Scale's high half; SipHash's sums: the program's is the reference's. -/
import Derived.Test.YtlopmnepodbefaaSipS
import Derived.Test.YtlopmnepodbefaaSipScale
import Derived.Test.YtlopmnepodbefaaBytes
namespace Go.Proofs.Ytlopmnepodbefaa
open Go.RowKit

/-- the high half of a product -/
def hi64 (x n : BitVec 64) : BitVec 64 := BitVec.ofNat 64 (x.toNat * n.toNat / 18446744073709551616)
theorem hi64_iv (x n : BitVec 64) : ((x.toNat * n.toNat / 18446744073709551616 : Nat) : Int) = iv64 (hi64 x n) := by
  have : x.toNat * n.toNat < 18446744073709551616 * 18446744073709551616 := mul_small _ _ x.isLt n.isLt
  have h : x.toNat * n.toNat / 18446744073709551616 < 18446744073709551616 := Nat.div_lt_of_lt_mul this
  exact iv64_lit _ h
theorem hi64_comm (x n : BitVec 64) : hi64 x n = hi64 n x := by unfold hi64; rw [Nat.mul_comm]

theorem scale_any (x n : BitVec 64) (w : World) :
    Calls Try.prog 14 #[u64 x, u64 n] w fun e w' => e = .returned (u64 (hi64 x n)) ∧ w' = w := by
  go_enter Try.func14, Try.ntmps14
  go_wp2_with (go_at_call 25; refine (Try.bits_Mul64 x.toNat n.toNat x.isLt n.isLt _).mono ?_; rintro e w1 ⟨rfl, hw1⟩; subst hw1)
  go_ret
  exact ⟨ret_int (hi64_iv x n), rfl⟩
theorem refScale_any (x n : BitVec 64) (w : World) :
    Calls Try.prog 15 #[u64 x, u64 n] w fun e w' => e = .returned (u64 (hi64 x n)) ∧ w' = w := by
  unfold u64
  rw [← hi64_iv]
  exact refScale_nat x.toNat n.toNat (iv64_hi x) (iv64_hi n) w
theorem scale_const (w : World) : Calls Try.prog 14 #[.int .u64 9223372036854775808, .int .u64 10] w fun e w' => e = .returned (.int .u64 5) ∧ w' = w :=
  scale_any 9223372036854775808#64 10#64 w
theorem scale_const2 (w : World) : Calls Try.prog 14 #[.int .u64 4611686018427387904, .int .u64 8] w fun e w' => e = .returned (.int .u64 2) ∧ w' = w :=
  scale_any 4611686018427387904#64 8#64 w

set_option maxRecDepth 100000 in
theorem sipScales_walk (x n : BitVec 64) (w : World) :
    Calls Try.prog 4 #[u64 x, u64 n] w fun e w' => e = .returned (.bool true) ∧ Below w.heap.size w w' := by
  go_enter Try.func4, Try.ntmps4
  go_wp2_with fail
  refine (scale_any x n _).mono ?_
  rintro e w1 ⟨rfl, hw1⟩
  subst hw1
  go_wp2_with fail
  refine (refScale_any x n _).mono ?_
  rintro e w1 ⟨rfl, hw1⟩
  subst hw1
  go_wp2_with fail
  refine (scale_any n x _).mono ?_
  rintro e w1 ⟨rfl, hw1⟩
  subst hw1
  rw [hi64_comm n x]
  go_wp2_with fail
  refine (scale_any x n _).mono ?_
  rintro e w1 ⟨rfl, hw1⟩
  subst hw1
  go_wp2_with fail
  refine (scale_const _).mono ?_
  rintro e w1 ⟨rfl, hw1⟩
  subst hw1
  go_wp2
  go_ret
  exact ⟨rfl, Below.refl _ _⟩
end Go.Proofs.Ytlopmnepodbefaa
