/- Whole numbers (int) that are not below nought: their bits are those of Nat. -/
import Derived.Test.YtbkpgdfkjijagaaDoorGA
import Derived.RowKit
namespace Go.Proofs.YtbkpgdfkjijagaaDoor
open Go

theorem ofI64 (a : Nat) (h : a < 9223372036854775808) : (BitVec.ofInt 64 (a : Int)).toNat = a := by
  rw [BitVec.ofInt_natCast, BitVec.toNat_ofNat]; exact Nat.mod_eq_of_lt (by omega)
theorem wrapI (a : Nat) (h : a < 9223372036854775808) : IntKind.i64.wrap (a : Int) = (a : Int) := by rw [IntKind.wrap_i64]; omega
/-- as the walk writes it -/
theorem wrapZ (z : Int) (a : Nat) (hz : z = (a : Int)) (h : a < 9223372036854775808) : Go.RowKit.wrap64 z = (a : Int) := by rw [hz]; unfold Go.RowKit.wrap64; omega
theorem wrap64_self (z : Int) (h0 : -9223372036854775808 ≤ z) (h1 : z ≤ 9223372036854775807) : Go.RowKit.wrap64 z = z := by unfold Go.RowKit.wrap64; omega
theorem andI (a b : Nat) (ha : a < 9223372036854775808) (hb : b < 9223372036854775808) : bits .and .i64 (a : Int) (b : Int) = ((a &&& b : Nat) : Int) := by
  have hx : a &&& b < 2 ^ 63 := Nat.and_lt_two_pow _ (by omega)
  show IntKind.i64.wrap ((BitVec.ofInt 64 (a : Int) &&& BitVec.ofInt 64 (b : Int)).toNat : Int) = _
  rw [BitVec.toNat_and, ofI64 a ha, ofI64 b hb, wrapI _ (by omega)]
theorem orI (a b : Nat) (ha : a < 9223372036854775808) (hb : b < 9223372036854775808) : bits .or .i64 (a : Int) (b : Int) = ((a ||| b : Nat) : Int) := by
  have hx : a ||| b < 2 ^ 63 := Nat.or_lt_two_pow (by omega) (by omega)
  show IntKind.i64.wrap ((BitVec.ofInt 64 (a : Int) ||| BitVec.ofInt 64 (b : Int)).toNat : Int) = _
  rw [BitVec.toNat_or, ofI64 a ha, ofI64 b hb, wrapI _ (by omega)]
theorem xorI (a b : Nat) (ha : a < 9223372036854775808) (hb : b < 9223372036854775808) : bits .xor .i64 (a : Int) (b : Int) = ((a ^^^ b : Nat) : Int) := by
  have hx : a ^^^ b < 2 ^ 63 := Nat.xor_lt_two_pow (by omega) (by omega)
  show IntKind.i64.wrap ((BitVec.ofInt 64 (a : Int) ^^^ BitVec.ofInt 64 (b : Int)).toNat : Int) = _
  rw [BitVec.toNat_xor, ofI64 a ha, ofI64 b hb, wrapI _ (by omega)]
end Go.Proofs.YtbkpgdfkjijagaaDoor
