/- Words of 8, 32, 64 bits told as BitVec: what the walk writes of them (bits, wrap, quotient by a power of two), said of BitVec. -/
import Derived.WalkKit
import Derived.Laws.BitsAllLaws
namespace Go.Proofs.YtikjhnbehihbjaaDoor
open Go


/-- a word's number -/
def iv8 (x : BitVec 8) : Int := (x.toNat : Int)
abbrev u8 (x : BitVec 8) : Value := .int .u8 (iv8 x)
theorem iv8_lo (x : BitVec 8) : 0 ≤ iv8 x := Int.natCast_nonneg _
theorem iv8_hi (x : BitVec 8) : iv8 x ≤ 255 := by unfold iv8; have := x.isLt; omega
theorem iv8_inj {x y : BitVec 8} : iv8 x = iv8 y ↔ x = y := by
  unfold iv8
  exact ⟨fun h => BitVec.eq_of_toNat_eq (by omega), fun h => by rw [h]⟩
theorem xor8 (x y : BitVec 8) : bits .xor .u8 (iv8 x) (iv8 y) = iv8 (x ^^^ y) := by
  unfold iv8; rw [u8_xor_nat _ _ x.isLt y.isLt, BitVec.toNat_xor]
theorem and8 (x y : BitVec 8) : bits .and .u8 (iv8 x) (iv8 y) = iv8 (x &&& y) := by
  unfold iv8; rw [u8_and_nat _ _ x.isLt y.isLt, BitVec.toNat_and]
theorem or8 (x y : BitVec 8) : bits .or .u8 (iv8 x) (iv8 y) = iv8 (x ||| y) := by
  unfold iv8; rw [u8_or_nat _ _ x.isLt y.isLt, BitVec.toNat_or]
theorem wrapU8 (n : Int) : IntKind.u8.wrap n = n % 256 := by simp [IntKind.wrap, IntKind.bits, IntKind.signed]
theorem wrapI8 (n : Int) : IntKind.u8.wrap n = iv8 (BitVec.ofInt 8 n) := by
  unfold iv8; rw [wrapU8, BitVec.toNat_ofInt]; omega
theorem iv8_lit (k : Nat) (h : k < 256) : ((k : Nat) : Int) = iv8 (BitVec.ofNat 8 k) := by
  unfold iv8; rw [BitVec.toNat_ofNat, Nat.mod_eq_of_lt h]
theorem add8 (x y : BitVec 8) : IntKind.u8.wrap (iv8 x + iv8 y) = iv8 (x + y) := by
  unfold iv8; rw [wrapU8, BitVec.toNat_add]; omega
theorem mul8 (x y : BitVec 8) : IntKind.u8.wrap (iv8 x * iv8 y) = iv8 (x * y) := by
  unfold iv8; rw [wrapU8, BitVec.toNat_mul, ← Int.natCast_mul]; omega
theorem shlp8 (x : BitVec 8) (s : Nat) : IntKind.u8.wrap (iv8 x * 2 ^ s) = iv8 (x <<< s) := by
  unfold iv8; rw [wrapU8, BitVec.toNat_shiftLeft, Nat.shiftLeft_eq, show ((2 : Int) ^ s) = ((2 ^ s : Nat) : Int) by simp, ← Int.natCast_mul]; omega
theorem shrp8 (x : BitVec 8) (s : Nat) : iv8 x / 2 ^ s = iv8 (x >>> s) := by
  unfold iv8; rw [BitVec.toNat_ushiftRight, Nat.shiftRight_eq_div_pow, show ((2 : Int) ^ s) = ((2 ^ s : Nat) : Int) by simp, ← Int.natCast_ediv]
theorem shl8 (x : BitVec 8) (s : Nat) (c : Int) (hc : c = 2 ^ s) : IntKind.u8.wrap (iv8 x * c) = iv8 (x <<< s) := by
  rw [hc, shlp8]
theorem shr8 (x : BitVec 8) (s : Nat) (c : Int) (hc : c = 2 ^ s) : iv8 x / c = iv8 (x >>> s) := by
  rw [hc, shrp8]
theorem rol8 (x : BitVec 8) (s : Nat) (hs : s < 8) : (x <<< s) ||| (x >>> (8 - s)) = x.rotateLeft s := by
  rw [BitVec.rotateLeft_eq_rotateLeftAux_of_lt hs]; rfl
theorem ror8 (x : BitVec 8) (s : Nat) (hs : s < 8) : (x >>> s) ||| (x <<< (8 - s)) = x.rotateRight s := by
  rw [BitVec.rotateRight_eq_rotateRightAux_of_lt hs]; rfl
theorem eqv8 (x y : BitVec 8) : (iv8 x == iv8 y) = (x == y) := by
  by_cases h : x = y
  · subst h; simp
  · rw [beq_eq_false_iff_ne.2 h, beq_eq_false_iff_ne.2 (fun e => h (iv8_inj.1 e))]
/-- a number that fits is a word's -/
theorem of8 (k : Int) (h : (Lit.int .u8 k).wf = true) : ∃ x : BitVec 8, k = iv8 x := by
  have hx : 0 ≤ k ∧ k ≤ 255 := by simpa [Lit.wf, IntKind.min, IntKind.max, IntKind.signed, IntKind.bits] using h
  refine ⟨BitVec.ofNat 8 k.toNat, ?_⟩
  unfold iv8; rw [BitVec.toNat_ofNat]; omega
theorem wf8 (x : BitVec 8) : (Lit.int .u8 (iv8 x)).wf = true := by
  have h1 := iv8_lo x
  have h2 := iv8_hi x
  simp [Lit.wf, IntKind.min, IntKind.max, IntKind.signed, IntKind.bits]; omega


/-- a word's number -/
def iv32 (x : BitVec 32) : Int := (x.toNat : Int)
abbrev u32 (x : BitVec 32) : Value := .int .u32 (iv32 x)
theorem iv32_lo (x : BitVec 32) : 0 ≤ iv32 x := Int.natCast_nonneg _
theorem iv32_hi (x : BitVec 32) : iv32 x ≤ 4294967295 := by unfold iv32; have := x.isLt; omega
theorem iv32_inj {x y : BitVec 32} : iv32 x = iv32 y ↔ x = y := by
  unfold iv32
  exact ⟨fun h => BitVec.eq_of_toNat_eq (by omega), fun h => by rw [h]⟩
theorem xor32 (x y : BitVec 32) : bits .xor .u32 (iv32 x) (iv32 y) = iv32 (x ^^^ y) := by
  unfold iv32; rw [u32_xor_nat _ _ x.isLt y.isLt, BitVec.toNat_xor]
theorem and32 (x y : BitVec 32) : bits .and .u32 (iv32 x) (iv32 y) = iv32 (x &&& y) := by
  unfold iv32; rw [u32_and_nat _ _ x.isLt y.isLt, BitVec.toNat_and]
theorem or32 (x y : BitVec 32) : bits .or .u32 (iv32 x) (iv32 y) = iv32 (x ||| y) := by
  unfold iv32; rw [u32_or_nat _ _ x.isLt y.isLt, BitVec.toNat_or]
theorem wrapU32 (n : Int) : IntKind.u32.wrap n = n % 4294967296 := by simp [IntKind.wrap, IntKind.bits, IntKind.signed]
theorem wrapI32 (n : Int) : IntKind.u32.wrap n = iv32 (BitVec.ofInt 32 n) := by
  unfold iv32; rw [wrapU32, BitVec.toNat_ofInt]; omega
theorem iv32_lit (k : Nat) (h : k < 4294967296) : ((k : Nat) : Int) = iv32 (BitVec.ofNat 32 k) := by
  unfold iv32; rw [BitVec.toNat_ofNat, Nat.mod_eq_of_lt h]
theorem add32 (x y : BitVec 32) : IntKind.u32.wrap (iv32 x + iv32 y) = iv32 (x + y) := by
  unfold iv32; rw [wrapU32, BitVec.toNat_add]; omega
theorem mul32 (x y : BitVec 32) : IntKind.u32.wrap (iv32 x * iv32 y) = iv32 (x * y) := by
  unfold iv32; rw [wrapU32, BitVec.toNat_mul, ← Int.natCast_mul]; omega
theorem shlp32 (x : BitVec 32) (s : Nat) : IntKind.u32.wrap (iv32 x * 2 ^ s) = iv32 (x <<< s) := by
  unfold iv32; rw [wrapU32, BitVec.toNat_shiftLeft, Nat.shiftLeft_eq, show ((2 : Int) ^ s) = ((2 ^ s : Nat) : Int) by simp, ← Int.natCast_mul]; omega
theorem shrp32 (x : BitVec 32) (s : Nat) : iv32 x / 2 ^ s = iv32 (x >>> s) := by
  unfold iv32; rw [BitVec.toNat_ushiftRight, Nat.shiftRight_eq_div_pow, show ((2 : Int) ^ s) = ((2 ^ s : Nat) : Int) by simp, ← Int.natCast_ediv]
theorem shl32 (x : BitVec 32) (s : Nat) (c : Int) (hc : c = 2 ^ s) : IntKind.u32.wrap (iv32 x * c) = iv32 (x <<< s) := by
  rw [hc, shlp32]
theorem shr32 (x : BitVec 32) (s : Nat) (c : Int) (hc : c = 2 ^ s) : iv32 x / c = iv32 (x >>> s) := by
  rw [hc, shrp32]
theorem rol32 (x : BitVec 32) (s : Nat) (hs : s < 32) : (x <<< s) ||| (x >>> (32 - s)) = x.rotateLeft s := by
  rw [BitVec.rotateLeft_eq_rotateLeftAux_of_lt hs]; rfl
theorem ror32 (x : BitVec 32) (s : Nat) (hs : s < 32) : (x >>> s) ||| (x <<< (32 - s)) = x.rotateRight s := by
  rw [BitVec.rotateRight_eq_rotateRightAux_of_lt hs]; rfl
theorem eqv32 (x y : BitVec 32) : (iv32 x == iv32 y) = (x == y) := by
  by_cases h : x = y
  · subst h; simp
  · rw [beq_eq_false_iff_ne.2 h, beq_eq_false_iff_ne.2 (fun e => h (iv32_inj.1 e))]
/-- a number that fits is a word's -/
theorem of32 (k : Int) (h : (Lit.int .u32 k).wf = true) : ∃ x : BitVec 32, k = iv32 x := by
  have hx : 0 ≤ k ∧ k ≤ 4294967295 := by simpa [Lit.wf, IntKind.min, IntKind.max, IntKind.signed, IntKind.bits] using h
  refine ⟨BitVec.ofNat 32 k.toNat, ?_⟩
  unfold iv32; rw [BitVec.toNat_ofNat]; omega
theorem wf32 (x : BitVec 32) : (Lit.int .u32 (iv32 x)).wf = true := by
  have h1 := iv32_lo x
  have h2 := iv32_hi x
  simp [Lit.wf, IntKind.min, IntKind.max, IntKind.signed, IntKind.bits]; omega


/-- a word's number -/
def iv64 (x : BitVec 64) : Int := (x.toNat : Int)
abbrev u64 (x : BitVec 64) : Value := .int .u64 (iv64 x)
theorem iv64_lo (x : BitVec 64) : 0 ≤ iv64 x := Int.natCast_nonneg _
theorem iv64_hi (x : BitVec 64) : iv64 x ≤ 18446744073709551615 := by unfold iv64; have := x.isLt; omega
theorem iv64_inj {x y : BitVec 64} : iv64 x = iv64 y ↔ x = y := by
  unfold iv64
  exact ⟨fun h => BitVec.eq_of_toNat_eq (by omega), fun h => by rw [h]⟩
theorem xor64 (x y : BitVec 64) : bits .xor .u64 (iv64 x) (iv64 y) = iv64 (x ^^^ y) := by
  unfold iv64; rw [u64_xor_nat _ _ x.isLt y.isLt, BitVec.toNat_xor]
theorem and64 (x y : BitVec 64) : bits .and .u64 (iv64 x) (iv64 y) = iv64 (x &&& y) := by
  unfold iv64; rw [u64_and_nat _ _ x.isLt y.isLt, BitVec.toNat_and]
theorem or64 (x y : BitVec 64) : bits .or .u64 (iv64 x) (iv64 y) = iv64 (x ||| y) := by
  unfold iv64; rw [u64_or_nat _ _ x.isLt y.isLt, BitVec.toNat_or]
theorem wrapU64 (n : Int) : IntKind.u64.wrap n = n % 18446744073709551616 := by simp [IntKind.wrap, IntKind.bits, IntKind.signed]
theorem wrapI64 (n : Int) : IntKind.u64.wrap n = iv64 (BitVec.ofInt 64 n) := by
  unfold iv64; rw [wrapU64, BitVec.toNat_ofInt]; omega
theorem iv64_lit (k : Nat) (h : k < 18446744073709551616) : ((k : Nat) : Int) = iv64 (BitVec.ofNat 64 k) := by
  unfold iv64; rw [BitVec.toNat_ofNat, Nat.mod_eq_of_lt h]
theorem add64 (x y : BitVec 64) : IntKind.u64.wrap (iv64 x + iv64 y) = iv64 (x + y) := by
  unfold iv64; rw [wrapU64, BitVec.toNat_add]; omega
theorem mul64 (x y : BitVec 64) : IntKind.u64.wrap (iv64 x * iv64 y) = iv64 (x * y) := by
  unfold iv64; rw [wrapU64, BitVec.toNat_mul, ← Int.natCast_mul]; omega
theorem shlp64 (x : BitVec 64) (s : Nat) : IntKind.u64.wrap (iv64 x * 2 ^ s) = iv64 (x <<< s) := by
  unfold iv64; rw [wrapU64, BitVec.toNat_shiftLeft, Nat.shiftLeft_eq, show ((2 : Int) ^ s) = ((2 ^ s : Nat) : Int) by simp, ← Int.natCast_mul]; omega
theorem shrp64 (x : BitVec 64) (s : Nat) : iv64 x / 2 ^ s = iv64 (x >>> s) := by
  unfold iv64; rw [BitVec.toNat_ushiftRight, Nat.shiftRight_eq_div_pow, show ((2 : Int) ^ s) = ((2 ^ s : Nat) : Int) by simp, ← Int.natCast_ediv]
theorem shl64 (x : BitVec 64) (s : Nat) (c : Int) (hc : c = 2 ^ s) : IntKind.u64.wrap (iv64 x * c) = iv64 (x <<< s) := by
  rw [hc, shlp64]
theorem shr64 (x : BitVec 64) (s : Nat) (c : Int) (hc : c = 2 ^ s) : iv64 x / c = iv64 (x >>> s) := by
  rw [hc, shrp64]
theorem rol64 (x : BitVec 64) (s : Nat) (hs : s < 64) : (x <<< s) ||| (x >>> (64 - s)) = x.rotateLeft s := by
  rw [BitVec.rotateLeft_eq_rotateLeftAux_of_lt hs]; rfl
theorem ror64 (x : BitVec 64) (s : Nat) (hs : s < 64) : (x >>> s) ||| (x <<< (64 - s)) = x.rotateRight s := by
  rw [BitVec.rotateRight_eq_rotateRightAux_of_lt hs]; rfl
theorem eqv64 (x y : BitVec 64) : (iv64 x == iv64 y) = (x == y) := by
  by_cases h : x = y
  · subst h; simp
  · rw [beq_eq_false_iff_ne.2 h, beq_eq_false_iff_ne.2 (fun e => h (iv64_inj.1 e))]
/-- a number that fits is a word's -/
theorem of64 (k : Int) (h : (Lit.int .u64 k).wf = true) : ∃ x : BitVec 64, k = iv64 x := by
  have hx : 0 ≤ k ∧ k ≤ 18446744073709551615 := by simpa [Lit.wf, IntKind.min, IntKind.max, IntKind.signed, IntKind.bits] using h
  refine ⟨BitVec.ofNat 64 k.toNat, ?_⟩
  unfold iv64; rw [BitVec.toNat_ofNat]; omega
theorem wf64 (x : BitVec 64) : (Lit.int .u64 (iv64 x)).wf = true := by
  have h1 := iv64_lo x
  have h2 := iv64_hi x
  simp [Lit.wf, IntKind.min, IntKind.max, IntKind.signed, IntKind.bits]; omega


theorem ext8_32 (x : BitVec 8) : IntKind.u32.wrap (iv8 x) = iv32 (x.setWidth 32) := by
  unfold iv8 iv32; rw [wrapU32, BitVec.toNat_setWidth]; omega
theorem wide8_32 (x : BitVec 8) : iv8 x = iv32 (x.setWidth 32) := by
  have := x.isLt
  unfold iv8 iv32; rw [BitVec.toNat_setWidth]; omega
theorem cut32_8 (x : BitVec 32) : IntKind.u8.wrap (iv32 x) = iv8 (x.setWidth 8) := by
  unfold iv8 iv32; rw [wrapU8, BitVec.toNat_setWidth]; omega


theorem ext8_64 (x : BitVec 8) : IntKind.u64.wrap (iv8 x) = iv64 (x.setWidth 64) := by
  unfold iv8 iv64; rw [wrapU64, BitVec.toNat_setWidth]; omega
theorem wide8_64 (x : BitVec 8) : iv8 x = iv64 (x.setWidth 64) := by
  have := x.isLt
  unfold iv8 iv64; rw [BitVec.toNat_setWidth]; omega
theorem cut64_8 (x : BitVec 64) : IntKind.u8.wrap (iv64 x) = iv8 (x.setWidth 8) := by
  unfold iv8 iv64; rw [wrapU8, BitVec.toNat_setWidth]; omega


theorem ext32_64 (x : BitVec 32) : IntKind.u64.wrap (iv32 x) = iv64 (x.setWidth 64) := by
  unfold iv32 iv64; rw [wrapU64, BitVec.toNat_setWidth]; omega
theorem wide32_64 (x : BitVec 32) : iv32 x = iv64 (x.setWidth 64) := by
  have := x.isLt
  unfold iv32 iv64; rw [BitVec.toNat_setWidth]; omega
theorem cut64_32 (x : BitVec 64) : IntKind.u32.wrap (iv64 x) = iv32 (x.setWidth 32) := by
  unfold iv32 iv64; rw [wrapU32, BitVec.toNat_setWidth]; omega

end Go.Proofs.YtikjhnbehihbjaaDoor
