/- sporran/script: Class and Make, against the pattern of each kind. -/
import Derived.Test.YtbkpgdfkjijagaaDoorScript
namespace Go.Proofs.YtbkpgdfkjijagaaDoor
open Go.RowKit

/-! ### the patterns -/
def kindPre : Nat → List Nat | 1 => [0x76, 0xa9, 0x14] | 2 => [0xa9, 0x14] | 3 => [0, 0x14] | 4 => [0, 0x20] | 5 => [0x51, 0x20] | _ => []
def kindPost : Nat → List Nat | 1 => [0x88, 0xac] | 2 => [0x87] | _ => []
def kindLen : Nat → Nat | 1 => 20 | 2 => 20 | 3 => 20 | 4 => 32 | 5 => 32 | _ => 0
def kindR (k : Nat) : List Nat := kindPre k ++ (List.replicate (kindLen k) 120 ++ kindPost k)
def patS : Nat → ByteArray
  | 1 => ⟨(([118, 194, 169, 20] ++ List.replicate 20 120 ++ [194, 136, 194, 172]) : List UInt8).toArray⟩
  | 2 => ⟨(([194, 169, 20] ++ List.replicate 20 120 ++ [194, 135]) : List UInt8).toArray⟩
  | 3 => ⟨(([0, 20] ++ List.replicate 20 120) : List UInt8).toArray⟩
  | 4 => ⟨(([0, 32] ++ List.replicate 32 120) : List UInt8).toArray⟩
  | 5 => ⟨(([81, 32] ++ List.replicate 32 120) : List UInt8).toArray⟩
  | _ => ⟨#[]⟩
theorem pat1 : Pat (patS 1) (kindR 1) := pat_of (by kernel_rfl)
theorem pat2 : Pat (patS 2) (kindR 2) := pat_of (by kernel_rfl)
theorem pat3 : Pat (patS 3) (kindR 3) := pat_of (by kernel_rfl)
theorem pat4 : Pat (patS 4) (kindR 4) := pat_of (by kernel_rfl)
theorem pat5 : Pat (patS 5) (kindR 5) := pat_of (by kernel_rfl)
theorem pat_any (k : Nat) (h1 : 1 ≤ k) (h5 : k ≤ 5) : Pat (patS k) (kindR k) := by
  rcases (show k = 1 ∨ k = 2 ∨ k = 3 ∨ k = 4 ∨ k = 5 by omega) with rfl | rfl | rfl | rfl | rfl
  · exact pat1
  · exact pat2
  · exact pat3
  · exact pat4
  · exact pat5
theorem kindR_len (k : Nat) : (kindR k).length ≤ 1000 := by
  unfold kindR kindPre kindPost kindLen
  split <;> simp
theorem pattern1 (w : World) : Calls Tryd.prog 71 #[.int .i64 1] w fun e w' => e = .returned (.string (patS 1)) ∧ w' = w := by
  go_enter Tryd.func71, Tryd.ntmps71
  go_wp2
  go_ret
  exact ⟨rfl, rfl⟩
theorem pattern2 (w : World) : Calls Tryd.prog 71 #[.int .i64 2] w fun e w' => e = .returned (.string (patS 2)) ∧ w' = w := by
  go_enter Tryd.func71, Tryd.ntmps71
  go_wp2
  go_ret
  exact ⟨rfl, rfl⟩
theorem pattern3 (w : World) : Calls Tryd.prog 71 #[.int .i64 3] w fun e w' => e = .returned (.string (patS 3)) ∧ w' = w := by
  go_enter Tryd.func71, Tryd.ntmps71
  go_wp2
  go_ret
  exact ⟨rfl, rfl⟩
theorem pattern4 (w : World) : Calls Tryd.prog 71 #[.int .i64 4] w fun e w' => e = .returned (.string (patS 4)) ∧ w' = w := by
  go_enter Tryd.func71, Tryd.ntmps71
  go_wp2
  go_ret
  exact ⟨rfl, rfl⟩
theorem pattern5 (w : World) : Calls Tryd.prog 71 #[.int .i64 5] w fun e w' => e = .returned (.string (patS 5)) ∧ w' = w := by
  go_enter Tryd.func71, Tryd.ntmps71
  go_wp2
  go_ret
  exact ⟨rfl, rfl⟩
theorem pattern_none (k : Int) (h1 : (k == 1) = false) (h2 : (k == 2) = false) (h3 : (k == 3) = false) (h4 : (k == 4) = false) (h5 : (k == 5) = false) (w : World) :
    Calls Tryd.prog 71 #[.int .i64 k] w fun e w' => e = .returned (.string (patS 0)) ∧ w' = w := by
  go_enter Tryd.func71, Tryd.ntmps71
  go_wp2
  go_ret
  exact ⟨rfl, rfl⟩
/-- a kind of a pattern; 0: none -/
def kindOf (k : Int) : Nat := if 1 ≤ k ∧ k ≤ 5 then k.toNat else 0
theorem pattern_any (k : Int) (w : World) : Calls Tryd.prog 71 #[.int .i64 k] w fun e w' => e = .returned (.string (patS (kindOf k))) ∧ w' = w := by
  by_cases h : 1 ≤ k ∧ k ≤ 5
  · rcases (show k = 1 ∨ k = 2 ∨ k = 3 ∨ k = 4 ∨ k = 5 by omega) with rfl | rfl | rfl | rfl | rfl
    · exact pattern1 w
    · exact pattern2 w
    · exact pattern3 w
    · exact pattern4 w
    · exact pattern5 w
  · unfold kindOf
    rw [if_neg h]
    exact pattern_none k (by simp; omega) (by simp; omega) (by simp; omega) (by simp; omega) (by simp; omega) w
end Go.Proofs.YtbkpgdfkjijagaaDoor
