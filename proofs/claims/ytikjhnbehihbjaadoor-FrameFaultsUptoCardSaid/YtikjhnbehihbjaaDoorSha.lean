/- SHA-256: plain; the small functions of both sides: the walks. -/
import Derived.Test.YtikjhnbehihbjaaDoorEarlyB
import Derived.Test.YtikjhnbehihbjaaDoorAggs
import Derived.Deep.DeepCutAuto
import Derived.Deep.CutBlock
namespace Go.Proofs.YtikjhnbehihbjaaDoor
open Go.RowKit

/-- a word rotated right -/
def rr (x : BitVec 32) (n : Nat) : BitVec 32 := x.rotateRight n
theorem rr_bit (x : BitVec 32) (n : Nat) (hn : n < 32) (i : Nat) (hi : i < 32) : (rr x n).getLsbD i = x.getLsbD ((i + n) % 32) := by
  unfold rr
  rw [BitVec.getLsbD_rotateRight, Nat.mod_eq_of_lt hn]
  by_cases h : i < 32 - n
  · simp only [h, decide_true, cond_true]
    rw [Nat.mod_eq_of_lt (by omega), Nat.add_comm]
  · simp only [h, decide_false, cond_false]
    rw [show i - (32 - n) = (i + n) % 32 by omega]
    simp [hi]
theorem rr_zero (x : BitVec 32) : rr x 0 = x := by
  apply BitVec.eq_of_getLsbD_eq
  intro j hj
  rw [rr_bit x 0 (by omega) j hj, Nat.add_zero, Nat.mod_eq_of_lt hj]
theorem rr_succ (x : BitVec 32) (n : Nat) (h : n < 31) : (rr x n >>> 1) ||| (rr x n <<< 31) = rr x (n + 1) := by
  apply BitVec.eq_of_getLsbD_eq
  intro j hj
  rw [rr_bit x (n + 1) (by omega) j hj, BitVec.getLsbD_or, BitVec.getLsbD_ushiftRight, BitVec.getLsbD_shiftLeft]
  by_cases h1 : j < 31
  · rw [rr_bit x n (by omega) (1 + j) (by omega)]
    simp [h1, show (1 + j + n) % 32 = (j + (n + 1)) % 32 by omega]
  · have hj31 : j = 31 := by omega
    subst hj31
    rw [BitVec.getLsbD_of_ge _ (1 + 31) (by omega), rr_bit x n (by omega) (31 - 31) (by omega)]
    simp [show n % 32 = (31 + (n + 1)) % 32 by omega]
theorem rr_or (x : BitVec 32) (n : Nat) (h : n < 32) : (x <<< (32 - n)) ||| (x >>> n) = rr x n := by
  unfold rr
  rw [BitVec.or_comm]
  exact ror32 x n h

set_option maxRecDepth 100000 in
set_option maxHeartbeats 2000000 in
theorem turned_any (x : BitVec 32) (n : Nat) (hn : n < 32) (w : World) :
    Calls Tryd.prog 53 #[u32 x, .int .i64 (n : Int)] w fun e w' => e = .returned (u32 (rr x n)) ∧ w' = w := by
  go_enter Tryd.func53, Tryd.ntmps53
  go_wp2
  go_loopw [0, 6] (fun v i wr => ∃ k : Nat, k ≤ n ∧ i = .int .i64 k ∧ v = u32 (rr x k) ∧ wr = w) (fun _ i _ => n - (intOf i).toNat)
  case atStart => exact ⟨0, by omega, rfl, by rw [rr_zero], rfl⟩
  case round =>
    obtain ⟨k, hk, rfl, rfl, rfl⟩ := hrel
    by_cases hkn : k < n
    · have hlt : (k : Int) < (n : Int) := by omega
      have s1 := shr32 (rr x k) 1 2 (by rfl)
      have s2 := shl32 (rr x k) 31 2147483648 (by rfl)
      have s3 := or32 (rr x k >>> 1) (rr x k <<< 31)
      rw [rr_succ x k (by omega)] at s3
      go_wp2
      go_roundw
      case rel => exact ⟨k + 1, by omega, by go_num, rfl, trivial⟩
      case measure => simp [intOf]; omega
    · obtain rfl : k = n := by omega
      go_wp2
      go_ret
      exact ⟨rfl, rfl⟩
end Go.Proofs.YtikjhnbehihbjaaDoor
