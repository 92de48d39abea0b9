/- sporranref02.Scale: the high half of a product, bit by bit. -/
import Derived.Test.YtlopmnepodbefaaKit
import Derived.Test.YtlopmnepodbefaaProg
namespace Go.Proofs.Ytlopmnepodbefaa
open Go.RowKit

/-- high and low words hold the product of the bits above k -/
def Held (x n k H L : Nat) : Prop := H * 18446744073709551616 + L = x / 2 ^ k * n
theorem held_small {x n k H L : Nat} (hx : x < 18446744073709551616) (hn : n < 18446744073709551616) (hk : 1 ≤ k) (h : Held x n k H L) : H < 9223372036854775808 := by
  unfold Held at h
  have h1 : x / 2 ^ k ≤ 9223372036854775807 := by
    have h2 : x / 2 ^ k ≤ x / 2 ^ 1 := Nat.div_le_div_left (Nat.pow_le_pow_right (by decide) hk) (by decide)
    omega
  have h3 : x / 2 ^ k * n ≤ 9223372036854775807 * 18446744073709551615 := Nat.mul_le_mul h1 (by omega)
  omega
theorem bit_split (x k : Nat) : x / 2 ^ k = x / 2 ^ (k + 1) * 2 + x / 2 ^ k % 2 := by
  rw [Nat.pow_succ, ← Nat.div_div_eq_div_mul]; omega
theorem twice_add (q n M H L : Nat) (b : Nat) (h : H * M + L = q * n) : (2 * H * M + 2 * L) + b * n = (q * 2 + b) * n := by
  rw [Nat.add_mul, Nat.mul_right_comm q 2 n, ← h, Nat.add_mul, Nat.mul_assoc 2 H M, Nat.mul_comm 2 (H * M), Nat.mul_comm 2 L]
theorem held_step {x n k H L : Nat} (h : Held x n (k + 1) H L) (b : Nat) (hb : x / 2 ^ k % 2 = b) : (2 * H * 18446744073709551616 + 2 * L) + b * n = x / 2 ^ k * n := by
  rw [bit_split x k, hb]
  exact twice_add _ _ _ _ _ _ h
theorem carry_a (M h2 l2 n V T : Nat) (hv : h2 * M + l2 = V) (ht : V + 1 * n = T) : h2 * M + (l2 + n) = T := by omega
theorem carry_b (M h2 l2 n V T : Nat) (hv : h2 * M + l2 = V) (ht : V + 1 * n = T) (hc : M ≤ l2 + n) : (h2 + 1) * M + (l2 + n - M) = T := by
  rw [Nat.add_mul]; omega
theorem carry_c (M h2 l2 n V T : Nat) (hv : h2 * M + l2 = V) (ht : V + 0 * n = T) : h2 * M + l2 = T := by omega
theorem high_lt (M h2 m T : Nat) (_hM : 0 < M) (h : (h2 + 1) * M + m = T) (ht : T < M * M) : h2 + 1 < M := by
  rcases Nat.lt_or_ge (h2 + 1) M with h1 | h1
  · exact h1
  · have := Nat.mul_le_mul_right M h1
    omega
theorem mul_small (a n : Nat) (ha : a < 18446744073709551616) (hn : n < 18446744073709551616) : a * n < 18446744073709551616 * 18446744073709551616 :=
  Nat.lt_of_le_of_lt (Nat.mul_le_mul (Nat.le_of_lt ha) (Nat.le_of_lt_succ hn)) (by decide)
theorem high_div (M H L V : Nat) (hM : 0 < M) (h : H * M + L = V) (hL : L < M) : H = V / M := by
  rw [← h, Nat.mul_comm, Nat.mul_add_div hM, Nat.div_eq_of_lt hL]; rfl
theorem or_top (H L : Nat) (hH : H < 9223372036854775808) (hL : L < 18446744073709551616) : bits .or .u64 (IntKind.u64.wrap ((H : Int) * 2)) ((L : Int) / 9223372036854775808) = ((2 * H + L / 9223372036854775808 : Nat) : Int) := by
  have e1 : IntKind.u64.wrap ((H : Int) * 2) = ((2 * H : Nat) : Int) := by rw [wrapU64]; omega
  have e2 : (L : Int) / 9223372036854775808 = ((L / 9223372036854775808 : Nat) : Int) := by omega
  rw [e1, e2, u64_or_nat _ _ (by omega) (by omega), nat_join 1 (2 * H) _ (by omega) (by omega)]
theorem and_bit (x k : Nat) (hx : x < 18446744073709551616) : (bits .and .u64 ((x : Int) / 2 ^ k) 1 == 1) = decide (x / 2 ^ k % 2 = 1) := by
  have e : ((x : Int) / 2 ^ k) = ((x / 2 ^ k : Nat) : Int) := by
    rw [show ((2 : Int) ^ k) = ((2 ^ k : Nat) : Int) by simp, ← Int.natCast_ediv]
  have hl : x / 2 ^ k < 18446744073709551616 := Nat.lt_of_le_of_lt (Nat.div_le_self _ _) hx
  have := u64_and_nat (x / 2 ^ k) 1 hl (by decide)
  rw [show ((1 : Nat) : Int) = 1 from rfl] at this
  rw [e, this, nat_mask1]
  by_cases h : x / 2 ^ k % 2 = 1
  · rw [h]; rfl
  · rw [decide_eq_false h, beq_eq_false_iff_ne]; omega

set_option maxRecDepth 100000 in
set_option maxHeartbeats 1000000 in
theorem refScale_nat (x n : Nat) (hx : (x : Int) ≤ 18446744073709551615) (hn : (n : Int) ≤ 18446744073709551615) (w : World) :
    Calls Try.prog 15 #[.int .u64 x, .int .u64 n] w fun e w' => e = .returned (.int .u64 ((x * n / 18446744073709551616 : Nat) : Int)) ∧ w' = w := by
  go_enter Try.func15, Try.ntmps15
  go_wp2
  go_loop [5, 6, 7] (fun h l i => ∃ k : Nat, ∃ H L : Nat, i = .int .i64 ((k : Int) - 1) ∧ (k : Int) ≤ 64 ∧ h = .int .u64 H ∧ l = .int .u64 L ∧ (H : Int) ≤ 18446744073709551615 ∧ (L : Int) ≤ 18446744073709551615 ∧ Held x n k H L) (fun _ _ i => (intOf i + 1).toNat)
  case atStart =>
    refine ⟨64, 0, 0, rfl, by omega, rfl, rfl, by omega, by omega, ?_⟩
    unfold Held
    rw [Nat.div_eq_of_lt (by omega)]; omega
  case round =>
    obtain ⟨k, H, L, rfl, hk, rfl, rfl, hH, hL, hI⟩ := hrel
    cases k with
    | zero =>
      go_wp2
      go_ret
      refine ⟨ret_int ?_, rfl⟩
      unfold Held at hI
      rw [Nat.pow_zero, Nat.div_one] at hI
      have h3 := high_div _ _ _ _ (by decide) hI (by omega)
      rw [h3]; simp
    | succ k =>
      have hs := held_small (by omega) (by omega) (by omega) hI
      have ho := or_top H L hs (by omega)
      have ha := and_bit x k (by omega)
      have hw2 : IntKind.u64.wrap ((L : Int) * 2) = ((2 * L % 18446744073709551616 : Nat) : Int) := by rw [wrapU64]; omega
      obtain ⟨l2, hl2⟩ : ∃ l2, l2 = 2 * L % 18446744073709551616 := ⟨_, rfl⟩
      obtain ⟨h2, hh2⟩ : ∃ h2, h2 = 2 * H + L / 9223372036854775808 := ⟨_, rfl⟩
      rw [← hl2] at hw2
      rw [← hh2] at ho
      have hh2l : (h2 : Int) ≤ 18446744073709551615 := by omega
      have hl2l : (l2 : Int) ≤ 18446744073709551615 := by omega
      have hk1 : (((k + 1 : Nat) : Int) - 1) = (k : Int) := by omega
      rw [hk1]
      have hval : h2 * 18446744073709551616 + l2 = 2 * H * 18446744073709551616 + 2 * L := by omega
      have hst := held_step hI
      have HV := Lib.hid hval
      have HT := Lib.hid hst
      clear hh2 hl2 hI hs hk1 hval hst
      have hlt := mul_small (x / 2 ^ k) n (Nat.lt_of_le_of_lt (Nat.div_le_self _ _) (by omega)) (by omega)
      by_cases hb : x / 2 ^ k % 2 = 1
      · rw [decide_eq_true hb] at ha
        have hT := HT.out 1 hb
        by_cases hc : l2 + n < 18446744073709551616
        · have HE : Hid (h2 * 18446744073709551616 + (l2 + n) = x / 2 ^ k * n) := Lib.hid (carry_a _ _ _ _ _ _ HV.out hT)
          clear hT hlt
          go_wp2
          go_round
          case rel => exact ⟨k, h2, l2 + n, rfl, by omega, rfl, by go_num, by omega, by omega, HE.out⟩
          case measure => simp [intOf]
        · have hw3 : IntKind.u64.wrap ((l2 : Int) + (n : Int)) = ((l2 + n - 18446744073709551616 : Nat) : Int) := by rw [wrapU64]; omega
          have HE : Hid ((h2 + 1) * 18446744073709551616 + (l2 + n - 18446744073709551616) = x / 2 ^ k * n) := Lib.hid (carry_b _ _ _ _ _ _ HV.out hT (by omega))
          have hh3 : (h2 : Int) + 1 ≤ 18446744073709551615 := by have := high_lt _ _ _ _ (by decide) HE.out hlt; omega
          obtain ⟨m, hm⟩ : ∃ m, m = l2 + n - 18446744073709551616 := ⟨_, rfl⟩
          rw [← hm] at hw3 HE
          have hmn : (m : Int) < (n : Int) := by omega
          have hml : (m : Int) ≤ 18446744073709551615 := by omega
          have HM := Lib.hid hm
          clear hT hlt hm hc
          go_wp2
          go_round
          case rel => exact ⟨k, h2 + 1, m, rfl, by omega, by go_num, rfl, by omega, hml, HE.out⟩
          case measure => simp [intOf]
      · rw [decide_eq_false hb] at ha
        have hT := HT.out 0 (by omega)
        have HE : Hid (h2 * 18446744073709551616 + l2 = x / 2 ^ k * n) := Lib.hid (carry_c _ _ _ _ _ _ HV.out hT)
        clear hT hlt
        go_wp2
        go_round
        case rel => exact ⟨k, h2, l2, rfl, by omega, rfl, rfl, hh2l, hl2l, HE.out⟩
        case measure => simp [intOf]
end Go.Proofs.Ytlopmnepodbefaa
