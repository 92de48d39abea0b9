/- Plain: a count's bytes, read. -/
import Derived.Test.YtamcmckfommlnaaSizeE
namespace Go.Proofs.Ytamcmckfommlnaa

theorem numTo_bit (n : BitVec 64) (L : List (BitVec 8)) (k : Nat) (hL : ∀ i, i < k → L[i]? = some (byteN n i)) (j : Nat) (hj : j < 64) : (numTo L k).getLsbD j = (decide (j < 8 * k) && n.getLsbD j) := by
  induction k with
  | zero => simp [numTo]
  | succ k ih =>
    rw [numTo, hL k (by omega), BitVec.getLsbD_or, ih (fun i hi => hL i (by omega)), BitVec.getLsbD_shiftLeft]
    simp only [Option.getD_some, byteN, BitVec.getLsbD_setWidth, BitVec.getLsbD_ushiftRight]
    by_cases h1 : j < 8 * k
    · simp [h1, show j < 8 * (k + 1) by omega]
    · by_cases h2 : j < 8 * (k + 1)
      · simp [h1, h2, hj, show j - 8 * k < 64 by omega, show j - 8 * k < 8 by omega, show 8 * k + (j - 8 * k) = j by omega]
      · simp [h1, h2, show ¬ (j - 8 * k < 8) by omega]
theorem numTo_low (n : BitVec 64) (k : Nat) (r : List (BitVec 8)) (hn : n.toNat < 2 ^ (8 * k)) : numTo (low n k ++ r) k = n := by
  refine BitVec.eq_of_getLsbD_eq fun j hj => ?_
  rw [numTo_bit n _ k (fun i hi => by simp [low, List.getElem?_append, hi]) j hj]
  by_cases h : j < 8 * k
  · simp [h]
  · have : n.getLsbD j = false := by
      rw [BitVec.getLsbD, Nat.testBit_lt_two_pow]
      exact Nat.lt_of_lt_of_le hn (Nat.pow_le_pow_right (by omega) (by omega))
    simp [h, this]
theorem cutP_enc (n : BitVec 64) (r : List (BitVec 8)) : cutP (enc n ++ r) = (n, r, 0) := by
  have hv : iv64 n = (n.toNat : Int) := rfl
  have key : ∀ (f : BitVec 8) (k : Nat), widthP f = k → 0 < k → n.toNat < 2 ^ (8 * k) → ¬ iv64 n < leastP f → cutP ((f :: low n k) ++ r) = (n, r, 0) := by
    intro f k hw hk0 hn hl
    rw [List.cons_append]
    simp only [cutP, hw]
    rw [if_neg (by omega), if_neg (by simp [low_len]), numTo_low n k r hn, if_neg hl]
    simp [low_len]
  unfold enc
  split
  · rename_i h
    have hb : (n.setWidth 8).toNat = n.toNat := by rw [BitVec.toNat_setWidth]; omega
    have hw : widthP (n.setWidth 8) = 0 := by
      unfold widthP
      rw [if_neg (fun e => by rw [e] at hb; simp at hb; omega), if_neg (fun e => by rw [e] at hb; simp at hb; omega), if_neg (fun e => by rw [e] at hb; simp at hb; omega)]
    simp only [List.cons_append, List.nil_append, cutP, hw, if_true]
    congr 1
    apply BitVec.eq_of_toNat_eq
    rw [BitVec.toNat_setWidth, hb]; omega
  · split
    · exact key 253#8 2 (by decide) (by omega) (by omega) (by rw [show leastP 253#8 = 253 by decide]; omega)
    · split
      · exact key 254#8 4 (by decide) (by omega) (by omega) (by rw [show leastP 254#8 = 65536 by decide]; omega)
      · exact key 255#8 8 (by decide) (by omega) n.isLt (by rw [show leastP 255#8 = 4294967296 by decide]; omega)
theorem cutP_cut (n : BitVec 64) (j : Nat) (hj : j < (enc n).length) : cutP ((enc n).take j) = (0#64, [], 50) := by
  have key : ∀ (f : BitVec 8) (k : Nat), widthP f = k → 0 < k → j < (f :: low n k).length → cutP ((f :: low n k).take j) = (0#64, [], 50) := by
    intro f k hw hk0 hl
    cases j with
    | zero => rfl
    | succ i =>
      rw [List.take_succ_cons]
      simp only [cutP, hw]
      rw [if_neg (by omega), if_pos (by simp [low_len] at hl ⊢; omega)]
  unfold enc at hj ⊢
  split at hj
  · rename_i h
    rw [if_pos h]
    have : j = 0 := by simp at hj; omega
    subst this; rfl
  · rename_i h
    rw [if_neg h]
    split at hj
    · rename_i h2
      rw [if_pos h2]
      exact key 253#8 2 (by decide) (by omega) hj
    · rename_i h2
      rw [if_neg h2]
      split at hj
      · rename_i h3
        rw [if_pos h3]
        exact key 254#8 4 (by decide) (by omega) hj
      · rename_i h3
        rw [if_neg h3]
        exact key 255#8 8 (by decide) (by omega) hj
theorem cutP_wide (n : BitVec 64) : (cutP (255#8 :: low n 8)).2.2 = if iv64 n < 4294967296 then 51 else 0 := by
  have hw : widthP 255#8 = 8 := by decide
  have hl : leastP 255#8 = 4294967296 := by decide
  have hn := numTo_low n 8 [] n.isLt
  rw [List.append_nil] at hn
  simp only [cutP, hw, hl, hn]
  rw [if_neg (by omega), if_neg (by simp [low_len])]
  split <;> rfl
theorem enc_pos (n : BitVec 64) : 0 < (enc n).length := by
  unfold enc
  split
  · simp
  · split
    · simp
    · split <;> simp
end Go.Proofs.Ytamcmckfommlnaa
