/- The tree of hashes, plain: one step of the root; hashes whose last ones are written once more. -/
import Derived.Test.YtifanifgbkpdgaaDoorMerkB
namespace Go.Proofs.YtifanifgbkpdgaaDoor
open Go.RowKit

theorem merkP_step {l : List (List (BitVec 8))} (h : 1 < l.length) : merkP l = ((merkP (up l)).1, oth l || (merkP (up l)).2) := by
  have hu : (up l).length ≠ 0 := by rw [up_len]; omega
  unfold merkP
  rw [if_neg (by omega), if_neg hu, merkN_step h (Nat.le_refl _), merkN_or]
  rw [merkN_fuel l.length (up l).length (up l) false (by rw [up_len]; omega) (Nat.le_refl _), Bool.false_or]
theorem merkP_one {l : List (List (BitVec 8))} (h : l.length = 1) : merkP l = (hA l 0, false) := by
  unfold merkP
  rw [if_neg (by omega), h]
  unfold merkN
  rw [if_pos (by omega)]
theorem hA_left {a b : List (List (BitVec 8))} {i : Nat} (h : i < a.length) : hA (a ++ b) i = hA a i := by unfold hA; rw [List.getElem?_append_left h]
theorem hA_right {a b : List (List (BitVec 8))} {i : Nat} (h : a.length ≤ i) : hA (a ++ b) i = hA b (i - a.length) := by unfold hA; rw [List.getElem?_append_right h]
theorem hA_drop (l : List (List (BitVec 8))) (k i : Nat) : hA (l.drop k) i = hA l (k + i) := by unfold hA; rw [List.getElem?_drop]
theorem upTo_get (l : List (List (BitVec 8))) (m i : Nat) : (upTo l m)[i]? = if i < m then some (upAt l i) else none := by
  unfold upTo
  rw [List.getElem?_map]
  by_cases h : i < m
  · rw [if_pos h, List.getElem?_range h]; rfl
  · rw [if_neg h, List.getElem?_eq_none (by simpa using h)]; rfl
def twice (l : List (List (BitVec 8))) (w : Nat) : List (List (BitVec 8)) := l ++ l.drop (l.length - w)
theorem twice_len {l : List (List (BitVec 8))} {w : Nat} (h : w ≤ l.length) : (twice l w).length = l.length + w := by unfold twice; rw [List.length_append, List.length_drop]; omega
theorem up_twice {l : List (List (BitVec 8))} {a b : Nat} (hl : l.length = 2 * a) (hb : b ≤ a) : up (twice l (2 * b)) = twice (up l) b := by
  have hul : (up l).length = a := by rw [up_len]; omega
  have htl : (twice l (2 * b)).length = 2 * a + 2 * b := by rw [twice_len (by omega), hl]
  refine List.ext_getElem? fun i => ?_
  rw [up, htl, show (2 * a + 2 * b + 1) / 2 = a + b by omega, upTo_get]
  by_cases h : i < a
  · rw [if_pos (by omega)]
    unfold twice
    rw [List.getElem?_append_left (by omega), up, hl, show (2 * a + 1) / 2 = a by omega, upTo_get, if_pos h]
    have e1 : hA (l ++ l.drop (l.length - 2 * b)) (2 * i) = hA l (2 * i) := hA_left (by omega)
    have e2 : hA (l ++ l.drop (l.length - 2 * b)) (min (2 * i + 1) ((l ++ l.drop (l.length - 2 * b)).length - 1)) = hA l (min (2 * i + 1) (l.length - 1)) := by
      have : (l ++ l.drop (l.length - 2 * b)).length = 2 * a + 2 * b := htl
      rw [this, show min (2 * i + 1) (2 * a + 2 * b - 1) = 2 * i + 1 by omega, show min (2 * i + 1) (l.length - 1) = 2 * i + 1 by omega, hA_left (by omega)]
    unfold upAt
    rw [hl] at e1 e2
    rw [hl, e1, e2]
  · unfold twice
    rw [List.getElem?_append_right (by omega), hul, List.getElem?_drop, up, hl, show (2 * a + 1) / 2 = a by omega, upTo_get]
    by_cases h2 : i < a + b
    · rw [if_pos h2, if_pos (by omega)]
      have e1 : hA (l ++ l.drop (l.length - 2 * b)) (2 * i) = hA l (2 * (a - b + (i - a))) := by
        rw [hA_right (by omega), hA_drop, hl]; congr 1; omega
      have e2 : hA (l ++ l.drop (l.length - 2 * b)) (min (2 * i + 1) ((l ++ l.drop (l.length - 2 * b)).length - 1)) = hA l (min (2 * (a - b + (i - a)) + 1) (l.length - 1)) := by
        have : (l ++ l.drop (l.length - 2 * b)).length = 2 * a + 2 * b := htl
        rw [this, hA_right (by omega), hA_drop, hl]; congr 1; omega
      unfold upAt
      rw [hl] at e1 e2
      rw [hl, e1, e2]
    · rw [if_neg h2, if_neg (by omega)]
theorem up_last {l : List (List (BitVec 8))} {m : Nat} (hl : l.length = 2 * m + 1) : up (twice l 1) = up l ∧ oth (twice l 1) = true := by
  have htl : (twice l 1).length = 2 * m + 2 := by rw [twice_len (by omega), hl]
  have htl' : (l ++ l.drop (l.length - 1)).length = 2 * m + 2 := htl
  have hlast : hA (twice l 1) (2 * m + 1) = hA l (2 * m) := by
    unfold twice
    rw [hA_right (by omega), hA_drop]; congr 1; omega
  have hleft : ∀ i, i ≤ 2 * m → hA (twice l 1) i = hA l i := fun i hi => hA_left (by omega)
  constructor
  · refine List.ext_getElem? fun i => ?_
    rw [up, htl, up, hl, show (2 * m + 2 + 1) / 2 = m + 1 by omega, show (2 * m + 1 + 1) / 2 = m + 1 by omega, upTo_get, upTo_get]
    by_cases h : i < m + 1
    · rw [if_pos h, if_pos h]
      have e2 : hA (twice l 1) (min (2 * i + 1) ((twice l 1).length - 1)) = hA l (min (2 * i + 1) (l.length - 1)) := by
        rw [htl, hl]
        by_cases hi : i = m
        · subst hi
          rw [show min (2 * i + 1) (2 * i + 2 - 1) = 2 * i + 1 by omega, show min (2 * i + 1) (2 * i + 1 - 1) = 2 * i by omega, hlast]
        · rw [show min (2 * i + 1) (2 * m + 2 - 1) = 2 * i + 1 by omega, show min (2 * i + 1) (2 * m + 1 - 1) = 2 * i + 1 by omega, hleft _ (by omega)]
      unfold upAt
      rw [e2, hleft _ (by omega)]
    · rw [if_neg h, if_neg h]
  · unfold oth
    rw [htl, show (2 * m + 2 + 1) / 2 = m + 1 by omega, othTo_succ]
    unfold othAt
    rw [htl, hlast, hleft _ (by omega)]
    simp
theorem merk_twice (n : Nat) (hn : n % 2 = 1) (hn3 : 3 ≤ n) : ∀ (k : Nat) (l : List (List (BitVec 8))), l.length = n * 2 ^ k → merkP (twice l (2 ^ k)) = ((merkP l).1, true)
  | 0, l, hl => by
    rw [Nat.pow_zero, Nat.mul_one] at hl
    obtain ⟨m, hm⟩ : ∃ m, n = 2 * m + 1 := ⟨n / 2, by omega⟩
    have hu := up_last (l := l) (m := m) (by omega)
    rw [Nat.pow_zero, merkP_step (l := twice l 1) (by rw [twice_len (by omega)]; omega), merkP_step (l := l) (by omega), hu.1, hu.2]
    simp
  | k + 1, l, hl => by
    have hp : 0 < 2 ^ k := Nat.two_pow_pos k
    have hnp : 2 ^ k ≤ n * 2 ^ k := Nat.le_mul_of_pos_left _ (by omega)
    have hl2 : l.length = 2 * (n * 2 ^ k) := by rw [hl, Nat.pow_succ]; simp [Nat.mul_comm, Nat.mul_left_comm]
    have hu : up (twice l (2 ^ (k + 1))) = twice (up l) (2 ^ k) := by
      rw [show 2 ^ (k + 1) = 2 * 2 ^ k by rw [Nat.pow_succ, Nat.mul_comm]]
      exact up_twice hl2 hnp
    have h1 : 1 < l.length := by omega
    have h2 : 1 < (twice l (2 ^ (k + 1))).length := by unfold twice; rw [List.length_append]; omega
    rw [merkP_step h2, merkP_step h1, hu, merk_twice n hn hn3 k (up l) (by rw [up_len, hl2]; omega)]
    simp
end Go.Proofs.YtifanifgbkpdgaaDoor
