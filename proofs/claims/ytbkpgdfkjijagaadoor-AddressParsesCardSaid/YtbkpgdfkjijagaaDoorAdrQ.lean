/- Plain: the check sum of an address of bits; groups of bits. -/
import Derived.Test.YtbkpgdfkjijagaaDoorAdrP
namespace Go.Proofs.YtbkpgdfkjijagaaDoor

/-! ### the check sum's number -/
def pickN (b : Bool) (g : Nat) : Nat := if b then g else 0
theorem pickN_xor (b c : Bool) (g : Nat) : pickN (b ^^ c) g = pickN b g ^^^ pickN c g := by
  cases b <;> cases c <;> simp [pickN]
def gens : List Nat := [996825010, 642813549, 513874426, 1027748829, 705979059]
/-- a further number, behind k of the five -/
def stepK (n x : Nat) : Nat → Nat
  | 0 => ((n &&& 33554431) <<< 5) ^^^ x
  | k + 1 => stepK n x k ^^^ pickN ((n >>> 25).testBit k) (gens.getD k 0)
def stepP (n x : Nat) : Nat := stepK n x 5
theorem xor_swap4 (a b c d : Nat) : (a ^^^ b) ^^^ (c ^^^ d) = (a ^^^ c) ^^^ (b ^^^ d) := by
  apply Nat.eq_of_testBit_eq
  intro i
  simp only [Nat.testBit_xor]
  cases a.testBit i <;> cases b.testBit i <;> cases c.testBit i <;> cases d.testBit i <;> rfl
theorem stepK_xor (n m x y : Nat) : ∀ k, stepK (n ^^^ m) (x ^^^ y) k = stepK n x k ^^^ stepK m y k
  | 0 => by
    unfold stepK
    rw [← xor_swap4]
    congr 1
    apply Nat.eq_of_testBit_eq
    intro i
    simp only [Nat.testBit_xor, Nat.testBit_shiftLeft, Nat.testBit_and]
    cases decide (i ≥ 5) <;> cases n.testBit (i - 5) <;> cases m.testBit (i - 5) <;> cases (33554431 : Nat).testBit (i - 5) <;> rfl
  | k + 1 => by
    unfold stepK
    rw [stepK_xor n m x y k, xor_swap4, ← pickN_xor]
    congr 2
    simp only [Nat.testBit_shiftRight, Nat.testBit_xor]
theorem stepP_xor (n m x y : Nat) : stepP (n ^^^ m) (x ^^^ y) = stepP n x ^^^ stepP m y := stepK_xor n m x y 5
theorem stepK_lt (n x : Nat) (hx : x < 1073741824) : ∀ k, stepK n x k < 1073741824
  | 0 => by
    have h1 : (n &&& 33554431) < 2 ^ 25 := Nat.and_lt_two_pow _ (by decide)
    have h2 : (n &&& 33554431) <<< 5 < 2 ^ 30 := by rw [Nat.shiftLeft_eq]; omega
    exact Nat.xor_lt_two_pow (n := 30) h2 hx
  | k + 1 => by
    refine Nat.xor_lt_two_pow (n := 30) (stepK_lt n x hx k) ?_
    unfold pickN
    split
    · rcases (show k = 0 ∨ k = 1 ∨ k = 2 ∨ k = 3 ∨ k = 4 ∨ 5 ≤ k by omega) with rfl | rfl | rfl | rfl | rfl | h
      · decide
      · decide
      · decide
      · decide
      · decide
      · rw [List.getD_eq_getElem?_getD, List.getElem?_eq_none (by simpa [gens] using h)]; decide
    · decide
theorem stepP_lt (n x : Nat) (hx : x < 1073741824) : stepP n x < 1073741824 := stepK_lt n x hx 5
theorem fold_step_lt : ∀ (l : List Nat) (n : Nat), n < 1073741824 → (∀ x ∈ l, x < 32) → l.foldl stepP n < 1073741824
  | [], _, h, _ => h
  | x :: l, n, _, hl => fold_step_lt l _ (stepP_lt n x (by have := hl x (by simp); omega)) (fun y hy => hl y (List.mem_cons_of_mem _ hy))
theorem stepP_small (n x : Nat) (hn : n < 33554432) (hx : x < 32) : stepP n x = 32 * n + x := by
  have h0 : n >>> 25 = 0 := by rw [Nat.shiftRight_eq_div_pow]; omega
  have h1 : n &&& 33554431 = n := by rw [show (33554431 : Nat) = 2 ^ 25 - 1 by decide, Nat.and_two_pow_sub_one_eq_mod]; omega
  have hp : ∀ k, pickN ((n >>> 25).testBit k) (gens.getD k 0) = 0 := fun k => by rw [h0, Nat.zero_testBit]; rfl
  have h2 : stepP n x = (n <<< 5) ^^^ x := by
    unfold stepP
    simp only [stepK, hp, Nat.xor_zero, h1]
  rw [h2]
  apply Nat.eq_of_testBit_eq
  intro i
  rw [show 32 * n + x = 2 ^ 5 * n + x by omega, Nat.testBit_two_pow_mul_add n (by omega : x < 2 ^ 5)]
  simp only [Nat.testBit_xor, Nat.testBit_shiftLeft]
  by_cases h : i < 5
  · rw [if_pos h, decide_eq_false (by omega)]; simp
  · rw [if_neg h, decide_eq_true (by omega), Nat.testBit_lt_two_pow (x := x) (i := i) (Nat.lt_of_lt_of_le (by omega : x < 2 ^ 5) (Nat.pow_le_pow_right (by omega) (by omega)))]; simp
theorem fold_xor : ∀ (l : List Nat) (a b : Nat), l.foldl stepP (a ^^^ b) = (l.map fun _ => 0).foldl stepP a ^^^ l.foldl stepP b
  | [], _, _ => rfl
  | x :: l, a, b => by
    rw [List.foldl_cons, List.map_cons, List.foldl_cons, List.foldl_cons]
    have h := stepP_xor a b 0 x
    rw [Nat.zero_xor] at h
    rw [h, fold_xor l]
theorem fold_small : ∀ (l : List Nat) (n : Nat), (∀ x ∈ l, x < 32) → (n + 1) * 32 ^ l.length ≤ 1073741824 → l.foldl stepP n = l.foldl (fun n x => 32 * n + x) n
  | [], _, _, _ => rfl
  | x :: l, n, hl, hb => by
    have hx := hl x (by simp)
    rw [List.length_cons, Nat.pow_succ] at hb
    have h1 : 0 < 32 ^ l.length := Nat.pow_pos (by decide)
    have h2 : (n + 1) * 32 ≤ 1073741824 := Nat.le_trans (by rw [← Nat.mul_assoc, Nat.mul_right_comm]; exact Nat.le_mul_of_pos_right _ h1) hb
    rw [List.foldl_cons, List.foldl_cons, stepP_small n x (by omega) hx]
    refine fold_small l _ (fun y hy => hl y (List.mem_cons_of_mem _ hy)) (Nat.le_trans ?_ hb)
    rw [Nat.mul_comm (32 ^ l.length) 32, ← Nat.mul_assoc]
    exact Nat.mul_le_mul_right _ (by omega)
theorem total_six (pre six : List Nat) (h6 : six.length = 6) (hs : ∀ x ∈ six, x < 32) : (pre ++ six).foldl stepP 1 = (pre ++ List.replicate 6 0).foldl stepP 1 ^^^ valN 32 six := by
  rw [List.foldl_append, List.foldl_append]
  have h1 := fold_xor six (pre.foldl stepP 1) 0
  rw [Nat.xor_zero] at h1
  rw [h1, fold_small six 0 hs (by rw [h6]; decide), List.map_const', h6]
  rfl
theorem valN_inj {b : Nat} (hb : 1 ≤ b) : ∀ (l r : List Nat), l.length = r.length → (∀ d ∈ l, d < b) → (∀ d ∈ r, d < b) → undigs b l = undigs b r → l = r
  | [], [], _, _, _, _ => rfl
  | [], _ :: _, h, _, _, _ => by cases h
  | _ :: _, [], h, _, _, _ => by cases h
  | x :: l, y :: r, h, hl, hr, he => by
    have hx := hl x (by simp)
    have hy := hr y (by simp)
    rw [undigs, undigs] at he
    have h1 : x = y := by
      have := congrArg (· % b) he
      simp only [Nat.add_mul_mod_self_left, Nat.mod_eq_of_lt hx, Nat.mod_eq_of_lt hy] at this
      exact this
    subst h1
    have h2 : undigs b l = undigs b r := Nat.eq_of_mul_eq_mul_left (by omega : 0 < b) (by omega)
    rw [valN_inj hb l r (by injection h) (fun d hd => hl d (List.mem_cons_of_mem _ hd)) (fun d hd => hr d (List.mem_cons_of_mem _ hd)) h2]
theorem valN_same {b : Nat} (hb : 1 ≤ b) (l r : List Nat) (h : l.length = r.length) (hl : ∀ d ∈ l, d < b) (hr : ∀ d ∈ r, d < b) (he : valN b l = valN b r) : l = r := by
  have h1 := valN_inj hb l.reverse r.reverse (by simpa using h) (fun d hd => hl d (List.mem_reverse.1 hd)) (fun d hd => hr d (List.mem_reverse.1 hd)) (by rw [← valN_rev, ← valN_rev, List.reverse_reverse, List.reverse_reverse]; exact he)
  rw [← List.reverse_reverse l, h1, List.reverse_reverse]
/-- the six letters' numbers of a check sum -/
def sixOf (t : Nat) : List Nat := (List.range 6).map fun i => (t >>> (5 * (5 - i))) &&& 31
theorem sixOf_lt (t : Nat) : ∀ x ∈ sixOf t, x < 32 := fun x hx => by
  obtain ⟨i, _, rfl⟩ := List.mem_map.1 hx
  exact Nat.and_lt_two_pow (n := 5) _ (by decide)
theorem sixOf_len (t : Nat) : (sixOf t).length = 6 := by simp [sixOf]
theorem sixOf_val (t : Nat) (h : t < 1073741824) : valN 32 (sixOf t) = t := by
  have e : ∀ k, (t >>> k) &&& 31 = t / 2 ^ k % 32 := fun k => by rw [show (31 : Nat) = 2 ^ 5 - 1 by decide, Nat.and_two_pow_sub_one_eq_mod, Nat.shiftRight_eq_div_pow]
  show 32 * (32 * (32 * (32 * (32 * (32 * 0 + ((t >>> 25) &&& 31)) + ((t >>> 20) &&& 31)) + ((t >>> 15) &&& 31)) + ((t >>> 10) &&& 31)) + ((t >>> 5) &&& 31)) + ((t >>> 0) &&& 31) = t
  simp only [e]
  omega
/-- six letters are those of the check sum just where the number is as wanted -/
theorem six_iff (pre six : List Nat) (w : Nat) (hw : w < 1073741824) (hp : ∀ x ∈ pre, x < 32) (h6 : six.length = 6) (hs : ∀ x ∈ six, x < 32) :
    (pre ++ six).foldl stepP 1 = w ↔ six = sixOf ((pre ++ List.replicate 6 0).foldl stepP 1 ^^^ w) := by
  rw [total_six pre six h6 hs]
  have hz : (pre ++ List.replicate 6 0).foldl stepP 1 < 1073741824 := fold_step_lt _ _ (by decide) (fun x hx => by
    rcases List.mem_append.1 hx with h | h
    · exact hp x h
    · rw [(List.mem_replicate.1 h).2]; decide)
  generalize (pre ++ List.replicate 6 0).foldl stepP 1 = z at *
  have ht : z ^^^ w < 1073741824 := Nat.xor_lt_two_pow (n := 30) hz hw
  constructor
  · intro h
    refine valN_same (by omega) _ _ (by rw [h6, sixOf_len]) hs (sixOf_lt _) ?_
    rw [sixOf_val _ ht, ← h, ← Nat.xor_assoc, Nat.xor_self, Nat.zero_xor]
  · intro h
    rw [h, sixOf_val _ ht, ← Nat.xor_assoc, Nat.xor_self, Nat.zero_xor]

/-! ### groups of bits -/
/-- bytes out of groups of five: those that are whole, what is left, how many bits that are -/
def b8step (s : List Nat × Nat × Nat) (x : Nat) : List Nat × Nat × Nat :=
  if 8 ≤ s.2.2 + 5 then (s.1 ++ [(32 * s.2.1 + x) / 2 ^ (s.2.2 + 5 - 8)], (32 * s.2.1 + x) % 2 ^ (s.2.2 + 5 - 8), s.2.2 + 5 - 8) else (s.1, 32 * s.2.1 + x, s.2.2 + 5)
def b8all (l : List Nat) : List Nat × Nat × Nat := l.foldl b8step ([], 0, 0)
theorem b8all_app (l : List Nat) (x : Nat) : b8all (l ++ [x]) = b8step (b8all l) x := by unfold b8all; rw [List.foldl_append]; rfl
structure B8 (l : List Nat) (s : List Nat × Nat × Nat) : Prop where
  len : 5 * l.length = 8 * s.1.length + s.2.2
  val : valN 32 l = valN 256 s.1 * 2 ^ s.2.2 + s.2.1
  left : s.2.1 < 2 ^ s.2.2
  bits : s.2.2 < 8
  bytes : ∀ d ∈ s.1, d < 256
theorem b8_ok (l : List Nat) (hl : ∀ x ∈ l, x < 32) : B8 l (b8all l) := by
  rw [← List.reverse_reverse l] at hl ⊢
  generalize l.reverse = r at hl ⊢
  induction r with
  | nil => exact ⟨rfl, rfl, Nat.one_pos, by decide, fun d hd => by cases hd⟩
  | cons x r ih =>
    rw [List.reverse_cons] at hl ⊢
    have ih := ih fun y hy => hl y (List.mem_append_left _ hy)
    have hx := hl x (by simp)
    rw [b8all_app]
    obtain ⟨h1, h2, h3, h4, h5⟩ := ih
    generalize b8all r.reverse = s at *
    obtain ⟨o, n, k⟩ := s
    simp only at h1 h2 h3 h4 h5
    have hm : 32 * n + x < 2 ^ (k + 5) := by
      have : 32 * (n + 1) ≤ 32 * 2 ^ k := Nat.mul_le_mul_left 32 h3
      rw [Nat.pow_add]; omega
    have hv : valN 32 (r.reverse ++ [x]) = valN 256 o * 2 ^ (k + 5) + (32 * n + x) := by
      rw [valN_app, h2, Nat.pow_add, Nat.mul_add, ← Nat.mul_assoc]
      have : 32 * valN 256 o * 2 ^ k = valN 256 o * (2 ^ k * 2 ^ 5) := by rw [Nat.mul_comm (2 ^ k), ← Nat.mul_assoc, Nat.mul_comm 32 (valN 256 o)]
      omega
    unfold b8step
    by_cases hk : 8 ≤ k + 5
    · simp only [if_pos hk]
      have hp : 2 ^ (k + 5) = 2 ^ (k + 5 - 8) * 256 := by rw [show (256 : Nat) = 2 ^ 8 by decide, ← Nat.pow_add]; congr 1; omega
      have hpos : 0 < 2 ^ (k + 5 - 8) := Nat.pow_pos (by omega)
      refine ⟨?_, ?_, Nat.mod_lt _ hpos, by simp only; omega, fun d hd => ?_⟩
      · simp only [List.length_append, List.length_cons, List.length_nil] at h1 ⊢; omega
      · simp only
        rw [hv, valN_app, hp, Nat.add_mul, Nat.add_assoc, Nat.mul_comm ((32 * n + x) / 2 ^ (k + 5 - 8)), Nat.div_add_mod, Nat.mul_comm (2 ^ (k + 5 - 8)) 256, ← Nat.mul_assoc, Nat.mul_comm (valN 256 o) 256]
      · rcases List.mem_append.1 hd with h | h
        · exact h5 d h
        · rw [List.mem_singleton.1 h]
          exact (Nat.div_lt_iff_lt_mul hpos).2 (by rw [Nat.mul_comm 256]; rw [← hp]; exact hm)
    · simp only [if_neg hk]
      refine ⟨?_, hv, hm, by simp only; omega, h5⟩
      simp only [List.length_append, List.length_cons, List.length_nil] at h1 ⊢; omega
/-- groups of five out of bytes: those that are whole, what is left, how many bits that are -/
def f5step (s : List Nat × Nat × Nat) (x : Nat) : List Nat × Nat × Nat :=
  let m := 256 * s.2.1 + x
  let k := s.2.2 + 8
  if 10 ≤ k then (s.1 ++ [m / 2 ^ (k - 5), m / 2 ^ (k - 10) % 32], m % 2 ^ (k - 10), k - 10) else (s.1 ++ [m / 2 ^ (k - 5)], m % 2 ^ (k - 5), k - 5)
def f5all (l : List Nat) : List Nat × Nat × Nat := l.foldl f5step ([], 0, 0)
theorem f5all_app (l : List Nat) (x : Nat) : f5all (l ++ [x]) = f5step (f5all l) x := by unfold f5all; rw [List.foldl_append]; rfl
structure F5 (l : List Nat) (s : List Nat × Nat × Nat) : Prop where
  len : 8 * l.length = 5 * s.1.length + s.2.2
  val : valN 256 l = valN 32 s.1 * 2 ^ s.2.2 + s.2.1
  left : s.2.1 < 2 ^ s.2.2
  bits : s.2.2 < 5
  fives : ∀ d ∈ s.1, d < 32
theorem valN_app2 (b : Nat) (l : List Nat) (x y : Nat) : valN b (l ++ [x, y]) = b * (b * valN b l + x) + y := by
  rw [show l ++ [x, y] = (l ++ [x]) ++ [y] by simp, valN_app, valN_app]
theorem f5_ok (l : List Nat) (hl : ∀ x ∈ l, x < 256) : F5 l (f5all l) := by
  rw [← List.reverse_reverse l] at hl ⊢
  generalize l.reverse = r at hl ⊢
  induction r with
  | nil => exact ⟨rfl, rfl, Nat.one_pos, by decide, fun d hd => by cases hd⟩
  | cons x r ih =>
    rw [List.reverse_cons] at hl ⊢
    have ih := ih fun y hy => hl y (List.mem_append_left _ hy)
    have hx := hl x (by simp)
    rw [f5all_app]
    obtain ⟨h1, h2, h3, h4, h5⟩ := ih
    generalize f5all r.reverse = s at *
    obtain ⟨o, n, k⟩ := s
    simp only at h1 h2 h3 h4 h5
    have hm : 256 * n + x < 2 ^ (k + 8) := by
      have : 256 * (n + 1) ≤ 256 * 2 ^ k := Nat.mul_le_mul_left 256 h3
      rw [Nat.pow_add]; omega
    have hv : valN 256 (r.reverse ++ [x]) = valN 32 o * 2 ^ (k + 8) + (256 * n + x) := by
      rw [valN_app, h2, Nat.pow_add, Nat.mul_add, ← Nat.mul_assoc]
      have : 256 * valN 32 o * 2 ^ k = valN 32 o * (2 ^ k * 2 ^ 8) := by rw [Nat.mul_comm (2 ^ k), ← Nat.mul_assoc, Nat.mul_comm 256 (valN 32 o)]
      omega
    unfold f5step
    have hd5 : (256 * n + x) / 2 ^ (k + 8 - 5) < 32 := by
      refine (Nat.div_lt_iff_lt_mul (Nat.pow_pos (by omega))).2 ?_
      rw [show (32 : Nat) = 2 ^ 5 by decide, ← Nat.pow_add, show 5 + (k + 8 - 5) = k + 8 by omega]; exact hm
    generalize 256 * n + x = m at *
    by_cases hk : 10 ≤ k + 8
    · simp only [if_pos hk]
      have hpos : 0 < 2 ^ (k + 8 - 10) := Nat.pow_pos (by omega)
      have hp2 : 2 ^ (k + 8 - 5) = 2 ^ (k + 8 - 10) * 32 := by rw [show (32 : Nat) = 2 ^ 5 by decide, ← Nat.pow_add]; congr 1; omega
      have hp : 2 ^ (k + 8) = 1024 * 2 ^ (k + 8 - 10) := by rw [show (1024 : Nat) = 2 ^ 10 by decide, ← Nat.pow_add]; congr 1; omega
      refine ⟨?_, ?_, Nat.mod_lt _ hpos, by simp only; omega, fun d hd => ?_⟩
      · simp only [List.length_append, List.length_cons, List.length_nil] at h1 ⊢; omega
      · simp only
        rw [hv, valN_app2, hp, hp2, ← Nat.div_div_eq_div_mul]
        generalize 2 ^ (k + 8 - 10) = q at *
        have e1 := Nat.div_add_mod m q
        have e2 := Nat.div_add_mod (m / q) 32
        generalize m / q / 32 = a at *
        generalize m / q % 32 = b at *
        generalize valN 32 o = v at *
        have : (32 * (32 * v + a) + b) * q = v * (1024 * q) + (32 * a + b) * q := by
          rw [show 32 * (32 * v + a) + b = v * 1024 + (32 * a + b) by omega, Nat.add_mul, Nat.mul_assoc]
        rw [this, e2, Nat.mul_comm (m / q) q]
        omega
      · rcases List.mem_append.1 hd with h | h
        · exact h5 d h
        · rcases List.mem_cons.1 h with rfl | h
          · exact hd5
          · rw [List.mem_singleton.1 h]; exact Nat.mod_lt _ (by decide)
    · simp only [if_neg hk]
      have hpos : 0 < 2 ^ (k + 8 - 5) := Nat.pow_pos (by omega)
      have hp : 2 ^ (k + 8) = 32 * 2 ^ (k + 8 - 5) := by rw [show (32 : Nat) = 2 ^ 5 by decide, ← Nat.pow_add]; congr 1; omega
      refine ⟨?_, ?_, Nat.mod_lt _ hpos, by simp only; omega, fun d hd => ?_⟩
      · simp only [List.length_append, List.length_cons, List.length_nil] at h1 ⊢; omega
      · simp only
        rw [hv, valN_app, hp, Nat.add_mul, Nat.add_assoc, Nat.mul_comm (m / 2 ^ (k + 8 - 5)), Nat.div_add_mod, ← Nat.mul_assoc, Nat.mul_comm (valN 32 o) 32]
      · rcases List.mem_append.1 hd with h | h
        · exact h5 d h
        · rw [List.mem_singleton.1 h]; exact hd5
/-- bytes as groups of five, noughts behind -/
def fivesP (l : List Nat) : List Nat := if 0 < (f5all l).2.2 then (f5all l).1 ++ [(f5all l).2.1 * 2 ^ (5 - (f5all l).2.2)] else (f5all l).1
theorem fivesP_ok (l : List Nat) (hl : ∀ x ∈ l, x < 256) : ∃ pad, pad < 5 ∧ 5 * (fivesP l).length = 8 * l.length + pad ∧ valN 32 (fivesP l) = valN 256 l * 2 ^ pad ∧ ∀ d ∈ fivesP l, d < 32 := by
  obtain ⟨h1, h2, h3, h4, h5⟩ := f5_ok l hl
  unfold fivesP
  generalize f5all l = s at *
  obtain ⟨o, n, k⟩ := s
  simp only at h1 h2 h3 h4 h5 ⊢
  by_cases hk : 0 < k
  · rw [if_pos hk]
    have hp : 2 ^ k * 2 ^ (5 - k) = 32 := by rw [← Nat.pow_add, show k + (5 - k) = 5 by omega]
    have hpos : 0 < 2 ^ (5 - k) := Nat.pow_pos (by omega)
    refine ⟨5 - k, by omega, ?_, ?_, fun d hd => ?_⟩
    · simp only [List.length_append, List.length_cons, List.length_nil]; omega
    · rw [valN_app, h2, Nat.add_mul, Nat.mul_assoc, hp, Nat.mul_comm]
    · rcases List.mem_append.1 hd with h | h
      · exact h5 d h
      · rw [List.mem_singleton.1 h, ← hp]; exact Nat.mul_lt_mul_of_pos_right h3 hpos
  · rw [if_neg hk]
    obtain rfl : k = 0 := by omega
    refine ⟨0, by omega, by omega, ?_, h5⟩
    rw [h2]
    have : n = 0 := by simpa using h3
    omega
/-- groups of which no more than noughts are left are those of their bytes -/
theorem fives_back (l : List Nat) (hl : ∀ x ∈ l, x < 32) (h5 : (b8all l).2.2 < 5) (h0 : (b8all l).2.1 = 0) : fivesP (b8all l).1 = l := by
  obtain ⟨h1, h2, h3, h4, hb⟩ := b8_ok l hl
  obtain ⟨pad, p1, p2, p3, p4⟩ := fivesP_ok (b8all l).1 hb
  rw [h0] at h2
  have e : pad = (b8all l).2.2 ∧ (fivesP (b8all l).1).length = l.length := by omega
  refine valN_same (by omega) _ _ e.2 p4 hl ?_
  rw [p3, h2, e.1]; rfl
end Go.Proofs.YtbkpgdfkjijagaaDoor
