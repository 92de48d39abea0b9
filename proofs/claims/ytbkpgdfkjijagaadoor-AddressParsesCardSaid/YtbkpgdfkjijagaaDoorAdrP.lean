/- Plain: bytes as digits of 58, and back: numbers and their digits. -/
import Derived.Test.YtbkpgdfkjijagaaDoorGA
namespace Go.Proofs.YtbkpgdfkjijagaaDoor
set_option linter.unusedVariables false

/-! ### the digits of a number -/
/-- the digits of a number, the lowest first -/
def digs (b n : Nat) : List Nat := if _h : n = 0 ∨ b ≤ 1 then [] else n % b :: digs b (n / b)
termination_by n
decreasing_by exact Nat.div_lt_self (by omega) (by omega)
theorem digs_zero (b : Nat) : digs b 0 = [] := by rw [digs, dif_pos (.inl rfl)]
theorem digs_pos {b n : Nat} (hb : 2 ≤ b) (hn : n ≠ 0) : digs b n = n % b :: digs b (n / b) := by rw [digs, dif_neg (by omega)]
/-- m times as great, and c more -/
def muls (b m : Nat) : List Nat → Nat → List Nat
  | [], c => digs b c
  | d :: l, c => (c + m * d) % b :: muls b m l ((c + m * d) / b)
theorem muls_digs {b m : Nat} (hb : 2 ≤ b) (hm : 1 ≤ m) (n : Nat) : ∀ c, muls b m (digs b n) c = digs b (m * n + c) := by
  induction n using Nat.strongRecOn with
  | _ n ih =>
    intro c
    by_cases hn : n = 0
    · subst hn; rw [digs_zero, muls, Nat.mul_zero, Nat.zero_add]
    · have h1 : m * n + c ≠ 0 := by have := Nat.le_mul_of_pos_left n (show 0 < m by omega); omega
      have h2 : m * n + c = b * (m * (n / b)) + (c + m * (n % b)) := by
        conv => lhs; rw [← Nat.div_add_mod n b]
        rw [Nat.mul_add, Nat.mul_left_comm]; omega
      rw [digs_pos hb hn, muls, ih (n / b) (Nat.div_lt_self (by omega) (by omega)), digs_pos hb h1, h2, Nat.mul_add_mod, Nat.mul_add_div (by omega)]
theorem digs_lt {b : Nat} (hb : 2 ≤ b) (n : Nat) : ∀ d ∈ digs b n, d < b := by
  induction n using Nat.strongRecOn with
  | _ n ih =>
    by_cases hn : n = 0
    · subst hn; rw [digs_zero]; intro d hd; cases hd
    · rw [digs_pos hb hn]
      intro d hd
      rcases List.mem_cons.1 hd with rfl | hd
      · exact Nat.mod_lt _ (by omega)
      · exact ih _ (Nat.div_lt_self (by omega) (by omega)) d hd
def undigs (b : Nat) : List Nat → Nat
  | [] => 0
  | d :: l => d + b * undigs b l
theorem undigs_digs {b : Nat} (hb : 2 ≤ b) (n : Nat) : undigs b (digs b n) = n := by
  induction n using Nat.strongRecOn with
  | _ n ih =>
    by_cases hn : n = 0
    · subst hn; rw [digs_zero]; rfl
    · rw [digs_pos hb hn, undigs, ih _ (Nat.div_lt_self (by omega) (by omega)), Nat.mod_add_div]
theorem digs_inj {b m n : Nat} (hb : 2 ≤ b) (h : digs b m = digs b n) : m = n := by rw [← undigs_digs hb m, h, undigs_digs hb n]
theorem digs_more {b x n : Nat} (hb : 2 ≤ b) (hx : x < b) (h : x ≠ 0 ∨ n ≠ 0) : digs b (x + b * n) = x :: digs b n := by
  have h0 : x + b * n ≠ 0 := by
    rcases h with h | h
    · omega
    · have := Nat.mul_pos (show 0 < b by omega) (Nat.pos_of_ne_zero h); omega
  rw [digs_pos hb h0, Nat.add_mul_mod_self_left, Nat.mod_eq_of_lt hx, Nat.add_mul_div_left _ _ (by omega), Nat.div_eq_of_lt hx, Nat.zero_add]
/-- digits of which the highest is none of nought -/
theorem digs_undigs {b : Nat} (hb : 2 ≤ b) : ∀ l : List Nat, (∀ d ∈ l, d < b) → (∀ x, l.getLast? = some x → x ≠ 0) → digs b (undigs b l) = l
  | [], _, _ => digs_zero b
  | [x], hl, h => by
    have := h x rfl
    rw [show undigs b [x] = x + b * 0 from rfl, digs_more hb (hl x (by simp)) (.inl this), digs_zero]
  | x :: y :: l, hl, h => by
    have ih := digs_undigs hb (y :: l) (fun d hd => hl d (List.mem_cons_of_mem _ hd)) (fun z hz => h z (by rw [List.getLast?_cons_cons]; exact hz))
    have h0 : undigs b (y :: l) ≠ 0 := fun e => by rw [e, digs_zero] at ih; cases ih
    rw [undigs, digs_more hb (hl x (by simp)) (.inr h0), ih]
theorem digs_last {b : Nat} (hb : 2 ≤ b) (n : Nat) : ∀ x, (digs b n).getLast? = some x → x ≠ 0 := by
  induction n using Nat.strongRecOn with
  | _ n ih =>
    by_cases hn : n = 0
    · subst hn; rw [digs_zero]; intro x h; cases h
    · intro x h
      rw [digs_pos hb hn] at h
      by_cases hq : n / b = 0
      · rw [hq, digs_zero, List.getLast?_singleton] at h
        injection h with h
        rw [← h, Nat.mod_eq_of_lt ((Nat.div_eq_zero_iff_lt (by omega)).1 hq)]
        exact hn
      · have h2 : digs b (n / b) ≠ [] := by rw [digs_pos hb hq]; exact List.cons_ne_nil _ _
        obtain ⟨y, t, hy⟩ := List.exists_cons_of_ne_nil h2
        rw [hy, List.getLast?_cons_cons, ← hy] at h
        exact ih _ (Nat.div_lt_self (by omega) (by omega)) x h
theorem digs_len_le {b : Nat} (hb : 2 ≤ b) : ∀ k n, n < b ^ k → (digs b n).length ≤ k
  | 0, n, h => by rw [show n = 0 by simpa using h, digs_zero]; exact Nat.le_refl _
  | k + 1, n, h => by
    by_cases hn : n = 0
    · subst hn; rw [digs_zero]; exact Nat.zero_le _
    · rw [digs_pos hb hn, List.length_cons]
      exact Nat.succ_le_succ (digs_len_le hb k _ (Nat.div_lt_of_lt_mul (by rw [Nat.pow_succ] at h; rw [Nat.mul_comm]; exact h)))
theorem digs_len_gt {b : Nat} (hb : 2 ≤ b) : ∀ k n, b ^ k ≤ n → k < (digs b n).length
  | 0, n, h => by rw [digs_pos hb (by simp at h; omega)]; exact Nat.succ_pos _
  | k + 1, n, h => by
    have h0 : 0 < b ^ (k + 1) := Nat.pow_pos (by omega)
    rw [digs_pos hb (by omega), List.length_cons]
    exact Nat.succ_lt_succ (digs_len_gt hb k _ ((Nat.le_div_iff_mul_le (by omega)).2 (by rw [← Nat.pow_succ]; exact h)))

/-! ### rows of digits, the highest first -/
def valN (b : Nat) (l : List Nat) : Nat := l.foldl (fun n x => b * n + x) 0
theorem valN_app (b : Nat) (l : List Nat) (x : Nat) : valN b (l ++ [x]) = b * valN b l + x := by unfold valN; rw [List.foldl_append]; rfl
theorem valN_rev (b : Nat) : ∀ l : List Nat, valN b l.reverse = undigs b l
  | [] => rfl
  | d :: l => by rw [List.reverse_cons, valN_app, valN_rev b l, undigs]; omega
theorem valN_zeros (b : Nat) (k : Nat) (l : List Nat) : valN b (List.replicate k 0 ++ l) = valN b l := by
  induction k with
  | zero => rfl
  | succ k ih => rw [List.replicate_succ, List.cons_append]; unfold valN at ih ⊢; rw [List.foldl_cons, Nat.mul_zero, Nat.zero_add]; exact ih
/-- noughts ahead -/
def lead (l : List Nat) : Nat := (l.takeWhile (· == 0)).length
theorem lead_split (l : List Nat) : ∃ r, l = List.replicate (lead l) 0 ++ r ∧ (∀ x, r.head? = some x → x ≠ 0) := by
  induction l with
  | nil => exact ⟨[], rfl, fun x h => by cases h⟩
  | cons a l ih =>
    by_cases ha : a = 0
    · subst ha
      obtain ⟨r, h1, h2⟩ := ih
      refine ⟨r, ?_, h2⟩
      have : lead (0 :: l) = lead l + 1 := by unfold lead; rw [List.takeWhile_cons_of_pos (by rfl)]; rfl
      rw [this, List.replicate_succ, List.cons_append, ← h1]
    · refine ⟨a :: l, ?_, fun x h => by injection h with h; omega⟩
      have : lead (a :: l) = 0 := by unfold lead; rw [List.takeWhile_cons_of_neg (by simpa using ha)]; rfl
      rw [this]; rfl
theorem lead_app (k : Nat) (r : List Nat) (h : ∀ x, r.head? = some x → x ≠ 0) : lead (List.replicate k 0 ++ r) = k := by
  induction k with
  | zero =>
    cases r with
    | nil => rfl
    | cons a r => unfold lead; rw [List.replicate_zero, List.nil_append, List.takeWhile_cons_of_neg (by simpa using h a rfl)]; rfl
  | succ k ih => unfold lead at ih ⊢; rw [List.replicate_succ, List.cons_append, List.takeWhile_cons_of_pos (by rfl), List.length_cons, ih]
theorem lead_le (l : List Nat) : lead l ≤ l.length := by obtain ⟨r, h, _⟩ := lead_split l; have := congrArg List.length h; simp at this; omega
/-- a row is its noughts and its number -/
theorem row_back {b : Nat} (hb : 2 ≤ b) (l : List Nat) (hl : ∀ d ∈ l, d < b) : List.replicate (lead l) 0 ++ (digs b (valN b l)).reverse = l := by
  obtain ⟨r, h1, h2⟩ := lead_split l
  have h3 : valN b l = undigs b r.reverse := by rw [← valN_rev, List.reverse_reverse]; exact (congrArg (valN b) h1).trans (valN_zeros b _ r)
  rw [h3, digs_undigs hb r.reverse (fun d hd => hl d (by rw [h1]; exact List.mem_append_right _ (List.mem_reverse.1 hd))) (fun x hx => h2 x (by rw [← List.getLast?_reverse]; exact hx)), List.reverse_reverse]
  exact h1.symm
theorem row_there {b : Nat} (hb : 2 ≤ b) (k n : Nat) : lead (List.replicate k 0 ++ (digs b n).reverse) = k ∧ valN b (List.replicate k 0 ++ (digs b n).reverse) = n := by
  refine ⟨lead_app k _ (fun x hx => ?_), ?_⟩
  · rw [List.head?_reverse] at hx; exact digs_last hb n x hx
  · rw [valN_zeros, valN_rev, undigs_digs hb]
theorem valN_lt {b : Nat} (hb : 1 ≤ b) (l : List Nat) : (∀ d ∈ l, d < b) → valN b l < b ^ l.length := by
  rw [← List.reverse_reverse l]
  generalize l.reverse = r
  intro h
  rw [valN_rev, List.length_reverse]
  replace h : ∀ d ∈ r, d < b := fun d hd => h d (List.mem_reverse.2 hd)
  induction r with
  | nil => exact Nat.one_pos
  | cons d r ih =>
    have h1 := ih (fun d hd => h d (List.mem_cons_of_mem _ hd))
    have h2 := h d (by simp)
    rw [undigs, List.length_cons, Nat.pow_succ]
    have h3 : b * (undigs b r + 1) ≤ b * b ^ r.length := Nat.mul_le_mul_left b h1
    rw [Nat.mul_add, Nat.mul_one] at h3
    rw [Nat.mul_comm (b ^ r.length) b]
    omega

/-! ### digits of 58 -/
def alph58 : List (BitVec 8) := [49#8, 50#8, 51#8, 52#8, 53#8, 54#8, 55#8, 56#8, 57#8, 65#8, 66#8, 67#8, 68#8, 69#8, 70#8, 71#8, 72#8, 74#8, 75#8, 76#8, 77#8, 78#8, 80#8, 81#8, 82#8, 83#8, 84#8, 85#8, 86#8, 87#8, 88#8, 89#8, 90#8, 97#8, 98#8, 99#8, 100#8, 101#8, 102#8, 103#8, 104#8, 105#8, 106#8, 107#8, 109#8, 110#8, 111#8, 112#8, 113#8, 114#8, 115#8, 116#8, 117#8, 118#8, 119#8, 120#8, 121#8, 122#8]
def dig58 (d : Nat) : BitVec 8 := alph58.getD d 0#8
/-- where a digit stands; 58: it is none -/
def pl58 (c : BitVec 8) : Nat := alph58.idxOf c
theorem pl58_dig (d : Nat) (h : d < 58) : pl58 (dig58 d) = d := by revert h; revert d; decide +kernel
theorem dig58_pl (c : BitVec 8) (h : pl58 c < 58) : dig58 (pl58 c) = c := by revert h; revert c; decide +kernel
theorem pl58_zero (c : BitVec 8) : pl58 c = 0 ↔ c = 49#8 := by revert c; decide +kernel
abbrev nats (bs : List (BitVec 8)) : List Nat := bs.map BitVec.toNat
theorem nats_lt (bs : List (BitVec 8)) : ∀ d ∈ nats bs, d < 256 := fun d hd => by obtain ⟨x, _, rfl⟩ := List.mem_map.1 hd; exact x.isLt
def ofNats (l : List Nat) : List (BitVec 8) := l.map (BitVec.ofNat 8)
theorem ofNats_nats (bs : List (BitVec 8)) : ofNats (nats bs) = bs := by
  unfold ofNats nats
  rw [List.map_map]
  conv => rhs; rw [← List.map_id bs]
  exact List.map_congr_left fun x _ => by simp
theorem nats_ofNats (l : List Nat) (h : ∀ d ∈ l, d < 256) : nats (ofNats l) = l := by
  unfold ofNats nats
  rw [List.map_map]
  conv => rhs; rw [← List.map_id l]
  exact List.map_congr_left fun x hx => by simpa using Nat.mod_eq_of_lt (h x hx)
/-- the digits of bytes -/
def b58 (bs : List (BitVec 8)) : List (BitVec 8) := if 200 < bs.length then [] else List.replicate (lead (nats bs)) 49#8 ++ (digs 58 (valN 256 (nats bs))).reverse.map dig58
/-- the bytes of digits, or the error -/
def unb58 (s : List (BitVec 8)) : List (BitVec 8) × Int := if 300 < s.length then ([], 4) else if s.all (fun c => decide (pl58 c < 58)) then (List.replicate (lead (s.map pl58)) 0#8 ++ ofNats (digs 256 (valN 58 (s.map pl58))).reverse, 0) else ([], 140)
theorem b58_pl {bs : List (BitVec 8)} (h : bs.length ≤ 200) : (b58 bs).map pl58 = List.replicate (lead (nats bs)) 0 ++ (digs 58 (valN 256 (nats bs))).reverse := by
  unfold b58
  rw [if_neg (by omega), List.map_append, List.map_replicate, show pl58 49#8 = 0 by decide +kernel, List.map_map]
  congr 1
  conv => rhs; rw [← List.map_id (digs 58 _).reverse]
  exact List.map_congr_left fun x hx => pl58_dig x (digs_lt (by omega) _ x (List.mem_reverse.1 hx))
theorem b58_all {bs : List (BitVec 8)} (h : bs.length ≤ 200) : (b58 bs).all (fun c => decide (pl58 c < 58)) = true := by
  rw [List.all_eq_true]
  intro c hc
  have h1 : pl58 c ∈ (b58 bs).map pl58 := List.mem_map_of_mem hc
  rw [b58_pl h] at h1
  rcases List.mem_append.1 h1 with h2 | h2
  · rw [(List.mem_replicate.1 h2).2]; rfl
  · exact decide_eq_true (digs_lt (by omega) _ _ (List.mem_reverse.1 h2))
theorem pow_bound (m : Nat) : 256 ^ (2 * m) ≤ 58 ^ (3 * m) := by rw [Nat.pow_mul, Nat.pow_mul]; exact Nat.pow_le_pow_left (by decide) m
theorem digs58_len (m n : Nat) (h : n < 256 ^ m) : (digs 58 n).length ≤ (3 * m + 1) / 2 := by
  refine digs_len_le (by omega) _ _ (Nat.lt_of_lt_of_le h ?_)
  rcases Nat.mod_two_eq_zero_or_one m with e | e
  · have : m = 2 * (m / 2) := by omega
    generalize m / 2 = q at this
    subst this
    refine Nat.le_trans (pow_bound q) (Nat.pow_le_pow_right (by omega) (by omega))
  · have : m = 2 * (m / 2) + 1 := by omega
    generalize m / 2 = q at this
    subst this
    rw [show (3 * (2 * q + 1) + 1) / 2 = 3 * q + 2 by omega, Nat.pow_add, Nat.pow_add]
    exact Nat.mul_le_mul (pow_bound q) (by decide)
theorem b58_len {bs : List (BitVec 8)} (h : bs.length ≤ 200) : (b58 bs).length ≤ 300 := by
  have h1 := congrArg List.length (b58_pl h)
  simp only [List.length_map, List.length_append, List.length_replicate, List.length_reverse] at h1
  rw [h1]
  obtain ⟨r, h2, h3⟩ := lead_split (nats bs)
  have h4 : valN 256 (nats bs) = valN 256 r := (congrArg (valN 256) h2).trans (valN_zeros 256 _ r)
  have h5 : valN 256 r < 256 ^ r.length := valN_lt (by omega) r fun d hd => nats_lt bs d (by rw [h2]; exact List.mem_append_right _ hd)
  have h6 := digs58_len r.length _ h5
  have h7 := congrArg List.length h2
  simp only [List.length_map, List.length_append, List.length_replicate] at h7
  rw [h4]
  omega
/-- there and back -/
theorem unb58_b58 (bs : List (BitVec 8)) (h : bs.length ≤ 200) : unb58 (b58 bs) = (bs, 0) := by
  unfold unb58
  rw [if_neg (by have := b58_len h; omega), if_pos (b58_all h), b58_pl h, (row_there (by omega) _ _).1, (row_there (by omega) _ _).2]
  have h1 := congrArg ofNats (row_back (by omega) (nats bs) (nats_lt bs))
  rw [ofNats_nats] at h1
  conv => rhs; rw [← h1]
  unfold ofNats
  rw [List.map_append, List.map_replicate]
theorem unb58_cases (s : List (BitVec 8)) : (∃ e, unb58 s = ([], e) ∧ e ≠ 0) ∨ ((unb58 s).2 = 0 ∧ s.length ≤ 300 ∧ (∀ c ∈ s, pl58 c < 58) ∧ (unb58 s).1 = List.replicate (lead (s.map pl58)) 0#8 ++ ofNats (digs 256 (valN 58 (s.map pl58))).reverse) := by
  unfold unb58
  by_cases h1 : 300 < s.length
  · rw [if_pos h1]; exact .inl ⟨4, rfl, by decide⟩
  · rw [if_neg h1]
    by_cases h2 : s.all (fun c => decide (pl58 c < 58)) = true
    · rw [if_pos h2]
      exact .inr ⟨rfl, by omega, fun c hc => of_decide_eq_true (List.all_eq_true.1 h2 c hc), rfl⟩
    · rw [if_neg h2]; exact .inl ⟨140, rfl, by decide⟩
/-- back and there -/
theorem b58_unb58 (s : List (BitVec 8)) (h0 : (unb58 s).2 = 0) (hl : (unb58 s).1.length ≤ 200) : b58 (unb58 s).1 = s := by
  rcases unb58_cases s with ⟨e, he, hn⟩ | ⟨_, hs, hd, hv⟩
  · rw [he] at h0; exact absurd h0 hn
  · unfold b58
    rw [if_neg (by omega)]
    have h1 : nats (unb58 s).1 = List.replicate (lead (s.map pl58)) 0 ++ (digs 256 (valN 58 (s.map pl58))).reverse := by
      rw [hv]
      unfold nats
      rw [List.map_append, List.map_replicate]
      congr 1
      exact nats_ofNats _ fun d hd => digs_lt (by omega) _ d (List.mem_reverse.1 hd)
    rw [h1, (row_there (by omega) _ _).1, (row_there (by omega) _ _).2]
    have h2 := congrArg (List.map dig58) (row_back (b := 58) (by omega) (s.map pl58) (fun d hdm => by obtain ⟨x, hx, rfl⟩ := List.mem_map.1 hdm; exact hd x hx))
    rw [List.map_append, List.map_replicate, show dig58 0 = 49#8 by decide +kernel, List.map_map] at h2
    rw [h2]
    conv => rhs; rw [← List.map_id s]
    exact List.map_congr_left fun x hx => dig58_pl x (hd x hx)
theorem b58_inj {x y : List (BitVec 8)} (hx : x.length ≤ 200) (hy : y.length ≤ 200) (h : b58 x = b58 y) : x = y := by
  have h1 := unb58_b58 x hx
  rw [h, unb58_b58 y hy] at h1
  injection h1 with h1
  exact h1.symm
end Go.Proofs.YtbkpgdfkjijagaaDoor
