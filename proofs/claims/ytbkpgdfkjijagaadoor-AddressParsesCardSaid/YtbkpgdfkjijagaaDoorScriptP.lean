/- Plain: a script of a kind is its first bytes, its own, its last ones; there and back. -/
import Derived.Test.YtbkpgdfkjijagaaDoorScriptD
namespace Go.Proofs.YtbkpgdfkjijagaaDoor

def bytesOfR (P : List Nat) : List (BitVec 8) := P.map (BitVec.ofNat 8)
def fixedR (P : List Nat) : Prop := ∀ r ∈ P, r ≠ 120 ∧ r < 256
theorem fixed_pre (k : Nat) : fixedR (kindPre k) := by
  unfold fixedR kindPre; split <;> intro r hr <;> simp at hr <;> omega
theorem fixed_post (k : Nat) : fixedR (kindPost k) := by
  unfold fixedR kindPost; split <;> intro r hr <;> simp at hr <;> omega

theorem mk_fix (P R : List Nat) (b : List (BitVec 8)) (h : fixedR P) : mk (P ++ R) b = (mk R b).map (bytesOfR P ++ ·) := by
  induction P with
  | nil => simp [bytesOfR]
  | cons r P ih =>
    have hr := (h r (by simp)).1
    have := ih (fun x hx => h x (by simp [hx]))
    simp only [List.cons_append, mk, if_neg hr, this, bytesOfR, List.map_cons]
    cases mk R b <;> simp
theorem mk_own (n : Nat) (R : List Nat) (b : List (BitVec 8)) : mk (List.replicate n 120 ++ R) b = if n ≤ b.length then (mk R (b.drop n)).map (b.take n ++ ·) else none := by
  induction n generalizing b with
  | zero => simp
  | succ n ih =>
    rw [List.replicate_succ, List.cons_append]
    cases b with
    | nil => simp [mk]
    | cons x b =>
      simp only [mk, if_true, ih b, List.length_cons, List.drop_succ_cons, List.take_succ_cons, Nat.add_le_add_iff_right]
      split
      · cases mk R (b.drop n) <;> simp
      · rfl
theorem mk_end (P : List Nat) (b : List (BitVec 8)) (h : fixedR P) : mk P b = if b = [] then some (bytesOfR P) else none := by
  have := mk_fix P [] b h
  rw [List.append_nil] at this
  rw [this]
  cases b <;> simp [mk]
theorem mk_kind (k : Nat) (b : List (BitVec 8)) : mk (kindR k) b = if b.length = kindLen k then some (bytesOfR (kindPre k) ++ (b ++ bytesOfR (kindPost k))) else none := by
  unfold kindR
  rw [mk_fix _ _ _ (fixed_pre k), mk_own, mk_end _ _ (fixed_post k)]
  by_cases h : b.length = kindLen k
  · rw [if_pos h, if_pos (by omega), if_pos (List.drop_eq_nil_of_le (by omega)), List.take_of_length_le (by omega)]; simp
  · rw [if_neg h]
    by_cases h1 : kindLen k ≤ b.length
    · rw [if_pos h1, if_neg (by intro e; have := congrArg List.length e; simp at this; omega)]; rfl
    · rw [if_neg h1]; rfl

theorem mt_fix (P R : List Nat) (s : List (BitVec 8)) (h : fixedR P) : mt (P ++ R) s = if s.take P.length = bytesOfR P then mt R (s.drop P.length) else none := by
  induction P generalizing s with
  | nil => simp [bytesOfR]
  | cons r P ih =>
    have hr := h r (by simp)
    have ih' := ih (s := s.tail) (fun x hx => h x (by simp [hx]))
    cases s with
    | nil => simp [mt, bytesOfR]
    | cons b s =>
      simp only [List.cons_append, mt, if_neg hr.1, List.length_cons, List.take_succ_cons, List.drop_succ_cons, bytesOfR, List.map_cons, List.cons.injEq]
      rw [List.tail_cons] at ih'
      by_cases hb : b.toNat = r
      · have : b = BitVec.ofNat 8 r := BitVec.eq_of_toNat_eq (by rw [BitVec.toNat_ofNat]; omega)
        rw [if_pos hb, ih']
        simp only [this, true_and, bytesOfR]
        by_cases h1 : List.take P.length s = List.map (BitVec.ofNat 8) P <;> simp [h1]
      · have : b ≠ BitVec.ofNat 8 r := fun e => hb (by rw [e, BitVec.toNat_ofNat]; omega)
        rw [if_neg hb, if_neg (fun e => this e.1)]
theorem mt_own (n : Nat) (R : List Nat) (s : List (BitVec 8)) : mt (List.replicate n 120 ++ R) s = if n ≤ s.length then (mt R (s.drop n)).map (s.take n ++ ·) else none := by
  induction n generalizing s with
  | zero => simp
  | succ n ih =>
    rw [List.replicate_succ, List.cons_append]
    cases s with
    | nil => simp [mt]
    | cons x s =>
      simp only [mt, if_true, ih s, List.length_cons, List.drop_succ_cons, List.take_succ_cons, Nat.add_le_add_iff_right]
      split
      · cases mt R (s.drop n) <;> simp
      · rfl
theorem mt_end (P : List Nat) (s : List (BitVec 8)) (h : fixedR P) : mt P s = if s = bytesOfR P then some [] else none := by
  have := mt_fix P [] s h
  rw [List.append_nil] at this
  rw [this]
  by_cases h1 : s = bytesOfR P
  · have hl : P.length = s.length := by rw [h1]; simp [bytesOfR]
    rw [if_pos h1, hl, List.take_of_length_le (Nat.le_refl _), if_pos h1, List.drop_eq_nil_of_le (Nat.le_refl _)]; rfl
  · rw [if_neg h1]
    by_cases h2 : s.take P.length = bytesOfR P
    · rw [if_pos h2]
      cases hd : s.drop P.length with
      | nil =>
        have := List.take_append_drop P.length s
        rw [hd, List.append_nil, h2] at this
        exact absurd this.symm h1
      | cons x y => rfl
    · rw [if_neg h2]
/-- what a script of a kind is -/
def isKind (k : Nat) (s : List (BitVec 8)) : Prop := s.take (kindPre k).length = bytesOfR (kindPre k) ∧ kindLen k ≤ (s.drop (kindPre k).length).length ∧ (s.drop (kindPre k).length).drop (kindLen k) = bytesOfR (kindPost k)
instance (k : Nat) (s : List (BitVec 8)) : Decidable (isKind k s) := by unfold isKind; infer_instance
theorem mt_kind (k : Nat) (s : List (BitVec 8)) : mt (kindR k) s = if isKind k s then some ((s.drop (kindPre k).length).take (kindLen k)) else none := by
  unfold kindR
  rw [mt_fix _ _ _ (fixed_pre k), mt_own, mt_end _ _ (fixed_post k)]
  by_cases h1 : s.take (kindPre k).length = bytesOfR (kindPre k)
  · rw [if_pos h1]
    by_cases h2 : kindLen k ≤ (s.drop (kindPre k).length).length
    · rw [if_pos h2]
      by_cases h3 : (s.drop (kindPre k).length).drop (kindLen k) = bytesOfR (kindPost k)
      · rw [if_pos h3, if_pos (show isKind k s from ⟨h1, h2, h3⟩)]; simp
      · rw [if_neg h3, if_neg (fun h : isKind k s => h3 h.2.2)]; rfl
    · rw [if_neg h2, if_neg (fun h : isKind k s => h2 h.2.1)]
  · rw [if_neg h1, if_neg (fun h : isKind k s => h1 h.1)]
theorem isKind_made (k : Nat) (b : List (BitVec 8)) (h : b.length = kindLen k) : isKind k (bytesOfR (kindPre k) ++ (b ++ bytesOfR (kindPost k))) ∧ ((bytesOfR (kindPre k) ++ (b ++ bytesOfR (kindPost k))).drop (kindPre k).length).take (kindLen k) = b := by
  have hl : (bytesOfR (kindPre k)).length = (kindPre k).length := by simp [bytesOfR]
  unfold isKind
  rw [← hl, List.take_left, List.drop_left, ← h, List.take_left, List.drop_left]
  exact ⟨⟨rfl, by simp, rfl⟩, rfl⟩
theorem isKind_back (k : Nat) (s : List (BitVec 8)) (h : isKind k s) : bytesOfR (kindPre k) ++ (((s.drop (kindPre k).length).take (kindLen k)) ++ bytesOfR (kindPost k)) = s := by
  rw [← h.2.2, List.take_append_drop, ← h.1, List.take_append_drop]
/-- a script is of one kind alone -/
theorem isKind_one (j k : Nat) (s : List (BitVec 8)) (hj : 1 ≤ j) (hjk : j < k) (hk : k ≤ 5) (h : isKind k s) : ¬ isKind j s := by
  intro h'
  have h1 := h.1
  have h2 := h'.1
  rcases (show k = 2 ∨ k = 3 ∨ k = 4 ∨ k = 5 by omega) with rfl | rfl | rfl | rfl <;> rcases (show j = 1 ∨ j = 2 ∨ j = 3 ∨ j = 4 by omega) with rfl | rfl | rfl | rfl <;> try omega
  all_goals
    match s, h1, h2 with
    | [], h1, h2 => simp [kindPre, bytesOfR] at h1
    | [a], h1, h2 => simp [kindPre, bytesOfR] at h1
    | a :: b :: r, h1, h2 =>
      simp [kindPre, bytesOfR] at h1 h2
      first | (have := h1.1.symm.trans h2.1; revert this; decide) | (have := h1.2.symm.trans h2.2; revert this; decide)
end Go.Proofs.YtbkpgdfkjijagaaDoor
