/- sporranlaw13: ScriptSizes, ScriptBack: the walks. -/
import Derived.Test.YtbkpgdfkjijagaaDoorScriptP
namespace Go.Proofs.YtbkpgdfkjijagaaDoor
open Go.RowKit

theorem clsFrom_none (bs : List (BitVec 8)) (m : Nat) (h : ∀ k, 1 ≤ k → k ≤ 5 → mt (kindR k) bs = none) (hm : m ≤ 5) : clsFrom bs m = clsData bs := by
  induction m with
  | zero => rfl
  | succ m ih => simp only [clsFrom, h (5 - m) (by omega) (by omega)]; exact ih (by omega)
theorem clsFrom_kind (bs : List (BitVec 8)) (k : Nat) (h1 : 1 ≤ k) (h5 : k ≤ 5) (hk : isKind k bs) : cls bs = (k, (bs.drop (kindPre k).length).take (kindLen k)) := by
  have key : ∀ m, m ≤ 5 → 5 - m < k → clsFrom bs m = (k, (bs.drop (kindPre k).length).take (kindLen k)) := by
    intro m
    induction m with
    | zero => intro _ h; omega
    | succ m ih =>
      intro hm hlt
      by_cases he : 5 - m = k
      · simp only [clsFrom, he, mt_kind k bs, if_pos hk]
      · have hn : ¬ isKind (5 - m) bs := isKind_one (5 - m) k bs (by omega) (by omega) h5 hk
        simp only [clsFrom, mt_kind (5 - m) bs, if_neg hn]
        exact ih (by omega) (by omega)
  exact key 5 (by omega) (by omega)
theorem cls_cases (bs : List (BitVec 8)) : (∃ k, 1 ≤ k ∧ k ≤ 5 ∧ isKind k bs) ∨ cls bs = clsData bs := by
  by_cases h : ∃ k, 1 ≤ k ∧ k ≤ 5 ∧ isKind k bs
  · exact .inl h
  · refine .inr (clsFrom_none bs 5 (fun k h1 h5 => ?_) (by omega))
    rw [mt_kind, if_neg (fun hk => h ⟨k, h1, h5, hk⟩)]
theorem around_len (k : Nat) : (kindPre k).length + (kindPost k).length ≤ 5 := by
  match k with
  | 0 | 1 | 2 | 3 | 4 | 5 => decide
  | k + 6 => simp [kindPre, kindPost]
/-- a script of a kind, read -/
theorem cls_back (K : Int) (h1 : 1 ≤ K) (h6 : K ≤ 6) (b t : List (BitVec 8)) (h : made K b = some t) : cls t = (K.toNat, b) ∧ t.length ≤ b.length + 5 := by
  unfold made at h
  by_cases hK : K = 6
  · rw [if_pos hK] at h
    injection h with h
    subst h
    subst hK
    refine ⟨?_, by simp⟩
    rcases cls_cases (106#8 :: b) with ⟨k, hk1, hk5, hk⟩ | hd
    · have := hk.1
      rcases (show k = 1 ∨ k = 2 ∨ k = 3 ∨ k = 4 ∨ k = 5 by omega) with rfl | rfl | rfl | rfl | rfl <;> simp [kindPre, bytesOfR] at this
    · rw [hd]; simp [clsData]
  · rw [if_neg hK] at h
    have hk0 : kindOf K = K.toNat := by unfold kindOf; rw [if_pos (by omega)]
    rw [if_neg (by omega), mk_kind] at h
    by_cases hl : b.length = kindLen (kindOf K)
    · rw [if_pos hl] at h
      injection h with h
      subst h
      obtain ⟨i1, i2⟩ := isKind_made (kindOf K) b hl
      refine ⟨?_, ?_⟩
      · rw [clsFrom_kind _ (kindOf K) (by omega) (by omega) i1, i2, hk0]
      · simp only [List.length_append, bytesOfR, List.length_map]
        have := around_len (kindOf K)
        omega
    · rw [if_neg hl] at h; cases h
/-- what was read, made -/
theorem made_back (s y : List (BitVec 8)) (k : Nat) (h : cls s = (k, y)) : (k = 0 ∧ y = []) ∨ (1 ≤ k ∧ made (k : Int) y = some s ∧ y.length ≤ s.length) := by
  rcases cls_cases s with ⟨j, hj1, hj5, hj⟩ | hd
  · rw [clsFrom_kind s j hj1 hj5 hj] at h
    injection h with h1 h2
    subst h1
    subst h2
    refine .inr ⟨hj1, ?_, by simp; omega⟩
    unfold made
    have hk0 : kindOf (j : Int) = j := by unfold kindOf; rw [if_pos (by omega)]; simp
    rw [if_neg (by omega), hk0, if_neg (by omega), mk_kind, if_pos (by have := hj.2.1; simp at this ⊢; omega), isKind_back j s hj]
  · rw [hd] at h
    cases s with
    | nil => injection h with h1 h2; exact .inl ⟨h1.symm, h2.symm⟩
    | cons b r =>
      simp only [clsData] at h
      by_cases hb : b = 106#8
      · rw [if_pos hb] at h
        injection h with h1 h2
        subst h1; subst h2
        exact .inr ⟨by omega, by unfold made; rw [hb]; simp, by simp⟩
      · rw [if_neg hb] at h
        injection h with h1 h2
        exact .inl ⟨h1.symm, h2.symm⟩

/-- the kind that a number is turned to -/
theorem turned (x : Int) (m : Int) (hm : m = 5 ∨ m = 6) : ∃ K : Int, 1 + IntKind.u64.wrap x % m = K ∧ 1 ≤ K ∧ K ≤ m := by
  refine ⟨_, rfl, ?_, ?_⟩ <;> rcases hm with rfl | rfl <;> omega

end Go.Proofs.YtbkpgdfkjijagaaDoor
