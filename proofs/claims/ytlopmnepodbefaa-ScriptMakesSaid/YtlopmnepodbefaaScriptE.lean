/- sporranlaw13: ScriptSizes, ScriptBack: the walks. -/
import Derived.Test.YtlopmnepodbefaaScriptP
namespace Go.Proofs.Ytlopmnepodbefaa
open Go.RowKit

theorem clsFrom_none (bs : List (BitVec 8)) (m : Nat) (h : ∀ k, 1 ≤ k → k ≤ 5 → mt (kindR k) bs = none) (hm : m ≤ 5) : clsFrom bs m = clsData bs := by
  induction m with
  | zero => rfl
  | succ m ih => simp only [clsFrom, h (5 - m) (by omega) (by omega)]; exact ih (by omega)
theorem clsFrom_kind (bs : List (BitVec 8)) (k : Nat) (h1 : 1 ≤ k) (h5 : k ≤ 5) (hk : isKind k bs) : cls bs = (k, (bs.drop (kindPre k).length).take (kindLen k)) := by
  have key : ∀ m, m ≤ 5 → 5 - m < k → clsFrom bs m = (k, (bs.drop (kindPre k).length).take (kindLen k)) := by
    intro m
    induction m with
    | zero => intro _ h; omega
    | succ m ih =>
      intro hm hlt
      by_cases he : 5 - m = k
      · simp only [clsFrom, he, mt_kind k bs, if_pos hk]
      · have hn : ¬ isKind (5 - m) bs := isKind_one (5 - m) k bs (by omega) (by omega) h5 hk
        simp only [clsFrom, mt_kind (5 - m) bs, if_neg hn]
        exact ih (by omega) (by omega)
  exact key 5 (by omega) (by omega)
theorem cls_cases (bs : List (BitVec 8)) : (∃ k, 1 ≤ k ∧ k ≤ 5 ∧ isKind k bs) ∨ cls bs = clsData bs := by
  by_cases h : ∃ k, 1 ≤ k ∧ k ≤ 5 ∧ isKind k bs
  · exact .inl h
  · refine .inr (clsFrom_none bs 5 (fun k h1 h5 => ?_) (by omega))
    rw [mt_kind, if_neg (fun hk => h ⟨k, h1, h5, hk⟩)]
theorem around_len (k : Nat) : (kindPre k).length + (kindPost k).length ≤ 5 := by
  match k with
  | 0 | 1 | 2 | 3 | 4 | 5 => decide
  | k + 6 => simp [kindPre, kindPost]
/-- a script of a kind, read -/
theorem cls_back (K : Int) (h1 : 1 ≤ K) (h6 : K ≤ 6) (b t : List (BitVec 8)) (h : made K b = some t) : cls t = (K.toNat, b) ∧ t.length ≤ b.length + 5 := by
  unfold made at h
  by_cases hK : K = 6
  · rw [if_pos hK] at h
    injection h with h
    subst h
    subst hK
    refine ⟨?_, by simp⟩
    rcases cls_cases (106#8 :: b) with ⟨k, hk1, hk5, hk⟩ | hd
    · have := hk.1
      rcases (show k = 1 ∨ k = 2 ∨ k = 3 ∨ k = 4 ∨ k = 5 by omega) with rfl | rfl | rfl | rfl | rfl <;> simp [kindPre, bytesOfR] at this
    · rw [hd]; simp [clsData]
  · rw [if_neg hK] at h
    have hk0 : kindOf K = K.toNat := by unfold kindOf; rw [if_pos (by omega)]
    rw [if_neg (by omega), mk_kind] at h
    by_cases hl : b.length = kindLen (kindOf K)
    · rw [if_pos hl] at h
      injection h with h
      subst h
      obtain ⟨i1, i2⟩ := isKind_made (kindOf K) b hl
      refine ⟨?_, ?_⟩
      · rw [clsFrom_kind _ (kindOf K) (by omega) (by omega) i1, i2, hk0]
      · simp only [List.length_append, bytesOfR, List.length_map]
        have := around_len (kindOf K)
        omega
    · rw [if_neg hl] at h; cases h
/-- what was read, made -/
theorem made_back (s y : List (BitVec 8)) (k : Nat) (h : cls s = (k, y)) : (k = 0 ∧ y = []) ∨ (1 ≤ k ∧ made (k : Int) y = some s ∧ y.length ≤ s.length) := by
  rcases cls_cases s with ⟨j, hj1, hj5, hj⟩ | hd
  · rw [clsFrom_kind s j hj1 hj5 hj] at h
    injection h with h1 h2
    subst h1
    subst h2
    refine .inr ⟨hj1, ?_, by simp; omega⟩
    unfold made
    have hk0 : kindOf (j : Int) = j := by unfold kindOf; rw [if_pos (by omega)]; simp
    rw [if_neg (by omega), hk0, if_neg (by omega), mk_kind, if_pos (by have := hj.2.1; simp at this ⊢; omega), isKind_back j s hj]
  · rw [hd] at h
    cases s with
    | nil => injection h with h1 h2; exact .inl ⟨h1.symm, h2.symm⟩
    | cons b r =>
      simp only [clsData] at h
      by_cases hb : b = 106#8
      · rw [if_pos hb] at h
        injection h with h1 h2
        subst h1; subst h2
        exact .inr ⟨by omega, by unfold made; rw [hb]; simp, by simp⟩
      · rw [if_neg hb] at h
        injection h with h1 h2
        exact .inl ⟨h1.symm, h2.symm⟩

set_option maxRecDepth 100000 in
theorem awake_any (w : World) : Calls Try.prog 21 #[] w fun e w' => e = .returned (.bool true) ∧ Below w.heap.size w w' := by
  have hcl : cls [106#8, 5#8] = (6, [5#8]) := by
    rcases cls_cases [106#8, 5#8] with ⟨k, hk1, hk5, hk⟩ | hd
    · have := hk.1
      rcases (show k = 1 ∨ k = 2 ∨ k = 3 ∨ k = 4 ∨ k = 5 by omega) with rfl | rfl | rfl | rfl | rfl <;> simp [kindPre, bytesOfR] at this
    · rw [hd]; rfl
  have HC := Lib.hid hcl
  clear hcl
  go_enter Try.func21, Try.ntmps21
  go_wp2_with fail
  refine (class_any (some ⟨w.heap.size, 0, none⟩) 2 2 [106#8, 5#8] _ (fun _ => ⟨_, _, rfl, by simp, fun i x hx => match i, hx with
    | 0, hx => by injection hx with hx; subst hx; exact (Blk.new w _ _).cell 0
    | 1, hx => by injection hx with hx; subst hx; exact (Blk.new w _ _).cell 1⟩) rfl (Nat.le_refl _) (by omega)).mono ?_
  rintro e w1 ⟨v, rfl, ho, hb1⟩
  rw [HC.out] at ho ⊢
  obtain ⟨p1, c1, rfl, hl1, hm1, hr1⟩ := ho.row
  have hb := ((Below.refl w.heap.size w).alloc (Nat.le_refl _) _).trans (hb1.mono (by simp))
  have hz := hb.size
  clear ho hb1
  go_wp2_with fail
  refine (equal_any p1 (some ⟨w1.heap.size, 0, none⟩) _ _ _ _ [5#8] [5#8] _ (hr1.below ((Below.refl w1.heap.size w1).alloc (Nat.le_refl _) _) (Nat.le_refl _)) (fun _ => ⟨_, _, rfl, by simp, fun i x hx => match i, hx with
    | 0, hx => by injection hx with hx; subst hx; exact (Blk.new w1 _ _).cell 0⟩) rfl rfl).mono ?_
  rintro e w2 ⟨rfl, hw2⟩
  subst hw2
  go_wp2
  go_ret
  exact ⟨rfl, hb.alloc hz _⟩

/-- the kind that a number is turned to -/
theorem turned (x : Int) (m : Int) (hm : m = 5 ∨ m = 6) : ∃ K : Int, 1 + IntKind.u64.wrap x % m = K ∧ 1 ≤ K ∧ K ≤ m := by
  refine ⟨_, rfl, ?_, ?_⟩ <;> rcases hm with rfl | rfl <;> omega

set_option maxRecDepth 100000 in
set_option maxHeartbeats 1000000 in
theorem scriptBack_walk (x : Int) (p : Option Addr) (n c : Nat) (bs : List (BitVec 8)) (q : Option Addr) (m d : Nat) (ss : List (BitVec 8)) (w : World) (_hx0 : -9223372036854775808 ≤ x) (_hx1 : x ≤ 9223372036854775807)
    (hn : bs.length = n) (hl : n ≤ c) (hb : c ≤ 140737488351232) (hr : Row8 w p bs) (_hp : p = none → c = 0) (hm : ss.length = m) (hml : m ≤ d) (hmb : d ≤ 140737488351232) (hrs : Row8 w q ss) (_hq : q = none → d = 0) :
    Calls Try.prog 11 #[.int .i64 x, .slice p n c, .slice q m d] w fun e w' => e = .returned (.bool true) ∧ Below w.heap.size w w' := by
  have hw0 : 0 ≤ IntKind.u64.wrap x := by rw [wrapU64]; omega
  obtain ⟨K, hK, hK1, hK6⟩ := turned x 6 (.inr rfl)
  have HN := Lib.hid hn
  have HM := Lib.hid hm
  have HK := Lib.hid hK
  clear hn hm hK
  go_enter Try.func11, Try.ntmps11
  go_wp2_with fail
  rw [HK.out]
  refine (make_any K p n c bs _ hr HN.out hl (by omega) (by omega)).mono ?_
  rintro e w1 ⟨hb1, hmk⟩
  rcases (show made K bs = none ∨ ∃ t, made K bs = some t by cases made K bs with | none => exact .inl rfl | some t => exact .inr ⟨t, rfl⟩) with hmd | ⟨t, hmd⟩
  case' inl =>
    rw [hmd] at hmk
    dsimp only at hmk
    subst hmk
    obtain ⟨wz, rfl⟩ : ∃ wz, wz = w1 := ⟨_, rfl⟩
    have hbz := hb1
    clear hmd hb1
    go_wp2_with fail
  case' inr =>
    rw [hmd] at hmk
    dsimp only at hmk
    obtain ⟨v, rfl, hov⟩ := hmk
    obtain ⟨hct, htl⟩ := cls_back K hK1 hK6 bs t hmd
    obtain ⟨p1, c1, rfl, hl1, hm1, hr1⟩ := hov.row
    unfold maxLen at hm1
    have HC := Lib.hid hct
    have htl2 : t.length ≤ 140737488355000 := by have := HN.out; omega
    clear hmd hct hov htl
    go_wp2_with fail
    refine (class_any p1 t.length c1 t _ hr1 rfl hl1 htl2).mono ?_
    rintro e w2 ⟨v2, rfl, hov2, hb2⟩
    rw [HC.out] at hov2 ⊢
    obtain ⟨p2, c2, rfl, hl2, hm2, hr2⟩ := hov2.row
    have hbz := hb1.trans (hb2.mono hb1.size)
    rw [show (((K.toNat, bs).1 : Nat) : Int) = K by simp; omega, show (K.toNat, bs).2 = bs by rfl]
    have hKK : (K != K) = false := by simp
    clear hb1 hb2 hov2 hr1
    go_wp2_with fail
    rw [HN.out]
    refine (equal_any p2 p n c2 n c bs bs _ hr2 (hr.below hbz (Nat.le_refl _)) HN.out HN.out).mono ?_
    rintro e wz ⟨rfl, hwz⟩
    subst hwz
    rw [decide_eq_true rfl]
    clear hKK hr2
    go_wp2_with fail
  all_goals
    refine (class_any q m d ss _ (hrs.below hbz (Nat.le_refl _)) HM.out hml (by omega)).mono ?_
    rintro e w3 ⟨v3, rfl, hov3, hb3⟩
    have hbw := hbz.trans (hb3.mono hbz.size)
    obtain ⟨k3, y, hky⟩ : ∃ k y, cls ss = (k, y) := ⟨_, _, rfl⟩
    rw [hky] at hov3 ⊢
    have hbk := made_back ss y k3 hky
    have hdef : ((k3, y).1 = k3) ∧ ((k3, y).2 = y) := ⟨rfl, rfl⟩
    rw [hdef.2] at hov3
    rw [hdef.1]
    clear hdef hky hbz hb3
    obtain ⟨p3, c3, rfl, hl3, hm3, hr3⟩ := hov3.row
    unfold maxLen at hm3
    clear hov3
    rcases hbk with ⟨rfl, rfl⟩ | ⟨hk1, hmd3, hyl⟩
    · go_wp2_with fail
      refine (awake_any _).mono ?_
      rintro e w4 ⟨rfl, hb4⟩
      go_wp2
      go_ret
      exact ⟨rfl, hbw.trans (hb4.mono hbw.size)⟩
    · have HY := Lib.hid hmd3
      have hyl2 : y.length ≤ 140737488355000 := by have := HM.out; omega
      have hk1b : ((k3 : Int) == 0) = false := by simp; omega
      clear hmd3 hyl hk1
      go_wp2_with fail
      refine (make_any (k3 : Int) p3 y.length c3 y _ hr3 rfl hl3 hyl2 (by omega)).mono ?_
      rintro e w4 ⟨hb4, hmk4⟩
      rw [HY.out] at hmk4
      dsimp only at hmk4
      obtain ⟨v4, rfl, hov4⟩ := hmk4
      obtain ⟨p4, c4, rfl, hl4, hm4, hr4⟩ := hov4.row
      have hbx := hbw.trans (hb4.mono hbw.size)
      clear hbw hb4 hov4 hr3
      go_wp2_with fail
      rw [HM.out]
      refine (equal_any p4 q m c4 m d ss ss _ hr4 (hrs.below hbx (Nat.le_refl _)) HM.out HM.out).mono ?_
      rintro e w5 ⟨rfl, hw5⟩
      replace hw5 := hw5.symm
      subst hw5
      rw [decide_eq_true rfl]
      go_wp2
      go_ret
      exact ⟨rfl, hbx⟩
end Go.Proofs.Ytlopmnepodbefaa
