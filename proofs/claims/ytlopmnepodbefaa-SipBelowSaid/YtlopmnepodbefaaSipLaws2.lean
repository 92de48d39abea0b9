/- sporranlaw02: SipSums, SipEnds, SipBelow: the walks. -/
import Derived.Test.YtlopmnepodbefaaSipLaws
import Derived.Test.YtlopmnepodbefaaAppend
namespace Go.Proofs.Ytlopmnepodbefaa
open Go.RowKit

set_option maxRecDepth 100000 in
theorem sipSums_walk (k0 k1 : BitVec 64) (p : Option Addr) (n c : Nat) (bs : List (BitVec 8)) (w : World) (hn : bs.length = n) (hl : n ≤ c) (hb : c ≤ 140737488351232) (hr : Row8 w p bs) (hp : p = none → c = 0) :
    Calls Try.prog 9 #[u64 k0, u64 k1, .slice p n c] w fun e w' => e = .returned (.bool true) ∧ Below w.heap.size w w' := by
  subst hn
  go_enter Try.func9, Try.ntmps9
  go_wp2_with fail
  refine (clone_any p _ c bs _ hr rfl (by omega) (fun h => by have := hp h; omega)).mono ?_
  rintro e w1 ⟨v, rfl, ho, hb1⟩
  obtain ⟨p1, c1, rfl, hl1, hm1, hr1⟩ := ho.row
  go_wp2_with fail
  refine (sum_any k0 k1 p1 c1 bs _ hr1 hl1 hm1).mono ?_
  rintro e w2 ⟨rfl, hb2⟩
  have hb12 := hb1.trans (hb2.mono hb1.size)
  go_wp2_with fail
  refine (refSum_any k0 k1 p c bs _ (hr.below hb12 (Nat.le_refl _)) hl (by unfold maxLen; omega)).mono ?_
  rintro e w3 ⟨rfl, hb3⟩
  have hb13 := hb12.trans (hb3.mono hb12.size)
  have hr3 := (hr1.below hb2 (Nat.le_refl _)).below hb3 (Nat.le_refl _)
  clear hb2 hb12 hb3
  go_wp2_with fail
  refine (equal_any p1 p _ _ _ _ bs bs _ hr3 (hr.below hb13 (Nat.le_refl _)) rfl rfl).mono ?_
  rintro e w4 ⟨rfl, hw4⟩
  subst hw4
  rw [decide_eq_true rfl]
  go_wp2_with fail
  refine (scale_const _).mono ?_
  rintro e w1 ⟨rfl, hw1⟩
  subst hw1
  go_wp2
  go_ret
  exact ⟨rfl, hb13⟩

theorem hi64_le {x y : BitVec 64} (n : BitVec 64) (h : iv64 x ≤ iv64 y) : iv64 (hi64 x n) ≤ iv64 (hi64 y n) := by
  rw [← hi64_iv, ← hi64_iv]
  unfold iv64 at h
  have h1 : x.toNat ≤ y.toNat := by omega
  have h2 := Nat.div_le_div_right (c := 18446744073709551616) (Nat.mul_le_mul_right n.toNat h1)
  exact Int.ofNat_le.2 h2
theorem hi64_lt (y n : BitVec 64) (h : iv64 n ≠ 0) : iv64 (hi64 y n) < iv64 n := by
  rw [← hi64_iv]
  have h0 : 0 < n.toNat := by unfold iv64 at h; omega
  have h1 : y.toNat * n.toNat < 18446744073709551616 * n.toNat := Nat.mul_lt_mul_of_pos_right y.isLt h0
  have h2 := Nat.div_lt_of_lt_mul h1
  exact Int.ofNat_lt.2 h2
theorem hi64_zero (y n : BitVec 64) (h : iv64 n = 0) : iv64 (hi64 y n) = 0 := by
  rw [← hi64_iv]
  have h0 : n.toNat = 0 := by unfold iv64 at h; omega
  rw [h0]; simp

set_option maxRecDepth 100000 in
theorem sipBelow_walk (x y n : BitVec 64) (w : World) :
    Calls Try.prog 5 #[u64 x, u64 y, u64 n] w fun e w' => e = .returned (.bool true) ∧ Below w.heap.size w w' := by
  obtain ⟨a, b, ha, hb, hab⟩ : ∃ a b : BitVec 64, min (iv64 x) (iv64 y) = iv64 a ∧ max (iv64 x) (iv64 y) = iv64 b ∧ iv64 a ≤ iv64 b := by
    by_cases h : iv64 x ≤ iv64 y
    · exact ⟨x, y, by omega, by omega, h⟩
    · exact ⟨y, x, by omega, by omega, by omega⟩
  have hle := hi64_le n hab
  go_enter Try.func5, Try.ntmps5
  go_wp2_with fail
  refine (scale_any a n _).mono ?_
  rintro e w1 ⟨rfl, hw1⟩
  subst hw1
  go_wp2_with fail
  refine (scale_any b n _).mono ?_
  rintro e w1 ⟨rfl, hw1⟩
  subst hw1
  by_cases h0 : iv64 n = 0
  · have hz := hi64_zero b n h0
    have h0b : (iv64 n == 0) = true := by rw [h0]; rfl
    have hzb : (iv64 (hi64 b n) == 0) = true := by rw [hz]; rfl
    clear h0 hz ha hb hab
    go_wp2_with fail
    refine (scale_const _).mono ?_
    rintro e w1 ⟨rfl, hw1⟩
    subst hw1
    go_wp2
    go_ret
    exact ⟨rfl, Below.refl _ _⟩
  · have hz := hi64_lt b n h0
    have h0b : (iv64 n == 0) = false := by rw [beq_eq_false_iff_ne]; exact h0
    clear h0 ha hb hab
    go_wp2_with fail
    refine (scale_const _).mono ?_
    rintro e w1 ⟨rfl, hw1⟩
    subst hw1
    go_wp2
    go_ret
    exact ⟨rfl, Below.refl _ _⟩

set_option maxRecDepth 100000 in
set_option maxHeartbeats 1000000 in
theorem sipEnds_walk (k0 k1 : BitVec 64) (p : Option Addr) (n c : Nat) (bs : List (BitVec 8)) (w : World) (hn : bs.length = n) (hl : n ≤ c) (hcb : c ≤ 140737488351232) (hr : Row8 w p bs) (hp : p = none → c = 0) :
    Calls Try.prog 8 #[u64 k0, u64 k1, .slice p n c] w fun e w' => e = .returned (.bool true) ∧ Below w.heap.size w w' := by
  subst hn
  go_enter Try.func8, Try.ntmps8
  go_wp2_with fail
  refine (clone_any p _ c bs _ hr rfl (by omega) (fun h => by have := hp h; omega)).mono ?_
  rintro e w1 ⟨v, rfl, ho, hb1⟩
  go_wp2_with (with_reducible refine wp_append8 (o := ⟨some 11, _, _, _, _, _⟩) ?_ (.tmp 9) (.tmp 10) ?_ w.heap.size v bs ?_ (ho.alloc _) (some ⟨w1.heap.size, 0, none⟩) 1 1 [0#8] ?_ ?_ ?_ ?_ ?_ w.heap.size w ?_ ?_ ?_
               · rfl
               · rfl
               · rfl
               · rfl
               · rfl
               · intro _
                 refine ⟨_, _, rfl, by simp, fun i x hx => ?_⟩
                 match i, hx with
                 | 0, hx => injection hx with hx; subst hx; exact (Blk.new w1 _ _).cell 0
               · simp only [List.length_cons, List.length_nil]; omega
               · have := hb1.size; simp only [World.size_alloc]; omega
               · exact hb1.alloc hb1.size _
               · exact Nat.le_refl _
               intro v2 w2 ho2 hb2 _ _
               clear ho hb1)
  obtain ⟨cs, hcs⟩ : ∃ cs, cs = bs ++ [0#8] := ⟨_, rfl⟩
  rw [← hcs] at ho2
  clear hcs
  obtain ⟨p1, c1, rfl, hl1, hm1, hr1⟩ := ho2.row
  clear ho2
  refine (sum_any k0 k1 p1 c1 cs _ hr1 hl1 hm1).mono ?_
  rintro e w3 ⟨rfl, hb3⟩
  have hr2 := hr1.below hb3 (Nat.le_refl _)
  have hb := hb2.trans (hb3.mono hb2.size)
  clear hr1 hb2 hb3
  go_wp2_with fail
  refine (refSum_any k0 k1 p1 c1 cs _ hr2 hl1 hm1).mono ?_
  rintro e w4 ⟨rfl, hb3⟩
  have hb4 := hb.trans (hb3.mono hb.size)
  clear hr2 hb3 hb
  go_wp2_with fail
  refine (sum_any k0 k1 p c bs _ (hr.below hb4 (Nat.le_refl _)) hl (by unfold maxLen; omega)).mono ?_
  rintro e w5 ⟨rfl, hb3⟩
  have hb5 := hb4.trans (hb3.mono hb4.size)
  clear hb3 hb4
  go_wp2_with fail
  refine (refSum_any k0 k1 p c bs _ (hr.below hb5 (Nat.le_refl _)) hl (by unfold maxLen; omega)).mono ?_
  rintro e w6 ⟨rfl, hb3⟩
  have hb6 := hb5.trans (hb3.mono hb5.size)
  clear hb3 hb5
  go_wp2_with fail
  refine (scale_const2 _).mono ?_
  rintro e w7 ⟨rfl, hw1⟩
  subst hw1
  go_wp2
  go_ret
  exact ⟨rfl, hb6⟩
end Go.Proofs.Ytlopmnepodbefaa
