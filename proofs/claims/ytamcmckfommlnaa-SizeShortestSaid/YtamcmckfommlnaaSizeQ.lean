/- sporranlaw05.SizeShortest: the walk. -/
import Derived.Test.YtamcmckfommlnaaSizeP
namespace Go.Proofs.Ytamcmckfommlnaa
open Go.RowKit

set_option maxRecDepth 100000 in
set_option maxHeartbeats 2000000 in
theorem sizeShortest_walk (n : BitVec 64) (x : Int) (w : World) (_hx0 : -9223372036854775808 ≤ x) (_hx1 : x ≤ 9223372036854775807) :
    Calls Try.prog 7 #[.int .u64 (iv64 n), .int .i64 x] w fun e w' => e = .returned (.bool true) ∧ Below w.heap.size w w' := by
  have hw0 : 0 ≤ IntKind.u64.wrap x := by rw [wrapU64]; omega
  obtain ⟨m, hm⟩ : ∃ m, m = (enc n).length := ⟨_, rfl⟩
  have hm0 : 0 < m := by rw [hm]; exact enc_pos n
  have hm9 : m ≤ 9 := by rw [hm]; exact enc_len n
  obtain ⟨j, hj⟩ : ∃ j : Nat, IntKind.u64.wrap x % (m : Int) = (j : Int) := ⟨(IntKind.u64.wrap x % (m : Int)).toNat, by rw [Int.toNat_of_nonneg (Int.emod_nonneg _ (by omega))]⟩
  have hjm : j < m := by have := Int.emod_lt_of_pos (IntKind.u64.wrap x) (show (0 : Int) < (m : Int) by omega); omega
  have hcut := cutP_cut n j (by rw [← hm]; exact hjm)
  have hwide := cutP_wide n
  have HM := Lib.hid hm
  have HC := Lib.hid hcut
  have HW := Lib.hid hwide
  have HJ := Lib.hid hj
  clear hm hcut hwide hj
  go_enter Try.func7, Try.ntmps7
  go_wp2_with fail
  refine (encode_any n _).mono ?_
  rintro e w1 ⟨v1, rfl, hov1, hb1⟩
  obtain ⟨p1, c1, hv1, hc1, hm1, hr1⟩ := hov1.row
  rw [← HM.out] at hv1 hc1
  subst hv1
  unfold maxLen at hm1
  have hrj := hr1.take j
  have hlj : ((enc n).take j).length = j := by rw [List.length_take, ← HM.out]; omega
  have HLJ := Lib.hid hlj
  have hmb : ((m : Int) == 0) = false := by simp; omega
  have hji : (j : Int) ≤ (c1 : Int) := by omega
  have hj0 : (0 : Int) ≤ (j : Int) := by omega
  have hj := HJ.out
  have hjs : IntKind.i64.wrap (j : Int) = (j : Int) := by rw [IntKind.wrap_i64]; omega
  clear hov1 hlj hr1
  go_wp2_with fail
  refine (decode_any p1 j c1 _ w1 hrj HLJ.out (by omega) (by omega) (by omega)).mono ?_
  rintro e w2 ⟨v2, rfl, _, hb2⟩
  rw [HC.out]
  have hbw2 := hb1.trans (hb2.mono hb1.size)
  have hsz2 := hbw2.size
  clear hj hjs hrj hb2 hb1
  have ho := own_one w2 255#8
  have hb0 : Below w2.heap.size w2 (w2.alloc (.cells #[u8 255#8] 5)) := (Below.refl _ _).alloc (Nat.le_refl _) _
  go_wp2_with fail
  refine (low_any n 8 (by omega) (w2.alloc (.cells #[u8 255#8] 5))).mono ?_
  rintro e w3 ⟨v3, rfl, ho3, hb3⟩
  obtain ⟨p3, c3, rfl, hl3, hm3, hr3⟩ := ho3.row
  have hl8 := low_len n 8
  have hsz := hb0.size
  have hbw3 := hb0.trans (hb3.mono hsz)
  have ho2 := ho.below hb3 (Nat.le_refl _)
  clear ho ho3 hb3
  go_wp2_with (first
    | (with_reducible refine wp_append8 (o := ⟨some 35, _, _, _, _, _⟩) ?_ (.tmp 32) (.tmp 34) ?_ w2.heap.size _ [255#8] ?_ ho2 p3 (low n 8).length c3 (low n 8) ?_ rfl hr3 ?_ ?_ w2.heap.size w2 hbw3 ?_ ?_
       · rfl
       · rfl
       · rfl
       · rfl
       · rw [hl8]; simp only [List.length_cons, List.length_nil]; omega
       · exact hbw3.size
       · exact Nat.le_refl _
       intro v4 w4 ho4 hb4 _ _)
    | fail)
  obtain ⟨p4, c4, rfl, hc4, hm4, hr4⟩ := ho4.row
  unfold maxLen at hm4
  have hlen4 : ([255#8] ++ low n 8).length = 9 := by simp [low_len]
  have hw24 := hbw2.trans (hb4.mono hsz2)
  clear ho4 hb4 hbw3 ho2 hr3
  rw [hlen4] at hc4 ⊢
  refine (decode_any p4 9 c4 _ w4 hr4 hlen4 hc4 (by omega) (by omega)).mono ?_
  rintro e w5 ⟨v5, rfl, _, hb5⟩
  have hbw5 := hw24.trans (hb5.mono hw24.size)
  rw [show [255#8] ++ low n 8 = 255#8 :: low n 8 by rfl, HW.out]
  clear hb5 hlen4 hr4
  by_cases hlt : iv64 n < 4294967296
  · rw [if_pos hlt]
    have hdec : Hid (decide (4294967296 ≤ iv64 n) = false) := Lib.hid (decide_eq_false (by omega))
    go_wp2
    go_ret
    exact ⟨by show Ending.returned (.bool (!decide (4294967296 ≤ iv64 n))) = _; rw [hdec.out]; rfl, hbw5⟩
  · rw [if_neg hlt]
    have hge : 4294967296 ≤ iv64 n := by omega
    go_wp2
    go_ret
    exact ⟨rfl, hbw5⟩
end Go.Proofs.Ytamcmckfommlnaa
