/- sporranlaw05.SizeBack: the walk, where the two rows are short. -/
import Derived.Test.YtamcmckfommlnaaSizeY
namespace Go.Proofs.Ytamcmckfommlnaa
open Go.RowKit

set_option maxRecDepth 100000 in
set_option maxHeartbeats 2000000 in
theorem sizeBack_walk (z : BitVec 64) (p1 : Option Addr) (n1 c1 : Nat) (bs1 : List (BitVec 8)) (p2 : Option Addr) (n2 c2 : Nat) (bs2 : List (BitVec 8)) (w : World)
    (hn1 : bs1.length = n1) (hl1 : n1 ≤ c1) (hb1 : c1 ≤ 1048576) (hr1 : Row8 w p1 bs1) (_hp1 : p1 = none → c1 = 0) (hn2 : bs2.length = n2) (hl2 : n2 ≤ c2) (hb2 : c2 ≤ 1048576) (hr2 : Row8 w p2 bs2) (_hp2 : p2 = none → c2 = 0) :
    Calls Try.prog 11 #[.int .u64 (iv64 z), .slice p1 n1 c1, .slice p2 n2 c2] w fun e w' => e = .returned (.bool true) ∧ Below w.heap.size w w' := by
  have HN1 := Lib.hid hn1
  have HN2 := Lib.hid hn2
  have hcu : Hid (cutP (enc z ++ bs2) = (z, bs2, 0)) := Lib.hid (cutP_enc z bs2)
  have htx : Hid (textP (text bs1 ++ bs2) (n1 : Int) = (bs1, bs2, 0)) := Lib.hid (by rw [textP_text _ _ _ (by omega), hn1, if_neg (by omega)])
  have he9 : Hid ((enc z).length ≤ 9) := Lib.hid (enc_len z)
  have ht9 : Hid ((text bs1).length ≤ n1 + 9) := Lib.hid (by
    have := enc_len (BitVec.ofNat 64 n1)
    unfold text
    rw [List.length_append, hn1]
    omega)
  clear hn1 hn2
  go_enter Try.func11, Try.ntmps11
  go_wp2_with fail
  refine (encode_any z _).mono ?_
  rintro e w1 ⟨v1, rfl, ho1, hbw1⟩
  have hr21 := hr2.below hbw1 (Nat.le_refl _)
  have hsz1 := hbw1.size
  go_wp2_with (with_reducible refine wp_append8 (o := ⟨some 17, _, _, _, _, _⟩) ?_ (.tmp 15) (.tmp 16) ?_ w.heap.size v1 (enc z) ?_ ho1 p2 n2 c2 bs2 ?_ HN2.out hr21 ?_ hsz1 w.heap.size w hbw1 ?_ ?_
               · rfl
               · rfl
               · rfl
               · rfl
               · have := he9.out; have := HN2.out; omega
               · exact Nat.le_refl _
               intro v3 w3 ho3 hb3 _ _)
  obtain ⟨p3, n3, c3, rfl, H3, hl3, hm3, hr3⟩ := ho3.open
  have hn3 : n3 ≤ 9 + n2 := by rw [← H3.out, List.length_append, HN2.out]; have := he9.out; omega
  have hr13 := hr1.below hb3 (Nat.le_refl _)
  have hr23 := hr2.below hb3 (Nat.le_refl _)
  clear ho3 ho1 hr21 hsz1 hbw1
  refine (decode_any p3 n3 c3 _ _ hr3 H3.out hl3 hm3 (by omega)).mono ?_
  rw [hcu.out]
  rintro e w4 ⟨v4, rfl, ho4, hb4⟩
  dsimp only at ho4 ⊢
  obtain ⟨p4, n4, c4, rfl, H4, hl4, hm4, hr4⟩ := ho4.open
  have hr14 := hr13.below hb4 (Nat.le_refl _)
  have hr24 := hr23.below hb4 (Nat.le_refl _)
  have hbw4 := hb3.trans (hb4.mono hb3.size)
  have hsz4 := hbw4.size
  clear ho4 hr13 hr23 hr3 hb4 hb3 hn3
  go_wp2_with fail
  refine (text_any p1 n1 c1 bs1 _ hr14 HN1.out (by omega)).mono ?_
  rintro e w5 ⟨v5, rfl, ho5, hb5⟩
  have hr15 := hr14.below hb5 (Nat.le_refl _)
  have hr25 := hr24.below hb5 (Nat.le_refl _)
  have hr45 := hr4.below hb5 (Nat.le_refl _)
  have hsz5 := hb5.size
  go_wp2_with (with_reducible refine wp_append8 (o := ⟨some 26, _, _, _, _, _⟩) ?_ (.tmp 24) (.tmp 25) ?_ w4.heap.size v5 (text bs1) ?_ ho5 p2 n2 c2 bs2 ?_ HN2.out hr25 ?_ hsz5 w4.heap.size w4 hb5 ?_ ?_
               · rfl
               · rfl
               · rfl
               · rfl
               · have := ht9.out; have := HN2.out; omega
               · exact Nat.le_refl _
               intro v6 w6 ho6 hb6 _ _)
  obtain ⟨p6, n6, c6, rfl, H6, hl6, hm6, hr6⟩ := ho6.open
  have hn6 : n6 ≤ n1 + 9 + n2 := by rw [← H6.out, List.length_append, HN2.out]; have := ht9.out; omega
  have hr16 := hr14.below hb6 (Nat.le_refl _)
  have hr26 := hr24.below hb6 (Nat.le_refl _)
  have hr46 := hr4.below hb6 (Nat.le_refl _)
  have hbw6 := hbw4.trans (hb6.mono hsz4)
  clear ho6 ho5 hr25 hr15 hr45 hsz5 hb5 hr14 hr24 hr4 hb6 hbw4 hsz4
  refine (readText_any p6 n6 c6 _ (n1 : Int) _ hr6 H6.out hl6 hm6 (by omega) (by omega) (by omega)).mono ?_
  rw [htx.out]
  rintro e w7 ⟨v7, v8, rfl, ho7, ho8, hb7⟩
  dsimp only at ho7 ho8 ⊢
  obtain ⟨p7, n7, c7, rfl, H7, hl7, hm7, hr7⟩ := ho7.open
  obtain ⟨p8, n8, c8, rfl, H8, hl8, hm8, hr8⟩ := ho8.open
  have hr17 := hr16.below hb7 (Nat.le_refl _)
  have hr27 := hr26.below hb7 (Nat.le_refl _)
  have hr47 := hr46.below hb7 (Nat.le_refl _)
  have hbw7 := hbw6.trans (hb7.mono hbw6.size)
  clear ho7 ho8 hr16 hr26 hr46 hbw6 hb7 hn6 hr6
  go_wp2_with fail
  refine (equal_same p4 p2 n4 c4 n2 c2 bs2 _ hr47 hr27 H4.out HN2.out).mono ?_
  rintro e w8 ⟨rfl, hw8⟩
  replace hw8 := hw8.symm
  subst hw8
  go_wp2_with fail
  refine (equal_same p7 p1 n7 c7 n1 c1 bs1 _ hr7 hr17 H7.out HN1.out).mono ?_
  rintro e w8 ⟨rfl, hw8⟩
  replace hw8 := hw8.symm
  subst hw8
  go_wp2_with fail
  refine (equal_same p8 p2 n8 c8 n2 c2 bs2 _ hr8 hr27 H8.out HN2.out).mono ?_
  rintro e w8 ⟨rfl, hw8⟩
  replace hw8 := hw8.symm
  subst hw8
  go_wp2
  go_ret
  exact ⟨rfl, hbw7⟩
end Go.Proofs.Ytamcmckfommlnaa
