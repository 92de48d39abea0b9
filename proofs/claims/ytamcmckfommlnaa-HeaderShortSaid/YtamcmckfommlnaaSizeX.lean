/- sporranlaw05.SizeTells, SizeTexts: the walks. -/
import Derived.Test.YtamcmckfommlnaaSizeW
namespace Go.Proofs.Ytamcmckfommlnaa
open Go.RowKit

theorem equal_same (p1 p2 : Option Addr) (n c m d : Nat) (bs : List (BitVec 8)) (w : World) (h1 : Row8 w p1 bs) (h2 : Row8 w p2 bs) (hn : bs.length = n) (hm : bs.length = m) :
    Calls Try.prog 15 #[.slice p1 n c, .slice p2 m d] w fun e w' => e = .returned (.bool true) ∧ w' = w :=
  (equal_any p1 p2 n c m d bs bs w h1 h2 hn hm).mono fun e w' ⟨h, h2⟩ => ⟨by rw [h, decide_eq_true rfl], h2⟩
/-- an own row, opened, its length behind a variable -/
theorem Own8.open {w : World} {B : Nat} {v : Value} {bs : List (BitVec 8)} (h : Own8 w B v bs) : ∃ p n c, v = .slice p n c ∧ Hid (bs.length = n) ∧ n ≤ c ∧ c ≤ 9223372036854775807 ∧ Row8 w p bs := by
  obtain ⟨p, c, h1, h2, h3, h4⟩ := h.row
  exact ⟨p, bs.length, c, h1, Lib.hid rfl, h2, by unfold maxLen at h3; omega, h4⟩

set_option maxRecDepth 100000 in
set_option maxHeartbeats 2000000 in
theorem sizeTells_walk (z : BitVec 64) (p : Option Addr) (n c : Nat) (bs : List (BitVec 8)) (w : World) (hn : bs.length = n) (hl : n ≤ c) (hcb : c ≤ 140737488351232) (hr : Row8 w p bs) (hp : p = none → c = 0) :
    Calls Try.prog 8 #[.int .u64 (iv64 z), .slice p n c] w fun e w' => e = .returned (.bool true) ∧ Below w.heap.size w w' := by
  have HN := Lib.hid hn
  clear hn
  go_enter Try.func8, Try.ntmps8
  go_wp2_with fail
  refine (clone_any p n c bs _ hr HN.out (by omega) (fun h => by have := hp h; omega)).mono ?_
  rintro e w1 ⟨v1, rfl, ho1, hb1⟩
  obtain ⟨p1, n1, c1, rfl, H1, hl1, hm1, hr1⟩ := ho1.open
  have hn1 : n1 = n := H1.out.symm.trans HN.out
  subst hn1
  have hrw1 := hr.below hb1 (Nat.le_refl _)
  clear ho1
  go_wp2_with fail
  refine (decode_any p1 n1 c1 bs _ hr1 HN.out hl1 hm1 (by omega)).mono ?_
  obtain ⟨x, hx⟩ : ∃ x, x = cutP bs := ⟨_, rfl⟩
  rw [← hx]
  obtain ⟨X, R, E⟩ := x
  have HX := Lib.hid hx
  clear hx
  rintro e w2 ⟨v2, rfl, ho2, hb2⟩
  dsimp only at ho2 ⊢
  obtain ⟨p2, n2, c2, rfl, H2, hl2, hm2, hr2⟩ := ho2.open
  have hr12 := hr1.below hb2 (Nat.le_refl _)
  have hrw2 := hrw1.below hb2 (Nat.le_refl _)
  have hbw2 := hb1.trans (hb2.mono hb1.size)
  clear ho2 hrw1 hr1 hb1 hb2
  go_wp2_with fail
  refine (refDecode_any p n1 c bs _ hrw2 HN.out hl (by omega)).mono ?_
  rw [← HX.out]
  rintro e w3 ⟨v3, rfl, ho3, hb3⟩
  dsimp only at ho3 ⊢
  obtain ⟨p3, n3, c3, rfl, H3, hl3, hm3, hr3⟩ := ho3.open
  have hr13 := hr12.below hb3 (Nat.le_refl _)
  have hr23 := hr2.below hb3 (Nat.le_refl _)
  have hrw3 := hrw2.below hb3 (Nat.le_refl _)
  have hbw3 := hbw2.trans (hb3.mono hbw2.size)
  clear ho3 hrw2 hr12 hr2 hb3 hbw2
  go_wp2_with fail
  refine (encode_any z _).mono ?_
  rintro e w4 ⟨v4, rfl, ho4, hb4⟩
  obtain ⟨p4, n4, c4, rfl, H4, hl4, hm4, hr4⟩ := ho4.open
  have hr14 := hr13.below hb4 (Nat.le_refl _)
  have hr24 := hr23.below hb4 (Nat.le_refl _)
  have hr34 := hr3.below hb4 (Nat.le_refl _)
  have hrw4 := hrw3.below hb4 (Nat.le_refl _)
  have hbw4 := hbw3.trans (hb4.mono hbw3.size)
  clear ho4 hrw3 hr13 hr23 hr3 hb4 hbw3
  go_wp2_with fail
  refine (refEncode_any z _).mono ?_
  rintro e w5 ⟨v5, rfl, ho5, hb5⟩
  obtain ⟨p5, n5, c5, rfl, H5, hl5, hm5, hr5⟩ := ho5.open
  have hr15 := hr14.below hb5 (Nat.le_refl _)
  have hr25 := hr24.below hb5 (Nat.le_refl _)
  have hr35 := hr34.below hb5 (Nat.le_refl _)
  have hr45 := hr4.below hb5 (Nat.le_refl _)
  have hrw5 := hrw4.below hb5 (Nat.le_refl _)
  have hbw5 := hbw4.trans (hb5.mono hbw4.size)
  clear ho5 hrw4 hr14 hr24 hr34 hr4 hb5 hbw4
  go_wp2_with fail
  refine (equal_same p4 p5 n4 c4 n5 c5 (enc z) _ hr45 hr5 H4.out H5.out).mono ?_
  rintro e w6 ⟨rfl, hw6⟩
  replace hw6 := hw6.symm
  subst hw6
  go_wp2_with fail
  refine (equal_same p2 p3 n2 c2 n3 c3 R _ hr25 hr35 H2.out H3.out).mono ?_
  rintro e w6 ⟨rfl, hw6⟩
  replace hw6 := hw6.symm
  subst hw6
  go_wp2_with fail
  refine (equal_same p1 p n1 c1 n1 c bs _ hr15 hrw5 HN.out HN.out).mono ?_
  rintro e w6 ⟨rfl, hw6⟩
  replace hw6 := hw6.symm
  subst hw6
  go_wp2
  go_ret
  exact ⟨rfl, hbw5⟩

set_option maxRecDepth 100000 in
set_option maxHeartbeats 2000000 in
theorem sizeTexts_walk (p : Option Addr) (n c : Nat) (bs : List (BitVec 8)) (most : Int) (w : World) (hn : bs.length = n) (hl : n ≤ c) (hcb : c ≤ 140737488351232) (hr : Row8 w p bs) (_hp : p = none → c = 0) (hm0 : -9223372036854775808 ≤ most) (hm1 : most ≤ 9223372036854775807) :
    Calls Try.prog 10 #[.slice p n c, .int .i64 most] w fun e w' => e = .returned (.bool true) ∧ Below w.heap.size w w' := by
  have HN := Lib.hid hn
  clear hn
  go_enter Try.func10, Try.ntmps10
  go_wp2_with fail
  refine (readText_any p n c bs most _ hr HN.out hl (by omega) (by omega) hm0 hm1).mono ?_
  obtain ⟨x, hx⟩ : ∃ x, x = textP bs most := ⟨_, rfl⟩
  rw [← hx]
  obtain ⟨L, R, E⟩ := x
  have HX := Lib.hid hx
  clear hx
  rintro e w2 ⟨v1, v2, rfl, ho1, ho2, hbw2⟩
  dsimp only at ho1 ho2 ⊢
  obtain ⟨p1, n1, c1, rfl, H1, hl1, hm1', hr12⟩ := ho1.open
  obtain ⟨p2, n2, c2, rfl, H2, hl2, hm2, hr2⟩ := ho2.open
  have hrw2 := hr.below hbw2 (Nat.le_refl _)
  clear ho1 ho2 hr
  go_wp2_with fail
  refine (refReadText_any p n c bs most _ hrw2 HN.out hl (by omega) hm0 hm1).mono ?_
  rw [← HX.out]
  rintro e w3 ⟨p3, c3, v4, rfl, hl3, hr3, ho4, hb3⟩
  dsimp only at hl3 hr3 ho4 ⊢
  rw [H1.out] at hl3 ⊢
  obtain ⟨p4, n4, c4, rfl, H4, hl4, hm4, hr4⟩ := ho4.open
  have hr13 := hr12.below hb3 (Nat.le_refl _)
  have hr23 := hr2.below hb3 (Nat.le_refl _)
  have hrw3 := hrw2.below hb3 (Nat.le_refl _)
  have hbw3 := hbw2.trans (hb3.mono hbw2.size)
  clear ho4 hrw2 hr12 hr2 hb3 hbw2
  go_wp2_with fail
  refine (text_any p n c bs _ hrw3 HN.out (by omega)).mono ?_
  rintro e w4 ⟨v5, rfl, ho5, hb4⟩
  obtain ⟨p5, n5, c5, rfl, H5, hl5, hm5, hr5⟩ := ho5.open
  have hr14 := hr13.below hb4 (Nat.le_refl _)
  have hr24 := hr23.below hb4 (Nat.le_refl _)
  have hr34 := hr3.below hb4 (Nat.le_refl _)
  have hr44 := hr4.below hb4 (Nat.le_refl _)
  have hrw4 := hrw3.below hb4 (Nat.le_refl _)
  have hbw4 := hbw3.trans (hb4.mono hbw3.size)
  clear ho5 hrw3 hr13 hr23 hr3 hr4 hb4 hbw3
  go_wp2_with fail
  refine (refText_any p n c bs _ hrw4 HN.out (by omega)).mono ?_
  rintro e w5 ⟨v6, rfl, ho6, hb5⟩
  obtain ⟨p6, n6, c6, rfl, H6, hl6, hm6, hr6⟩ := ho6.open
  have hr15 := hr14.below hb5 (Nat.le_refl _)
  have hr25 := hr24.below hb5 (Nat.le_refl _)
  have hr35 := hr34.below hb5 (Nat.le_refl _)
  have hr45 := hr44.below hb5 (Nat.le_refl _)
  have hr55 := hr5.below hb5 (Nat.le_refl _)
  have hbw5 := hbw4.trans (hb5.mono hbw4.size)
  clear ho6 hrw4 hr14 hr24 hr34 hr44 hr5 hb5 hbw4
  go_wp2_with fail
  refine (equal_same p5 p6 n5 c5 n6 c6 (text bs) _ hr55 hr6 H5.out H6.out).mono ?_
  rintro e w6 ⟨rfl, hw6⟩
  replace hw6 := hw6.symm
  subst hw6
  go_wp2_with fail
  refine (equal_same p1 p3 n1 c1 n1 c3 L _ hr15 hr35 H1.out H1.out).mono ?_
  rintro e w6 ⟨rfl, hw6⟩
  replace hw6 := hw6.symm
  subst hw6
  go_wp2_with fail
  refine (equal_same p2 p4 n2 c2 n4 c4 R _ hr25 hr45 H2.out H4.out).mono ?_
  rintro e w6 ⟨rfl, hw6⟩
  replace hw6 := hw6.symm
  subst hw6
  go_wp2
  go_ret
  exact ⟨rfl, hbw5⟩
end Go.Proofs.Ytamcmckfommlnaa
