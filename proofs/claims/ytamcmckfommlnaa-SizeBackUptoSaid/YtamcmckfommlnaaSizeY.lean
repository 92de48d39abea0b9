/- sporranlaw05.SizeBounds: the walk. -/
import Derived.Test.YtamcmckfommlnaaSizeX
namespace Go.Proofs.Ytamcmckfommlnaa
open Go.RowKit

set_option maxRecDepth 100000 in
set_option maxHeartbeats 2000000 in
theorem sizeBounds_walk (p : Option Addr) (n c : Nat) (bs : List (BitVec 8)) (most : Int) (w : World) (hn : bs.length = n) (hl : n ≤ c) (hcb : c ≤ 140737488351232) (hr : Row8 w p bs) (_hp : p = none → c = 0) (hm0 : -9223372036854775808 ≤ most) (hm1 : most ≤ 9223372036854775807) :
    Calls Try.prog 9 #[.slice p n c, .int .i64 most] w fun e w' => e = .returned (.bool true) ∧ Below w.heap.size w w' := by
  have HN := Lib.hid hn
  have htx := textP_text bs [] most (by omega)
  rw [List.append_nil, hn] at htx
  have hte : Hid ((text bs).length ≤ n + 9 ∧ n < (text bs).length) := Lib.hid (by
    have := enc_len (BitVec.ofNat 64 n)
    have := enc_pos (BitVec.ofNat 64 n)
    unfold text
    rw [List.length_append, hn]
    omega)
  have HT := Lib.hid htx
  clear hn htx
  go_enter Try.func9, Try.ntmps9
  go_wp2_with fail
  refine (text_any p n c bs _ hr HN.out (by omega)).mono ?_
  rintro e w1 ⟨v1, rfl, ho1, hb1⟩
  obtain ⟨p1, n1, c1, rfl, H1, hl1, hm1', hr1⟩ := ho1.open
  have hrw1 := hr.below hb1 (Nat.le_refl _)
  have hn1 : n1 ≤ n + 9 := by rw [← H1.out]; exact hte.out.1
  clear ho1 hr
  go_wp2_with fail
  refine (readText_any p1 n1 c1 (text bs) most _ hr1 H1.out hl1 hm1' (by omega) hm0 hm1).mono ?_
  rw [HT.out]
  have hBc :  ∃ B : Int, max most 0 = B ∧ ((n : Int) ≤ B ↔ ¬ (most < 0 ∧ 0 < n ∨ 0 ≤ most ∧ most < n)) := ⟨max most 0, rfl, by omega⟩
  obtain ⟨B, hmx, hB⟩ := hBc
  by_cases hc : most < 0 ∧ 0 < n ∨ 0 ≤ most ∧ most < n
  · rw [if_pos hc]
    rintro e w2 ⟨v2, v3, rfl, _, _, hb2⟩
    have hle : ¬ (n : Int) ≤ B := by rw [hB]; exact fun h => h hc
    have HLE : Hid (decide ((n : Int) ≤ B) = false) := Lib.hid (decide_eq_false hle)
    have hrw2 := hrw1.below hb2 (Nat.le_refl _)
    have hbw2 := hb1.trans (hb2.mono hb1.size)
    clear hc hB hn1 hb1 hb2
    go_wp2_with fail
    refine (text_any p n c bs _ hrw2 HN.out (by omega)).mono ?_
    rintro e w3 ⟨v4, rfl, ho4, hb3⟩
    obtain ⟨p4, n4, c4, rfl, H4, hl4, hm4, hr4⟩ := ho4.open
    have hn4 : (n : Int) < (n4 : Int) := by have := hte.out.2; rw [H4.out] at this; omega
    have hbw3 := hbw2.trans (hb3.mono hbw2.size)
    go_wp2
    go_ret
    exact ⟨by show Ending.returned (.bool (!decide ((n : Int) ≤ B))) = _; rw [HLE.out]; rfl, hbw3⟩
  · rw [if_neg hc]
    rintro e w2 ⟨v2, v3, rfl, _, _, hb2⟩
    have hle : (n : Int) ≤ B := by rw [hB]; exact hc
    have hrw2 := hrw1.below hb2 (Nat.le_refl _)
    have hbw2 := hb1.trans (hb2.mono hb1.size)
    clear hc hB hn1 hb1 hb2
    go_wp2_with fail
    refine (text_any p n c bs _ hrw2 HN.out (by omega)).mono ?_
    rintro e w3 ⟨v4, rfl, ho4, hb3⟩
    obtain ⟨p4, n4, c4, rfl, H4, hl4, hm4, hr4⟩ := ho4.open
    have hn4 : (n : Int) < (n4 : Int) := by have := hte.out.2; rw [H4.out] at this; omega
    have hbw3 := hbw2.trans (hb3.mono hbw2.size)
    go_wp2
    go_ret
    exact ⟨rfl, hbw3⟩
end Go.Proofs.Ytamcmckfommlnaa
