/- sporranref05.Encode: the walk. -/
import Derived.Test.YtifanifgbkpdgaaDoorLow
namespace Go.Proofs.YtifanifgbkpdgaaDoor
open Go.RowKit

/-- a count's bytes -/
def enc (n : BitVec 64) : List (BitVec 8) :=
  if iv64 n < 253 then [n.setWidth 8] else if iv64 n ≤ 65535 then 253#8 :: low n 2 else if iv64 n ≤ 4294967295 then 254#8 :: low n 4 else 255#8 :: low n 8
theorem own_one (w : World) (b : BitVec 8) : Own8 (w.alloc (.cells #[u8 b] 5)) w.heap.size (.slice (some ⟨w.heap.size, 0, none⟩) 1 1) [b] :=
  ⟨rfl, .inr ⟨w.heap.size, 1, #[u8 b], rfl, Nat.le_refl _, Blk.new w _ _, Nat.le_refl _, by unfold maxLen; omega, rfl, rfl⟩⟩
theorem GivesOwn.of {w w' : World} {bs cs : List (BitVec 8)} {v : Value} (h : Hid (bs = cs)) (ho : Own8 w' w.heap.size v cs) (hb : Below w.heap.size w w') : GivesOwn w bs (.returned v) w' := by
  rw [h.out]; exact ⟨v, rfl, ho, hb⟩

set_option maxRecDepth 100000 in
set_option maxHeartbeats 2000000 in
theorem refEncode_any (n : BitVec 64) (w : World) : Calls Tryd.prog 58 #[.int .u64 (iv64 n)] w (GivesOwn w (enc n)) := by
  have hlo := iv64_lo n
  go_enter Tryd.func58, Tryd.ntmps58
  by_cases h1 : iv64 n < 253
  · have HE : Hid (enc n = [n.setWidth 8]) := Lib.hid (by unfold enc; rw [if_pos h1])
    have hc := cut64_8 n
    have ho := own_one w (n.setWidth 8)
    have hb0 : Below w.heap.size w (w.alloc (.cells #[u8 (n.setWidth 8)] 5)) := (Below.refl _ _).alloc (Nat.le_refl _) _
    go_wp2
    go_ret
    exact GivesOwn.of HE ho hb0
  by_cases h2 : iv64 n ≤ 65535
  · have HE : Hid (enc n = 253#8 :: low n 2) := Lib.hid (by unfold enc; rw [if_neg h1, if_pos h2])
    have hb0 : Below w.heap.size w (w.alloc (.cells #[u8 253#8] 5)) := (Below.refl _ _).alloc (Nat.le_refl _) _
    have ho := own_one w 253#8
    go_wp2_with fail
    refine (low_any n 2 (by omega) (w.alloc (.cells #[u8 253#8] 5))).mono ?_
    rintro e w1 ⟨v1, rfl, ho1, hb1⟩
    obtain ⟨p1, c1, rfl, hl1, hm1, hr1⟩ := ho1.row
    have hl2 := low_len n 2
    have hsz := hb0.size
    have hsz1 := hb1.size
    have hbw := hb0.trans (hb1.mono hsz)
    have ho2 := ho.below hb1 (Nat.le_refl _)
    clear ho ho1 hb1
    go_wp2_with (with_reducible refine wp_append8 (o := ⟨some 15, _, _, _, _, _⟩) ?_ (.tmp 12) (.tmp 14) ?_ w.heap.size _ [253#8] ?_ ho2 p1 (low n 2).length c1 (low n 2) ?_ rfl hr1 ?_ ?_ w.heap.size w hbw ?_ ?_
                 · rfl
                 · rfl
                 · rfl
                 · rfl
                 · rw [hl2]; simp only [List.length_cons, List.length_nil]; omega
                 · exact hbw.size
                 · exact Nat.le_refl _
                 intro v3 w3 ho3 hb3 _ _)
    go_ret
    exact GivesOwn.of HE ho3 hb3
  by_cases h3 : iv64 n ≤ 4294967295
  · have HE : Hid (enc n = 254#8 :: low n 4) := Lib.hid (by unfold enc; rw [if_neg h1, if_neg h2, if_pos h3])
    have hb0 : Below w.heap.size w (w.alloc (.cells #[u8 254#8] 5)) := (Below.refl _ _).alloc (Nat.le_refl _) _
    have ho := own_one w 254#8
    go_wp2_with fail
    refine (low_any n 4 (by omega) (w.alloc (.cells #[u8 254#8] 5))).mono ?_
    rintro e w1 ⟨v1, rfl, ho1, hb1⟩
    obtain ⟨p1, c1, rfl, hl1, hm1, hr1⟩ := ho1.row
    have hl4 := low_len n 4
    have hsz := hb0.size
    have hsz1 := hb1.size
    have hbw := hb0.trans (hb1.mono hsz)
    have ho2 := ho.below hb1 (Nat.le_refl _)
    clear ho ho1 hb1
    go_wp2_with (with_reducible refine wp_append8 (o := ⟨some 22, _, _, _, _, _⟩) ?_ (.tmp 19) (.tmp 21) ?_ w.heap.size _ [254#8] ?_ ho2 p1 (low n 4).length c1 (low n 4) ?_ rfl hr1 ?_ ?_ w.heap.size w hbw ?_ ?_
                 · rfl
                 · rfl
                 · rfl
                 · rfl
                 · rw [hl4]; simp only [List.length_cons, List.length_nil]; omega
                 · exact hbw.size
                 · exact Nat.le_refl _
                 intro v3 w3 ho3 hb3 _ _)
    go_ret
    exact GivesOwn.of HE ho3 hb3
  · have HE : Hid (enc n = 255#8 :: low n 8) := Lib.hid (by unfold enc; rw [if_neg h1, if_neg h2, if_neg h3])
    have hb0 : Below w.heap.size w (w.alloc (.cells #[u8 255#8] 5)) := (Below.refl _ _).alloc (Nat.le_refl _) _
    have ho := own_one w 255#8
    go_wp2_with fail
    refine (low_any n 8 (by omega) (w.alloc (.cells #[u8 255#8] 5))).mono ?_
    rintro e w1 ⟨v1, rfl, ho1, hb1⟩
    obtain ⟨p1, c1, rfl, hl1, hm1, hr1⟩ := ho1.row
    have hl8 := low_len n 8
    have hsz := hb0.size
    have hsz1 := hb1.size
    have hbw := hb0.trans (hb1.mono hsz)
    have ho2 := ho.below hb1 (Nat.le_refl _)
    clear ho ho1 hb1
    go_wp2_with (with_reducible refine wp_append8 (o := ⟨some 26, _, _, _, _, _⟩) ?_ (.tmp 23) (.tmp 25) ?_ w.heap.size _ [255#8] ?_ ho2 p1 (low n 8).length c1 (low n 8) ?_ rfl hr1 ?_ ?_ w.heap.size w hbw ?_ ?_
                 · rfl
                 · rfl
                 · rfl
                 · rfl
                 · rw [hl8]; simp only [List.length_cons, List.length_nil]; omega
                 · exact hbw.size
                 · exact Nat.le_refl _
                 intro v3 w3 ho3 hb3 _ _)
    go_ret
    exact GivesOwn.of HE ho3 hb3
end Go.Proofs.YtifanifgbkpdgaaDoor
