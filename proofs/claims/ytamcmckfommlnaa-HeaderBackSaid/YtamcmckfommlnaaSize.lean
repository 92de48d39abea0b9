/- sporranref05: Low, Encode: the walks. -/
import Derived.Test.YtamcmckfommlnaaAppend
import Derived.Deep.RegionLaw
namespace Go.Proofs.Ytamcmckfommlnaa
open Go.RowKit

/-- a number's byte, the lowest is the first -/
def byteN (n : BitVec 64) (i : Nat) : BitVec 8 := (n >>> (8 * i)).setWidth 8
def low (n : BitVec 64) (k : Nat) : List (BitVec 8) := (List.range k).map (byteN n)
theorem low_succ (n : BitVec 64) (k : Nat) : low n (k + 1) = low n k ++ [byteN n k] := by simp [low, List.range_succ]
theorem low_len (n : BitVec 64) (k : Nat) : (low n k).length = k := by simp [low]

theorem shrB (n : BitVec 64) (i : Nat) : IntKind.u8.wrap (iv64 n / 2 ^ (8 * i)) = iv8 (byteN n i) := by
  rw [shrp64, cut64_8]; rfl
theorem new_one (w : World) (b : BitVec 8) : Row8 (w.alloc (.cells #[u8 b] 5)) (some ⟨w.heap.size, 0, none⟩) [b] := fun _ =>
  ⟨_, 0, rfl, by simp, fun i x hx => by
    rw [(Blk.new w _ _).cell]
    cases i with
    | zero => simp at hx ⊢; rw [hx]
    | succ i => simp at hx⟩

set_option maxRecDepth 100000 in
set_option maxHeartbeats 2000000 in
theorem low_any (n : BitVec 64) (m : Nat) (hm : m ≤ 8) (w : World) :
    Calls Try.prog 19 #[.int .u64 (iv64 n), .int .i64 (m : Int)] w (GivesOwn w (low n m)) := by
  go_enter Try.func19, Try.ntmps19
  go_wp2
  go_loopw [5, 8] (fun v i wr => ∃ k : Nat, k ≤ m ∧ i = .int .i64 k ∧ Own8 wr w.heap.size v (low n k) ∧ Below w.heap.size w wr) (fun _ i _ => m - (intOf i).toNat)
  case atStart => exact ⟨0, by omega, rfl, Own8.nil _ _, Below.refl _ _⟩
  case round =>
    obtain ⟨k, hk, rfl, hown, hbel⟩ := hrel
    by_cases hkm : k < m
    · have hlt : (k : Int) < (m : Int) := by omega
      have hsz := hbel.size
      have hlk := low_len n k
      have hb1 : (0 : Int) ≤ 8 * (k : Int) := by omega
      have hb2 : 8 * (k : Int) ≤ 56 := by omega
      have hsh := shrB n k
      have hrow := new_one wr (byteN n k)
      go_wp2_with (with_reducible refine wp_append8 (o := ⟨some 18, _, _, _, _, _⟩) ?_ (.tmp 11) (.tmp 17) ?_ w.heap.size _ (low n k) ?_ (hown.alloc _) (some ⟨wr.heap.size, 0, none⟩) 1 1 [byteN n k] ?_ rfl ?_ ?_ ?_ w.heap.size w ?_ ?_ ?_
                   · rfl
                   · rfl
                   · rfl
                   · rfl
                   · exact hrow
                   · rw [hlk]; simp only [List.length_cons, List.length_nil]; omega
                   · simp only [World.size_alloc]; omega
                   · exact hbel.alloc hsz _
                   · exact Nat.le_refl _
                   intro v1 w1 ho1 hb1 _ _)
      rw [← low_succ] at ho1
      go_roundw
      case rel => exact ⟨k + 1, by omega, by go_num, ho1, hb1⟩
      case measure => simp [intOf]; omega
    · obtain rfl : k = m := by omega
      go_wp2
      go_ret
      exact ⟨_, rfl, hown, hbel⟩

/-- a count's bytes -/
def enc (n : BitVec 64) : List (BitVec 8) :=
  if iv64 n < 253 then [n.setWidth 8] else if iv64 n ≤ 65535 then 253#8 :: low n 2 else if iv64 n ≤ 4294967295 then 254#8 :: low n 4 else 255#8 :: low n 8
theorem own_one (w : World) (b : BitVec 8) : Own8 (w.alloc (.cells #[u8 b] 5)) w.heap.size (.slice (some ⟨w.heap.size, 0, none⟩) 1 1) [b] :=
  ⟨rfl, .inr ⟨w.heap.size, 1, #[u8 b], rfl, Nat.le_refl _, Blk.new w _ _, Nat.le_refl _, by unfold maxLen; omega, rfl, rfl⟩⟩
theorem GivesOwn.of {w w' : World} {bs cs : List (BitVec 8)} {v : Value} (h : Hid (bs = cs)) (ho : Own8 w' w.heap.size v cs) (hb : Below w.heap.size w w') : GivesOwn w bs (.returned v) w' := by
  rw [h.out]; exact ⟨v, rfl, ho, hb⟩

set_option maxRecDepth 100000 in
set_option maxHeartbeats 2000000 in
theorem refEncode_any (n : BitVec 64) (w : World) : Calls Try.prog 21 #[.int .u64 (iv64 n)] w (GivesOwn w (enc n)) := by
  have hlo := iv64_lo n
  go_enter Try.func21, Try.ntmps21
  by_cases h1 : iv64 n < 253
  · have HE : Hid (enc n = [n.setWidth 8]) := Lib.hid (by unfold enc; rw [if_pos h1])
    have hc := cut64_8 n
    have ho := own_one w (n.setWidth 8)
    have hb0 : Below w.heap.size w (w.alloc (.cells #[u8 (n.setWidth 8)] 5)) := (Below.refl _ _).alloc (Nat.le_refl _) _
    go_wp2
    go_ret
    exact GivesOwn.of HE ho hb0
  by_cases h2 : iv64 n ≤ 65535
  · have HE : Hid (enc n = 253#8 :: low n 2) := Lib.hid (by unfold enc; rw [if_neg h1, if_pos h2])
    have hb0 : Below w.heap.size w (w.alloc (.cells #[u8 253#8] 5)) := (Below.refl _ _).alloc (Nat.le_refl _) _
    have ho := own_one w 253#8
    go_wp2_with fail
    refine (low_any n 2 (by omega) (w.alloc (.cells #[u8 253#8] 5))).mono ?_
    rintro e w1 ⟨v1, rfl, ho1, hb1⟩
    obtain ⟨p1, c1, rfl, hl1, hm1, hr1⟩ := ho1.row
    have hl2 := low_len n 2
    have hsz := hb0.size
    have hsz1 := hb1.size
    have hbw := hb0.trans (hb1.mono hsz)
    have ho2 := ho.below hb1 (Nat.le_refl _)
    clear ho ho1 hb1
    go_wp2_with (with_reducible refine wp_append8 (o := ⟨some 15, _, _, _, _, _⟩) ?_ (.tmp 12) (.tmp 14) ?_ w.heap.size _ [253#8] ?_ ho2 p1 (low n 2).length c1 (low n 2) ?_ rfl hr1 ?_ ?_ w.heap.size w hbw ?_ ?_
                 · rfl
                 · rfl
                 · rfl
                 · rfl
                 · rw [hl2]; simp only [List.length_cons, List.length_nil]; omega
                 · exact hbw.size
                 · exact Nat.le_refl _
                 intro v3 w3 ho3 hb3 _ _)
    go_ret
    exact GivesOwn.of HE ho3 hb3
  by_cases h3 : iv64 n ≤ 4294967295
  · have HE : Hid (enc n = 254#8 :: low n 4) := Lib.hid (by unfold enc; rw [if_neg h1, if_neg h2, if_pos h3])
    have hb0 : Below w.heap.size w (w.alloc (.cells #[u8 254#8] 5)) := (Below.refl _ _).alloc (Nat.le_refl _) _
    have ho := own_one w 254#8
    go_wp2_with fail
    refine (low_any n 4 (by omega) (w.alloc (.cells #[u8 254#8] 5))).mono ?_
    rintro e w1 ⟨v1, rfl, ho1, hb1⟩
    obtain ⟨p1, c1, rfl, hl1, hm1, hr1⟩ := ho1.row
    have hl4 := low_len n 4
    have hsz := hb0.size
    have hsz1 := hb1.size
    have hbw := hb0.trans (hb1.mono hsz)
    have ho2 := ho.below hb1 (Nat.le_refl _)
    clear ho ho1 hb1
    go_wp2_with (with_reducible refine wp_append8 (o := ⟨some 22, _, _, _, _, _⟩) ?_ (.tmp 19) (.tmp 21) ?_ w.heap.size _ [254#8] ?_ ho2 p1 (low n 4).length c1 (low n 4) ?_ rfl hr1 ?_ ?_ w.heap.size w hbw ?_ ?_
                 · rfl
                 · rfl
                 · rfl
                 · rfl
                 · rw [hl4]; simp only [List.length_cons, List.length_nil]; omega
                 · exact hbw.size
                 · exact Nat.le_refl _
                 intro v3 w3 ho3 hb3 _ _)
    go_ret
    exact GivesOwn.of HE ho3 hb3
  · have HE : Hid (enc n = 255#8 :: low n 8) := Lib.hid (by unfold enc; rw [if_neg h1, if_neg h2, if_neg h3])
    have hb0 : Below w.heap.size w (w.alloc (.cells #[u8 255#8] 5)) := (Below.refl _ _).alloc (Nat.le_refl _) _
    have ho := own_one w 255#8
    go_wp2_with fail
    refine (low_any n 8 (by omega) (w.alloc (.cells #[u8 255#8] 5))).mono ?_
    rintro e w1 ⟨v1, rfl, ho1, hb1⟩
    obtain ⟨p1, c1, rfl, hl1, hm1, hr1⟩ := ho1.row
    have hl8 := low_len n 8
    have hsz := hb0.size
    have hsz1 := hb1.size
    have hbw := hb0.trans (hb1.mono hsz)
    have ho2 := ho.below hb1 (Nat.le_refl _)
    clear ho ho1 hb1
    go_wp2_with (with_reducible refine wp_append8 (o := ⟨some 26, _, _, _, _, _⟩) ?_ (.tmp 23) (.tmp 25) ?_ w.heap.size _ [255#8] ?_ ho2 p1 (low n 8).length c1 (low n 8) ?_ rfl hr1 ?_ ?_ w.heap.size w hbw ?_ ?_
                 · rfl
                 · rfl
                 · rfl
                 · rfl
                 · rw [hl8]; simp only [List.length_cons, List.length_nil]; omega
                 · exact hbw.size
                 · exact Nat.le_refl _
                 intro v3 w3 ho3 hb3 _ _)
    go_ret
    exact GivesOwn.of HE ho3 hb3
end Go.Proofs.Ytamcmckfommlnaa
