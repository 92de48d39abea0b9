/- sporranref05: Low, Number: the walks. -/
import Derived.Test.YtikjhnbehihbjaaDoorAppend
import Derived.Deep.RegionLaw
namespace Go.Proofs.YtikjhnbehihbjaaDoor
open Go.RowKit

/-- a number's byte, the lowest is the first -/
def byteN (n : BitVec 64) (i : Nat) : BitVec 8 := (n >>> (8 * i)).setWidth 8
def low (n : BitVec 64) (k : Nat) : List (BitVec 8) := (List.range k).map (byteN n)
theorem low_succ (n : BitVec 64) (k : Nat) : low n (k + 1) = low n k ++ [byteN n k] := by simp [low, List.range_succ]
theorem low_len (n : BitVec 64) (k : Nat) : (low n k).length = k := by simp [low]

theorem shrB (n : BitVec 64) (i : Nat) : IntKind.u8.wrap (iv64 n / 2 ^ (8 * i)) = iv8 (byteN n i) := by
  rw [shrp64, cut64_8]; rfl
theorem new_one (w : World) (b : BitVec 8) : Row8 (w.alloc (.cells #[u8 b] 5)) (some ⟨w.heap.size, 0, none⟩) [b] := fun _ =>
  ⟨_, 0, rfl, by simp, fun i x hx => by
    rw [(Blk.new w _ _).cell]
    cases i with
    | zero => simp at hx ⊢; rw [hx]
    | succ i => simp at hx⟩

set_option maxRecDepth 100000 in
set_option maxHeartbeats 2000000 in
theorem low_any (n : BitVec 64) (m : Nat) (hm : m ≤ 8) (w : World) :
    Calls Tryd.prog 25 #[.int .u64 (iv64 n), .int .i64 (m : Int)] w (GivesOwn w (low n m)) := by
  go_enter Tryd.func25, Tryd.ntmps25
  go_wp2
  go_loopw [5, 8] (fun v i wr => ∃ k : Nat, k ≤ m ∧ i = .int .i64 k ∧ Own8 wr w.heap.size v (low n k) ∧ Below w.heap.size w wr) (fun _ i _ => m - (intOf i).toNat)
  case atStart => exact ⟨0, by omega, rfl, Own8.nil _ _, Below.refl _ _⟩
  case round =>
    obtain ⟨k, hk, rfl, hown, hbel⟩ := hrel
    by_cases hkm : k < m
    · have hlt : (k : Int) < (m : Int) := by omega
      have hsz := hbel.size
      have hlk := low_len n k
      have hb1 : (0 : Int) ≤ 8 * (k : Int) := by omega
      have hb2 : 8 * (k : Int) ≤ 56 := by omega
      have hsh := shrB n k
      have hrow := new_one wr (byteN n k)
      go_wp2_with (with_reducible refine wp_append8 (o := ⟨some 18, _, _, _, _, _⟩) ?_ (.tmp 11) (.tmp 17) ?_ w.heap.size _ (low n k) ?_ (hown.alloc _) (some ⟨wr.heap.size, 0, none⟩) 1 1 [byteN n k] ?_ rfl ?_ ?_ ?_ w.heap.size w ?_ ?_ ?_
                   · rfl
                   · rfl
                   · rfl
                   · rfl
                   · exact hrow
                   · rw [hlk]; simp only [List.length_cons, List.length_nil]; omega
                   · simp only [World.size_alloc]; omega
                   · exact hbel.alloc hsz _
                   · exact Nat.le_refl _
                   intro v1 w1 ho1 hb1 _ _)
      rw [← low_succ] at ho1
      go_roundw
      case rel => exact ⟨k + 1, by omega, by go_num, ho1, hb1⟩
      case measure => simp [intOf]; omega
    · obtain rfl : k = m := by omega
      go_wp2
      go_ret
      exact ⟨_, rfl, hown, hbel⟩

/-- the number of the first k bytes, the lowest first -/
def numTo (bs : List (BitVec 8)) : Nat → BitVec 64
  | 0 => 0#64
  | k + 1 => numTo bs k ||| ((bs[k]?.getD 0#8).setWidth 64 <<< (8 * k))
theorem num_step (bs : List (BitVec 8)) (k : Nat) (b : BitVec 8) (h : bs[k]? = some b) : bits .or .u64 (iv64 (numTo bs k)) (IntKind.u64.wrap (IntKind.u64.wrap (iv8 b) * 2 ^ (8 * k))) = iv64 (numTo bs (k + 1)) := by
  rw [ext8_64, shlp64, or64, numTo, h]; rfl

set_option maxRecDepth 100000 in
set_option maxHeartbeats 2000000 in
theorem number_any (p : Option Addr) (n c : Nat) (bs : List (BitVec 8)) (w : World) (hr : Row8 w p bs) (hn : bs.length = n) (hn8 : n ≤ 8) :
    Calls Tryd.prog 40 #[.slice p n c] w fun e w' => e = .returned (.int .u64 (iv64 (numTo bs n))) ∧ w' = w := by
  have HN := Lib.hid hn
  clear hn
  go_enter Tryd.func40, Tryd.ntmps40
  go_wp2
  go_loopw [3, 8] (fun s i wr => ∃ k : Nat, k ≤ n ∧ i = .int .i64 k ∧ s = .int .u64 (iv64 (numTo bs k)) ∧ wr = w) (fun _ i _ => n - (intOf i).toNat)
  case atStart => exact ⟨0, by omega, rfl, rfl, rfl⟩
  case round =>
    obtain ⟨k, hk, rfl, rfl, rfl⟩ := hrel
    by_cases hkn : k < n
    · obtain ⟨bb, of, rfl, _, hcell⟩ := hr (fun e => by have := HN.out; rw [e] at this; simp at this; omega)
      obtain ⟨b, hb⟩ : ∃ b, bs[k]? = some b := ⟨bs[k]'(by rw [HN.out]; exact hkn), List.getElem?_eq_getElem _⟩
      have hx : wr.cell? ⟨bb, of + k, none⟩ = some (.int .u8 (iv8 b)) := hcell k b hb
      have hlt : (k : Int) < (n : Int) := by omega
      have hb2 : 8 * (k : Int) ≤ 56 := by omega
      have hb1 : (0 : Int) ≤ 8 * (k : Int) := by omega
      have hst := num_step bs k b hb
      clear hcell hr
      go_wp2
      go_roundw
      case rel => exact ⟨k + 1, by omega, by go_num, rfl, trivial⟩
      case measure => simp [intOf]; omega
    · obtain rfl : k = n := by omega
      go_wp2
      go_ret
      exact ⟨rfl, rfl⟩

theorem numTo_bit (n : BitVec 64) (L : List (BitVec 8)) (k : Nat) (hL : ∀ i, i < k → L[i]? = some (byteN n i)) (j : Nat) (hj : j < 64) : (numTo L k).getLsbD j = (decide (j < 8 * k) && n.getLsbD j) := by
  induction k with
  | zero => simp [numTo]
  | succ k ih =>
    rw [numTo, hL k (by omega), BitVec.getLsbD_or, ih (fun i hi => hL i (by omega)), BitVec.getLsbD_shiftLeft]
    simp only [Option.getD_some, byteN, BitVec.getLsbD_setWidth, BitVec.getLsbD_ushiftRight]
    by_cases h1 : j < 8 * k
    · simp [h1, show j < 8 * (k + 1) by omega]
    · by_cases h2 : j < 8 * (k + 1)
      · simp [h1, h2, hj, show j - 8 * k < 64 by omega, show j - 8 * k < 8 by omega, show 8 * k + (j - 8 * k) = j by omega]
      · simp [h1, h2, show ¬ (j - 8 * k < 8) by omega]
theorem numTo_low (n : BitVec 64) (k : Nat) (r : List (BitVec 8)) (hn : n.toNat < 2 ^ (8 * k)) : numTo (low n k ++ r) k = n := by
  refine BitVec.eq_of_getLsbD_eq fun j hj => ?_
  rw [numTo_bit n _ k (fun i hi => by simp [low, List.getElem?_append, hi]) j hj]
  by_cases h : j < 8 * k
  · simp [h]
  · have : n.getLsbD j = false := by
      rw [BitVec.getLsbD, Nat.testBit_lt_two_pow]
      exact Nat.lt_of_lt_of_le hn (Nat.pow_le_pow_right (by omega) (by omega))
    simp [h, this]
end Go.Proofs.YtikjhnbehihbjaaDoor
