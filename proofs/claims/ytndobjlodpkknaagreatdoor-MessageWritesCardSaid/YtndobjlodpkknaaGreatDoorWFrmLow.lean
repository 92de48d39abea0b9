/- frame.low: the walk.  -/
import Derived.Test.YtndobjlodpkknaaGreatDoorWGB
import Derived.Test.YtndobjlodpkknaaGreatDoorWGA
namespace Go.Proofs.YtndobjlodpkknaaGreatDoor
open Go.RowKit
theorem own_bytes (w : World) (bs : List (BitVec 8)) (cs : Array Value) (hc : cs = (bs.map u8).toArray) (hm : bs.length ≤ 1000) (n : Nat) (hn : n = bs.length) : Own8 (w.alloc (.cells cs 5)) w.heap.size (.slice (some ⟨w.heap.size, 0, none⟩) n n) bs := by
  subst hc
  subst hn
  exact ⟨by simp, .inr ⟨w.heap.size, bs.length, _, rfl, Nat.le_refl _, Blk.new w _ _, Nat.le_refl _, by unfold maxLen; omega, by simp, by rw [Nat.mul_one, List.take_of_length_le (by simp)]⟩⟩
theorem low_four (n : BitVec 64) : low n 4 = [byteN n 0, byteN n 1, byteN n 2, byteN n 3] := by simp [low, List.range_succ]
set_option maxRecDepth 100000 in
set_option maxHeartbeats 2000000 in
theorem frmLow_any (n : Nat) (x : Int) (hx : x = (n : Int)) (hn : n < 4294967296) (w : World) : Calls Tryz.prog 36 #[.int .u32 x] w (GivesOwn w (low (BitVec.ofNat 64 n) 4)) := by
  obtain ⟨N, hN⟩ : ∃ N, N = BitVec.ofNat 64 n := ⟨_, rfl⟩
  have hiv : iv64 N = x := by rw [hN, hx]; simp [iv64]; omega
  rw [← hN]
  have h0 := shrB N 0
  have h1 := shrB N 1
  have h2 := shrB N 2
  have h3 := shrB N 3
  rw [hiv] at h0 h1 h2 h3
  have hx0 : 0 ≤ x := by omega
  have hx1 : x < 4294967296 := by omega
  simp only [Nat.mul_zero, Int.pow_zero, Int.ediv_one, Nat.mul_one, show 8 * 2 = 16 from rfl, show 8 * 3 = 24 from rfl, show (2 : Int) ^ 8 = 256 from rfl, show (2 : Int) ^ 16 = 65536 from rfl, show (2 : Int) ^ 24 = 16777216 from rfl, IntKind.wrap_u8] at h0 h1 h2 h3
  have H0 := Lib.hid h0
  have H1 := Lib.hid h1
  have H2 := Lib.hid h2
  have H3 : Hid (x / 16777216 = iv8 (byteN N 3)) := Lib.hid (by rw [← h3]; omega)
  have HL := Lib.hid (low_four N)
  clear hN hiv hx hn h0 h1 h2 h3
  go_enter Tryz.func36, Tryz.ntmps36
  go_wp2
  go_ret
  exact ⟨_, rfl, own_bytes w _ _ (by rw [HL.out, H0.out, H1.out, H2.out, H3.out]; rfl) (by rw [low_len]; omega) 4 (by rw [low_len]), below_new w _⟩
end Go.Proofs.YtndobjlodpkknaaGreatDoor
