/- sporranref05.Number, sporran/size.width: the walks. -/
import Derived.Test.YtamcmckfommlnaaSizeB
namespace Go.Proofs.Ytamcmckfommlnaa
open Go.RowKit

/-- the number of the first k bytes, the lowest first -/
def numTo (bs : List (BitVec 8)) : Nat → BitVec 64
  | 0 => 0#64
  | k + 1 => numTo bs k ||| ((bs[k]?.getD 0#8).setWidth 64 <<< (8 * k))
theorem num_step (bs : List (BitVec 8)) (k : Nat) (b : BitVec 8) (h : bs[k]? = some b) : bits .or .u64 (iv64 (numTo bs k)) (IntKind.u64.wrap (IntKind.u64.wrap (iv8 b) * 2 ^ (8 * k))) = iv64 (numTo bs (k + 1)) := by
  rw [ext8_64, shlp64, or64, numTo, h]; rfl

set_option maxRecDepth 100000 in
set_option maxHeartbeats 2000000 in
theorem number_any (p : Option Addr) (n c : Nat) (bs : List (BitVec 8)) (w : World) (hr : Row8 w p bs) (hn : bs.length = n) (hn8 : n ≤ 8) :
    Calls Try.prog 31 #[.slice p n c] w fun e w' => e = .returned (.int .u64 (iv64 (numTo bs n))) ∧ w' = w := by
  have HN := Lib.hid hn
  clear hn
  go_enter Try.func31, Try.ntmps31
  go_wp2
  go_loopw [3, 8] (fun s i wr => ∃ k : Nat, k ≤ n ∧ i = .int .i64 k ∧ s = .int .u64 (iv64 (numTo bs k)) ∧ wr = w) (fun _ i _ => n - (intOf i).toNat)
  case atStart => exact ⟨0, by omega, rfl, rfl, rfl⟩
  case round =>
    obtain ⟨k, hk, rfl, rfl, rfl⟩ := hrel
    by_cases hkn : k < n
    · obtain ⟨bb, of, rfl, _, hcell⟩ := hr (fun e => by have := HN.out; rw [e] at this; simp at this; omega)
      obtain ⟨b, hb⟩ : ∃ b, bs[k]? = some b := ⟨bs[k]'(by rw [HN.out]; exact hkn), List.getElem?_eq_getElem _⟩
      have hx : wr.cell? ⟨bb, of + k, none⟩ = some (.int .u8 (iv8 b)) := hcell k b hb
      have hlt : (k : Int) < (n : Int) := by omega
      have hb2 : 8 * (k : Int) ≤ 56 := by omega
      have hb1 : (0 : Int) ≤ 8 * (k : Int) := by omega
      have hst := num_step bs k b hb
      clear hcell hr
      go_wp2
      go_roundw
      case rel => exact ⟨k + 1, by omega, by go_num, rfl, trivial⟩
      case measure => simp [intOf]; omega
    · obtain rfl : k = n := by omega
      go_wp2
      go_ret
      exact ⟨rfl, rfl⟩

/-- how many bytes stand behind a count's first one -/
def widthP (b : BitVec 8) : Nat := if b = 253#8 then 2 else if b = 254#8 then 4 else if b = 255#8 then 8 else 0
/-- the least number that needs them -/
def leastP (b : BitVec 8) : Int := if b = 253#8 then 253 else if b = 254#8 then 65536 else if b = 255#8 then 4294967296 else 0
def WidthPost (w : World) (b : BitVec 8) (e : Ending) (w' : World) : Prop := e = .returned (.tuple #[.int .i64 (widthP b : Int), .int .u64 (leastP b)]) ∧ w' = w
set_option maxRecDepth 100000 in
theorem width_any (b : BitVec 8) (w : World) : Calls Try.prog 32 #[.int .u8 (iv8 b)] w (WidthPost w b) := by
  go_enter Try.func32, Try.ntmps32
  by_cases h1 : b = 253#8
  · have e1 : (iv8 b == 253) = true := by rw [h1]; rfl
    have hP : Hid (widthP b = 2 ∧ leastP b = 253) := Lib.hid (by unfold widthP leastP; simp [h1])
    clear h1
    go_wp2
    go_ret2
    unfold WidthPost; rw [hP.out.1, hP.out.2]; exact ⟨rfl, rfl⟩
  have e1 : (iv8 b == 253) = false := by rw [beq_eq_false_iff_ne]; intro e; exact h1 (iv8_inj.1 (e.trans (by rfl)))
  by_cases h2 : b = 254#8
  · have e2 : (iv8 b == 254) = true := by rw [h2]; rfl
    have hP : Hid (widthP b = 4 ∧ leastP b = 65536) := Lib.hid (by unfold widthP leastP; simp [h2])
    clear h1 h2
    go_wp2
    go_ret2
    unfold WidthPost; rw [hP.out.1, hP.out.2]; exact ⟨rfl, rfl⟩
  have e2 : (iv8 b == 254) = false := by rw [beq_eq_false_iff_ne]; intro e; exact h2 (iv8_inj.1 (e.trans (by rfl)))
  by_cases h3 : b = 255#8
  · have e3 : (iv8 b == 255) = true := by rw [h3]; rfl
    have hP : Hid (widthP b = 8 ∧ leastP b = 4294967296) := Lib.hid (by unfold widthP leastP; simp [h3])
    clear h1 h2 h3
    go_wp2
    go_ret2
    unfold WidthPost; rw [hP.out.1, hP.out.2]; exact ⟨rfl, rfl⟩
  · have e3 : (iv8 b == 255) = false := by rw [beq_eq_false_iff_ne]; intro e; exact h3 (iv8_inj.1 (e.trans (by rfl)))
    have hP : Hid (widthP b = 0 ∧ leastP b = 0) := Lib.hid (by unfold widthP leastP; simp [h1, h2, h3])
    clear h1 h2 h3
    go_wp2
    go_ret2
    unfold WidthPost; rw [hP.out.1, hP.out.2]; exact ⟨rfl, rfl⟩
end Go.Proofs.Ytamcmckfommlnaa
