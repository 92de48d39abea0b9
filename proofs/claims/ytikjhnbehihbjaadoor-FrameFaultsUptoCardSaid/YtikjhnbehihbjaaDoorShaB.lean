/- SHA-256: the rounds' words; rotations of the program: the walks. -/
import Derived.Test.YtikjhnbehihbjaaDoorSha
namespace Go.Proofs.YtikjhnbehihbjaaDoor
open Go.RowKit

def kWords : List (BitVec 32) := [1116352408#32, 1899447441#32, 3049323471#32, 3921009573#32, 961987163#32, 1508970993#32, 2453635748#32, 2870763221#32, 3624381080#32, 310598401#32, 607225278#32, 1426881987#32, 1925078388#32, 2162078206#32, 2614888103#32, 3248222580#32, 3835390401#32, 4022224774#32, 264347078#32, 604807628#32, 770255983#32, 1249150122#32, 1555081692#32, 1996064986#32, 2554220882#32, 2821834349#32, 2952996808#32, 3210313671#32, 3336571891#32, 3584528711#32, 113926993#32, 338241895#32, 666307205#32, 773529912#32, 1294757372#32, 1396182291#32, 1695183700#32, 1986661051#32, 2177026350#32, 2456956037#32, 2730485921#32, 2820302411#32, 3259730800#32, 3345764771#32, 3516065817#32, 3600352804#32, 4094571909#32, 275423344#32, 430227734#32, 506948616#32, 659060556#32, 883997877#32, 958139571#32, 1322822218#32, 1537002063#32, 1747873779#32, 1955562222#32, 2024104815#32, 2227730452#32, 2361852424#32, 2428436474#32, 2756734187#32, 3204031479#32, 3329325298#32]
theorem kWords_len : kWords.length = 64 := by decide
/-- the word of a round -/
def kW (i : Nat) : BitVec 32 := kWords[i]?.getD 0#32
theorem kW_at (i : Nat) (h : i < 64) : kWords[i]? = some (kW i) := by
  unfold kW
  rw [List.getElem?_eq_getElem (by rw [kWords_len]; exact h)]; rfl
def kCells : Array Value := (kWords.map u32).toArray
theorem kCells_at (i : Nat) (h : i < 64) : kCells[i]? = some (.int .u32 (iv32 (kW i))) := by
  unfold kCells
  rw [List.getElem?_toArray, List.getElem?_map, kW_at i h]; rfl

set_option maxRecDepth 100000 in
set_option maxHeartbeats 2000000 in
theorem constant_any (i : Nat) (hi : i < 64) (w : World) :
    Calls Tryd.prog 54 #[.int .i64 (i : Int)] w fun e w' => e = .returned (u32 (kW i)) ∧ Below w.heap.size w w' := by
  go_enter Tryd.func54, Tryd.ntmps54
  go_upto_region 2 with fail
  refine wp_abst (fun w' => Hid (Blk w' w.heap.size 63 kCells) ∧ Below w.heap.size w w') ⟨Lib.hid (by have := Blk.new w 63 kCells; exact this), (Below.refl _ _).alloc (Nat.le_refl _) _⟩ ?_
  rintro w1 ⟨hb1, hbel1⟩
  have hc : w1.cell? ⟨w.heap.size, i, none⟩ = some (.int .u32 (iv32 (kW i))) := by rw [hb1.out.cell]; exact kCells_at i hi
  have hi0 : (0 : Int) ≤ (i : Int) := by omega
  have hi1 : (i : Int) < 64 := by omega
  go_wp2
  go_ret
  exact ⟨rfl, hbel1⟩

theorem and31 : ∀ k : Fin 32, 0 < k.val → bits BinOp.and IntKind.u64 (IntKind.u64.wrap (-(k.val : Int))) 31 = ((32 - k.val : Nat) : Int) := by
  decide +kernel
set_option maxRecDepth 100000 in
set_option maxHeartbeats 2000000 in
theorem rot32_any (x : BitVec 32) (k : Nat) (h0 : 0 < k) (h1 : k < 32) (w : World) :
    Calls Tryd.prog 59 #[u32 x, .int .i64 (-(k : Int))] w fun e w' => e = .returned (u32 (rr x k)) ∧ w' = w := by
  have ha := and31 ⟨k, h1⟩ h0
  simp only [] at ha
  obtain ⟨s, hs⟩ : ∃ s : Nat, s = 32 - k := ⟨_, rfl⟩
  rw [← hs] at ha
  have hs1 : s < 32 := by omega
  have hs2 : ((32 : Int) - (s : Int)) = (k : Int) := by omega
  have hk0 : (0 : Int) ≤ (32 : Int) - (s : Int) := by omega
  go_enter Tryd.func59, Tryd.ntmps59
  go_wp2
  go_ret
  refine ⟨ret_int ?_, rfl⟩
  show bits BinOp.or IntKind.u32 (iv32 x * 2 ^ (32 - k) % 4294967296) (iv32 x / 2 ^ (32 - (32 - k))) = iv32 (rr x k)
  rw [show 32 - (32 - k) = k by omega, ← wrapU32, shlp32, shrp32, or32, rr_or x k h1]

set_option maxRecDepth 100000 in
set_option maxHeartbeats 2000000 in
theorem xor3_any (x : BitVec 32) (a b : Nat) (c : BitVec 32) (ha0 : 0 < a) (ha : a < 32) (hb0 : 0 < b) (hb : b < 32) (w : World) :
    Calls Tryd.prog 58 #[u32 x, .int .i64 (a : Int), .int .i64 (b : Int), u32 c] w fun e w' => e = .returned (u32 ((rr x a ^^^ rr x b) ^^^ c)) ∧ w' = w := by
  have x1 := xor32 (rr x a) (rr x b)
  have x2 := xor32 (rr x a ^^^ rr x b) c
  go_enter Tryd.func58, Tryd.ntmps58
  go_wp2_with fail
  refine (rot32_any x a ha0 ha _).mono ?_
  rintro e w1 ⟨rfl, hw1⟩
  replace hw1 := hw1.symm
  subst hw1
  go_wp2_with fail
  refine (rot32_any x b hb0 hb _).mono ?_
  rintro e w1 ⟨rfl, hw1⟩
  replace hw1 := hw1.symm
  subst hw1
  go_wp2
  go_ret
  exact ⟨rfl, rfl⟩
end Go.Proofs.YtikjhnbehihbjaaDoor
