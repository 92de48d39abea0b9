/- sporranlaw24.AuditSums: the sum of coins, the program's and the reference's. -/
import Derived.Test.YtlopmnepodbefaaAggs
import Derived.Test.YtlopmnepodbefaaProg
namespace Go.Proofs.Ytlopmnepodbefaa
open Go.RowKit

/-- the sum of k values, if none is below 0 and no sum goes over -/
def sumTo (vals : Nat → Int) : Nat → Option Int
  | 0 => some 0
  | k + 1 => match sumTo vals k with
    | none => none
    | some s => if vals k < 0 ∨ 9223372036854775807 - vals k < s then none else some (s + vals k)
theorem sumTo_none {vals : Nat → Int} {k n : Nat} (h : sumTo vals k = none) (hk : k ≤ n) : sumTo vals n = none := by
  obtain ⟨m, rfl⟩ := Nat.exists_eq_add_of_le hk
  clear hk
  induction m with
  | zero => exact h
  | succ m ih => rw [← Nat.add_assoc]; simp only [sumTo, ih]
def sumRes (o : Option Int) : Value := match o with
  | none => .tuple #[.int .i64 0, .bool false]
  | some s => .tuple #[.int .i64 s, .bool true]

/-- cells of n coins from p on: coin k's cells, the value among them -/
def Coins (w : World) (p : Option Addr) (n : Nat) (vals : Nat → Int) : Prop :=
  0 < n → ∃ b off, p = some ⟨b, off, none⟩ ∧ b < w.heap.size ∧ ∀ k, k < n → ∃ cs : List Value, cs.length = 36 ∧ cs[33]? = some (.int .i64 (vals k)) ∧ (∀ v ∈ cs, v.oneCell' = true) ∧ w.rangeAt b (off + k * 36) cs

set_option maxRecDepth 100000 in
set_option maxHeartbeats 1000000 in
theorem sum_coins (p : Option Addr) (n c : Nat) (vals : Nat → Int) (w : World) (hr : Coins w p n vals) (hv : ∀ k, k < n → -9223372036854775808 ≤ vals k ∧ vals k ≤ 9223372036854775807) (hn : n ≤ 9223372036854775807) :
    Calls Try.prog 12 #[.slice p n c] w fun e w' => e = .returned (sumRes (sumTo vals n)) ∧ Below w.heap.size w w' := by
  go_enter Try.func12, Try.ntmps12
  go_wp2
  go_loopw [4, 9] (fun s i wr => ∃ k : Nat, ∃ S : Int, k ≤ n ∧ i = .int .i64 k ∧ s = .int .i64 S ∧ 0 ≤ S ∧ S ≤ 9223372036854775807 ∧ Hid (sumTo vals k = some S) ∧ Below w.heap.size w wr) (fun _ i _ => n - (intOf i).toNat)
  case atStart => exact ⟨0, 0, by omega, rfl, rfl, by omega, by omega, rfl, Below.refl _ _⟩
  case round =>
    obtain ⟨k, S, hk, rfl, rfl, hS0, hS1, hS, hbel⟩ := hrel
    by_cases hlt : k < n
    · obtain ⟨b, off, rfl, hb, hall⟩ := hr (by omega)
      obtain ⟨cs, hcl, hcv, hc1, hra⟩ := hall k hlt
      have hvk := hv k hlt
      clear hall hr hv
      obtain ⟨V, hV⟩ : ∃ V, V = vals k := ⟨_, rfl⟩
      have hsu : sumTo vals (k + 1) = if V < 0 ∨ 9223372036854775807 - V < S then none else some (S + V) := by simp only [sumTo, hS.out, hV]
      rw [← hV] at hcv hvk
      have HSU := Lib.hid hsu
      clear hV hsu hS
      have hra2 : wr.rangeAt b (off + k * 36) cs := fun j v hj => (hbel.cell (p := ⟨b, off + k * 36 + j, none⟩) hb).trans (hra j v hj)
      have HR := Lib.hid hra2
      have HC := Lib.hid hcv
      have HL := Lib.hid hcl
      clear hra hra2 hcv hcl
      rcases (show V < 0 ∨ (0 ≤ V ∧ 9223372036854775807 - V < S) ∨ (0 ≤ V ∧ S ≤ 9223372036854775807 - V) by omega) with hcase | hcase | hcase
      all_goals
        first | (have hd1 : decide (V < 0) = true := decide_eq_true hcase) | (have hd1 : decide (V < 0) = false := decide_eq_false (by omega); skip)
        go_wp2_with first
          | (with_reducible refine wpList_load_mid (op := ⟨some 12, _, _, _, _, _⟩) ?_ 53 (.tmp 11) ?_ b (off + k * 36) ?_ cs _ HR.out Try.underlying53 ?_ ?_ ?_
             · rfl
             · rfl
             · rfl
             · rfl
             · rw [HL.out]; kernel_rfl)
          | (with_reducible refine wp_store_blk (o := ⟨none, .store 53 (.tmp 6) (.tmp 12), _, _, _, _⟩) ?_ 53 (.tmp 6) (.tmp 12) ?_ wr.heap.size 53 _ cs.toArray ?_ ?_ (Blk.new wr _ _) ?_ ?_ (all_oneCell_toArray hc1) w.heap.size w (hbel.alloc hbel.size _) hbel.size ?_
             · rfl
             · rfl
             · rfl
             · rfl
             · rw [List.size_toArray, HL.out]; kernel_rfl
             · exact (show (36 : Nat) = cs.toArray.size by rw [List.size_toArray, HL.out])
             intro w2 hk2 hb2 _ _
             have hc33 : w2.cell? ⟨wr.heap.size, 33, none⟩ = some (.int .i64 V) := (hk2.out.cell 33).trans (by simpa using HC.out))
      · go_ret2
        refine ⟨ret_val ?_, hb2⟩
        rw [sumTo_none (k := k + 1) (by rw [HSU.out, if_pos (.inl hcase)]) (by omega)]; rfl
      · go_ret2
        refine ⟨ret_val ?_, hb2⟩
        rw [sumTo_none (k := k + 1) (by rw [HSU.out, if_pos (.inr hcase.2)]) (by omega)]; rfl
      · go_roundw
        case rel => exact ⟨k + 1, S + V, by omega, by go_num, rfl, by omega, by omega, Lib.hid (by rw [HSU.out, if_neg (by omega)]), hb2⟩
        case measure => simp [intOf]; omega
    · obtain rfl : k = n := by omega
      go_wp2
      go_ret2
      refine ⟨ret_val ?_, hbel⟩
      rw [hS.out]; rfl

set_option maxRecDepth 100000 in
set_option maxHeartbeats 1000000 in
theorem refSum_coins (p : Option Addr) (n c : Nat) (vals : Nat → Int) (w : World) (hr : Coins w p n vals) (hv : ∀ k, k < n → -9223372036854775808 ≤ vals k ∧ vals k ≤ 9223372036854775807) (hn : n ≤ 9223372036854775807) :
    Calls Try.prog 13 #[.slice p n c] w fun e w' => e = .returned (sumRes (sumTo vals n)) ∧ Below w.heap.size w w' := by
  go_enter Try.func13, Try.ntmps13
  go_wp2
  go_loopw [4, 9] (fun s i wr => ∃ k : Nat, ∃ S : Int, k ≤ n ∧ i = .int .i64 k ∧ s = .int .i64 S ∧ 0 ≤ S ∧ S ≤ 9223372036854775807 ∧ Hid (sumTo vals k = some S) ∧ Below w.heap.size w wr) (fun _ i _ => n - (intOf i).toNat)
  case atStart => exact ⟨0, 0, by omega, rfl, rfl, by omega, by omega, rfl, Below.refl _ _⟩
  case round =>
    obtain ⟨k, S, hk, rfl, rfl, hS0, hS1, hS, hbel⟩ := hrel
    by_cases hlt : k < n
    · obtain ⟨b, off, rfl, hb, hall⟩ := hr (by omega)
      obtain ⟨cs, hcl, hcv, hc1, hra⟩ := hall k hlt
      have hvk := hv k hlt
      clear hall hr hv
      obtain ⟨V, hV⟩ : ∃ V, V = vals k := ⟨_, rfl⟩
      have hsu : sumTo vals (k + 1) = if V < 0 ∨ 9223372036854775807 - V < S then none else some (S + V) := by simp only [sumTo, hS.out, hV]
      rw [← hV] at hcv hvk
      have HSU := Lib.hid hsu
      clear hV hsu hS
      have hra2 : wr.rangeAt b (off + k * 36) cs := fun j v hj => (hbel.cell (p := ⟨b, off + k * 36 + j, none⟩) hb).trans (hra j v hj)
      have HR := Lib.hid hra2
      have HC := Lib.hid hcv
      have HL := Lib.hid hcl
      clear hra hra2 hcv hcl
      rcases (show V < 0 ∨ (0 ≤ V ∧ 9223372036854775807 - V < S) ∨ (0 ≤ V ∧ S ≤ 9223372036854775807 - V) by omega) with hcase | hcase | hcase
      all_goals
        first | (have hd1 : decide (V < 0) = true := decide_eq_true hcase) | (have hd1 : decide (V < 0) = false := decide_eq_false (by omega); skip)
        go_wp2_with first
          | (with_reducible refine wpList_load_mid (op := ⟨some 12, _, _, _, _, _⟩) ?_ 53 (.tmp 11) ?_ b (off + k * 36) ?_ cs _ HR.out Try.underlying53 ?_ ?_ ?_
             · rfl
             · rfl
             · rfl
             · rfl
             · rw [HL.out]; kernel_rfl)
          | (with_reducible refine wp_store_blk (o := ⟨none, .store 53 (.tmp 6) (.tmp 12), _, _, _, _⟩) ?_ 53 (.tmp 6) (.tmp 12) ?_ wr.heap.size 53 _ cs.toArray ?_ ?_ (Blk.new wr _ _) ?_ ?_ (all_oneCell_toArray hc1) w.heap.size w (hbel.alloc hbel.size _) hbel.size ?_
             · rfl
             · rfl
             · rfl
             · rfl
             · rw [List.size_toArray, HL.out]; kernel_rfl
             · exact (show (36 : Nat) = cs.toArray.size by rw [List.size_toArray, HL.out])
             intro w2 hk2 hb2 _ _
             have hc33 : w2.cell? ⟨wr.heap.size, 33, none⟩ = some (.int .i64 V) := (hk2.out.cell 33).trans (by simpa using HC.out))
      · go_ret2
        refine ⟨ret_val ?_, hb2⟩
        rw [sumTo_none (k := k + 1) (by rw [HSU.out, if_pos (.inl hcase)]) (by omega)]; rfl
      · go_ret2
        refine ⟨ret_val ?_, hb2⟩
        rw [sumTo_none (k := k + 1) (by rw [HSU.out, if_pos (.inr hcase.2)]) (by omega)]; rfl
      · go_roundw
        case rel => exact ⟨k + 1, S + V, by omega, by go_num, rfl, by omega, by omega, Lib.hid (by rw [HSU.out, if_neg (by omega)]), hb2⟩
        case measure => simp [intOf]; omega
    · obtain rfl : k = n := by omega
      go_wp2
      go_ret2
      refine ⟨ret_val ?_, hbel⟩
      rw [hS.out]; rfl
end Go.Proofs.Ytlopmnepodbefaa
