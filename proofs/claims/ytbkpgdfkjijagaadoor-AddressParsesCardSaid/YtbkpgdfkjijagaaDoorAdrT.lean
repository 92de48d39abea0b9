/- address.step, address.total, sporranref14.polymod: the walks. -/
import Derived.Test.YtbkpgdfkjijagaaDoorAdrN
import Derived.Test.YtbkpgdfkjijagaaDoorAdrQ
namespace Go.Proofs.YtbkpgdfkjijagaaDoor
open Go.RowKit
set_option linter.unusedVariables false

theorem stepK_lt' (n x k : Nat) (hx : x < 32) : stepK n x k < 1073741824 := stepK_lt n x (by omega) k
theorem and_one (t k : Nat) : (t >>> k) &&& 1 = if t.testBit k then 1 else 0 := by
  rw [Nat.and_comm, Nat.one_and_eq_mod_two, Nat.testBit_eq_decide_div_mod_eq, Nat.shiftRight_eq_div_pow]
  rcases Nat.mod_two_eq_zero_or_one (t / 2 ^ k) with h | h <;> simp [h]
theorem pick_mul (g t k : Nat) : g * ((t >>> k) &&& 1) = pickN (t.testBit k) g := by
  rw [and_one]; unfold pickN; split <;> simp
def gensZ : List Int := [996825010, 642813549, 513874426, 1027748829, 705979059]
theorem gens_lt (k : Nat) : gens.getD k 0 < 1073741824 := by
  rcases (show k = 0 ∨ k = 1 ∨ k = 2 ∨ k = 3 ∨ k = 4 ∨ 5 ≤ k by omega) with rfl | rfl | rfl | rfl | rfl | h
  · decide
  · decide
  · decide
  · decide
  · decide
  · rw [List.getD_eq_getElem?_getD, List.getElem?_eq_none (by simpa [gens] using h)]; decide

theorem step0 (n x : Nat) (hn : n < 1073741824) (hx : x < 32) : bits .xor .i64 (wrap64 (bits .and .i64 (n : Int) 33554431 * 32)) (x : Int) = ((stepK n x 0 : Nat) : Int) := by
  have h1 : (n &&& 33554431) < 2 ^ 25 := Nat.and_lt_two_pow _ (by decide)
  rw [show (33554431 : Int) = ((33554431 : Nat) : Int) from rfl, andI n 33554431 (by omega) (by decide), wrap64_self _ (by omega) (by omega), show (((n &&& 33554431 : Nat) : Int) * 32) = (((n &&& 33554431) * 32 : Nat) : Int) by omega, xorI _ _ (by omega) (by omega)]
  unfold stepK
  rw [Nat.shiftLeft_eq]
theorem top25 (n : Nat) : (n : Int) / (33554432 : Int) = ((n >>> 25 : Nat) : Int) := by rw [Nat.shiftRight_eq_div_pow]; omega
theorem idx5_0 (W : World) : (Instr.index 118 (.agg #[.int .i64 996825010, .int .i64 642813549, .int .i64 513874426, .int .i64 1027748829, .int .i64 705979059]) (.int .i64 0)).run Tryd.prog W = .ok (.int .i64 996825010) W := by kernel_rfl
theorem idx5_1 (W : World) : (Instr.index 118 (.agg #[.int .i64 996825010, .int .i64 642813549, .int .i64 513874426, .int .i64 1027748829, .int .i64 705979059]) (.int .i64 1)).run Tryd.prog W = .ok (.int .i64 642813549) W := by kernel_rfl
theorem idx5_2 (W : World) : (Instr.index 118 (.agg #[.int .i64 996825010, .int .i64 642813549, .int .i64 513874426, .int .i64 1027748829, .int .i64 705979059]) (.int .i64 2)).run Tryd.prog W = .ok (.int .i64 513874426) W := by kernel_rfl
theorem idx5_3 (W : World) : (Instr.index 118 (.agg #[.int .i64 996825010, .int .i64 642813549, .int .i64 513874426, .int .i64 1027748829, .int .i64 705979059]) (.int .i64 3)).run Tryd.prog W = .ok (.int .i64 1027748829) W := by kernel_rfl
theorem idx5_4 (W : World) : (Instr.index 118 (.agg #[.int .i64 996825010, .int .i64 642813549, .int .i64 513874426, .int .i64 1027748829, .int .i64 705979059]) (.int .i64 4)).run Tryd.prog W = .ok (.int .i64 705979059) W := by kernel_rfl
/-- a round of the five -/
theorem stepR (n x k g : Nat) (q : Int) (hx : x < 32) (hg : gens.getD k 0 = g) (hq : q = (((n >>> 25) >>> k : Nat) : Int)) (hn : n < 1073741824) :
    bits .xor .i64 ((stepK n x k : Nat) : Int) (wrap64 ((g : Int) * bits .and .i64 q 1)) = ((stepK n x (k + 1) : Nat) : Int) := by
  have hq2 : (n >>> 25) >>> k < 9223372036854775808 := by
    have h1 : (n >>> 25) >>> k ≤ n := by rw [Nat.shiftRight_eq_div_pow, Nat.shiftRight_eq_div_pow]; exact Nat.le_trans (Nat.div_le_self _ _) (Nat.div_le_self _ _)
    omega
  have hp : pickN ((n >>> 25).testBit k) g < 1073741824 := by
    unfold pickN; split
    · rw [← hg]; exact gens_lt k
    · decide
  have hk := stepK_lt' n x k hx
  rw [hq, show (1 : Int) = ((1 : Nat) : Int) from rfl, andI _ 1 hq2 (by decide), show (g : Int) * (((n >>> 25) >>> k &&& 1 : Nat) : Int) = ((g * ((n >>> 25) >>> k &&& 1) : Nat) : Int) by rw [Int.natCast_mul], pick_mul, wrap64_self _ (by omega) (by omega), xorI _ _ (by omega) (by omega), ← hg]
  rfl

set_option maxRecDepth 100000 in
set_option maxHeartbeats 4000000 in
theorem step_any (n x : Nat) (w : World) (hn : n < 1073741824) (hx : x < 32) : Calls Tryd.prog 73 #[.int .i64 (n : Int), .int .i64 (x : Int)] w fun e w' => e = .returned (.int .i64 (stepP n x : Nat)) ∧ w' = w := by
  go_enter Tryd.func73, Tryd.ntmps73
  go_upto_region 3 with fail
  rw [step0 n x hn hx, top25 n]
  obtain ⟨T, hT⟩ : ∃ T, T = n >>> 25 := ⟨_, rfl⟩
  rw [← hT]
  have HT := Lib.hid hT
  clear hT
  go_wp2_with fail
  go_loop [0, 16] (fun v i => ∃ k : Nat, k ≤ 5 ∧ i = .int .i64 k ∧ v = .int .i64 ((stepK n x k : Nat) : Int)) (fun _ i => 5 - (intOf i).toNat)
  case atStart => exact ⟨0, by omega, rfl, rfl⟩
  case round =>
    obtain ⟨k, hk, rfl, rfl⟩ := hrel
    by_cases hlt : k < 5
    · have hst : ∀ g q, gens.getD k 0 = g → q = ((T >>> k : Nat) : Int) → bits .xor .i64 ((stepK n x k : Nat) : Int) (wrap64 ((g : Int) * bits .and .i64 q 1)) = ((stepK n x (k + 1) : Nat) : Int) := fun g q hg hq => stepR n x k g q hx hg (by rw [hq, HT.out]) hn
      have HST := Lib.hid hst
      obtain ⟨Z, hZ⟩ : ∃ Z, Z = stepK n x k := ⟨_, rfl⟩
      rw [← hZ] at HST ⊢
      clear hst hZ
      rcases (show k = 0 ∨ k = 1 ∨ k = 2 ∨ k = 3 ∨ k = 4 by omega) with rfl | rfl | rfl | rfl | rfl
      · have hix := idx5_0
        go_wp2_with fail
        go_round
        case rel => exact ⟨1, by omega, rfl, congrArg (Value.int .i64) (HST.out 996825010 _ rfl (by first | rfl | (rw [Nat.shiftRight_eq_div_pow]; rfl) | (rw [Nat.shiftRight_eq_div_pow]; omega)))⟩
        case measure => decide
      · have hix := idx5_1
        go_wp2_with fail
        go_round
        case rel => exact ⟨2, by omega, rfl, congrArg (Value.int .i64) (HST.out 642813549 _ rfl (by first | rfl | (rw [Nat.shiftRight_eq_div_pow]; rfl) | (rw [Nat.shiftRight_eq_div_pow]; omega)))⟩
        case measure => decide
      · have hix := idx5_2
        go_wp2_with fail
        go_round
        case rel => exact ⟨3, by omega, rfl, congrArg (Value.int .i64) (HST.out 513874426 _ rfl (by first | rfl | (rw [Nat.shiftRight_eq_div_pow]; rfl) | (rw [Nat.shiftRight_eq_div_pow]; omega)))⟩
        case measure => decide
      · have hix := idx5_3
        go_wp2_with fail
        go_round
        case rel => exact ⟨4, by omega, rfl, congrArg (Value.int .i64) (HST.out 1027748829 _ rfl (by first | rfl | (rw [Nat.shiftRight_eq_div_pow]; rfl) | (rw [Nat.shiftRight_eq_div_pow]; omega)))⟩
        case measure => decide
      · have hix := idx5_4
        go_wp2_with fail
        go_round
        case rel => exact ⟨5, by omega, rfl, congrArg (Value.int .i64) (HST.out 705979059 _ rfl (by first | rfl | (rw [Nat.shiftRight_eq_div_pow]; rfl) | (rw [Nat.shiftRight_eq_div_pow]; omega)))⟩
        case measure => decide
    · obtain rfl : k = 5 := by omega
      go_wp2_with fail
      go_ret
      exact ⟨rfl, rfl⟩
def zl (l : List Nat) : List Int := l.map fun x : Nat => (x : Int)
theorem zl_at {l : List Nat} {i : Nat} {x : Nat} (h : l[i]? = some x) : (zl l)[i]? = some (x : Int) := by unfold zl; rw [List.getElem?_map, h]; rfl
theorem zl_len (l : List Nat) : (zl l).length = l.length := List.length_map _
theorem zl_app (a b : List Nat) : zl (a ++ b) = zl a ++ zl b := List.map_append
set_option maxRecDepth 100000 in
set_option maxHeartbeats 4000000 in
theorem total_any (p : Option Addr) (n c : Nat) (l : List Nat) (w : World) (hr : RowZ w p (zl l)) (hn : l.length = n) (hb : n ≤ 1000) (hl : ∀ x ∈ l, x < 32) :
    Calls Tryd.prog 52 #[.slice p n c] w fun e w' => e = .returned (.int .i64 (([3, 3, 0, 2, 3] ++ l).foldl stepP 1 : Nat)) ∧ Below w.heap.size w w' := by
  have HN : Hid ((zl l).length = n) := Lib.hid (by rw [zl_len, hn])
  obtain ⟨L, hL⟩ : ∃ L, L = [3, 3, 0, 2, 3] ++ l := ⟨_, rfl⟩
  have HL32 : Hid (∀ x ∈ L, x < 32) := Lib.hid (fun x hx => by
    rw [hL] at hx
    rcases List.mem_append.1 hx with h | h
    · have h5 : ∀ x ∈ [3, 3, 0, 2, 3], x < 32 := by decide
      exact h5 x h
    · exact hl x h)
  have HLL : Hid (L.length = n + 5) := Lib.hid (by rw [hL, List.length_append, hn]; simp; omega)
  have HZL : Hid (([3, 3, 0, 2, 3] : List Int) ++ zl l = zl L) := Lib.hid (by rw [hL, zl_app]; rfl)
  have hb0 := below_new w (.cells #[.int .i64 3, .int .i64 3, .int .i64 0, .int .i64 2, .int .i64 3] 3)
  have ho0 : OwnZ (w.alloc (.cells #[.int .i64 3, .int .i64 3, .int .i64 0, .int .i64 2, .int .i64 3] 3)) w.heap.size (.slice (some ⟨w.heap.size, 0, none⟩) 5 5) [3, 3, 0, 2, 3] := own_litZ w w.heap.size [3, 3, 0, 2, 3] (Nat.le_refl _) (by decide)
  have hr0 := hr.fut hb0
  have hsz0 := hb0.size
  have hal : ([3, 3, 0, 2, 3] : List Int).length + (zl l).length ≤ 1000000 := by rw [HN.out]; show 5 + n ≤ _; omega
  rw [← hL]
  clear hL hr hl hn
  go_enter Tryd.func52, Tryd.ntmps52
  go_wp2_with (with_reducible refine wp_appendZ (o := ⟨some 8, _, _, _, _, _⟩) ?_ (.tmp 6) (.tmp 7) ?_ w.heap.size _ [3, 3, 0, 2, 3] ?_ ho0 p n c (zl l) ?_ HN.out hr0 ?_ hsz0 w.heap.size w hb0 ?_ ?_
               · rfl
               · rfl
               · rfl
               · rfl
               · exact hal
               · exact Nat.le_refl _
               intro v1 w1 ho1 hb1
               obtain ⟨q1, m1, c1, rfl, hm1, hl1, hc1, hr1⟩ := ho1.open)
  rw [HZL.out] at hm1 hr1
  have HM5 : Hid (m1 = n + 5) := Lib.hid (by rw [← hm1.out, zl_len, HLL.out])
  have hm1k : m1 ≤ 2000 := by have := HM5.out; omega
  have HR1 := Lib.hid hr1
  have HB1 := Lib.hid hb1
  clear hb0 ho0 hr0 hsz0 hal ho1 hb1 hr1 hm1
  go_loop [3, 10] (fun v i => ∃ k : Nat, k ≤ m1 ∧ i = .int .i64 k ∧ ∃ N, v = .int .i64 (N : Nat) ∧ N < 1073741824 ∧ Hid ((L.take k).foldl stepP 1 = N)) (fun _ i => m1 - (intOf i).toNat)
  case atStart => exact ⟨0, by omega, rfl, 1, rfl, by decide, Lib.hid rfl⟩
  case round =>
    obtain ⟨k, hk, rfl, N, rfl, hN, HF⟩ := hrel
    by_cases hkm : k < m1
    · have hlt : (k : Int) < (m1 : Int) := by omega
      obtain ⟨x, hx⟩ : ∃ x, L[k]? = some x := ⟨_, List.getElem?_eq_getElem (by rw [HLL.out]; have := HM5.out; omega)⟩
      have hx32 := HL32.out x (List.mem_of_getElem? hx)
      obtain ⟨b, o, rfl, _, hcl⟩ := HR1.out (fun e => by have := zl_at hx; rw [e] at this; cases this)
      have hcell := hcl k _ (zl_at hx)
      have HF2 : Hid ((L.take (k + 1)).foldl stepP 1 = stepP N x) := Lib.hid (by rw [List.take_add_one, hx, List.foldl_append, HF.out]; rfl)
      have hN2 := stepP_lt N x (by omega)
      have hst := step_any N x w1 hN hx32
      obtain ⟨M, hM⟩ : ∃ M, M = stepP N x := ⟨_, rfl⟩
      rw [← hM] at HF2 hN2 hst
      clear hx hcl hM
      go_wp2_with fail
      refine hst.mono ?_
      rintro e w' ⟨rfl, hw'⟩
      replace hw' := hw'.symm
      subst hw'
      clear hst hcell
      go_wp2_with fail
      go_round
      case rel => exact ⟨k + 1, by omega, by go_num, M, rfl, hN2, HF2⟩
      case measure => simp [intOf]; omega
    · have hlt : ¬ (k : Int) < (m1 : Int) := by omega
      have HF2 : Hid (L.foldl stepP 1 = N) := Lib.hid (by rw [← HF.out, List.take_of_length_le (by rw [HLL.out]; have := HM5.out; omega)])
      go_wp2_with fail
      go_ret
      exact ⟨by rw [HF2.out]; rfl, HB1.out⟩
end Go.Proofs.YtbkpgdfkjijagaaDoor
