/- sporranref14.polymod, sporranref14.want: the walks. -/
import Derived.Test.YtbkpgdfkjijagaaDoorAdrT
namespace Go.Proofs.YtbkpgdfkjijagaaDoor
open Go.RowKit
set_option linter.unusedVariables false

theorem bit_is (T k : Nat) (hT : T < 64) (q : Int) (hq : q = ((T >>> k : Nat) : Int)) : (bits .and .i64 q 1 == 1) = T.testBit k := by
  have h2 : T >>> k < 9223372036854775808 := by
    have : T >>> k ≤ T := by rw [Nat.shiftRight_eq_div_pow]; exact Nat.div_le_self _ _
    omega
  rw [hq, show (1 : Int) = ((1 : Nat) : Int) from rfl, andI _ 1 h2 (by decide), and_one]
  cases T.testBit k <;> rfl
theorem stepN (n x k : Nat) (hx : x < 32) : ((n >>> 25).testBit k = true → bits .xor .i64 ((stepK n x k : Nat) : Int) ((gens.getD k 0 : Nat) : Int) = ((stepK n x (k + 1) : Nat) : Int)) ∧ ((n >>> 25).testBit k = false → stepK n x (k + 1) = stepK n x k) := by
  constructor
  · intro h
    have h1 := stepK_lt' n x k hx
    have h2 := gens_lt k
    rw [xorI _ _ (by omega) (by omega)]
    show _ = ((stepK n x k ^^^ pickN ((n >>> 25).testBit k) (gens.getD k 0) : Nat) : Int)
    rw [h]; rfl
  · intro h
    show stepK n x k ^^^ pickN ((n >>> 25).testBit k) (gens.getD k 0) = stepK n x k
    rw [h]
    exact Nat.xor_zero _
theorem top64 (n : Nat) (h : n < 1073741824) : n >>> 25 < 64 := by rw [Nat.shiftRight_eq_div_pow]; omega
theorem want_any (v : Nat) (w : World) : Calls Tryd.prog 77 #[.int .i64 (v : Int)] w fun e w' => e = .returned (.int .i64 ((if v = 0 then 1 else 734539939 : Nat) : Int)) ∧ w' = w := by
  by_cases h : v = 0
  · subst h
    go_enter Tryd.func77, Tryd.ntmps77
    go_wp2_with fail
    go_ret
    exact ⟨rfl, rfl⟩
  · have h1 : ((v : Int) == 0) = false := by rw [beq_eq_false_iff_ne]; omega
    rw [if_neg h]
    clear h
    go_enter Tryd.func77, Tryd.ntmps77
    go_wp2_with fail
    go_ret
    exact ⟨rfl, rfl⟩

set_option maxRecDepth 100000 in
set_option maxHeartbeats 8000000 in
theorem polymod_any (p : Option Addr) (n c : Nat) (l : List Nat) (w : World) (hr : RowZ w p (zl l)) (hn : l.length = n) (hb : n ≤ 2000) (hl : ∀ x ∈ l, x < 32) :
    Calls Tryd.prog 76 #[.slice p n c] w fun e w' => e = .returned (.int .i64 ((l.foldl stepP 1 : Nat) : Int)) ∧ Below w.heap.size w w' := by
  have HL32 := Lib.hid hl
  have HLL := Lib.hid hn
  have HR := Lib.hid hr
  clear hr hl hn
  go_enter Tryd.func76, Tryd.ntmps76
  go_wp2_with fail
  go_loopw [3, 11] (fun v i wx => ∃ k N : Nat, k ≤ n ∧ i = .int .i64 k ∧ v = .int .i64 (N : Nat) ∧ N < 1073741824 ∧ Hid ((l.take k).foldl stepP 1 = N) ∧ Hid (Below w.heap.size w wx)) (fun _ i _ => n - (intOf i).toNat)
  case atStart => exact ⟨0, 1, by omega, rfl, rfl, by decide, Lib.hid rfl, Lib.hid (Below.refl _ _)⟩
  case round =>
    obtain ⟨k, N, hk, rfl, rfl, hN, HF, HB⟩ := hrel
    by_cases hkm : k < n
    · have hlt : (k : Int) < (n : Int) := by omega
      obtain ⟨x, hx⟩ : ∃ x, l[k]? = some x := ⟨_, List.getElem?_eq_getElem (by rw [HLL.out]; omega)⟩
      have hx32 := HL32.out x (List.mem_of_getElem? hx)
      obtain ⟨b, o, rfl, _, hcl⟩ := (HR.out.fut HB.out) (fun e => by have := zl_at hx; rw [e] at this; cases this)
      have hcell := hcl k _ (zl_at hx)
      have HF2 : Hid ((l.take (k + 1)).foldl stepP 1 = stepP N x) := Lib.hid (by rw [List.take_add_one, hx, List.foldl_append, HF.out]; rfl)
      have hN2 := stepP_lt N x (by omega)
      have HS0 := Lib.hid (step0 N x hN hx32)
      have HT25 := Lib.hid (top25 N)
      have HT64 := Lib.hid (top64 N hN)
      have HSN := Lib.hid (fun k => stepN N x k hx32)
      clear hx hcl
      go_upto_region 7 with fail
      rw [HS0.out, HT25.out]
      obtain ⟨T, hT⟩ : ∃ T, T = N >>> 25 := ⟨_, rfl⟩
      rw [← hT] at HT64 HSN ⊢
      have hT64 := HT64.out
      have hbn := below_new wr (.cells #[.int .i64 996825010, .int .i64 642813549, .int .i64 513874426, .int .i64 1027748829, .int .i64 705979059] 3)
      have HK : Hid (Blk (wr.alloc (.cells #[.int .i64 996825010, .int .i64 642813549, .int .i64 513874426, .int .i64 1027748829, .int .i64 705979059] 3)) wr.heap.size 3 #[.int .i64 996825010, .int .i64 642813549, .int .i64 513874426, .int .i64 1027748829, .int .i64 705979059]) := Lib.hid (Blk.new wr _ _)
      have HB2 := Lib.hid (below_fut HB.out hbn (Nat.le_refl _))
      obtain ⟨g, hg⟩ : ∃ g, g = wr.heap.size := ⟨_, rfl⟩
      obtain ⟨wz, hwz⟩ : ∃ wz, wz = wr.alloc (.cells #[.int .i64 996825010, .int .i64 642813549, .int .i64 513874426, .int .i64 1027748829, .int .i64 705979059] 3) := ⟨_, rfl⟩
      rw [← hg, ← hwz] at HK
      rw [← hwz] at HB2
      clear hT hcell hbn HT64 HS0 HT25
      go_upto_region 8 with fail
      rw [← hwz, ← hg]
      clear hwz hg
      go_loop [3, 24] (fun v i => ∃ j : Nat, j ≤ 5 ∧ i = .int .i64 j ∧ v = .int .i64 ((stepK N x j : Nat) : Int)) (fun _ i => 5 - (intOf i).toNat)
      case atStart => exact ⟨0, by omega, rfl, rfl⟩
      case round =>
        obtain ⟨j, hj, rfl, rfl⟩ := hrel
        by_cases hj5 : j < 5
        · have hbi := fun q hq => bit_is T j hT64 q hq
          obtain ⟨hs1, hs2⟩ := HSN.out j
          obtain ⟨Z, hZ⟩ : ∃ Z, Z = stepK N x j := ⟨_, rfl⟩
          rw [← hZ] at hs1 hs2 ⊢
          have HBI := Lib.hid hbi
          have HS1 := Lib.hid hs1
          have HS2 := Lib.hid hs2
          clear hbi hs1 hs2 hZ
          rcases (show j = 0 ∨ j = 1 ∨ j = 2 ∨ j = 3 ∨ j = 4 by omega) with rfl | rfl | rfl | rfl | rfl
          · have hcell : wz.cell? ⟨g, 0, none⟩ = some (.int .i64 996825010) := HK.out.cell 0
            have hbt := HBI.out (T : Int) rfl
            cases hbit : T.testBit 0 with
            | true =>
              rw [hbit] at hbt
              go_wp2_with fail
              go_round
              case rel => exact ⟨1, by omega, rfl, congrArg (Value.int .i64) (HS1.out hbit)⟩
              case measure => decide
            | false =>
              rw [hbit] at hbt
              go_wp2_with fail
              go_round
              case rel => exact ⟨1, by omega, rfl, by rw [HS2.out hbit]⟩
              case measure => decide
          · have hcell : wz.cell? ⟨g, 1, none⟩ = some (.int .i64 642813549) := HK.out.cell 1
            have hbt := HBI.out ((T : Int) / 2) (by rw [Nat.shiftRight_eq_div_pow]; omega)
            cases hbit : T.testBit 1 with
            | true =>
              rw [hbit] at hbt
              go_wp2_with fail
              go_round
              case rel => exact ⟨2, by omega, rfl, congrArg (Value.int .i64) (HS1.out hbit)⟩
              case measure => decide
            | false =>
              rw [hbit] at hbt
              go_wp2_with fail
              go_round
              case rel => exact ⟨2, by omega, rfl, by rw [HS2.out hbit]⟩
              case measure => decide
          · have hcell : wz.cell? ⟨g, 2, none⟩ = some (.int .i64 513874426) := HK.out.cell 2
            have hbt := HBI.out ((T : Int) / 4) (by rw [Nat.shiftRight_eq_div_pow]; omega)
            cases hbit : T.testBit 2 with
            | true =>
              rw [hbit] at hbt
              go_wp2_with fail
              go_round
              case rel => exact ⟨3, by omega, rfl, congrArg (Value.int .i64) (HS1.out hbit)⟩
              case measure => decide
            | false =>
              rw [hbit] at hbt
              go_wp2_with fail
              go_round
              case rel => exact ⟨3, by omega, rfl, by rw [HS2.out hbit]⟩
              case measure => decide
          · have hcell : wz.cell? ⟨g, 3, none⟩ = some (.int .i64 1027748829) := HK.out.cell 3
            have hbt := HBI.out ((T : Int) / 8) (by rw [Nat.shiftRight_eq_div_pow]; omega)
            cases hbit : T.testBit 3 with
            | true =>
              rw [hbit] at hbt
              go_wp2_with fail
              go_round
              case rel => exact ⟨4, by omega, rfl, congrArg (Value.int .i64) (HS1.out hbit)⟩
              case measure => decide
            | false =>
              rw [hbit] at hbt
              go_wp2_with fail
              go_round
              case rel => exact ⟨4, by omega, rfl, by rw [HS2.out hbit]⟩
              case measure => decide
          · have hcell : wz.cell? ⟨g, 4, none⟩ = some (.int .i64 705979059) := HK.out.cell 4
            have hbt := HBI.out ((T : Int) / 16) (by rw [Nat.shiftRight_eq_div_pow]; omega)
            cases hbit : T.testBit 4 with
            | true =>
              rw [hbit] at hbt
              go_wp2_with fail
              go_round
              case rel => exact ⟨5, by omega, rfl, congrArg (Value.int .i64) (HS1.out hbit)⟩
              case measure => decide
            | false =>
              rw [hbit] at hbt
              go_wp2_with fail
              go_round
              case rel => exact ⟨5, by omega, rfl, by rw [HS2.out hbit]⟩
              case measure => decide
        · obtain rfl : j = 5 := by omega
          have HZ : Hid (stepK N x 5 = stepP N x) := Lib.hid rfl
          obtain ⟨M, hM⟩ : ∃ M, M = stepK N x 5 := ⟨_, rfl⟩
          have HM := Lib.hid hM
          rw [← hM]
          clear hM
          go_wp2_with fail
          go_roundw
          case rel => exact ⟨k + 1, M, by omega, by go_num, rfl, by rw [HM.out]; exact hN2, Lib.hid (by rw [HF2.out, HM.out, HZ.out]), HB2⟩
          case measure => simp [intOf]; omega
    · have hlt : ¬ (k : Int) < (n : Int) := by omega
      have HF2 : Hid (l.foldl stepP 1 = N) := Lib.hid (by rw [← HF.out, List.take_of_length_le (by rw [HLL.out]; omega)])
      go_wp2_with fail
      go_ret
      exact ⟨by rw [HF2.out]; rfl, HB.out⟩
end Go.Proofs.YtbkpgdfkjijagaaDoor
