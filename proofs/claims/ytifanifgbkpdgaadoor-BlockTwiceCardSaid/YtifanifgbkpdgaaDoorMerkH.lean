/- sporranlaw08.BlockTwice: the walk. -/
import Derived.Test.YtifanifgbkpdgaaDoorMerkG
namespace Go.Proofs.YtifanifgbkpdgaaDoor
open Go.RowKit

theorem slice_fromI (w : World) (p : Option Addr) (m c k : Nat) (h : k ≤ m) :
    (Instr.sliceAt 22 (.slice p m c) (some (.int .i64 (k : Int))) none none).run Tryd.prog w = .ok (.slice (cutN 32 p c k) (m - k) (c - k)) w := by
  have hs : (sizeOf (Tryd.prog.elem 22)).run Tryd.prog w = .ok 32 w := by kernel_rfl
  have hu : Tryd.prog.underlying 22 = some (.slice (Tryd.prog.elem 22)) := by kernel_rfl
  rw [run_sliceAt_slice w _ _ _ _ _ hu, run_slice_l w _ _ _ _ hu _ _ (by omega) (by omega), hs]
  simp [Result.andThen, sliced, cutN]

set_option maxRecDepth 100000 in
set_option maxHeartbeats 4000000 in
theorem blockTwice_walk (p : Option Addr) (n c : Nat) (ids0 : List (List (BitVec 8))) (w : World) (hK : Laid w) (hn : ids0.length = n) (hok : ∀ x ∈ ids0, x.length = 32) (hnc : n ≤ c) (hcm : c ≤ 9223372036854775807) (hr : RowsN 32 w p (ids0.map hCells)) (hp : p = none → c = 0) :
    Calls Tryd.prog 3 #[.slice p n c] w fun e w' => e = .returned (.bool true) ∧ Below w.heap.size w w' := by
  obtain ⟨m, hm⟩ : ∃ m, m = min n 200 := ⟨_, rfl⟩
  obtain ⟨ids, hids⟩ : ∃ l, l = ids0.take m := ⟨_, rfl⟩
  have HN := Lib.hid (show ids.length = m by rw [hids, List.length_take]; omega)
  have HO := Lib.hid (show ∀ x ∈ ids, x.length = 32 from fun x hx => hok x (List.mem_of_mem_take (by rw [hids] at hx; exact hx)))
  have HR := Lib.hid (show RowsN 32 w p (ids.map hCells) by rw [hids, List.map_take]; exact hr.take m)
  have HK := Lib.hid hK
  have hKs := hK.size
  have qm : min (n : Int) 200 = (m : Int) := by omega
  have hm300 : m ≤ 200 := by omega
  have hmn : m ≤ n := by omega
  have hmc : m ≤ c := by omega
  have hmi : (m : Int) ≤ (c : Int) := by omega
  have hp0 : p = none → m = 0 := fun h => by have := hp h; omega
  have hz := zero32
  obtain ⟨Y, hY⟩ : ∃ Y, Y = (hCells (noughts 32)).toArray := ⟨_, rfl⟩
  replace hz : ∀ w, (zeroValue 24).run Tryd.prog w = .ok (.agg Y) w := by rw [hY]; exact hz
  have hYl := Lib.hid (show Y.size = 32 by rw [hY]; rfl)
  clear hn hok hr hK hids hm hY hp
  obtain ⟨h9, hh9⟩ : ∃ x, x = hash1 9#8 := ⟨_, rfl⟩
  have H9l : Hid (h9.length = 32) := Lib.hid (by rw [hh9]; rfl)
  have H9b := Lib.hid built_h9
  have H9m := Lib.hid (merk_hash1 9#8)
  rw [← hh9] at H9b H9m
  clear hh9
  go_enter Tryd.func3, Tryd.ntmps3
  go_wp2_with fail
  go_loop [3] (fun v => ∃ q j : Nat, v = .int .i64 q ∧ q * 2 ^ j = m ∧ (q = 0 → j = 0)) (fun v => (intOf v).toNat)
  case atStart => exact ⟨m, 0, rfl, by simp, fun _ => rfl⟩
  case round =>
    obtain ⟨q, j, rfl, hq, hq0⟩ := hrel
    have HQ := Lib.hid hq
    have HQ0 := Lib.hid hq0
    have hqm : q ≤ 200 := by have := Nat.le_mul_of_pos_right q (Nat.two_pow_pos j); omega
    clear hq hq0
    by_cases hq1 : 1 < q
    · have hqi : (1 : Int) < (q : Int) := by omega
      have hqi2 : ¬ (q : Int) < 2 := by omega
      have hd1 : decide ((1 : Int) < (q : Int)) = true := decide_eq_true hqi
      have hd2 : decide (1 < q) = true := decide_eq_true hq1
      by_cases hev : q % 2 = 0
      · have he : ((q : Int) % 2 == 0) = true := by simp; omega
        have hqd : IntKind.i64.wrap ((q : Int).tdiv 2) = ((q / 2 : Nat) : Int) := by
          rw [Int.tdiv_eq_ediv_of_nonneg (by omega), IntKind.wrap_i64]; omega
        go_wp2_with fail
        go_round
        case rel => exact ⟨q / 2, j + 1, rfl, by rw [← HQ.out, Nat.pow_succ, Nat.mul_comm (2 ^ j) 2, ← Nat.mul_assoc]; congr 1; omega, fun h => by omega⟩
        case measure => simp [intOf]; omega
      · have he : ((q : Int) % 2 == 0) = false := by simp; omega
        obtain ⟨W, hW⟩ : ∃ W, W = 2 ^ j := ⟨_, rfl⟩
        have HW := Lib.hid hW
        have hqw : q * W = m := by rw [hW]; exact HQ.out
        have hW1 : 1 ≤ W := by rw [hW]; exact Nat.two_pow_pos j
        have hWm : W ≤ m := by rw [← hqw]; exact Nat.le_mul_of_pos_left _ (by omega)
        have hWd : (m : Int) / (q : Int) = (W : Int) := by
          rw [← hqw, Int.natCast_mul]
          exact Int.mul_ediv_cancel_left _ (by omega)
        have hq0i : ((q : Int) == 0) = false := by simp; omega
        clear hW hqw
        have HTW : Hid ((twice ids W).length = m + W) := Lib.hid (by rw [twice_len (by rw [HN.out]; omega), HN.out])
        have HTO : Hid (∀ x ∈ twice ids W, x.length = 32) := Lib.hid (fun x hx => by
          rcases List.mem_append.1 hx with h | h
          · exact HO.out x h
          · exact HO.out x (List.mem_of_mem_drop h))
        have HTM : Hid (merkP (twice ids W) = ((merkP ids).1, true)) := Lib.hid (by
          rw [HW.out]; exact merk_twice q (by omega) (by omega) j ids (by rw [HN.out]; exact HQ.out.symm))
        have HTR : Hid (((ids.map hCells).flatten ++ ((ids.drop (m - W)).map hCells).flatten) = ((twice ids W).map hCells).flatten) := Lib.hid (by
          unfold twice
          rw [List.map_append, List.flatten_append, HN.out])
        obtain ⟨R, hR⟩ : ∃ R, R = (merkP ids).1 := ⟨_, rfl⟩
        obtain ⟨ob, hob⟩ : ∃ R, R = (merkP ids).2 := ⟨_, rfl⟩
        have HRl : Hid (R.length = 32) := Lib.hid (by rw [hR]; exact merkP_len _ HO.out)
        have HRe : Hid (merkP ids = (R, ob)) := Lib.hid (by rw [hR, hob])
        rw [← hR] at HTM
        clear hR hob
        go_upto_region 9 with fail
        have e1 : IntKind.i64.wrap ((m : Int) - (W : Int)) = ((m - W : Nat) : Int) := by rw [IntKind.wrap_i64]; omega
        have hcut := (HR.out.cut (k := m - W) (c := c) (by rw [List.length_map, HN.out]; exact hmc))
        rw [← List.map_drop] at hcut
        have HC := Lib.hid hcut
        have hmw : m - (m - W) = W := by omega
        have EC : ∀ W', (Instr.sliceAt 22 (.slice p m c) (some (.int .i64 ((m - W : Nat) : Int))) none none).run Tryd.prog W' = .ok (.slice (cutN 32 p c (m - W)) W (c - (m - W))) W' := fun W' => by
          have := slice_fromI W' p m c (m - W) (by omega)
          rwa [hmw] at this
        obtain ⟨k0, hk0⟩ : ∃ k, k = m - W := ⟨_, rfl⟩
        have hk0m : k0 + W = m := by omega
        rw [← hk0] at e1 HC EC HTR
        clear hcut hk0 hmw
        obtain ⟨pc, hpc⟩ : ∃ x, x = cutN 32 p c k0 := ⟨_, rfl⟩
        rw [← hpc] at HC EC
        clear hpc
        have hb0 := Below.refl w.heap.size w
        refine region_plan [qq 0, qq 2, qq 3, qq 4, qq 5, qq 6, qq 7, oo 1, oo 8, qq 9] (fun W' => Below w.heap.size w W') (by kernel_rfl) (by kernel_rfl) (Below.refl _ _).drew ?_
        refine' plan_quiet (s := _) (A1 := _) [0, 2, 3, 4, 5, 6, 7] [_, _, _, _, _, _, _] _ rfl rfl rfl (fun W1 hW => ?hq1) _ (Below.refl _ _).drew (fun _ => ?hr1)
        case hq1 =>
          simp only [List.getElem_toArray, List.getElem_cons_zero, List.getElem_cons_succ]
          repeat (go_big_quiet_step (fail))
          refine wpQuiet_nil ?_
          rfl
        case hr1 =>
        refine plan_one rfl fun k => ?_
        have hbA : Below w.heap.size w (w.drewN (1 + k)) := below_drewN (Below.refl _ _) (1 + k)
        go_wp2_with fail
        refine (cloneH_any p m c ids _ HN.out (by omega) (HR.out.below hbA (Nat.le_refl _)) hp0).mono ?_
        rintro e w1 ⟨v1, rfl, ho1, hb1⟩
        have hbw1 := hbA.trans (hb1.mono hbA.size)
        unfold OwnH at ho1
        rw [HN.out] at ho1
        replace ho1 : w1.ownsRow w.heap.size 24 32 v1 m (ids.map hCells).flatten := ho1
        go_wp2_with fail
        refine planQ_normal (And.intro hbw1 ?_)
        refine plan_one rfl fun k2 => ?_
        have hb2 := below_drewN hbw1 k2
        refine wp_append_row (o := ⟨some 55, _, _, _, _, _⟩) rfl (.tmp 48) (.tmp 54) 22 24 rfl 32 32 _ Tryd.underlying22 hash_info rfl (by omega) w.heap.size v1 m _ rfl (ownsRow_below ho1 (below_drewN (Below.refl w1.heap.size w1) k2) (Nat.le_refl _)) pc W (c - k0) ((ids.drop k0).map hCells) rfl (by rw [List.length_map, List.length_drop, HN.out]; omega) (HC.out.below hb2 (Nat.le_refl _)) flat_oneCell (by omega) (by unfold maxLen; omega) hb2.size w.heap.size w hb2 (Nat.le_refl _) ?_
        intro v3 w3 ho3 hb3 _ _
        rw [HTR.out] at ho3
        have ho3' : OwnH w3 w.heap.size v3 (twice ids W) := by unfold OwnH; rw [HTW.out]; exact ho3
        obtain ⟨p3, c3, rfl, hc3, hcm3, hr3⟩ := ho3'.open HTO.out
        rw [HTW.out] at hc3 ⊢
        clear ho1 hb1 hbw1 hb2 ho3 ho3' hb0 hbA
        go_wp2_with fail
        refine planQ_normal (And.intro hb3 ?_)
        refine' plan_quiet (s := _) (A1 := _) (r := []) [9] [_] _ rfl rfl rfl (fun W1 hW => ?hq2) _ hb3 (fun _ => ?hr2)
        case hq2 =>
          simp only [List.getElem_toArray, List.getElem_cons_zero, List.getElem_cons_succ]
          go_big_quiet_step (fail)
          refine wpQuiet_nil ?_
          rfl
        case hr2 =>
        refine plan_end fun k3 => NoPanic.normal ?_
        have hr4 := Lib.hid (hr3.below (below_drewN (Below.refl w3.heap.size w3) k3) (Nat.le_refl _))
        have hb4 := below_drewN hb3 k3
        clear hr3 hb3
        generalize w3.drewN k3 = w4 at *
        go_wp2_with fail
        refine (merkle_any p m c ids _ (HK.out.below hb4 hKs) HN.out HO.out hmc hcm (by omega) (HR.out.below hb4 (Nat.le_refl _))).mono ?_
        rw [HRe.out]
        rintro e w5 ⟨rfl, hb5⟩
        have hr5 := Lib.hid (hr4.out.below hb5 (Nat.le_refl _))
        have hbw5 := hb4.trans (hb5.mono hb4.size)
        clear hr4 hb4 hb5
        go_upto_region 11 with (first
          | (with_reducible refine wp_store_blk (o := ⟨none, _, _, _, _, _⟩) ?_ 24 (.tmp 8) (.tmp 59) ?_ (w5.heap.size) 24 (Y) ((hCells (R)).toArray) ?_ ?_ (Blk.new w5 _ _) ?_ ?_ ?_ (w5.heap.size) (w5) ?_ ?_ ?_
             · rfl
             · rfl
             · rfl
             · rfl
             · exact (hCells_info' (HRl.out))
             · exact ((hYl.out).trans (hCells_size (HRl.out)).symm)
             · exact (hCells_one _)
             · exact ((Below.refl _ _).alloc (Nat.le_refl _) _)
             · exact (Nat.le_refl _)
             intro w6 hR6 hb6 hg6 hs6))
        have hr6 := Lib.hid (hr5.out.below hb6 (Nat.le_refl _))
        have hbw6 := hbw5.trans (hb6.mono hbw5.size)
        obtain ⟨g8, hg8⟩ : ∃ g, g = w5.heap.size := ⟨_, rfl⟩
        rw [← hg8]
        rw [← hg8] at hR6
        clear hr5 hbw5 hb6 hg6 hs6 hg8
        go_wp2_with fail
        refine (merkle_any p3 (m + W) c3 (twice ids W) _ (HK.out.below hbw6 hKs) HTW.out HTO.out hc3 hcm3 (by omega) hr6.out).mono ?_
        rw [HTM.out]
        rintro e w7 ⟨rfl, hb7⟩
        have hR7 := Lib.hid (hR6.out.below hb7 hR6.out.lt)
        have hbw7 := hbw6.trans (hb7.mono hbw6.size)
        clear hr6 hbw6 hb7 hR6
        go_upto_region 12 with (first
          | (with_reducible refine wp_store_blk (o := ⟨none, _, _, _, _, _⟩) ?_ 24 (.tmp 10) (.tmp 64) ?_ (w7.heap.size) 24 (Y) ((hCells (R)).toArray) ?_ ?_ (Blk.new w7 _ _) ?_ ?_ ?_ (w7.heap.size) (w7) ?_ ?_ ?_
             · rfl
             · rfl
             · rfl
             · rfl
             · exact (hCells_info' (HRl.out))
             · exact ((hYl.out).trans (hCells_size (HRl.out)).symm)
             · exact (hCells_one _)
             · exact ((Below.refl _ _).alloc (Nat.le_refl _) _)
             · exact (Nat.le_refl _)
             intro w8 hR8 hb8 hg8 hs8))
        have hR78 := Lib.hid (hR7.out.below hb8 hR7.out.lt)
        have hbw8 := hbw7.trans (hb8.mono hbw7.size)
        obtain ⟨g10, hg10⟩ : ∃ g, g = w7.heap.size := ⟨_, rfl⟩
        rw [← hg10]
        rw [← hg10] at hR8
        clear hR7 hbw7 hb8 hg8 hs8 hg10
        have r8 := hash_range hR78.out
        have r10 := hash_range hR8.out
        have sm1 := hash_same R HRl.out
        go_wp2_with (first
          | (with_reducible refine wpList_load_mid (op := ⟨some 66, _, _, _, _, _⟩) ?_ 24 (.tmp 8) ?_ (g8) (0) ?_ ((hCells (R))) _ (r8) Tryd.underlying24 ?_ ?_ ?_
             · rfl
             · rfl
             · rfl
             · rfl
             · exact (hCells_info (HRl.out)))
          | (with_reducible refine wpList_load_mid (op := ⟨some 67, _, _, _, _, _⟩) ?_ 24 (.tmp 10) ?_ (g10) (0) ?_ ((hCells (R))) _ (r10) Tryd.underlying24 ?_ ?_ ?_
             · rfl
             · rfl
             · rfl
             · rfl
             · exact (hCells_info (HRl.out))))
        go_ret
        exact ⟨rfl, hbw8⟩
    · have hqi : ¬ (1 : Int) < (q : Int) := by omega
      have hqi2 : (q : Int) < 2 := by omega
      have hd1 : decide ((1 : Int) < (q : Int)) = false := decide_eq_false hqi
      have hd2 : decide (1 < q) = false := decide_eq_false hq1
      go_wp2_with (first
        | (with_reducible refine wp_build (o := ⟨some 31, _, _, _, _, _⟩) ?_ 24 #[(0, .const (.int .u8 9))] ?_ [(0, .int .u8 9)] ?_ (hCells h9).toArray H9b.out ?_
           · rfl
           · rfl
           · rfl)
        | (with_reducible refine wp_lit (o := ⟨some 32, _, _, _, _, _⟩) ?_ 22 24 1 #[(0, .tmp 31)] ?_ [.agg (hCells (h9)).toArray] ?_ 32 32 _ Tryd.underlying22 hash_info ?_ ?_ ?_ ?_ ?_ ?_
           · rfl
           · rfl
           · rfl
           · omega
           · exact (fun v hv => by rw [List.mem_singleton.1 hv]; exact hCells_size (H9l.out))
           · rfl
           · omega
           · omega))
      have hb6 : Below w.heap.size w (w.alloc (.cells (hCells h9).toArray 24)) := (Below.refl _ _).alloc (Nat.le_refl _) _
      refine (merkle_any _ 1 1 [h9] _ (HK.out.below hb6 hKs) rfl (fun x hx => by rw [List.mem_singleton.1 hx]; exact H9l.out) (Nat.le_refl _) (by omega) (by omega) (new_rowsH w H9l.out)).mono ?_
      rw [H9m.out]
      rintro e w7 ⟨rfl, hb7⟩
      have hbw7 := hb6.trans (hb7.mono hb6.size)
      clear hb6 hb7
      go_upto_region 7 with (first
        | (with_reducible refine wp_store_blk (o := ⟨none, _, _, _, _, _⟩) ?_ 24 (.tmp 4) (.tmp 34) ?_ (w7.heap.size) 24 (Y) ((hCells (h9)).toArray) ?_ ?_ (Blk.new w7 _ _) ?_ ?_ ?_ (w7.heap.size) (w7) ?_ ?_ ?_
           · rfl
           · rfl
           · rfl
           · rfl
           · exact (hCells_info' (H9l.out))
           · exact ((hYl.out).trans (hCells_size (H9l.out)).symm)
           · exact (hCells_one _)
           · exact ((Below.refl _ _).alloc (Nat.le_refl _) _)
           · exact (Nat.le_refl _)
           intro w8 hR8 hb8 hg8 hs8))
      have hbw8 := hbw7.trans (hb8.mono hbw7.size)
      obtain ⟨g4, hg4⟩ : ∃ g, g = w7.heap.size := ⟨_, rfl⟩
      rw [← hg4]
      rw [← hg4] at hR8
      clear hbw7 hb8 hg8 hs8 hg4
      have r4 := hash_range hR8.out
      have sm2 := hash_same h9 H9l.out
      go_wp2_with (first
        | (with_reducible refine wpList_load_mid (op := ⟨some 36, _, _, _, _, _⟩) ?_ 24 (.tmp 4) ?_ (g4) (0) ?_ ((hCells (h9))) _ (r4) Tryd.underlying24 ?_ ?_ ?_
           · rfl
           · rfl
           · rfl
           · rfl
           · exact (hCells_info (H9l.out)))
        | (with_reducible refine wp_build (o := ⟨some 37, _, _, _, _, _⟩) ?_ 24 #[(0, .const (.int .u8 9))] ?_ [(0, .int .u8 9)] ?_ (hCells h9).toArray H9b.out ?_
           · rfl
           · rfl
           · rfl))
      go_ret
      exact ⟨rfl, hbw8⟩
end Go.Proofs.YtifanifgbkpdgaaDoor
