/- sporranref24.Leads: the walk. -/
import Derived.Test.YtifanifgbkpdgaaDoorLeads
namespace Go.Proofs.YtifanifgbkpdgaaDoor
open Go.RowKit

set_option maxRecDepth 100000 in
set_option maxHeartbeats 4000000 in
theorem refLeads_any (first : List (BitVec 8)) (p : Option Addr) (n c : Nat) (hs : List Hdr) (w : World) (hf : first.length = 32) (hn : hs.length = n) (hok : ∀ x ∈ hs, x.ok) (hnc : n ≤ c) (hcm : c ≤ 9223372036854775807) (hr : RowsN 68 w p (hs.map Hdr.cells)) :
    Calls Tryd.prog 15 #[.agg (hCells first).toArray, .slice p n c] w fun e w' => e = .returned (.bool (leadsP first hs)) ∧ Below w.heap.size w w' := by
  have HN := Lib.hid hn
  have HF := Lib.hid hf
  have HO := Lib.hid hok
  obtain ⟨C, hC⟩ : ∃ C, C = (hCells first).toArray := ⟨_, rfl⟩
  rw [← hC]
  have HC := Lib.hid hC
  have HR := Lib.hid hr
  have hzh := zeroHdr
  obtain ⟨Z, hZ⟩ : ∃ Z, Z = noHdr.cells.toArray := ⟨_, rfl⟩
  rw [← hZ] at hzh
  have HZS : Hid (Z.size = 68) := Lib.hid (by rw [hZ, List.size_toArray, Hdr.cells_len noHdr_ok])
  clear hn hf hok hC hr hZ
  go_enter Tryd.func15, Tryd.ntmps15
  go_upto_region 1 with fail
  refine wp_abst (fun w' => Hid (Blk w' w.heap.size 24 (hCells first).toArray) ∧ Below w.heap.size w w') ⟨Lib.hid (by rw [← HC.out]; exact Blk.new w _ _), (Below.refl _ _).alloc (Nat.le_refl _) _⟩ ?_
  rintro w1 ⟨hb1, hbel1⟩
  go_wp2_with fail
  have hal0 : Hid (allP first hs 0 = true) := Lib.hid rfl
  go_loopw [9] (fun i wr => ∃ k : Nat, k ≤ n ∧ i = .int .i64 k ∧ Hid (allP first hs k = true) ∧ Hid (Blk wr w.heap.size 24 (hCells first).toArray) ∧ Below w.heap.size w wr) (fun i _ => n - (intOf i).toNat)
  case atStart => exact ⟨0, by omega, rfl, hal0, hb1, hbel1⟩
  case round =>
    obtain ⟨k, hk, rfl, hal, hb2, hbel2⟩ := hrel
    clear hal0 hb1 hbel1
    have hlt2 := hb2.out.lt
    by_cases hkn : k < n
    · have hlt : (k : Int) < (n : Int) := by omega
      have hk63 : (k : Int) + 1 ≤ 9223372036854775807 := by omega
      obtain ⟨b, off, hp, hbl, hrow⟩ := HR.out (map_ne (by rw [HN.out]; omega))
      subst hp
      obtain ⟨_, hr0⟩ := hrow k _ (hAt_map (by rw [HN.out]; exact hkn))
      have r4 := rangeAt_below hr0 hbel2 hbl
      have hok4 := Lib.hid (hAt_ok HO.out k)
      obtain ⟨g, hg⟩ : ∃ x, x = hAt hs k := ⟨_, rfl⟩
      rw [← hg] at r4 hok4
      have HG := Lib.hid hg
      have HROW := Lib.hid hrow
      clear hrow hr0 hg
      go_upto_region 4 with (first
        | (with_reducible refine wpList_load_mid (op := ⟨some 13, _, _, _, _, _⟩) ?_ 33 (.tmp 12) ?_ b (off + k * 68) ?_ g.cells _ r4 Tryd.underlying33 ?_ ?_ ?_
           · rfl
           · rfl
           · rfl
           · rfl
           · exact hdr_size hok4.out)
        | (with_reducible refine wp_store_blk (o := ⟨none, _, _, _, _, _⟩) ?_ 33 (.tmp 6) (.tmp 13) ?_ wr.heap.size 33 Z g.cells.toArray ?_ ?_ (Blk.new wr _ _) ?_ ?_ ?_ w.heap.size w ?_ ?_ ?_
           · rfl
           · rfl
           · rfl
           · rfl
           · rw [List.size_toArray]; exact hdr_size hok4.out
           · exact HZS.out.trans (by rw [List.size_toArray, Hdr.cells_len hok4.out])
           · exact Hdr.cells_one _
           · exact hbel2.alloc hbel2.size _
           · exact hbel2.size
           intro w5 hX5 hb5 hg5 hs5))
      obtain ⟨X, hX⟩ : ∃ x, x = wr.heap.size := ⟨_, rfl⟩
      rw [← hX] at hX5 hg5 hlt2 ⊢
      have hx5 := Lib.hid ((hb2.out.alloc _).kept hg5.out (by omega))
      have hX5lt := hX5.out.lt
      clear hX hg5 hs5 hb2 r4
      by_cases hk0 : k = 0
      · subst hk0
        have heq := hash_eq (hid g) first (hid_len g) HF.out
        have HEQ := Lib.hid heq
        clear heq
        refine region_plan [qq 0, qq 1, qq 2, qq 3, qq 5, oo 4, qq 6, qq 7, qq 8, qq 9, qq 10, qq 11, qq 12, qq 13, qq 14, qq 15, qq 16, qq 17, qq 18, oo 19, qq 20, qq 21, qq 22] (fun W => Below w5.heap.size w5 W) (by kernel_rfl) (by kernel_rfl) (Below.refl _ _).drew ?_
        refine' plan_quiet (s := 38) (A1 := _) [0, 1, 2, 3, 5] [_, _, _, _, _] _ rfl rfl rfl (fun W hW => ?hq1) _ (Below.refl _ _).drew (fun _ => ?hr1)
        case hq1 =>
          have r17 := fun k => (hX5.out.below hW hX5lt).drewN k
          have r19 := fun k => (hx5.out.below hW hx5.out.lt).drewN k
          simp only [List.getElem_toArray, List.getElem_cons_zero, List.getElem_cons_succ, put_none]
          iterate 3 (go_big_quiet_step (fail))
          refine quiet_load_mid rfl 33 (.tmp 6) rfl X 0 rfl g.cells _ (fun w' ⟨k, hk⟩ => by rw [hk]; exact (r17 k).range) Tryd.underlying33 rfl (hdr_size hok4.out) ?_
          simp only [put_some, List.setIfInBounds_toArray, List.set_cons_succ, List.set_cons_zero]
          refine quiet_load_mid rfl 24 (.tmp 2) rfl w.heap.size 0 rfl (hCells first) _ (fun w' ⟨k, hk⟩ => by rw [hk]; exact hash_range (r19 k)) Tryd.underlying24 rfl (hCells_info HF.out) ?_
          simp only [put_some, List.setIfInBounds_toArray, List.set_cons_succ, List.set_cons_zero]
          refine wpQuiet_nil ?_
          rfl
        case hr1 =>
        refine plan_one rfl fun k => ?_
        go_wp2_with fail
        refine (refHdrID_any g hok4.out _).mono ?_
        rintro e w6 ⟨rfl, hb6⟩
        have hF6 : Below w5.heap.size w5 w6 := (below_drewN (Below.refl w5.heap.size w5) (1 + k)).trans hb6
        clear hb6
        go_wp2_with fail
        refine planQ_normal (And.intro hF6 ?_)
        have heq := HEQ.out
        by_cases hc : hid g = first
        · rw [decide_eq_true hc] at heq
          have hal2 : Hid (allP first hs (0 + 1) = true) := Lib.hid (by
            rw [allP_succ, hal.out, Bool.true_and]
            unfold condP
            rw [if_pos rfl, ← HG.out, hc, decide_eq_true rfl])
          clear hc
          refine' plan_quiet (s := 38) (A1 := _) [6, 7, 8, 9, 10, 11, 12, 13, 14, 15, 16, 17, 18] [_, _, _, _, _, _, _, _, _, _, _, _, _] _ rfl rfl rfl (fun W hW => ?hq2) _ hF6 (fun _ => ?hr2)
          case hq2 =>
            simp only [List.getElem_toArray, List.getElem_cons_zero, List.getElem_cons_succ]
            iterate 13 (go_big_quiet_step (fail))
            refine wpQuiet_nil ?_
            rfl
          case hr2 =>
          refine plan_skip rfl rfl (fun _ => below_drewN hF6 _) fun k2 => ?_
          simp only [List.getElem_toArray, List.getElem_cons_zero, List.getElem_cons_succ, put_some, List.setIfInBounds_toArray, List.set_cons_succ, List.set_cons_zero]
          refine' plan_quiet (s := 38) (A1 := _) (r := []) [20, 21, 22] [_, _, _] _ rfl rfl rfl (fun W hW => ?hq3) _ (below_drewN hF6 _) (fun _ => ?hr3)
          case hq3 =>
            simp only [List.getElem_toArray, List.getElem_cons_zero, List.getElem_cons_succ]
            iterate 3 (go_big_quiet_step (fail))
            refine wpQuiet_nil ?_
            rfl
          case hr3 =>
          refine plan_end fun k9 => NoPanic.normal ?_
          go_wp2
          go_roundw
          case rel => exact ⟨1, by omega, by go_num, hal2, Lib.hid (hx5.out.below (below_drewN hF6 _) hx5.out.lt), hb5.trans ((below_drewN hF6 _).mono hb5.size)⟩
          case measure => simp [intOf]; omega
        · rw [decide_eq_false hc] at heq
          have hlf : leadsP first hs = false := leads_false (k := 0) (by rw [HN.out]; exact hkn) (by
            unfold condP
            rw [if_pos rfl, ← HG.out, decide_eq_false hc])
          have HLF := Lib.hid hlf
          clear hc hlf
          refine' plan_quiet (s := 38) (A1 := _) [6, 7, 8, 9, 10, 11, 12, 13, 14, 15, 16, 17, 18] [_, _, _, _, _, _, _, _, _, _, _, _, _] _ rfl rfl rfl (fun W hW => ?hq2) _ hF6 (fun _ => ?hr2)
          case hq2 =>
            simp only [List.getElem_toArray, List.getElem_cons_zero, List.getElem_cons_succ]
            iterate 13 (go_big_quiet_step (fail))
            refine wpQuiet_nil ?_
            rfl
          case hr2 =>
          refine plan_skip rfl rfl (fun _ => below_drewN hF6 _) fun k2 => ?_
          simp only [List.getElem_toArray, List.getElem_cons_zero, List.getElem_cons_succ, put_some, List.setIfInBounds_toArray, List.set_cons_succ, List.set_cons_zero]
          refine' plan_quiet (s := 38) (A1 := _) (r := []) [20, 21, 22] [_, _, _] _ rfl rfl rfl (fun W hW => ?hq3) _ (below_drewN hF6 _) (fun _ => ?hr3)
          case hq3 =>
            simp only [List.getElem_toArray, List.getElem_cons_zero, List.getElem_cons_succ]
            iterate 3 (go_big_quiet_step (fail))
            refine wpQuiet_nil ?_
            rfl
          case hr3 =>
          refine plan_end fun k9 => NoPanic.normal ?_
          go_wp2
          go_ret
          exact ⟨by rw [HLF.out]; rfl, hb5.trans ((below_drewN hF6 _).mono hb5.size)⟩
      · obtain ⟨j, hj⟩ : ∃ j, k = j + 1 := ⟨k - 1, by omega⟩
        have hjn : j < n := by omega
        obtain ⟨_, hrj⟩ := HROW.out j _ (hAt_map (by rw [HN.out]; exact hjn))
        have hokj := Lib.hid (hAt_ok HO.out j)
        obtain ⟨f, hf⟩ : ∃ x, x = hAt hs j := ⟨_, rfl⟩
        rw [← hf] at hrj hokj
        have rj := rangeAt_below hrj hb5 hbl
        have HFf := Lib.hid hf
        have HJ := Lib.hid hj
        have hkb : ((k : Int) == 0) = false := by simp; omega
        have hkp : (0 : Int) < (k : Int) := by omega
        have hkd : decide (0 < k) = true := by simp; omega
        have hkd2 : decide ((0 : Int) < (k : Int)) = true := by simp; omega
        have s1 : IntKind.i64.wrap ((k : Int) - 1) = (j : Int) := by rw [IntKind.wrap_i64]; omega
        have s2 : ((j : Int)).toNat = j := by omega
        have s3 : (0 : Int) ≤ (j : Int) := by omega
        have s4 : (j : Int) < (n : Int) := by omega
        have heq := hash_eq g.p (hid f) hok4.out.1 (hid_len f)
        have HEQ := Lib.hid heq
        have hbl5 : b < w5.heap.size := by have := hb5.size; omega
        have HRJ := Lib.hid rj
        clear hf hj hrj heq rj hk0
        refine region_plan [qq 0, qq 1, qq 2, qq 3, qq 5, oo 4, qq 6, qq 7, qq 8, qq 9, qq 10, qq 11, qq 12, qq 13, qq 14, qq 15, qq 16, qq 17, qq 18, oo 19, qq 20, qq 21, qq 22] (fun W => Below w5.heap.size w5 W) (by kernel_rfl) (by kernel_rfl) (Below.refl _ _).drew ?_
        refine' plan_quiet (s := 38) (A1 := _) [0, 1, 2, 3, 5] [_, _, _, _, _] _ rfl rfl rfl (fun W hW => ?hq1) _ (Below.refl _ _).drew (fun _ => ?hr1)
        case hq1 =>
          simp only [List.getElem_toArray, List.getElem_cons_zero, List.getElem_cons_succ, put_none]
          iterate 5 (go_big_quiet_step (fail))
          refine wpQuiet_nil ?_
          rfl
        case hr1 =>
        refine plan_skip rfl rfl (fun _ => (below_drewN (Below.refl w5.heap.size w5).drew _)) fun k1 => ?_
        simp only [List.getElem_toArray, List.getElem_cons_zero, List.getElem_cons_succ, put_some, List.setIfInBounds_toArray, List.set_cons_succ, List.set_cons_zero]
        refine' plan_quiet (s := 38) (A1 := _) [6, 7, 8, 9, 10, 11, 12, 13, 14, 15, 16, 17, 18] [_, _, _, _, _, _, _, _, _, _, _, _, _] _ rfl rfl rfl (fun W hW => ?hq2) _ (below_drewN (Below.refl w5.heap.size w5).drew _) (fun _ => ?hr2)
        case hq2 =>
          have r27 := fun k => hdr_range_p ((hX5.out.below hW hX5lt).drewN k)
          have r32 := fun k => rangeAt_below HRJ.out (below_drewN hW k) hbl5
          simp only [List.getElem_toArray, List.getElem_cons_zero, List.getElem_cons_succ]
          iterate 7 (go_big_quiet_step (fail))
          refine quiet_load_mid rfl 24 (.tmp 26) rfl X 1 rfl (hCells g.p) _ (fun w' ⟨k, hk⟩ => by rw [hk]; exact r27 k) Tryd.underlying24 rfl (hCells_info hok4.out.1) ?_
          simp only [put_some, List.setIfInBounds_toArray, List.set_cons_succ, List.set_cons_zero]
          iterate 4 (go_big_quiet_step (fail))
          refine quiet_load_mid rfl 33 (.tmp 31) rfl b (off + j * 68) rfl f.cells _ (fun w' ⟨k, hk⟩ => by rw [hk]; exact r32 k) Tryd.underlying33 rfl (hdr_size hokj.out) ?_
          simp only [put_some, List.setIfInBounds_toArray, List.set_cons_succ, List.set_cons_zero]
          refine wpQuiet_nil ?_
          rfl
        case hr2 =>
        refine plan_one rfl fun k2 => ?_
        go_wp2_with fail
        refine (refHdrID_any f hokj.out _).mono ?_
        rintro e w6 ⟨rfl, hb6⟩
        have hF7 : Below w5.heap.size w5 w6 := by
          refine Below.trans ?_ (hb6.mono (Nat.le_refl _))
          exact below_drewN (Below.refl _ _) _
        clear hb6 s1 s2 s3 s4
        go_wp2_with fail
        refine planQ_normal (And.intro hF7 ?_)
        have heq := HEQ.out
        by_cases hc : g.p = hid f
        · rw [decide_eq_true hc] at heq
          have hal2 : Hid (allP first hs (k + 1) = true) := Lib.hid (by
            rw [allP_succ, hal.out, Bool.true_and]
            unfold condP
            rw [if_neg (by have := HJ.out; omega), ← HG.out, hc, show k - 1 = j by have := HJ.out; omega, ← HFf.out, decide_eq_true rfl])
          clear hc
          refine' plan_quiet (s := 38) (A1 := _) (r := []) [20, 21, 22] [_, _, _] _ rfl rfl rfl (fun W hW => ?hq3) _ hF7 (fun _ => ?hr3)
          case hq3 =>
            simp only [List.getElem_toArray, List.getElem_cons_zero, List.getElem_cons_succ]
            iterate 3 (go_big_quiet_step (fail))
            refine wpQuiet_nil ?_
            rfl
          case hr3 =>
          refine plan_end fun k9 => NoPanic.normal ?_
          go_wp2
          go_roundw
          case rel => exact ⟨k + 1, by omega, by go_num, hal2, Lib.hid (hx5.out.below (below_drewN hF7 _) hx5.out.lt), hb5.trans ((below_drewN hF7 _).mono hb5.size)⟩
          case measure => simp [intOf]; omega
        · rw [decide_eq_false hc] at heq
          have hlf : leadsP first hs = false := leads_false (k := k) (by rw [HN.out]; exact hkn) (by
            unfold condP
            rw [if_neg (by have := HJ.out; omega), ← HG.out, show k - 1 = j by have := HJ.out; omega, ← HFf.out, decide_eq_false hc])
          have HLF := Lib.hid hlf
          clear hc hlf
          refine' plan_quiet (s := 38) (A1 := _) (r := []) [20, 21, 22] [_, _, _] _ rfl rfl rfl (fun W hW => ?hq3) _ hF7 (fun _ => ?hr3)
          case hq3 =>
            simp only [List.getElem_toArray, List.getElem_cons_zero, List.getElem_cons_succ]
            iterate 3 (go_big_quiet_step (fail))
            refine wpQuiet_nil ?_
            rfl
          case hr3 =>
          refine plan_end fun k9 => NoPanic.normal ?_
          go_wp2
          go_ret
          exact ⟨by rw [HLF.out]; rfl, hb5.trans ((below_drewN hF7 _).mono hb5.size)⟩
    · have hkn' : k = n := by omega
      subst hkn'
      have hge : ¬ (k : Int) < (k : Int) := by omega
      have hlt' : leadsP first hs = true := by unfold leadsP; rw [HN.out]; exact hal.out
      have HLT := Lib.hid hlt'
      clear hlt'
      go_wp2
      go_ret
      exact ⟨by rw [HLT.out]; rfl, hbel2⟩
end Go.Proofs.YtifanifgbkpdgaaDoor
