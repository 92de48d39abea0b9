/- tx.Encode: the walk. -/
import Derived.Test.YthglocpbdfcfnaaTxG
namespace Go.Proofs.Ythglocpbdfcfnaa
open Go Go.RowKit
set_option linter.unusedVariables false

set_option maxRecDepth 100000 in
set_option maxHeartbeats 8000000 in
theorem txEncode_any (t : TTx) (cs : List Value) (m : Bool) (w : World) (hc : TxC w t cs) : Calls Try.prog 10 #[.agg cs.toArray, .bool m] w (OutB w (txP t m)) := by
  have HC := Lib.hid hc
  obtain ⟨iv, ov, rfl, hi, ho⟩ := hc
  have hb1 := below_new w (.cells #[u32 t.ve, iv, ov, u32 t.lo] 26)
  have HB := Lib.hid (Blk.new w 26 #[u32 t.ve, iv, ov, u32 t.lo])
  have HI := Lib.hid hi
  have HO := Lib.hid ho
  obtain ⟨vv, hvv⟩ : ∃ v, v = u32 t.ve := ⟨_, rfl⟩
  obtain ⟨vl, hvl⟩ : ∃ v, v = u32 t.lo := ⟨_, rfl⟩
  rw [← hvv, ← hvl] at hb1 HB HC ⊢
  have HVV := Lib.hid hvv
  have HVL := Lib.hid hvl
  clear hi ho hvv hvl
  go_enter Try.func10, Try.ntmps10
  go_upto_region 1 with fail
  generalize w.alloc (.cells #[vv, iv, ov, vl] 26) = w1 at *
  have l1 := blk_range HB.out
  have HC1 := Lib.hid (txC_keeps _ _ _ _ HC.out hb1)
  have hcan := txCan_any t _ w1 HC1.out
  obtain ⟨r, hr⟩ : ∃ r, r = canTx t := ⟨_, rfl⟩
  rw [← hr] at hcan
  have HR := Lib.hid hr
  clear hr
  go_wp2_with ((with_reducible refine wpList_load_mid (op := ⟨some 9, _, _, _, _, _⟩) ?_ 26 (.tmp 2) ?_ (w.heap.size) (0) ?_ ([vv, iv, ov, vl]) _ (l1) Try.underlying26 ?_ ?_ ?_
                · rfl
                · rfl
                · rfl
                · rfl
                · exact ((info_Tx rfl))))
  refine hcan.mono ?_
  rintro e w2 ⟨rfl, hb2⟩
  cases r with
  | false =>
    have HP : Hid (txP t m = ([], 1)) := Lib.hid (by unfold txP; rw [← HR.out]; rfl)
    go_wp2_with fail
    go_ret2
    exact OutB.of HP ⟨rfl, .inl ⟨rfl, rfl⟩⟩ (below_fut hb1 hb2 (Nat.le_refl _))
  | true =>
    have HB2 := Lib.hid (HB.out.fut hb2)
    have hbw2 := below_fut hb1 hb2 (Nat.le_refl _)
    have HW2 : Hid (Wr w w2 (.slice none 0 0) []) := Lib.hid ⟨hbw2, rfl, .inl ⟨rfl, rfl⟩⟩
    have HC2 := Lib.hid (txC_keeps _ _ _ _ HC.out hbw2)
    have HLT : Hid (w.heap.size < w2.heap.size) := Lib.hid HB2.out.lt
    have c0 : w2.cell? ⟨w.heap.size, 0, none⟩ = some (.int .u32 (iv32 t.ve)) := by
      have := HB2.out.cell 0
      simp only [List.getElem?_toArray, List.getElem?_cons_zero] at this
      rw [this, HVV.out]
    have e0 := ext32_64 t.ve
    clear hb1 hb2 hbw2 l1 hcan
    go_wp2_with fail
    refine (txLow_any (t.ve.setWidth 64) 4 (by omega) w.heap.size _ _ [] HW2.out.below.size HW2.out.own (by simp)).mono ?_
    rintro e w3 ⟨v3, rfl, ho3, hg3⟩
    rw [List.nil_append] at ho3
    have HW3 := Lib.hid (HW2.out.grew ho3 hg3)
    have HB3 := Lib.hid (hg3.blk HB2.out (by simp [Value.ownBlock]))
    have HN3 : Hid (v3.ownBlock ≠ some w.heap.size) := Lib.hid (hg3.not (by simp [Value.ownBlock]) HLT.out)
    clear ho3 hg3 c0 e0
    have l3 := blk_range HB3.out
    have hwt := witnessed_any t _ w3 (txC_keeps _ _ _ _ HC.out HW3.out.below)
    go_upto_region 4 with fail
    cases m with
    | false =>
      have HP : Hid (txP t false = (txB t false, 0)) := Lib.hid (by unfold txP; rw [← HR.out]; rfl)
      go_upto_region 7 with fail
      have hcan' : canTx t = true := HR.out.symm
      have hY : Hid (Own8 w3 w.heap.size v3 (le32 t.ve)) := Lib.hid HW3.out.own
      refine region_plan [qq 0, qq 1, qq 2, qq 4, qq 5, oo 3, oo 6, qq 7] (fun W => Blk W w.heap.size 26 #[vv, iv, ov, vl]) (by kernel_rfl) (by kernel_rfl) (HB3.out.fut (below_draws w3 1)) ?_
      refine' plan_quiet (s := 50) (A1 := _) [0, 1, 2, 4, 5] [_, _, _, _, _] _ rfl rfl rfl (fun W hW => ?hq1) _ (HB3.out.fut (below_draws w3 1)) (fun _ => ?hr1)
      case hq1 =>
        have c1 : ∀ k, (W.drewN k).cell? ⟨w.heap.size, 1, none⟩ = some iv := fun k => by have := hW.cell 1; simpa using this
        have c2 : ∀ k, (W.drewN k).cell? ⟨w.heap.size, 2, none⟩ = some ov := fun k => by have := hW.cell 2; simpa using this
        simp only [List.getElem_toArray, List.getElem_cons_zero, List.getElem_cons_succ]
        iterate 5 (go_big_quiet_step (fail))
        refine wpQuiet_nil ?_
        rfl
      case hr1 =>
      refine plan_one rfl fun k1 => ?_
      go_wp2_with fail
      have hw5 := HW3.out.fut (below_draws w3 (1 + k1))
      refine (listIn_tx hcan' iv w _ v3 (le32 t.ve) HI.out hw5 (by simp [le32_len])).mono ?_
      rintro e w6 ⟨v6, rfl, ho6, hg6⟩
      have hbk6 := hg6.blk (HB3.out.fut (below_draws w3 (1 + k1))) HN3.out
      have HW6 := Lib.hid (hw5.grew ho6 hg6)
      have HN6 := Lib.hid (hg6.not HN3.out HB3.out.lt)
      clear ho6 hg6 hw5
      go_wp2_with fail
      refine planQ_normal (And.intro hbk6 ?_)
      refine plan_one rfl fun k2 => ?_
      have hw7 := HW6.out.fut (below_draws w6 k2)
      have hbk7 := hbk6.fut (below_draws w6 k2)
      go_wp2_with fail
      refine (listOut_tx hcan' ov w _ v6 (le32 t.ve ++ insB t.is) HO.out hw7 (by have := insB_len hcan' HI.out; simp [le32_len]; omega)).mono ?_
      rintro e w8 ⟨v8, rfl, ho8, hg8⟩
      have hbk8 := hg8.blk hbk7 HN6.out
      have HW8 := Lib.hid (hw7.grew ho8 hg8)
      have HN8 := Lib.hid (hg8.not HN6.out hbk7.lt)
      clear ho8 hg8 hw7 hbk7 hbk6
      go_wp2_with fail
      refine planQ_normal (And.intro hbk8 ?_)
      refine' plan_quiet (s := 50) (A1 := _) (r := []) [7] [_] _ rfl rfl rfl (fun W hW => ?hq2) _ hbk8 (fun _ => ?hr2)
      case hq2 =>
        simp only [List.getElem_toArray, List.getElem_cons_zero, List.getElem_cons_succ]
        iterate 1 (go_big_quiet_step (fail))
        refine wpQuiet_nil ?_
        rfl
      case hr2 =>
      refine plan_end fun k4 => NoPanic.normal ?_
      have HW9 := Lib.hid (HW8.out.fut (below_draws w8 k4))
      have HB9 := Lib.hid (hbk8.fut (below_draws w8 k4))
      clear hbk8
      generalize w8.drewN k4 = w9 at *
      go_upto_region 14 with fail
      have c3 : w9.cell? ⟨w.heap.size, 3, none⟩ = some (.int .u32 (iv32 t.lo)) := by
        have := HB9.out.cell 3
        simp only [List.getElem?_toArray, List.getElem?_cons_zero, List.getElem?_cons_succ] at this
        rw [this, HVL.out]
      have e9 := ext32_64 t.lo
      go_wp2_with fail
      have hil := insB_len hcan' HI.out
      have hol := outsB_len hcan'
      refine (txLow_any (t.lo.setWidth 64) 4 (by omega) w.heap.size _ v8 (le32 t.ve ++ insB t.is ++ outsB t.os) HW9.out.below.size HW9.out.own (by simp [le32_len]; omega)).mono ?_
      rintro e wa ⟨va, rfl, hoa, hga⟩
      have HWA := Lib.hid (HW9.out.grew hoa hga)
      go_wp2_with fail
      go_ret2
      refine OutB.of HP ?_ HWA.out.below
      have e : txB t false = le32 t.ve ++ insB t.is ++ outsB t.os ++ low (t.lo.setWidth 64) 4 := by
        unfold txB le32
        simp only [List.append_assoc, Bool.false_eq_true, if_false, List.nil_append]
      rw [e]
      exact HWA.out.own
    | true =>
      go_wp2_with ((with_reducible refine wpList_load_midG (op := ⟨some 18, _, _, _, _, _⟩) ?_ 26 (.tmp 2) ?_ (w.heap.size) (0) ?_ ([vv, iv, ov, vl]) _ (l3) Try.underlying26 ?_ ?_ ?_
                    · rfl
                    · rfl
                    · rfl
                    · rfl
                    · exact ((info_Tx rfl))))
      refine hwt.mono ?_
      rintro e w4 ⟨rfl, hb4⟩
      have HW4 := Lib.hid (HW3.out.fut hb4)
      have HB4 := Lib.hid (HB3.out.fut hb4)
      obtain ⟨s, hs⟩ : ∃ s, s = hasWs t.is := ⟨_, rfl⟩
      rw [← hs]
      have HS := Lib.hid hs
      clear hs hb4 l3 hwt
      cases s with
      | false =>
        have HP : Hid (txP t true = (txB t false, 0)) := Lib.hid (by unfold txP; rw [← HR.out, ← HS.out]; rfl)
        go_upto_region 7 with fail
        have hcan' : canTx t = true := HR.out.symm
        have hY : Hid (Own8 w4 w.heap.size v3 (le32 t.ve)) := Lib.hid HW4.out.own
        refine region_plan [qq 0, qq 1, qq 2, qq 4, qq 5, oo 3, oo 6, qq 7] (fun W => Blk W w.heap.size 26 #[vv, iv, ov, vl]) (by kernel_rfl) (by kernel_rfl) (HB4.out.fut (below_draws w4 1)) ?_
        refine' plan_quiet (s := 50) (A1 := _) [0, 1, 2, 4, 5] [_, _, _, _, _] _ rfl rfl rfl (fun W hW => ?hq1) _ (HB4.out.fut (below_draws w4 1)) (fun _ => ?hr1)
        case hq1 =>
          have c1 : ∀ k, (W.drewN k).cell? ⟨w.heap.size, 1, none⟩ = some iv := fun k => by have := hW.cell 1; simpa using this
          have c2 : ∀ k, (W.drewN k).cell? ⟨w.heap.size, 2, none⟩ = some ov := fun k => by have := hW.cell 2; simpa using this
          simp only [List.getElem_toArray, List.getElem_cons_zero, List.getElem_cons_succ]
          iterate 5 (go_big_quiet_step (fail))
          refine wpQuiet_nil ?_
          rfl
        case hr1 =>
        refine plan_one rfl fun k1 => ?_
        go_wp2_with fail
        have hw5 := HW4.out.fut (below_draws w4 (1 + k1))
        refine (listIn_tx hcan' iv w _ v3 (le32 t.ve) HI.out hw5 (by simp [le32_len])).mono ?_
        rintro e w6 ⟨v6, rfl, ho6, hg6⟩
        have hbk6 := hg6.blk (HB4.out.fut (below_draws w4 (1 + k1))) HN3.out
        have HW6 := Lib.hid (hw5.grew ho6 hg6)
        have HN6 := Lib.hid (hg6.not HN3.out HB4.out.lt)
        clear ho6 hg6 hw5
        go_wp2_with fail
        refine planQ_normal (And.intro hbk6 ?_)
        refine plan_one rfl fun k2 => ?_
        have hw7 := HW6.out.fut (below_draws w6 k2)
        have hbk7 := hbk6.fut (below_draws w6 k2)
        go_wp2_with fail
        refine (listOut_tx hcan' ov w _ v6 (le32 t.ve ++ insB t.is) HO.out hw7 (by have := insB_len hcan' HI.out; simp [le32_len]; omega)).mono ?_
        rintro e w8 ⟨v8, rfl, ho8, hg8⟩
        have hbk8 := hg8.blk hbk7 HN6.out
        have HW8 := Lib.hid (hw7.grew ho8 hg8)
        have HN8 := Lib.hid (hg8.not HN6.out hbk7.lt)
        clear ho8 hg8 hw7 hbk7 hbk6
        go_wp2_with fail
        refine planQ_normal (And.intro hbk8 ?_)
        refine' plan_quiet (s := 50) (A1 := _) (r := []) [7] [_] _ rfl rfl rfl (fun W hW => ?hq2) _ hbk8 (fun _ => ?hr2)
        case hq2 =>
          simp only [List.getElem_toArray, List.getElem_cons_zero, List.getElem_cons_succ]
          iterate 1 (go_big_quiet_step (fail))
          refine wpQuiet_nil ?_
          rfl
        case hr2 =>
        refine plan_end fun k4 => NoPanic.normal ?_
        have HW9 := Lib.hid (HW8.out.fut (below_draws w8 k4))
        have HB9 := Lib.hid (hbk8.fut (below_draws w8 k4))
        clear hbk8
        generalize w8.drewN k4 = w9 at *
        go_upto_region 14 with fail
        have c3 : w9.cell? ⟨w.heap.size, 3, none⟩ = some (.int .u32 (iv32 t.lo)) := by
          have := HB9.out.cell 3
          simp only [List.getElem?_toArray, List.getElem?_cons_zero, List.getElem?_cons_succ] at this
          rw [this, HVL.out]
        have e9 := ext32_64 t.lo
        go_wp2_with fail
        have hil := insB_len hcan' HI.out
        have hol := outsB_len hcan'
        refine (txLow_any (t.lo.setWidth 64) 4 (by omega) w.heap.size _ v8 (le32 t.ve ++ insB t.is ++ outsB t.os) HW9.out.below.size HW9.out.own (by simp [le32_len]; omega)).mono ?_
        rintro e wa ⟨va, rfl, hoa, hga⟩
        have HWA := Lib.hid (HW9.out.grew hoa hga)
        go_wp2_with fail
        go_ret2
        refine OutB.of HP ?_ HWA.out.below
        have e : txB t false = le32 t.ve ++ insB t.is ++ outsB t.os ++ low (t.lo.setWidth 64) 4 := by
          unfold txB le32
          simp only [List.append_assoc, Bool.false_eq_true, if_false, List.nil_append]
        rw [e]
        exact HWA.out.own
      | true =>
        have HP : Hid (txP t true = (txB t true, 0)) := Lib.hid (by unfold txP; rw [← HR.out, ← HS.out]; rfl)
        go_upto_region 6 with fail
        have ho4 := HW4.out.own.alloc (.cells #[.int .u8 0, .int .u8 1] 5)
        have hr4 : Row8 (w4.alloc (.cells #[.int .u8 0, .int .u8 1] 5)) (some ⟨w4.heap.size, 0, none⟩) [0#8, 1#8] := hCells_row (l := [0#8, 1#8]) (Blk.new w4 _ _)
        have hs4 : w.heap.size ≤ (w4.alloc (.cells #[.int .u8 0, .int .u8 1] 5)).heap.size := by rw [World.size_alloc]; have := HW4.out.below.size; omega
        have hb4 := Below.refl w.heap.size (w4.alloc (.cells #[.int .u8 0, .int .u8 1] 5))
        go_wp2_with ((with_reducible refine wp_append8 (o := ⟨some 24, _, _, _, _, _⟩) ?_ (.tmp 22) (.tmp 23) ?_ (w.heap.size) _ ((le32 t.ve)) ?_ (ho4) (some ⟨w4.heap.size, 0, none⟩) (2) (2) ([0#8, 1#8]) ?_ (rfl) (hr4) ?_ (hs4) (w.heap.size) ((w4.alloc (.cells #[.int .u8 0, .int .u8 1] 5))) (hb4) ?_ ?_
                      · rfl
                      · rfl
                      · rfl
                      · rfl
                      · rw [le32_len]; simp only [List.length_cons, List.length_nil]; omega
                      · exact Nat.le_refl _
                      intro v5 w5 ho5 hb5 hg5 hj5))
        have HGm := Lib.hid (Grew.ahead (below_new w4 _) (Grew.of_app hg5 hj5))
        have HW5 := Lib.hid (HW4.out.grew ho5 HGm.out)
        have HB5 := Lib.hid (HGm.out.blk HB4.out HN3.out)
        have HN5 := Lib.hid (HGm.out.not HN3.out HB4.out.lt)
        clear ho5 hb5 hg5 hj5 ho4 hr4 hs4 hb4
        have hcan' : canTx t = true := HR.out.symm
        have hY : Hid (Own8 w5 w.heap.size v5 (le32 t.ve ++ [0#8, 1#8])) := Lib.hid HW5.out.own
        refine region_plan [qq 0, qq 1, qq 2, qq 4, qq 5, oo 3, oo 6, qq 7] (fun W => Blk W w.heap.size 26 #[vv, iv, ov, vl]) (by kernel_rfl) (by kernel_rfl) (HB5.out.fut (below_draws w5 1)) ?_
        refine' plan_quiet (s := 50) (A1 := _) [0, 1, 2, 4, 5] [_, _, _, _, _] _ rfl rfl rfl (fun W hW => ?hq1) _ (HB5.out.fut (below_draws w5 1)) (fun _ => ?hr1)
        case hq1 =>
          have c1 : ∀ k, (W.drewN k).cell? ⟨w.heap.size, 1, none⟩ = some iv := fun k => by have := hW.cell 1; simpa using this
          have c2 : ∀ k, (W.drewN k).cell? ⟨w.heap.size, 2, none⟩ = some ov := fun k => by have := hW.cell 2; simpa using this
          simp only [List.getElem_toArray, List.getElem_cons_zero, List.getElem_cons_succ]
          iterate 5 (go_big_quiet_step (fail))
          refine wpQuiet_nil ?_
          rfl
        case hr1 =>
        refine plan_one rfl fun k1 => ?_
        go_wp2_with fail
        have hw5 := HW5.out.fut (below_draws w5 (1 + k1))
        refine (listIn_tx hcan' iv w _ v5 (le32 t.ve ++ [0#8, 1#8]) HI.out hw5 (by simp [le32_len])).mono ?_
        rintro e w6 ⟨v6, rfl, ho6, hg6⟩
        have hbk6 := hg6.blk (HB5.out.fut (below_draws w5 (1 + k1))) HN5.out
        have HW6 := Lib.hid (hw5.grew ho6 hg6)
        have HN6 := Lib.hid (hg6.not HN5.out HB5.out.lt)
        clear ho6 hg6 hw5
        go_wp2_with fail
        refine planQ_normal (And.intro hbk6 ?_)
        refine plan_one rfl fun k2 => ?_
        have hw7 := HW6.out.fut (below_draws w6 k2)
        have hbk7 := hbk6.fut (below_draws w6 k2)
        go_wp2_with fail
        refine (listOut_tx hcan' ov w _ v6 (le32 t.ve ++ [0#8, 1#8] ++ insB t.is) HO.out hw7 (by have := insB_len hcan' HI.out; simp [le32_len]; omega)).mono ?_
        rintro e w8 ⟨v8, rfl, ho8, hg8⟩
        have hbk8 := hg8.blk hbk7 HN6.out
        have HW8 := Lib.hid (hw7.grew ho8 hg8)
        have HN8 := Lib.hid (hg8.not HN6.out hbk7.lt)
        clear ho8 hg8 hw7 hbk7 hbk6
        go_wp2_with fail
        refine planQ_normal (And.intro hbk8 ?_)
        refine' plan_quiet (s := 50) (A1 := _) (r := []) [7] [_] _ rfl rfl rfl (fun W hW => ?hq2) _ hbk8 (fun _ => ?hr2)
        case hq2 =>
          simp only [List.getElem_toArray, List.getElem_cons_zero, List.getElem_cons_succ]
          iterate 1 (go_big_quiet_step (fail))
          refine wpQuiet_nil ?_
          rfl
        case hr2 =>
        refine plan_end fun k4 => NoPanic.normal ?_
        have HW9 := Lib.hid (HW8.out.fut (below_draws w8 k4))
        have HB9 := Lib.hid (hbk8.fut (below_draws w8 k4))
        clear hbk8
        generalize w8.drewN k4 = w9 at *
        have c1 : w9.cell? ⟨w.heap.size, 1, none⟩ = some iv := by
          have := HB9.out.cell 1
          simpa using this
        obtain ⟨q, n, c, rfl, hn, hnc, hcm, hr, _⟩ := id HI.out
        have HR1 := Lib.hid hr
        have HN := Lib.hid hn
        obtain ⟨_, hn2, _, hall, _⟩ := canTx_all hcan'
        rw [hn] at hn2
        have HALL := Lib.hid hall
        have hil := insB_len hcan' HI.out
        have hol := outsB_len hcan'
        obtain ⟨P, hP⟩ : ∃ P, P = le32 t.ve ++ [0#8, 1#8] ++ insB t.is ++ outsB t.os := ⟨_, rfl⟩
        have hPl : P.length ≤ 3000000000 := by rw [hP]; simp [le32_len]; omega
        rw [← hP] at HW9
        have HPP := Lib.hid hP
        have HPL := Lib.hid hPl
        obtain ⟨p8, n8, c8, rfl⟩ := HW9.out.opens
        clear hP hPl hil hol hn hr hall
        go_upto_region 10 with fail
        go_loopw [6, 36] (fun u i wr => ∃ k : Nat, k ≤ n ∧ i = .int .i64 k ∧ Hid (Wr w wr u (P ++ witsB (t.is.take k))) ∧ Hid (Blk wr w.heap.size 26 #[vv, .slice q n c, ov, vl]) ∧ Hid (u.ownBlock ≠ some w.heap.size)) (fun _ i _ => n - (intOf i).toNat)
        case atStart => exact ⟨0, by omega, rfl, Lib.hid (by rw [List.take_zero]; simpa [witsB] using HW9.out), HB9, HN8⟩
        case round =>
          obtain ⟨k, hk, rfl, HWk, HBk, HNk⟩ := hrel
          obtain ⟨pk, nk, ck, rfl⟩ := HWk.out.opens
          by_cases hkn : k < n
          · have hlt : (k : Int) < (n : Int) := by omega
            have hx := List.getElem?_eq_getElem (l := t.is) (i := k) (by have := HN.out; omega)
            obtain ⟨x, hxe⟩ : ∃ x, x = t.is[k]'(by have := HN.out; omega) := ⟨_, rfl⟩
            rw [← hxe] at hx
            have hmem := List.mem_of_getElem? hx
            obtain ⟨b, off, rfl, hb, hcs⟩ := HR1.out (by intro h; rw [h] at hx; cases hx)
            obtain ⟨cs, hE, h2⟩ := hcs k x hx
            have l3 := hE.len
            have l2 : wr.rangeAt b (off + k * 36) cs := range_fut h2 HWk.out.below hb
            have HX := Lib.hid hx
            have hone := hE.one
            obtain ⟨_, wv, _, _, _, k35, _, hwv⟩ := hE.cell
            have HWV := Lib.hid hwv
            have HAL := Lib.hid (HALL.out x hmem)
            have K35 := Lib.hid k35
            obtain ⟨Z, hZl, hz⟩ := zeroIn
            have HZ := Lib.hid hZl
            have H3 := Lib.hid l3
            have H1 := Lib.hid hone
            clear hx hxe hmem h2 hcs hb hZl l3 hone hE hwv k35
            go_upto_region 12 with (first
              | (with_reducible refine wpList_load_mid (op := ⟨some 39, _, _, _, _, _⟩) ?_ 67 (.tmp 38) ?_ (b) (off + k * 36) ?_ (cs) _ (l2) Try.underlying67 ?_ ?_ ?_
                 · rfl
                 · rfl
                 · rfl
                 · rfl
                 · exact ((info_Ins H3.out)))
              | (with_reducible refine wp_store_blk (o := ⟨none, _, _, _, _, _⟩) ?_ 67 (.tmp 8) (.tmp 39) ?_ (wr.heap.size) 67 (Z) (cs.toArray) ?_ ?_ (Blk.new wr _ _) ?_ ?_ ?_ (wr.heap.size) (wr) ?_ ?_ ?_
                 · rfl
                 · rfl
                 · rfl
                 · rfl
                 · exact (by rw [List.size_toArray]; exact info_Ins H3.out)
                 · exact (HZ.out.trans (by rw [List.size_toArray]; exact H3.out.symm))
                 · exact (H1.out)
                 · exact (below_new wr _)
                 · exact (Nat.le_refl _)
                 intro w6 hB6 hb6 hg6 hs6))
            have c35 := hB6.cell 35
            rw [List.getElem?_toArray, K35.out] at c35
            have HWb := Lib.hid (HWk.out.fut hb6)
            have HBb := Lib.hid (HBk.out.fut hb6)
            have hwl : (P ++ witsB (t.is.take k)).length ≤ 50000000000000 := by
              have h1 := flat_le (fun x => witB x.wi) 1001000 (t.is.take k) (fun y hy => by
                have hy2 := HALL.out y (List.mem_of_mem_take hy)
                have h3 := flat_le text 10009 y.wi (fun b hb => text_le (hy2.2.2 b hb))
                have h4 := cntB_len y.wi.length
                unfold witB
                rw [List.length_append]
                have h5 := Nat.mul_le_mul hy2.2.1 (Nat.le_refl 10009)
                omega)
              have h2 : (t.is.take k).length ≤ 2000 := by rw [List.length_take]; omega
              have h3 := Nat.mul_le_mul h2 (Nat.le_refl 1001000)
              have h4 := HPL.out
              unfold witsB
              rw [List.length_append]
              omega
            clear hb6 hg6 hs6 l2 hz hB6
            go_wp2_with fail
            refine (listWit_tx x.wi HAL.out.2.1 HAL.out.2.2 wv w _ _ _ HWV.out HWb.out hwl).mono ?_
            rintro e w7 ⟨v7, rfl, ho7, hg7⟩
            have HW7 := Lib.hid (HWb.out.grew ho7 hg7)
            have HB7 := Lib.hid (hg7.blk HBb.out HNk.out)
            have HN7 := Lib.hid (hg7.not HNk.out HBb.out.lt)
            have e7 : P ++ witsB (t.is.take k) ++ witB x.wi = P ++ witsB (t.is.take (k + 1)) := by
              unfold witsB
              rw [flat_take (fun x => witB x.wi) t.is k x HX.out, List.append_assoc]
            rw [e7] at HW7
            clear ho7 hg7 e7 hwl c35
            go_wp2_with fail
            go_roundw
            case rel => exact ⟨k + 1, by omega, by go_num, HW7, HB7, HN7⟩
            case measure => simp [intOf]; omega
          · obtain rfl : k = n := by omega
            go_upto_region 14 with fail
            have HWL : Hid (Wr w wr (.slice pk nk ck) (P ++ witsB t.is)) := Lib.hid (by
              have := HWk.out
              rwa [List.take_of_length_le (by have := HN.out; omega)] at this)
            have c3 : wr.cell? ⟨w.heap.size, 3, none⟩ = some (.int .u32 (iv32 t.lo)) := by
              have := HBk.out.cell 3
              simp only [List.getElem?_toArray, List.getElem?_cons_zero, List.getElem?_cons_succ] at this
              rw [this, HVL.out]
            have hwl : (P ++ witsB t.is).length ≤ 50000000000000 := by
              have h1 := flat_le (fun x => witB x.wi) 1001000 t.is (fun y hy => by
                have hy2 := HALL.out y hy
                have h3 := flat_le text 10009 y.wi (fun b hb => text_le (hy2.2.2 b hb))
                have h4 := cntB_len y.wi.length
                unfold witB
                rw [List.length_append]
                have h5 := Nat.mul_le_mul hy2.2.1 (Nat.le_refl 10009)
                omega)
              have h2 : t.is.length ≤ 2000 := by have := HN.out; omega
              have h3 := Nat.mul_le_mul h2 (Nat.le_refl 1001000)
              have h4 := HPL.out
              unfold witsB
              rw [List.length_append]
              omega
            have e9 := ext32_64 t.lo
            go_wp2_with fail
            refine (txLow_any (t.lo.setWidth 64) 4 (by omega) w.heap.size _ _ (P ++ witsB t.is) HWL.out.below.size HWL.out.own (by omega)).mono ?_
            rintro e wa ⟨va, rfl, hoa, hga⟩
            have HWA := Lib.hid (HWL.out.grew hoa hga)
            go_wp2_with fail
            go_ret2
            refine OutB.of HP ?_ HWA.out.below
            have e : txB t true = P ++ witsB t.is ++ low (t.lo.setWidth 64) 4 := by
              rw [HPP.out]
              unfold txB le32
              simp only [List.append_assoc, if_true]
            rw [e]
            exact HWA.out.own

end Go.Proofs.Ythglocpbdfcfnaa
