/- block.Encode: the walk. -/
import Derived.Test.YthglocpbdfcfnaaBlkP
import Derived.Test.YthglocpbdfcfnaaHdrH
import Derived.Test.YthglocpbdfcfnaaTxH
namespace Go.Proofs.Ythglocpbdfcfnaa
open Go Go.RowKit
set_option linter.unusedVariables false

theorem count_any (n : Nat) (hn : n < 18446744073709551616) (W : World) : Calls Try.prog 50 #[.int .u64 (n : Int)] W (GivesOwn W (cntB n)) := by
  have := encode_any (BitVec.ofNat 64 n) W
  rw [iv64_nat n hn] at this
  exact this
theorem cntB_pos (n : Nat) : cntB n ≠ [] := by
  unfold cntB enc
  split
  · simp
  · split
    · simp
    · split <;> simp
theorem blkP_many {b : TBlk} (h : 2000 < b.ts.length) : blkP b = ([], 1) := by unfold blkP; rw [if_pos h]
theorem blkP_bad {b : TBlk} (h : ¬ 2000 < b.ts.length) {k : Nat} {t : TTx} (ht : b.ts[k]? = some t) (hc : canTx t = false) : blkP b = ([], 1) := by
  unfold blkP
  rw [if_neg h, if_neg]
  rw [all_miss canTx b.ts k t ht hc]
  simp
theorem blkP_long {b : TBlk} (h : ¬ 2000 < b.ts.length) (hc : b.ts.all canTx = true) (hl : 200000 < (blkB b).length) : blkP b = ([], 91) := by
  unfold blkP
  rw [if_neg h, if_pos hc, if_pos hl]
theorem blkP_fine {b : TBlk} (h : ¬ 2000 < b.ts.length) (hc : b.ts.all canTx = true) (hl : ¬ 200000 < (blkB b).length) : blkP b = (blkB b, 0) := by
  unfold blkP
  rw [if_neg h, if_pos hc, if_neg hl]

set_option maxRecDepth 100000 in
set_option maxHeartbeats 16000000 in
theorem blkEncode_any (b : TBlk) (cs : List Value) (w : World) (hc : BlkC w b cs) : Calls Try.prog 20 #[.agg cs.toArray] w (OutB w (blkP b)) := by
  obtain ⟨P, hP⟩ : ∃ P, P = blkP b := ⟨_, rfl⟩
  rw [← hP]
  have HP := Lib.hid hP
  have hlen := hc.len
  obtain ⟨v, hcs, hk, hv⟩ := hc
  obtain ⟨pt, n, ct, rfl⟩ := hv.opens
  obtain ⟨hn, hnc, hcm⟩ := hv.slen
  have HCS := Lib.hid hcs
  have HK := Lib.hid hk
  have HV := Lib.hid hv
  have HN := Lib.hid hn
  have HLEN := Lib.hid hlen
  have hb1 := below_new w (.cells cs.toArray 48)
  have HB := Lib.hid (Blk.new w 48 cs.toArray)
  clear hP hcs hk hv hn hlen
  go_enter Try.func20, Try.ntmps20
  go_upto_region 1 with fail
  generalize w.alloc (.cells cs.toArray 48) = w1 at *
  have HB01 := Lib.hid hb1
  obtain ⟨z, hz⟩ : ∃ z, z = w.heap.size := ⟨_, rfl⟩
  rw [← hz] at HB ⊢
  have hlt := HB.out.lt
  have HLT := Lib.hid hlt
  have HAT : Hid (cs.toArray[68]? = some (.slice pt n ct)) := Lib.hid (by
    rw [HCS.out, List.getElem?_toArray, List.getElem?_append_right (by rw [Hdr.cells_len HK.out]; exact Nat.le_refl _), Hdr.cells_len HK.out]
    rfl)
  clear hz hb1 hlt
  have c68 : w1.cell? ⟨z, 68, none⟩ = some (.slice pt n ct) := by rw [HB.out.cell]; exact HAT.out
  by_cases h2 : 2000 < n
  · have hl : (2000 : Int) < (n : Int) := by omega
    have HP2 : Hid (P = ([], 1)) := Lib.hid (by rw [HP.out]; exact blkP_many (by have := HN.out; omega))
    go_wp2_with fail
    go_ret2
    exact OutB.of HP2 ⟨rfl, .inl ⟨rfl, rfl⟩⟩ HB01.out
  have hl : ¬ (2000 : Int) < (n : Int) := by omega
  have hn2 : n ≤ 2000 := by omega
  have HN2 : Hid (¬ 2000 < b.ts.length) := Lib.hid (by have := HN.out; omega)
  go_upto_region 3 with fail
  clear hl h2 c68
  have hiv := iv64_nat n (by omega)
  refine region_plan [qq 0, qq 1, qq 3, qq 4, qq 5, qq 6, oo 2, oo 7, oo 8, qq 9] (fun W => Blk W z 48 cs.toArray) (by kernel_rfl) (by kernel_rfl) (HB.out.fut (below_draws w1 1)) ?_
  refine' plan_quiet (s := 45) (A1 := _) [0, 1, 3, 4, 5, 6] [_, _, _, _, _, _] _ rfl rfl rfl (fun W hW => ?hq1) _ (HB.out.fut (below_draws w1 1)) (fun _ => ?hr1)
  case hq1 =>
    have c68 : ∀ k, (W.drewN k).cell? ⟨z, 68, none⟩ = some (.slice pt n ct) := fun k => by have := hW.cell 68; rw [HAT.out] at this; exact this
    try simp only [List.getElem_toArray, List.getElem_cons_zero, List.getElem_cons_succ]
    iterate 1 (go_big_quiet_step (fail))
    refine quiet_load_mid rfl 46 (.tmp 13) rfl z 0 rfl b.h.cells _ (fun w hw => ?_) Try.underlying46 rfl (hdr_size HK.out) ?_
    · obtain ⟨k, rfl⟩ := hw
      exact Blk.hdr (h := b.h) (v := .slice pt n ct) (HCS.out ▸ hW.drewN k)
    simp only [put_some, List.setIfInBounds_toArray, List.set_cons_succ, List.set_cons_zero]
    iterate 4 (go_big_quiet_step (fail))
    refine wpQuiet_nil ?_
    rfl
  case hr1 =>
  refine plan_one rfl fun k1 => ?_
  have hdr : Below w1.heap.size w1 (w1.drew.drewN k1) := below_drewN (Below.refl _ _).drew k1
  have HWa := Lib.hid hdr
  have hFa := HB.out.fut hdr
  clear hdr
  generalize w1.drew.drewN k1 = Wa at *
  go_wp2_with fail
  refine (hdrEncode_any b.h HK.out Wa).mono ?_
  rintro e Wb ⟨gh, rfl, hgh, hgw, hbb⟩
  have HH : Hid (Blk Wb gh 113 (b.h.bytes.map u8).toArray) := hgh
  have HWb : Hid (Below w1.heap.size w1 Wb) := Lib.hid (below_fut HWa.out hbb (Nat.le_refl _))
  have hFb := hFa.fut hbb
  clear hgh hgw hbb hFa HWa
  go_wp2_with fail
  refine planQ_normal (And.intro hFb ?_)
  refine plan_one rfl fun k2 => ?_
  have hdr := below_draws Wb k2
  have HHn := Lib.hid (HH.out.fut hdr)
  have HH2 := HHn
  have HWc : Hid (Below w1.heap.size w1 (Wb.drewN k2)) := Lib.hid (below_fut HWb.out hdr (Nat.le_refl _))
  have hFc := hFb.fut hdr
  clear HH HHn HWb hFb hdr
  generalize Wb.drewN k2 = Wc at *
  go_wp2_with fail
  refine (count_any n (by omega) Wc).mono ?_
  rintro e W3 ⟨vn, rfl, hon, hb3⟩
  replace hon : Own8 W3 Wc.heap.size vn (cntB n) := hon
  obtain ⟨pn, nn, cn, rfl, hnn, hnnc, hcmn, hrn⟩ := hon.open
  have HH3 := Lib.hid (HH2.out.fut hb3)
  have HW3 : Hid (Below w1.heap.size w1 W3) := Lib.hid (below_fut HWc.out hb3 (Nat.le_refl _))
  have hF3 := hFc.fut hb3
  clear hon hb3 HH2 HWc hFc
  go_wp2_with fail
  refine planQ_normal (And.intro hF3 ?_)
  refine plan_one rfl fun k3 => ?_
  have hdr := below_draws W3 k3
  have HH3n := Lib.hid (HH3.out.fut hdr)
  have HH4 := HH3n
  have HWd : Hid (Below w1.heap.size w1 (W3.drewN k3)) := Lib.hid (below_fut HW3.out hdr (Nat.le_refl _))
  have hFd := hF3.fut hdr
  have hrn4 := hrn.fut hdr
  clear HH3 HH3n HW3 hF3 hrn hdr
  generalize W3.drewN k3 = Wd at *
  refine wp_append_own (o := ⟨some 21, _, _, _, _, _⟩) rfl (.tmp 15) (.tmp 20) rfl gh 113 b.h.bytes 80 rfl (Hdr.bytes_len HK.out) HH4.out pn nn cn (cntB n) rfl hnn.out (cntB_pos n) hrn4 (by have := cntB_len n; have := hnn.out; omega) ?_
  intro v5 We ho5 hb5
  have HW5 : Hid (Wr w1 We v5 (b.h.bytes ++ cntB n)) := Lib.hid ⟨below_fut HWd.out hb5 (Nat.le_refl _), ownsRow_mono ho5 HWd.out.size⟩
  have hFe := hFd.fut hb5
  clear ho5 hb5
  clear HH4 HWd hFd hrn4
  go_wp2_with fail
  refine planQ_normal (And.intro hFe ?_)
  refine' plan_quiet (s := 45) (A1 := _) (r := []) [9] [_] _ rfl rfl rfl (fun W hW => ?hq2) _ hFe (fun _ => ?hr2)
  case hq2 =>
    try simp only [List.getElem_toArray, List.getElem_cons_zero, List.getElem_cons_succ]
    iterate 1 (go_big_quiet_step (fail))
    refine wpQuiet_nil ?_
    rfl
  case hr2 =>
  refine plan_end fun k4 => NoPanic.normal ?_
  have HW6 := Lib.hid (HW5.out.fut (below_draws We k4))
  have hF6 := hFe.fut (below_draws We k4)
  clear HW5 hFe
  generalize We.drewN k4 = W6 at *
  have c68 : W6.cell? ⟨z, 68, none⟩ = some (.slice pt n ct) := by rw [hF6.cell]; exact HAT.out
  go_upto_region 5 with fail
  clear c68 hF6 hiv
  obtain ⟨Y, hY⟩ : ∃ Y : Bs, Y = b.h.bytes ++ cntB n := ⟨_, rfl⟩
  rw [← hY] at HW6
  have HYL : Hid (Y.length ≤ 100) := Lib.hid (by rw [hY, List.length_append, Hdr.bytes_len HK.out]; have := cntB_len n; omega)
  have HY := Lib.hid hY
  clear hY
  have HAL : Hid (∀ k, (∀ j t, b.ts[j]? = some t → j < k → canTx t = true) → (preB (fun t => txB t (hasWs t.is)) b.ts k).length ≤ 2000 * 10000000000) := Lib.hid fun k hk => by
    have hx : ∀ t ∈ b.ts.take k, (txB t (hasWs t.is)).length ≤ 10000000000 := fun t ht => by
      obtain ⟨j, hj, e⟩ := List.mem_take_iff_getElem.1 ht
      have hm : b.ts[j]? = some t := by rw [List.getElem?_eq_getElem (by omega), e]
      obtain ⟨cs, hE⟩ := HV.out.mem (List.mem_of_getElem? hm)
      exact txB_le (hk j t hm (by omega)) hE
    have h1 := flat_le (fun t : TTx => txB t (hasWs t.is)) 10000000000 (b.ts.take k) hx
    have h2 : (b.ts.take k).length ≤ 2000 := by rw [List.length_take]; have := HN.out; omega
    exact Nat.le_trans h1 (Nat.mul_le_mul h2 (Nat.le_refl _))
  go_loopw [4, 25] (fun v i wr => ∃ k : Nat, k ≤ n ∧ i = .int .i64 k ∧ Hid (∀ j t, b.ts[j]? = some t → j < k → canTx t = true) ∧ Hid (Wr w1 wr v (Y ++ preB (fun t => txB t (hasWs t.is)) b.ts k))) (fun _ i _ => n - (intOf i).toNat)
  case atStart => exact ⟨0, by omega, rfl, Lib.hid (by intro j t _ hj; omega), Lib.hid (by rw [preB_zero, List.append_nil]; exact HW6.out)⟩
  case round =>
    clear HW6
    obtain ⟨k, hk, rfl, HAk, HWk⟩ := hrel
    by_cases hkn : k < n
    case neg =>
      obtain rfl : k = n := by omega
      have hall : b.ts.all canTx = true := by
        rw [List.all_eq_true]
        intro t ht
        obtain ⟨j, hj⟩ := List.getElem?_of_mem ht
        exact HAk.out j t hj (by have := (List.getElem?_eq_some_iff.1 hj).1; have := HN.out; omega)
      have hbb : blkB b = Y ++ preB (fun t => txB t (hasWs t.is)) b.ts k := by
        rw [preB_all _ _ _ (by have := HN.out; omega), HY.out]
        unfold blkB txsB
        rw [HN.out, List.append_assoc]
      have hge : ¬ (k : Int) < (k : Int) := by omega
      rw [← hbb] at HWk
      obtain ⟨B, hB⟩ : ∃ B : Bs, B = blkB b := ⟨_, rfl⟩
      rw [← hB] at HWk
      have hlong := blkP_long (b := b) HN2.out hall
      have hfine := blkP_fine (b := b) HN2.out hall
      rw [← HP.out, ← hB] at hlong hfine
      obtain ⟨q5, m5, d5, rfl, hm5, _⟩ := HWk.out.own.open
      have HLO := Lib.hid hlong
      have HFI := Lib.hid hfine
      have HM5 := Lib.hid hm5.out
      clear hall hbb hB hlong hfine hm5
      by_cases hlong : 200000 < m5
      · have hli : (200000 : Int) < (m5 : Int) := by omega
        have HP2 : Hid (P = ([], 91)) := Lib.hid (HLO.out (by have := HM5.out; omega))
        have HW := Lib.hid HWk.out.below
        clear HWk
        go_wp2_with fail
        go_ret2
        exact OutB.of HP2 ⟨rfl, .inl ⟨rfl, rfl⟩⟩ (HB01.out.trans (HW.out.mono HB01.out.size))
      · have hli : ¬ (200000 : Int) < (m5 : Int) := by omega
        have HP2 : Hid (P = (B, 0)) := Lib.hid (HFI.out (by have := HM5.out; omega))
        go_wp2_with fail
        go_ret2
        exact OutB.of HP2 (ownsRow_mono HWk.out.own HB01.out.size) (HB01.out.trans (HWk.out.below.mono HB01.out.size))
    have hlt : (k : Int) < (n : Int) := by omega
    obtain ⟨bb, off, cs2, t, rfl, hx, hE, l2⟩ := HV.out.at (below_fut HB01.out HWk.out.below (Nat.le_refl _)) hkn
    have hl4 : cs2.length = 4 := by obtain ⟨_, _, rfl, _⟩ := hE; rfl
    have H3 := Lib.hid hl4
    have H1 := Lib.hid hE.one
    have HX := Lib.hid hx
    have HE := Lib.hid hE
    have hz := zTx
    have hbr := below_new wr (.cells ZTx.toArray 26)
    have hzs : ZTx.toArray.size = cs2.toArray.size := by rw [List.size_toArray, List.size_toArray, hl4]; rfl
    obtain ⟨qk, mk, dk, rfl⟩ := HWk.out.opens
    clear hx hl4 hE
    go_upto_region 7 with (first
      | (with_reducible refine wpList_load_mid (op := ⟨some 28, _, _, _, _, _⟩) ?_ 26 (.tmp 27) ?_ (bb) (off + k * 4) ?_ (cs2) _ (l2) Try.underlying26 ?_ ?_ ?_
         · rfl
         · rfl
         · rfl
         · rfl
         · exact ((info_Tx H3.out)))
      | (with_reducible refine wp_store_blk (o := ⟨none, _, _, _, _, _⟩) ?_ 26 (.tmp 6) (.tmp 28) ?_ (wr.heap.size) 26 (ZTx.toArray) (cs2.toArray) ?_ ?_ (Blk.new wr _ _) ?_ ?_ ?_ (wr.heap.size) (wr) ?_ ?_ ?_
         · rfl
         · rfl
         · rfl
         · rfl
         · exact (by rw [List.size_toArray]; exact info_Tx H3.out)
         · exact (hzs)
         · exact (H1.out)
         · exact (hbr)
         · exact (Nat.le_refl _)
         intro w6 hB6 hb6 hg6 hs6))
    have HW6 := Lib.hid (HWk.out.fut hb6)
    have l6 := blk_range hB6.out
    have hC6 := txC_keeps _ _ _ _ HE.out (below_fut HB01.out HW6.out.below (Nat.le_refl _))
    have hcall := txEncode_any t cs2 true w6 hC6
    obtain ⟨g, hg⟩ : ∃ g, g = wr.heap.size := ⟨_, rfl⟩
    rw [← hg] at l6 ⊢
    have hPt : txP t true = (if canTx t then (txB t (hasWs t.is), 0) else ([], 1)) := by unfold txP; simp
    clear hb6 hg6 hs6 hB6 l2 hbr hz hg HWk hzs
    try simp only [put_none]
    by_cases hcan : canTx t = true
    case neg =>
      have hcf : canTx t = false := by cases h : canTx t <;> simp_all
      rw [hPt, if_neg hcan] at hcall
      unfold OutB at hcall
      simp only at hcall
      have HP2 : Hid (P = ([], 1)) := Lib.hid (by rw [HP.out]; exact blkP_bad HN2.out HX.out hcf)
      clear hcan hcf hPt
      go_wp2_with (first
        | (with_reducible refine wpList_load_mid (op := ⟨some 30, _, _, _, _, _⟩) ?_ 26 (.tmp 6) ?_ (g) (0) ?_ (cs2) _ (l6) Try.underlying26 ?_ ?_ ?_
           · rfl
           · rfl
           · rfl
           · rfl
           · exact ((info_Tx H3.out)))
        | (with_reducible refine hcall.mono ?_; rintro e w7 ⟨v7, rfl, ho7, hb7⟩))
      have HB7 := Lib.hid (HW6.out.fut hb7).below
      clear ho7 hb7
      go_ret2
      exact OutB.of HP2 ⟨rfl, .inl ⟨rfl, rfl⟩⟩ (HB01.out.trans (HB7.out.mono HB01.out.size))
    rw [hPt, if_pos hcan] at hcall
    unfold OutB at hcall
    simp only at hcall
    have hbl := txB_le hcan hC6
    obtain ⟨X, hX⟩ : ∃ X : Bs, X = txB t (hasWs t.is) := ⟨_, rfl⟩
    rw [← hX] at hcall hbl
    have HXX := Lib.hid hX
    have HBL := Lib.hid hbl
    have HCAN := Lib.hid hcan
    clear hPt hX hbl hcan hC6
    go_upto_region 10 with (first
      | (with_reducible refine wpList_load_mid (op := ⟨some 30, _, _, _, _, _⟩) ?_ 26 (.tmp 6) ?_ (g) (0) ?_ (cs2) _ (l6) Try.underlying26 ?_ ?_ ?_
         · rfl
         · rfl
         · rfl
         · rfl
         · exact ((info_Tx H3.out)))
      | (with_reducible refine hcall.mono ?_; rintro e w7 ⟨v7, rfl, ho7, hb7⟩))
    obtain ⟨p7, n7, c7, rfl, hn7, hnc7, hcm7, hr7⟩ := ho7.open
    have HW7 := Lib.hid (HW6.out.fut hb7)
    have hlk := HAL.out k HAk.out
    have hL : (Y ++ preB (fun t => txB t (hasWs t.is)) b.ts k).length ≤ 30000000000000 := by rw [List.length_append]; have := HYL.out; omega
    have HL := Lib.hid hL
    have ho8 := HW7.out.own
    have hb8 := HW7.out.below
    have hs8 := hb8.size
    clear ho7 hb7 hlk hL hcall l6 HW6
    go_upto_region 11 with ((with_reducible refine wp_append8 (o := ⟨some 39, _, _, _, _, _⟩) ?_ (.tmp 37) (.tmp 38) ?_ (w1.heap.size) _ (_) ?_ (ho8) (p7) (n7) (c7) (X) ?_ (hn7.out) (hr7) ?_ (hs8) (w1.heap.size) (w1) (hb8) ?_ ?_
                             · rfl
                             · rfl
                             · rfl
                             · rfl
                             · have := HL.out; have := HBL.out; omega
                             · exact Nat.le_refl _
                             intro v9 w9 ho9 hb9 hg9 hk9))
    have HW9 : Hid (Wr w1 w9 v9 (Y ++ preB (fun t => txB t (hasWs t.is)) b.ts (k + 1))) := Lib.hid (by
      have := HW7.out.grew ho9 (Grew.of_app hg9 hk9)
      rw [HXX.out, List.append_assoc] at this
      rw [preB_succ (fun t : TTx => txB t (hasWs t.is)) b.ts k t HX.out]
      exact this)
    have HA9 : Hid (∀ j t, b.ts[j]? = some t → j < k + 1 → canTx t = true) := Lib.hid fun j t' hj hlt => by
      rcases Nat.lt_or_ge j k with h | h
      · exact HAk.out j t' hj h
      · obtain rfl : j = k := by omega
        rw [HX.out] at hj
        injection hj with hj
        rw [← hj]
        exact HCAN.out
    clear ho9 hb9 hg9 hk9 ho8 hb8 hs8 hr7 HW7
    go_wp2_with fail
    go_roundw
    case rel => exact ⟨k + 1, by omega, by go_num, HA9, HW9⟩
    case measure => simp [intOf]; omega
end Go.Proofs.Ythglocpbdfcfnaa
