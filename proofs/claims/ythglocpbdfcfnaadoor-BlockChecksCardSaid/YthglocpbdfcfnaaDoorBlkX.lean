/- sporranlaw08.BlockChecks: the walk. -/
import Derived.Test.YthglocpbdfcfnaaDoorBlkV
import Derived.Test.YthglocpbdfcfnaaDoorBlkW
namespace Go.Proofs.YthglocpbdfcfnaaDoor
open Go Go.RowKit
set_option linter.unusedVariables false

set_option maxRecDepth 100000 in
set_option maxHeartbeats 32000000 in
theorem blockChecks_walk (p : Option Addr) (n c : Nat) (ts : List TTx) (root : Bs) (W : World) (hK : Laid W) (ht : ESl TxC 4 W (.slice p n c) ts) (hsz : ts.length * 64 ≤ maxB ∧ ∀ t ∈ ts, TxSz t) (hro : root.length = 32) :
    Calls Tryd.prog 5 #[.slice p n c, .agg (root.map u8).toArray] W fun e w' => e = .returned (.bool true) ∧ Below W.heap.size W w' := by
  obtain ⟨hn, hnc, hcm⟩ := ht.slen
  have HV := Lib.hid ht
  have HN := Lib.hid hn
  have HK := Lib.hid hK
  have HKs := Lib.hid hK.size
  have HRL : Hid (root.length = 32) := Lib.hid hro
  have hb1 := below_new W (.cells (hCells root).toArray 29)
  have HB := Lib.hid (Blk.new W 29 (hCells root).toArray)
  have hbt := built_blk0
  obtain ⟨YH, hYH⟩ : ∃ Y, Y = (hCells (noughts 32)).toArray := ⟨_, rfl⟩
  have hzh : ∀ w, (zeroValue 29).run Tryd.prog w = .ok (.agg YH) w := by rw [hYH]; exact zero32
  have HYS : Hid (YH.size = 32) := Lib.hid (by rw [hYH]; rfl)
  clear ht hn hK hsz hro hYH
  go_enter Tryd.func5, Tryd.ntmps5
  go_upto_region 1 with fail
  rw [show (List.map Go.Proofs.YthglocpbdfcfnaaDoor.u8 root) = hCells root from rfl]
  generalize W.alloc (.cells (hCells root).toArray 29) = w1 at *
  have HB01 := Lib.hid hb1
  obtain ⟨z3, hz3⟩ : ∃ z, z = W.heap.size := ⟨_, rfl⟩
  rw [← hz3] at HB ⊢
  have HLT := Lib.hid HB.out.lt
  clear hz3 hb1
  go_upto_region 3 with fail
  go_loopw [5, 15] (fun v i wr => ∃ k : Nat, k ≤ n ∧ i = .int .i64 k ∧ Hid (k = 0 ∨ n ≤ 100) ∧ Hid (∀ j t, ts[j]? = some t → j < k → canTx t = true) ∧ Hid (Below w1.heap.size w1 wr) ∧ Hid (RowO HashE 29 32 w1.heap.size wr v ((idsB ts).take k))) (fun _ i _ => n - (intOf i).toNat)
  case atStart => exact ⟨0, by omega, rfl, Lib.hid (.inl rfl), Lib.hid (by intro j t _ hj; omega), Lib.hid (Below.refl _ _), Lib.hid (by rw [List.take_zero]; exact RowO.nil _ _ _ _ _)⟩
  case round =>
    obtain ⟨k, hk, rfl, HSM, HAk, HWk, HRk⟩ := hrel
    obtain ⟨pI, cI, rfl, hnI, hcI, hrI⟩ := hash_rows HRk.out
    have hlk : ((idsB ts).take k).length = k := by rw [List.length_take, idsB_len]; have := HN.out; omega
    rw [hlk] at hnI HRk ⊢
    by_cases hkn : k < n
    case neg =>
      obtain rfl : k = n := by omega
      have hge : ¬ (k : Int) < (k : Int) := by omega
      have hall : ∀ t ∈ ts, canTx t = true := fun t ht => by
        obtain ⟨j, hj⟩ := List.getElem?_of_mem ht
        exact HAk.out j t hj (by have := (List.getElem?_eq_some_iff.1 hj).1; have := HN.out; omega)
      rw [List.take_of_length_le (by rw [idsB_len]; have := HN.out; omega)] at hrI
      have HRI := Lib.hid hrI
      have HALL := Lib.hid hall
      obtain ⟨n, hnk⟩ : ∃ n, n = k := ⟨_, rfl⟩
      subst hnk
      have hn100 : n ≤ 100 := by have := HSM.out; omega
      have hb10 := built_blkn p n c
      obtain ⟨bc, hbc⟩ : ∃ bc : List Value, bc = noHdr.cells ++ [Value.slice p n c] := ⟨_, rfl⟩
      rw [← hbc] at hb10
      have HBC := Lib.hid hbc
      have HBL : Hid (bc.length = 69) := Lib.hid (by rw [hbc]; rfl)
      have hbo : bc.toArray.all (·.oneCell') = true := by
        have h1 := Hdr.cells_one noHdr
        rw [List.all_toArray] at h1 ⊢
        rw [hbc, List.all_append, h1]
        rfl
      have hbs : ZBlk.toArray.size = bc.toArray.size := by rw [List.size_toArray, List.size_toArray, HBL.out]; rfl
      have hzb := zBlk
      have hbn := below_new wr (.cells ZBlk.toArray 52)
      clear hrI hall hbc
      go_upto_region 11 with (first
        | (with_reducible refine wp_build (o := ⟨some 40, _, _, _, _, _⟩) ?_ 52 #[(1, .tmp 39)] ?_ [(1, .slice p n c)] ?_ bc.toArray hb10 ?_
           · rfl
           · rfl
           · rfl)
        | (with_reducible refine wp_store_blk (o := ⟨none, _, _, _, _, _⟩) ?_ 52 (.tmp 10) (.tmp 40) ?_ (wr.heap.size) 52 (ZBlk.toArray) (bc.toArray) ?_ ?_ (Blk.new wr _ _) ?_ ?_ ?_ (wr.heap.size) (wr) ?_ ?_ ?_
           · rfl
           · rfl
           · rfl
           · rfl
           · exact (by rw [List.size_toArray]; exact info_Blk HBL.out)
           · exact (hbs)
           · exact (hbo)
           · exact (hbn)
           · exact (Nat.le_refl _)
           intro wa hBa hba hga hsa))
      try simp only [put_none]
      have HWA := Lib.hid (below_fut HWk.out hba (Nat.le_refl _))
      have HTA := Lib.hid hBa.out
      obtain ⟨za, hza⟩ : ∃ z, z = wr.heap.size := ⟨_, rfl⟩
      have HZA : Hid (w1.heap.size ≤ za) := Lib.hid (by rw [hza]; exact HWk.out.size)
      rw [← hza] at HTA ⊢
      have hM := refMerkle_any n pI cI (idsB ts) wa (by rw [idsB_len]; exact HN.out) idsB_ok hnI (by omega) (HRI.out.below hba (Nat.le_refl _))
      obtain ⟨M, hMM⟩ : ∃ M, M = merkP (idsB ts) := ⟨_, rfl⟩
      rw [← hMM] at hM
      have hml : M.1.length = 32 := by rw [hMM]; exact merkP_len _ idsB_ok
      obtain ⟨R, o⟩ := M
      simp only at hM hml
      have HR32 : Hid (R.length = 32) := Lib.hid hml
      have HMM := Lib.hid hMM.symm
      clear hza hBa hba hga hsa hbn hbs hbo hzb hb10 hge hMM hml HRk HWk HRI
      go_upto_region 12 with (first
        | (with_reducible refine hM.mono ?_; rintro e wb ⟨rfl, hbb⟩; have HTB := Lib.hid (HTA.out.fut hbb); have HBB := Lib.hid hbb; clear hbb)
        | (with_reducible refine wp_store_in (op := ⟨none, _, _, _, _, _⟩) ?_ 29 (.tmp 47) (.tmp 44) ?_ za 33 (hCells R) ?_ ?_ 52 bc.toArray HTB.out ?_ ?_ ?_ ?_
           · rfl
           · rfl
           · rfl
           · rfl
           · rw [List.size_toArray, HBL.out]; simp [hCells, HR32.out]
           · exact hCells_info' HR32.out
           · exact hCells_one _
           intro wc hBc hgc))
      obtain ⟨H1, hH1⟩ : ∃ H : Hdr, H = { noHdr with m := R } := ⟨_, rfl⟩
      have HH1 := Lib.hid hH1
      have HOK1 : Hid H1.ok := Lib.hid (by rw [hH1]; exact ⟨noHdr_ok.1, HR32.out⟩)
      obtain ⟨c1, hc1⟩ : ∃ l : List Value, l = H1.cells ++ [Value.slice p n c] := ⟨_, rfl⟩
      have HC1 := Lib.hid hc1
      have HTC : Hid (Blk wc za 52 c1.toArray) := Lib.hid (by
        have := hBc.out
        rw [HBC.out, setAll_m noHdr noHdr_ok R HR32.out, ← hH1, ← hc1] at this
        exact this)
      have HWC : Hid (Below w1.heap.size w1 wc) := Lib.hid ((below_fut HWA.out HBB.out (Nat.le_refl _)).trans ((Stays.of_grown (S := fun k => k = za) hgc.out (fun k h => by injection h with h; exact h.symm)).below (by have := HWA.out.size; have := HBB.out.size; omega) fun k hk => by have : k = za := hk; have := HZA.out; omega))
      have HCL1 : Hid (c1.length = 69) := Lib.hid (by rw [hc1, List.length_append, Hdr.cells_len HOK1.out]; rfl)
      have hco : c1.toArray.all (·.oneCell') = true := by
        have h1 := Hdr.cells_one H1
        rw [List.all_toArray] at h1 ⊢
        rw [hc1, List.all_append, h1]
        rfl
      have hcs1 : ZBlk.toArray.size = c1.toArray.size := by rw [List.size_toArray, List.size_toArray, HCL1.out]; rfl
      have hzb := zBlk
      have hbn := below_new wc (.cells ZBlk.toArray 52)
      have l10 := blk_range HTC.out
      clear hH1 hc1 hBc hgc hM HTA HTB HBB HWA
      try simp only [put_none]
      go_upto_region 13 with (first
        | (with_reducible refine wpList_load_mid (op := ⟨some 48, _, _, _, _, _⟩) ?_ 52 (.tmp 10) ?_ (za) (0) ?_ (c1) _ (l10) Tryd.underlying52 ?_ ?_ ?_
           · rfl
           · rfl
           · rfl
           · rfl
           · exact ((info_Blk HCL1.out)))
        | (with_reducible refine wp_store_blk (o := ⟨none, _, _, _, _, _⟩) ?_ 52 (.tmp 11) (.tmp 48) ?_ (wc.heap.size) 52 (ZBlk.toArray) (c1.toArray) ?_ ?_ (Blk.new wc _ _) ?_ ?_ ?_ (wc.heap.size) (wc) ?_ ?_ ?_
           · rfl
           · rfl
           · rfl
           · rfl
           · exact (by rw [List.size_toArray]; exact info_Blk HCL1.out)
           · exact (hcs1)
           · exact (hco)
           · exact (hbn)
           · exact (Nat.le_refl _)
           intro wd hBd hbd hgd hsd))
      try simp only [put_none]
      obtain ⟨zd, hzd⟩ : ∃ z, z = wc.heap.size := ⟨_, rfl⟩
      have HZD : Hid (w1.heap.size ≤ zd ∧ za < zd) := Lib.hid ⟨by rw [hzd]; exact HWC.out.size, by rw [hzd]; exact HTC.out.lt⟩
      have HTD := Lib.hid hBd.out
      have HAD := Lib.hid (HTC.out.fut hbd)
      have HWD := Lib.hid (below_fut HWC.out hbd (Nat.le_refl _))
      rw [← hzd] at HTD ⊢
      have l3 := blk_range (HB.out.below HWD.out HLT.out)
      clear hzd hbd hgd hsd hBd hbn l10 hcs1 hco hzb HTC HWC
      go_upto_region 14 with (first
        | (with_reducible refine wpList_load_mid (op := ⟨some 49, _, _, _, _, _⟩) ?_ 29 (.tmp 3) ?_ (z3) (0) ?_ ((hCells (root))) _ (l3) Tryd.underlying29 ?_ ?_ ?_
           · rfl
           · rfl
           · rfl
           · rfl
           · exact (hCells_info (HRL.out)))
        | (with_reducible refine wp_store_in (op := ⟨none, _, _, _, _, _⟩) ?_ 29 (.tmp 51) (.tmp 49) ?_ zd 33 (hCells root) ?_ ?_ 52 c1.toArray HTD.out ?_ ?_ ?_ ?_
           · rfl
           · rfl
           · rfl
           · rfl
           · rw [List.size_toArray, HCL1.out]; simp [hCells, HRL.out]
           · exact hCells_info' HRL.out
           · exact hCells_one _
           intro we hBe hge))
      obtain ⟨H2, hH2⟩ : ∃ H : Hdr, H = { H1 with m := root } := ⟨_, rfl⟩
      have HH2 := Lib.hid hH2
      have HOK2 : Hid H2.ok := Lib.hid (by rw [hH2]; exact ⟨HOK1.out.1, HRL.out⟩)
      obtain ⟨c2, hc2⟩ : ∃ l : List Value, l = H2.cells ++ [Value.slice p n c] := ⟨_, rfl⟩
      have HC2 := Lib.hid hc2
      have HTE : Hid (Blk we zd 52 c2.toArray) := Lib.hid (by
        have := hBe.out
        rw [HC1.out, setAll_m H1 HOK1.out root HRL.out, ← hH2, ← hc2] at this
        exact this)
      have hste := Stays.of_grown (S := fun k => k = zd) hge.out (fun k h => by injection h with h; exact h.symm)
      have HAE := Lib.hid (HAD.out.stays hste (by have := HZD.out; omega))
      have HWE : Hid (Below w1.heap.size w1 we) := Lib.hid (HWD.out.trans (hste.below HWD.out.size fun k hk => by have : k = zd := hk; have := HZD.out; omega))
      have HCL2 : Hid (c2.length = 69) := Lib.hid (by rw [hc2, List.length_append, Hdr.cells_len HOK2.out]; rfl)
      have l3 := blk_range (HB.out.below HWE.out HLT.out)
      have lm := hdr_m_range (h := H1) (v := Value.slice p n c) HOK1.out (HC1.out ▸ HAE.out)
      have hm1 : H1.m = R := by rw [HH1.out]
      rw [hm1] at lm
      have heq := fun w => hash_eq root R HRL.out HR32.out w
      clear hH2 hc2 hBe hge hste HTD HAD HWD hm1
      try simp only [put_none]
      go_upto_region 15 with (first
        | (with_reducible refine wpList_load_mid (op := ⟨some 52, _, _, _, _, _⟩) ?_ 29 (.tmp 3) ?_ (z3) (0) ?_ ((hCells (root))) _ (l3) Tryd.underlying29 ?_ ?_ ?_
           · rfl
           · rfl
           · rfl
           · rfl
           · exact (hCells_info (HRL.out)))
        | (with_reducible refine wpList_load_mid (op := ⟨some 55, _, _, _, _, _⟩) ?_ 29 (.tmp 54) ?_ (za) (33) ?_ ((hCells (R))) _ (lm) Tryd.underlying29 ?_ ?_ ?_
           · rfl
           · rfl
           · rfl
           · rfl
           · exact (hCells_info (HR32.out))))
      have HWW := Lib.hid (HB01.out.trans (HWE.out.mono HB01.out.size))
      have HBC1 : Hid (BlkC we ⟨H1, ts⟩ c1) := Lib.hid (blkC_keeps _ _ _ _ ⟨Value.slice p n c, HC1.out, HOK1.out, HV.out⟩ HWW.out)
      have HBC2 : Hid (BlkC we ⟨H2, ts⟩ c2) := Lib.hid (blkC_keeps _ _ _ _ ⟨Value.slice p n c, HC2.out, HOK2.out, HV.out⟩ HWW.out)
      have HLD : Hid (Laid we) := Lib.hid (HK.out.below HWW.out HKs.out)
      have HLS : Hid (gTop ≤ we.heap.size) := Lib.hid (Nat.le_trans HKs.out HWW.out.size)
      have hr : (chkP ⟨H1, ts⟩ == chkP ⟨H1, ts⟩) = true := by simp
      have hR1 : (merkP (idsB ts)).1 = H1.m := by rw [HMM.out, HH1.out]
      clear l3 lm heq
      by_cases hrr : root = R
      · rw [decide_eq_true hrr]
        clear hrr hR1
        refine region_plan [qq 0, qq 2, oo 1, oo 3, qq 4, qq 5, qq 6, qq 7, qq 8, oo 9, qq 10, qq 11, qq 12, qq 13, qq 14, oo 15, qq 16, qq 17, qq 18, oo 19, qq 20, qq 21] (fun W => Below we.heap.size we W) (by kernel_rfl) (by kernel_rfl) (Below.refl _ _).drew ?_
        refine' plan_quiet (s := 78) (A1 := _) [0, 2] [_, _] _ rfl rfl rfl (fun W hW => ?hq1) _ ((Below.refl we.heap.size we).drew) (fun _ => ?hr1)
        case hq1 =>
          simp only [List.getElem_toArray, List.getElem_cons_zero, List.getElem_cons_succ]
          refine quiet_load_mid rfl 52 (.tmp 10) rfl za 0 rfl c1 _ (fun w hw => ?_) Tryd.underlying52 rfl (info_Blk HCL1.out) ?_
          · obtain ⟨k, rfl⟩ := hw
            exact blk_range ((HAE.out.fut hW).drewN k)
          simp only [put_some, List.setIfInBounds_toArray, List.set_cons_succ, List.set_cons_zero]
          refine quiet_load_mid rfl 52 (.tmp 10) rfl za 0 rfl c1 _ (fun w hw => ?_) Tryd.underlying52 rfl (info_Blk HCL1.out) ?_
          · obtain ⟨k, rfl⟩ := hw
            exact blk_range ((HAE.out.fut hW).drewN k)
          simp only [put_some, List.setIfInBounds_toArray, List.set_cons_succ, List.set_cons_zero]
          refine wpQuiet_nil ?_
          rfl
        case hr1 =>
        refine plan_one rfl fun j1 => ?_
        have hd1 := below_draws we (1 + j1)
        go_wp2_with fail
        refine (blkCheck_any ⟨H1, ts⟩ c1 _ (blkC_keeps _ _ _ _ HBC1.out hd1) (HLD.out.below hd1 HLS.out)).mono ?_
        rintro e v1 ⟨rfl, hb1⟩
        have hF1 : Below we.heap.size we v1 := below_fut hd1 hb1 (Nat.le_refl _)
        clear hb1 hd1
        go_wp2_with fail
        refine planQ_normal (And.intro hF1 ?_)
        refine plan_one rfl fun j3 => ?_
        have hd3 := below_drewN (hF1) j3
        go_wp2_with fail
        refine (refBlkCheck_any ⟨H1, ts⟩ c1 _ (blkC_keeps _ _ _ _ HBC1.out hd3)).mono ?_
        rintro e v3 ⟨rfl, hb3⟩
        have hF3 : Below we.heap.size we v3 := below_fut hd3 hb3 (Nat.le_refl _)
        clear hb3 hd3
        go_wp2_with fail
        refine planQ_normal (And.intro hF3 ?_)
        refine' plan_quiet (s := 78) (A1 := _) [4, 5, 6, 7, 8] [_, _, _, _, _] _ rfl rfl rfl (fun W hW => ?hq2) _ (hF3) (fun _ => ?hr2)
        case hq2 =>
          simp only [List.getElem_toArray, List.getElem_cons_zero, List.getElem_cons_succ]
          iterate 5 (go_big_quiet_step (fail))
          refine wpQuiet_nil ?_
          rfl
        case hr2 =>
        refine plan_skip rfl rfl (fun _ => below_drewN hF3 _) fun j9 => ?_
        have hF9 := below_drewN hF3 j9
        simp only [List.getElem_toArray, List.getElem_cons_zero, List.getElem_cons_succ, put_some, List.setIfInBounds_toArray, List.set_cons_succ, List.set_cons_zero]
        refine' plan_quiet (s := 78) (A1 := _) [10, 11, 12, 13, 14] [_, _, _, _, _] _ rfl rfl rfl (fun W hW => ?hq3) _ (hF9) (fun _ => ?hr3)
        case hq3 =>
          simp only [List.getElem_toArray, List.getElem_cons_zero, List.getElem_cons_succ]
          iterate 4 (go_big_quiet_step (fail))
          refine quiet_build rfl 52 #[] rfl ZBlk.toArray (by rw [List.map_toArray]; exact hbt) ?_
          simp only [put_some, List.setIfInBounds_toArray, List.set_cons_succ, List.set_cons_zero]
          refine wpQuiet_nil ?_
          rfl
        case hr3 =>
        refine plan_one rfl fun j15 => ?_
        have hd15 := below_drewN hF3 (j9 + j15)
        go_wp2_with fail
        have hck := (blkCheck_any noBlk ZBlk _ (noBlk_c _) (HLD.out.below hd15 HLS.out))
        rw [chk_none] at hck
        refine hck.mono ?_
        rintro e v15 ⟨rfl, hb15⟩
        have hF15 : Below we.heap.size we v15 := below_fut hd15 hb15 (Nat.le_refl _)
        clear hb15 hd15 hck
        go_wp2_with fail
        refine planQ_normal (And.intro hF15 ?_)
        refine' plan_quiet (s := 78) (A1 := _) [16, 17, 18] [_, _, _] _ rfl rfl rfl (fun W hW => ?hq4) _ (hF15) (fun _ => ?hr4)
        case hq4 =>
          simp only [List.getElem_toArray, List.getElem_cons_zero, List.getElem_cons_succ]
          iterate 3 (go_big_quiet_step (fail))
          refine wpQuiet_nil ?_
          rfl
        case hr4 =>
        refine plan_one rfl fun j19 => ?_
        have hd19 := below_drewN (hF15) j19
        go_wp2_with fail
        refine (awakeB_any _).mono ?_
        rintro e v19 ⟨rfl, hb19⟩
        have hF19 : Below we.heap.size we v19 := below_fut hd19 hb19 (Nat.le_refl _)
        clear hb19 hd19
        go_wp2_with fail
        refine planQ_normal (And.intro hF19 ?_)
        refine' plan_quiet (s := 78) (A1 := _) (r := []) [20, 21] [_, _] _ rfl rfl rfl (fun W hW => ?hq5) _ (hF19) (fun _ => ?hr5)
        case hq5 =>
          simp only [List.getElem_toArray, List.getElem_cons_zero, List.getElem_cons_succ]
          iterate 2 (go_big_quiet_step (fail))
          refine wpQuiet_nil ?_
          rfl
        case hr5 =>
        refine plan_end fun k => NoPanic.normal ?_
        have HWz : Hid (Below W.heap.size W (v19.drewN k)) := Lib.hid (HB01.out.trans ((below_fut HWE.out (below_drewN hF19 k) (Nat.le_refl _)).mono HB01.out.size))
        go_wp2_with fail
        go_ret
        exact ⟨rfl, HWz.out⟩
      · rw [decide_eq_false hrr]
        have HWR : Hid (chkP ⟨H2, ts⟩ = 80) := Lib.hid (chk_wrong H1 H2 ts hR1 (by
          have h1 : H1.m = R := by rw [HH1.out]
          have h2 : H2.m = root := by rw [HH2.out]
          rw [h1, h2]
          exact hrr))
        clear hrr hR1
        refine region_plan [qq 0, qq 2, oo 1, oo 3, qq 4, qq 5, qq 6, qq 7, qq 8, oo 9, qq 10, qq 11, qq 12, qq 13, qq 14, oo 15, qq 16, qq 17, qq 18, oo 19, qq 20, qq 21] (fun W => Below we.heap.size we W) (by kernel_rfl) (by kernel_rfl) (Below.refl _ _).drew ?_
        refine' plan_quiet (s := 78) (A1 := _) [0, 2] [_, _] _ rfl rfl rfl (fun W hW => ?hq1) _ ((Below.refl we.heap.size we).drew) (fun _ => ?hr1)
        case hq1 =>
          simp only [List.getElem_toArray, List.getElem_cons_zero, List.getElem_cons_succ]
          refine quiet_load_mid rfl 52 (.tmp 10) rfl za 0 rfl c1 _ (fun w hw => ?_) Tryd.underlying52 rfl (info_Blk HCL1.out) ?_
          · obtain ⟨k, rfl⟩ := hw
            exact blk_range ((HAE.out.fut hW).drewN k)
          simp only [put_some, List.setIfInBounds_toArray, List.set_cons_succ, List.set_cons_zero]
          refine quiet_load_mid rfl 52 (.tmp 10) rfl za 0 rfl c1 _ (fun w hw => ?_) Tryd.underlying52 rfl (info_Blk HCL1.out) ?_
          · obtain ⟨k, rfl⟩ := hw
            exact blk_range ((HAE.out.fut hW).drewN k)
          simp only [put_some, List.setIfInBounds_toArray, List.set_cons_succ, List.set_cons_zero]
          refine wpQuiet_nil ?_
          rfl
        case hr1 =>
        refine plan_one rfl fun j1 => ?_
        have hd1 := below_draws we (1 + j1)
        go_wp2_with fail
        refine (blkCheck_any ⟨H1, ts⟩ c1 _ (blkC_keeps _ _ _ _ HBC1.out hd1) (HLD.out.below hd1 HLS.out)).mono ?_
        rintro e v1 ⟨rfl, hb1⟩
        have hF1 : Below we.heap.size we v1 := below_fut hd1 hb1 (Nat.le_refl _)
        clear hb1 hd1
        go_wp2_with fail
        refine planQ_normal (And.intro hF1 ?_)
        refine plan_one rfl fun j3 => ?_
        have hd3 := below_drewN (hF1) j3
        go_wp2_with fail
        refine (refBlkCheck_any ⟨H1, ts⟩ c1 _ (blkC_keeps _ _ _ _ HBC1.out hd3)).mono ?_
        rintro e v3 ⟨rfl, hb3⟩
        have hF3 : Below we.heap.size we v3 := below_fut hd3 hb3 (Nat.le_refl _)
        clear hb3 hd3
        go_wp2_with fail
        refine planQ_normal (And.intro hF3 ?_)
        refine' plan_quiet (s := 78) (A1 := _) [4, 5, 6, 7, 8] [_, _, _, _, _] _ rfl rfl rfl (fun W hW => ?hq2) _ (hF3) (fun _ => ?hr2)
        case hq2 =>
          simp only [List.getElem_toArray, List.getElem_cons_zero, List.getElem_cons_succ]
          iterate 4 (go_big_quiet_step (fail))
          refine quiet_load_mid rfl 52 (.tmp 11) rfl zd 0 rfl c2 _ (fun w hw => ?_) Tryd.underlying52 rfl (info_Blk HCL2.out) ?_
          · obtain ⟨k, rfl⟩ := hw
            exact blk_range ((HTE.out.fut hW).drewN k)
          simp only [put_some, List.setIfInBounds_toArray, List.set_cons_succ, List.set_cons_zero]
          refine wpQuiet_nil ?_
          rfl
        case hr2 =>
        refine plan_one rfl fun j9 => ?_
        have hd9 := below_drewN (hF3) j9
        go_wp2_with fail
        have hck := (blkCheck_any ⟨H2, ts⟩ c2 _ (blkC_keeps _ _ _ _ HBC2.out hd9) (HLD.out.below hd9 HLS.out))
        rw [HWR.out] at hck
        refine hck.mono ?_
        rintro e v9 ⟨rfl, hb9⟩
        have hF9 : Below we.heap.size we v9 := below_fut hd9 hb9 (Nat.le_refl _)
        clear hb9 hd9 hck
        go_wp2_with fail
        refine planQ_normal (And.intro hF9 ?_)
        refine' plan_quiet (s := 78) (A1 := _) [10, 11, 12, 13, 14] [_, _, _, _, _] _ rfl rfl rfl (fun W hW => ?hq3) _ (hF9) (fun _ => ?hr3)
        case hq3 =>
          simp only [List.getElem_toArray, List.getElem_cons_zero, List.getElem_cons_succ]
          iterate 4 (go_big_quiet_step (fail))
          refine quiet_build rfl 52 #[] rfl ZBlk.toArray (by rw [List.map_toArray]; exact hbt) ?_
          simp only [put_some, List.setIfInBounds_toArray, List.set_cons_succ, List.set_cons_zero]
          refine wpQuiet_nil ?_
          rfl
        case hr3 =>
        refine plan_one rfl fun j15 => ?_
        have hd15 := below_drewN (hF9) j15
        go_wp2_with fail
        have hck := (blkCheck_any noBlk ZBlk _ (noBlk_c _) (HLD.out.below hd15 HLS.out))
        rw [chk_none] at hck
        refine hck.mono ?_
        rintro e v15 ⟨rfl, hb15⟩
        have hF15 : Below we.heap.size we v15 := below_fut hd15 hb15 (Nat.le_refl _)
        clear hb15 hd15 hck
        go_wp2_with fail
        refine planQ_normal (And.intro hF15 ?_)
        refine' plan_quiet (s := 78) (A1 := _) [16, 17, 18] [_, _, _] _ rfl rfl rfl (fun W hW => ?hq4) _ (hF15) (fun _ => ?hr4)
        case hq4 =>
          simp only [List.getElem_toArray, List.getElem_cons_zero, List.getElem_cons_succ]
          iterate 3 (go_big_quiet_step (fail))
          refine wpQuiet_nil ?_
          rfl
        case hr4 =>
        refine plan_one rfl fun j19 => ?_
        have hd19 := below_drewN (hF15) j19
        go_wp2_with fail
        refine (awakeB_any _).mono ?_
        rintro e v19 ⟨rfl, hb19⟩
        have hF19 : Below we.heap.size we v19 := below_fut hd19 hb19 (Nat.le_refl _)
        clear hb19 hd19
        go_wp2_with fail
        refine planQ_normal (And.intro hF19 ?_)
        refine' plan_quiet (s := 78) (A1 := _) (r := []) [20, 21] [_, _] _ rfl rfl rfl (fun W hW => ?hq5) _ (hF19) (fun _ => ?hr5)
        case hq5 =>
          simp only [List.getElem_toArray, List.getElem_cons_zero, List.getElem_cons_succ]
          iterate 2 (go_big_quiet_step (fail))
          refine wpQuiet_nil ?_
          rfl
        case hr5 =>
        refine plan_end fun k => NoPanic.normal ?_
        have HWz : Hid (Below W.heap.size W (v19.drewN k)) := Lib.hid (HB01.out.trans ((below_fut HWE.out (below_drewN hF19 k) (Nat.le_refl _)).mono HB01.out.size))
        go_wp2_with fail
        go_ret
        exact ⟨rfl, HWz.out⟩
    have hlt : (k : Int) < (n : Int) := by omega
    clear hrI
    have hBw := HB01.out.trans (HWk.out.mono HB01.out.size)
    obtain ⟨bb, off, cs2, t, rfl, hx, hE, l2⟩ := HV.out.at hBw hkn
    have H3 := Lib.hid hE.len
    have H1 := Lib.hid hE.one
    have HX := Lib.hid hx
    have HE := Lib.hid (txC_keeps _ _ _ _ hE hBw)
    have hz := zTx
    have hbr := below_new wr (.cells ZTx.toArray 26)
    have hzs : ZTx.toArray.size = cs2.toArray.size := by rw [List.size_toArray, List.size_toArray, H3.out]; rfl
    clear hx hE hBw
    go_upto_region 5 with (first
      | (with_reducible refine wpList_load_mid (op := ⟨some 18, _, _, _, _, _⟩) ?_ 26 (.tmp 17) ?_ (bb) (off + k * 4) ?_ (cs2) _ (l2) Tryd.underlying26 ?_ ?_ ?_
         · rfl
         · rfl
         · rfl
         · rfl
         · exact ((info_Tx H3.out)))
      | (with_reducible refine wp_store_blk (o := ⟨none, _, _, _, _, _⟩) ?_ 26 (.tmp 7) (.tmp 18) ?_ (wr.heap.size) 26 (ZTx.toArray) (cs2.toArray) ?_ ?_ (Blk.new wr _ _) ?_ ?_ ?_ (wr.heap.size) (wr) ?_ ?_ ?_
         · rfl
         · rfl
         · rfl
         · rfl
         · exact (by rw [List.size_toArray]; exact info_Tx H3.out)
         · exact (hzs)
         · exact (H1.out)
         · exact (hbr)
         · exact (Nat.le_refl _)
         intro w6 hB6 hb6 hg6 hs6))
    try simp only [put_none]
    obtain ⟨g, hg⟩ : ∃ g, g = wr.heap.size := ⟨_, rfl⟩
    have l6 := blk_range hB6.out
    rw [← hg] at l6 ⊢
    have hC6 := txC_keeps _ _ _ _ HE.out hb6
    have hcall := refTxID_any t cs2 w6 hC6
    have HW6 := Lib.hid (below_fut HWk.out hb6 (Nat.le_refl _))
    have HR6 := Lib.hid (HRk.out.sep (hashE_keeps _) (Stays.of_below hb6 (Nat.le_refl _) (fun _ => False)) (fun _ h => h.elim))
    obtain ⟨V, e0, hid⟩ : ∃ V e, idP t = (V, e) := ⟨_, _, rfl⟩
    have hvl := idP_len t
    rw [hid] at hcall hvl
    have HVL : Hid (V.length = 32) := Lib.hid hvl
    have HID := Lib.hid hid
    unfold IdPost at hcall
    simp only at hcall
    clear hb6 hg6 hs6 hB6 l2 hbr hz hg hzs HWk HRk hid hvl
    go_upto_region 6 with (first
      | (with_reducible refine wpList_load_mid (op := ⟨some 20, _, _, _, _, _⟩) ?_ 26 (.tmp 7) ?_ (g) (0) ?_ (cs2) _ (l6) Tryd.underlying26 ?_ ?_ ?_
         · rfl
         · rfl
         · rfl
         · rfl
         · exact ((info_Tx H3.out)))
      | (with_reducible refine hcall.mono ?_; rintro e w7 ⟨rfl, hb7⟩; have hbn := below_new w7 (.cells YH 29); have HB7 := Lib.hid hb7; clear hb7)
      | (with_reducible refine wp_store_blk (o := ⟨none, _, _, _, _, _⟩) ?_ 29 (.tmp 8) (.tmp 22) ?_ (w7.heap.size) 29 (YH) ((hCells (V)).toArray) ?_ ?_ (Blk.new w7 _ _) ?_ ?_ ?_ (w7.heap.size) (w7) ?_ ?_ ?_
         · rfl
         · rfl
         · rfl
         · rfl
         · exact (hCells_info' (HVL.out))
         · exact ((HYS.out).trans (hCells_size (HVL.out)).symm)
         · exact (hCells_one _)
         · exact (hbn)
         · exact (Nat.le_refl _)
         intro w8 hB8 hb8 hg8 hs8))
    try simp only [put_none]
    obtain ⟨z8, hz8⟩ : ∃ z, z = w7.heap.size := ⟨_, rfl⟩
    have hb68 := below_fut HB7.out hb8 (Nat.le_refl _)
    have HW8 : Hid (Below w1.heap.size w1 w8) := Lib.hid (below_fut HW6.out hb68 (Nat.le_refl _))
    have HR8 := Lib.hid (HR6.out.sep (hashE_keeps _) (Stays.of_below hb68 (Nat.le_refl _) (fun _ => False)) (fun _ h => h.elim))
    have l8 := blk_range hB8.out
    rw [← hz8] at l8 ⊢
    have HWW8 : Hid (Below W.heap.size W w8) := Lib.hid (HB01.out.trans (HW8.out.mono HB01.out.size))
    clear hz8 hb68 hbn hb8 hg8 hs8 hB8 l6 hcall HB7 HW6 HR6 hC6
    have hchk := blkCheck_any noBlk ZBlk w8 (noBlk_c w8) (HK.out.below HWW8.out HKs.out)
    rw [chk_none] at hchk
    by_cases hcan : canTx t = true
    case neg =>
      have hcf : canTx t = false := by cases h : canTx t <;> simp_all
      have h1 := idP_none hcf
      rw [HID.out] at h1
      injection h1 with _ h1
      subst h1
      clear hcan hcf
      go_wp2_with (first
        | (with_reducible refine wp_build (o := ⟨some 31, _, _, _, _, _⟩) ?_ 52 #[] ?_ [] ?_ ZBlk.toArray hbt ?_
           · rfl
           · rfl
           · rfl)
        | (with_reducible refine hchk.mono ?_; rintro e w9 ⟨rfl, hb9⟩; have HW9 := Lib.hid (below_fut HWW8.out hb9 (Nat.le_refl _)); clear hb9))
      go_ret
      exact ⟨rfl, HW9.out⟩
    have h1 := idP_some hcan
    rw [HID.out] at h1
    injection h1 with hV h1
    subst h1
    by_cases hbig : 100 < n
    · have hbi : (100 : Int) < (n : Int) := by omega
      clear hV hbig
      go_wp2_with (first
        | (with_reducible refine wp_build (o := ⟨some 31, _, _, _, _, _⟩) ?_ 52 #[] ?_ [] ?_ ZBlk.toArray hbt ?_
           · rfl
           · rfl
           · rfl)
        | (with_reducible refine hchk.mono ?_; rintro e w9 ⟨rfl, hb9⟩; have HW9 := Lib.hid (below_fut HWW8.out hb9 (Nat.le_refl _)); clear hb9))
      go_ret
      exact ⟨rfl, HW9.out⟩
    have hbi : ¬ (100 : Int) < (n : Int) := by omega
    have HSM2 : Hid (n ≤ 100) := Lib.hid (by omega)
    have HVI : Hid ((idsB ts)[k]? = some V) := Lib.hid (by rw [ids_all ts k t HX.out hcan, HID.out])
    have HCAN := Lib.hid hcan
    obtain ⟨css, hcl, hown, hcs⟩ := HR8.out
    have HOWN := Lib.hid hown
    have HCSS := Lib.hid hcs
    have HCL := Lib.hid hcl
    have hBw8 : w1.heap.size ≤ w8.heap.size := HW8.out.size
    have HHS : Hid ((hCells V).length = 32) := Lib.hid (by simp [hCells, HVL.out])
    clear hown hcs hcl hV hcan hbig hchk
    go_upto_region 9 with (first
      | (with_reducible refine wpList_load_mid (op := ⟨some 35, _, _, _, _, _⟩) ?_ 29 (.tmp 8) ?_ (z8) (0) ?_ ((hCells (V))) _ (l8) Tryd.underlying29 ?_ ?_ ?_
         · rfl
         · rfl
         · rfl
         · rfl
         · exact (hCells_info (HVL.out)))
      | (with_reducible refine wp_lit (o := ⟨some 36, _, _, _, _, _⟩) ?_ 47 29 1 #[(0, .tmp 35)] ?_ [.agg (hCells V).toArray] ?_ 32 32 _ Tryd.underlying47 hash_info ?_ ?_ ?_ ?_ ?_ ?_
         · rfl
         · rfl
         · rfl
         · omega
         · exact (fun v hv => by rw [List.mem_singleton.1 hv]; exact hCells_size HVL.out)
         · rfl
         · omega
         · omega
         simp only [List.flatMap_cons, List.flatMap_nil, List.append_nil, Value.cells])
      | (with_reducible refine wp_rowapp (o := ⟨some 37, _, _, _, _, _⟩) ?_ (.tmp 34) (.tmp 36) 47 29 ?_ _ 32 32 Tryd.underlying47 hash_info ?_ ?_ ?_ (w1.heap.size) _ (((idsB ts).take k).length) css.flatten ?_ (World.ownsRow.alloc HOWN.out _) w8.heap.size 1 1 (hCells V) ?_ (Blk.new w8 _ _) ?_ ?_ ?_ ?_ ?_
         · rfl
         · rfl
         · rfl
         · omega
         · omega
         · rfl
         · rfl
         · exact HHS.out
         · exact one_all (hCells_one V)
         · omega
         · rw [World.size_alloc]; omega
         intro vb wb hlb hgb hob))
    have hnew := below_new w8 (.cells (hCells V).toArray 29)
    have hSb := Stays.of_grown (S := fun k => Value.ownBlock _ = some k) hgb (fun k h => h)
    have HROW : Hid (RowO HashE 29 32 w1.heap.size wb vb ((idsB ts).take (k + 1))) := Lib.hid (by
      rw [← take_snoc (idsB ts) k V HVI.out]
      exact RowO.app HCL.out (World.ownsRow.alloc HOWN.out _) (fun i y hy => by
        obtain ⟨cs', h6, h7, h8⟩ := HCSS.out i y hy
        exact ⟨cs', h6, h7, h8⟩) (hashE_keeps _) (by decide) ⟨rfl, HVL.out⟩ HHS.out hlb hgb)
    have HBB : Hid (Below w1.heap.size w1 wb) := Lib.hid ((HW8.out.trans (hnew.mono hBw8)).trans (hSb.below (by have := hnew.size; omega) fun k hk => (own_ge HOWN.out k hk).1))
    have HA9 : Hid (∀ j t, ts[j]? = some t → j < k + 1 → canTx t = true) := Lib.hid fun j t' hj hlt => by
      rcases Nat.lt_or_ge j k with h | h
      · exact HAk.out j t' hj h
      · obtain rfl : j = k := by omega
        rw [HX.out] at hj
        injection hj with hj
        rw [← hj]
        exact HCAN.out
    clear hnew hSb hlb hgb hob hbi l8
    go_wp2_with fail
    go_roundw
    case rel => exact ⟨k + 1, by omega, by go_num, Lib.hid (.inr HSM2.out), HA9, HBB, HROW⟩
    case measure => simp [intOf]; omega
end Go.Proofs.YthglocpbdfcfnaaDoor
