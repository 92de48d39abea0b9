/- sporranref08.Check: the walk. -/
import Derived.Test.YthglocpbdfcfnaaDoorBlkC
import Derived.Test.YthglocpbdfcfnaaDoorGM
import Derived.Test.YthglocpbdfcfnaaDoorTxRe
namespace Go.Proofs.YthglocpbdfcfnaaDoor
open Go Go.RowKit
set_option linter.unusedVariables false


set_option maxRecDepth 100000 in
set_option maxHeartbeats 32000000 in
theorem refBlkCheck_any (b : TBlk) (cs : List Value) (w : World) (hc : BlkC w b cs) : Calls Tryd.prog 19 #[.agg cs.toArray] w fun e w' => e = .returned (.int .i64 (chkP b)) ∧ Below w.heap.size w w' := by
  obtain ⟨P, hP⟩ : ∃ P, P = chkP b := ⟨_, rfl⟩
  rw [← hP]
  have HP := Lib.hid hP
  have hlen := hc.len
  obtain ⟨v, hcs, hk, hv⟩ := hc
  obtain ⟨pt, n, ct, rfl⟩ := hv.opens
  obtain ⟨hn, hnc, hcm⟩ := hv.slen
  have HCS := Lib.hid hcs
  have HK := Lib.hid hk
  have HV := Lib.hid hv
  have HN := Lib.hid hn
  have hb1 := below_new w (.cells cs.toArray 52)
  have HB := Lib.hid (Blk.new w 52 cs.toArray)
  clear hP hcs hk hv hn hlen
  go_enter Tryd.func19, Tryd.ntmps19
  go_upto_region 1 with fail
  generalize w.alloc (.cells cs.toArray 52) = w1 at *
  have HB01 := Lib.hid hb1
  obtain ⟨z, hz⟩ : ∃ z, z = w.heap.size := ⟨_, rfl⟩
  rw [← hz] at HB ⊢
  have HLT := Lib.hid HB.out.lt
  have HAT : Hid (cs.toArray[68]? = some (.slice pt n ct)) := Lib.hid (by
    rw [HCS.out, List.getElem?_toArray, List.getElem?_append_right (by rw [Hdr.cells_len HK.out]; exact Nat.le_refl _), Hdr.cells_len HK.out]
    rfl)
  clear hz hb1
  have c68 : w1.cell? ⟨z, 68, none⟩ = some (.slice pt n ct) := by rw [HB.out.cell]; exact HAT.out
  by_cases h0 : n = 0
  · subst h0
    have HP2 : Hid (P = 80) := Lib.hid (by rw [HP.out]; exact chkP_few (.inl HN.out))
    go_wp2_with fail
    go_ret
    exact ⟨by rw [HP2.out]; rfl, HB01.out⟩
  by_cases h2 : 2000 < n
  · have hl : (2000 : Int) < (n : Int) := by omega
    have hl0 : ¬ (n : Int) = 0 := by omega
    have hl1 : ¬ (n : Int) < 1 := by omega
    have HP2 : Hid (P = 80) := Lib.hid (by rw [HP.out]; exact chkP_few (.inr (by have := HN.out; omega)))
    go_wp2_with fail
    go_ret
    exact ⟨by rw [HP2.out]; rfl, HB01.out⟩
  have hl : ¬ (2000 : Int) < (n : Int) := by omega
  have hl0 : ¬ (n : Int) = 0 := by omega
  have hl1 : ¬ (n : Int) < 1 := by omega
  have hn2 : n ≤ 2000 := by omega
  have HN2 : Hid (¬ (b.ts.length = 0 ∨ 2000 < b.ts.length)) := Lib.hid (by have := HN.out; omega)
  have hro : RowO HashE 29 32 w1.heap.size w1 (.slice none 0 0) [] := RowO.nil _ _ _ _ _
  go_upto_region 5 with fail
  have HW3 : Hid (Below w1.heap.size w1 w1) := Lib.hid (Below.refl _ _)
  obtain ⟨w3, hw3⟩ : ∃ x, x = w1 := ⟨_, rfl⟩
  have HRO : Hid (RowO HashE 29 32 w1.heap.size w1 (.slice none 0 0) ((idsB b.ts).take 0)) := Lib.hid hro
  clear hro hw3 w3
  clear hl hl0 hl1 h2 h0 c68
  go_loopw [3, 23] (fun v i wr => ∃ k : Nat, k ≤ n ∧ i = .int .i64 k ∧ Hid (∀ j t, b.ts[j]? = some t → j < k → fineTx t = true) ∧ Hid (Below w1.heap.size w1 wr) ∧ Hid (RowO HashE 29 32 w1.heap.size wr v ((idsB b.ts).take k))) (fun _ i _ => n - (intOf i).toNat)
  case atStart => exact ⟨0, by omega, rfl, Lib.hid (by intro j t _ hj; omega), HW3, HRO⟩
  case round =>
    clear HW3 HRO
    obtain ⟨k, hk, rfl, HAk, HWk, HRk⟩ := hrel
    obtain ⟨pI, cI, rfl, hnI, hcI, hrI⟩ := hash_rows HRk.out
    have hlk : ((idsB b.ts).take k).length = k := by rw [List.length_take, idsB_len]; have := HN.out; omega
    rw [hlk] at hnI HRk ⊢
    by_cases hkn : k < n
    case neg =>
      obtain rfl : k = n := by omega
      have hall : b.ts.all fineTx = true := by
        rw [List.all_eq_true]
        intro t ht
        obtain ⟨j, hj⟩ := List.getElem?_of_mem ht
        exact HAk.out j t hj (by have := (List.getElem?_eq_some_iff.1 hj).1; have := HN.out; omega)
      have hPa := chkP_all HN2.out hall
      rw [← HP.out] at hPa
      have HPa := Lib.hid hPa
      rw [List.take_of_length_le (by rw [idsB_len]; have := HN.out; omega)] at hrI
      have HRI := Lib.hid hrI
      have hge : ¬ (k : Int) < (k : Int) := by omega
      obtain ⟨n, hnk⟩ : ∃ n, n = k := ⟨_, rfl⟩
      subst hnk
      have hM := refMerkle_any n pI cI (idsB b.ts) wr (by rw [idsB_len]; exact HN.out) idsB_ok hnI (by omega) HRI.out
      obtain ⟨M, hMM⟩ : ∃ M, M = merkP (idsB b.ts) := ⟨_, rfl⟩
      rw [← hMM] at hM hPa
      have hml : M.1.length = 32 := by rw [hMM]; exact merkP_len _ idsB_ok
      obtain ⟨R, o⟩ := M
      simp only at hM hml
      have HRL : Hid (R.length = 32) := Lib.hid hml
      obtain ⟨YH, hYH⟩ : ∃ Y, Y = (hCells (noughts 32)).toArray := ⟨_, rfl⟩
      have hzh : ∀ w, (zeroValue 29).run Tryd.prog w = .ok (.agg YH) w := by rw [hYH]; exact zero32
      have HYS : Hid (YH.size = 32) := Lib.hid (by rw [hYH]; rfl)
      have HPb := Lib.hid hPa
      clear hall hrI hMM hml hYH hPa HPa HRk
      go_upto_region 13 with (first
        | (with_reducible refine hM.mono ?_; rintro e w8 ⟨rfl, hb8⟩; have hbn := below_new w8 (.cells YH 29); have HB8 := Lib.hid hb8; clear hb8)
        | (with_reducible refine wp_store_blk (o := ⟨none, _, _, _, _, _⟩) ?_ 29 (.tmp 8) (.tmp 48) ?_ (w8.heap.size) 29 (YH) ((hCells (R)).toArray) ?_ ?_ (Blk.new w8 _ _) ?_ ?_ ?_ (w8.heap.size) (w8) ?_ ?_ ?_
           · rfl
           · rfl
           · rfl
           · rfl
           · exact (hCells_info' (HRL.out))
           · exact ((HYS.out).trans (hCells_size (HRL.out)).symm)
           · exact (hCells_one _)
           · exact (hbn)
           · exact (Nat.le_refl _)
           intro w9 hB9 hb9 hg9 hs9))
      try simp only [put_none]
      obtain ⟨z8, hz8⟩ : ∃ z, z = w8.heap.size := ⟨_, rfl⟩
      have hb19 := below_fut HWk.out (below_fut HB8.out hb9 (Nat.le_refl _)) (Nat.le_refl _)
      have HW9 : Hid (Below w.heap.size w w9) := Lib.hid (HB01.out.trans (hb19.mono HB01.out.size))
      have hBz := HB.out.below hb19 HLT.out
      have l8 := blk_range hB9.out
      have lm := hdr_m_range (h := b.h) (v := .slice pt n ct) HK.out (HCS.out ▸ hBz)
      have heq := fun w => hash_eq R b.h.m HRL.out HK.out.2 w
      rw [← hz8] at l8 ⊢
      clear hz8 hb19 hbn hb9 hg9 hs9 hB9 HB8 hM hzh hge hBz
      by_cases hR : R = b.h.m
      · rw [decide_eq_true hR] at heq
        cases o with
        | true =>
          have HP2 : Hid (P = 80) := Lib.hid (by rw [HPb.out]; simp)
          clear hR
          go_wp2_with (first
            | (with_reducible refine wpList_load_mid (op := ⟨some 50, _, _, _, _, _⟩) ?_ 29 (.tmp 8) ?_ (z8) (0) ?_ ((hCells (R))) _ (l8) Tryd.underlying29 ?_ ?_ ?_
               · rfl
               · rfl
               · rfl
               · rfl
               · exact (hCells_info (HRL.out)))
            | (with_reducible refine wpList_load_mid (op := ⟨some 53, _, _, _, _, _⟩) ?_ 29 (.tmp 52) ?_ (z) (33) ?_ ((hCells (b.h.m))) _ (lm) Tryd.underlying29 ?_ ?_ ?_
               · rfl
               · rfl
               · rfl
               · rfl
               · exact (hCells_info (HK.out.2))))
          go_ret
          exact ⟨by rw [HP2.out]; rfl, HW9.out⟩
        | false =>
          have HP2 : Hid (P = 0) := Lib.hid (by rw [HPb.out]; simp [hR])
          clear hR
          go_wp2_with (first
            | (with_reducible refine wpList_load_mid (op := ⟨some 50, _, _, _, _, _⟩) ?_ 29 (.tmp 8) ?_ (z8) (0) ?_ ((hCells (R))) _ (l8) Tryd.underlying29 ?_ ?_ ?_
               · rfl
               · rfl
               · rfl
               · rfl
               · exact (hCells_info (HRL.out)))
            | (with_reducible refine wpList_load_mid (op := ⟨some 53, _, _, _, _, _⟩) ?_ 29 (.tmp 52) ?_ (z) (33) ?_ ((hCells (b.h.m))) _ (lm) Tryd.underlying29 ?_ ?_ ?_
               · rfl
               · rfl
               · rfl
               · rfl
               · exact (hCells_info (HK.out.2))))
          go_ret
          exact ⟨by rw [HP2.out]; rfl, HW9.out⟩
      · rw [decide_eq_false hR] at heq
        have HP2 : Hid (P = 80) := Lib.hid (by rw [HPb.out]; simp [hR])
        clear hR
        cases o with
        | true =>
          go_wp2_with (first
            | (with_reducible refine wpList_load_mid (op := ⟨some 50, _, _, _, _, _⟩) ?_ 29 (.tmp 8) ?_ (z8) (0) ?_ ((hCells (R))) _ (l8) Tryd.underlying29 ?_ ?_ ?_
               · rfl
               · rfl
               · rfl
               · rfl
               · exact (hCells_info (HRL.out)))
            | (with_reducible refine wpList_load_mid (op := ⟨some 53, _, _, _, _, _⟩) ?_ 29 (.tmp 52) ?_ (z) (33) ?_ ((hCells (b.h.m))) _ (lm) Tryd.underlying29 ?_ ?_ ?_
               · rfl
               · rfl
               · rfl
               · rfl
               · exact (hCells_info (HK.out.2))))
          go_ret
          exact ⟨by rw [HP2.out]; rfl, HW9.out⟩
        | false =>
          go_wp2_with (first
            | (with_reducible refine wpList_load_mid (op := ⟨some 50, _, _, _, _, _⟩) ?_ 29 (.tmp 8) ?_ (z8) (0) ?_ ((hCells (R))) _ (l8) Tryd.underlying29 ?_ ?_ ?_
               · rfl
               · rfl
               · rfl
               · rfl
               · exact (hCells_info (HRL.out)))
            | (with_reducible refine wpList_load_mid (op := ⟨some 53, _, _, _, _, _⟩) ?_ 29 (.tmp 52) ?_ (z) (33) ?_ ((hCells (b.h.m))) _ (lm) Tryd.underlying29 ?_ ?_ ?_
               · rfl
               · rfl
               · rfl
               · rfl
               · exact (hCells_info (HK.out.2))))
          go_ret
          exact ⟨by rw [HP2.out]; rfl, HW9.out⟩
    have hlt : (k : Int) < (n : Int) := by omega
    clear hrI
    have hBw := HB01.out.trans (HWk.out.mono HB01.out.size)
    obtain ⟨bb, off, cs2, t, rfl, hx, hE, l2⟩ := HV.out.at hBw hkn
    have H3 := Lib.hid hE.len
    have H1 := Lib.hid hE.one
    have HX := Lib.hid hx
    have HE := Lib.hid (txC_keeps _ _ _ _ hE hBw)
    have hz := zTx
    have hbr := below_new wr (.cells ZTx.toArray 26)
    have hzs : ZTx.toArray.size = cs2.toArray.size := by rw [List.size_toArray, List.size_toArray, H3.out]; rfl
    clear hx hE hBw
    go_upto_region 7 with (first
      | (with_reducible refine wpList_load_mid (op := ⟨some 26, _, _, _, _, _⟩) ?_ 26 (.tmp 25) ?_ (bb) (off + k * 4) ?_ (cs2) _ (l2) Tryd.underlying26 ?_ ?_ ?_
         · rfl
         · rfl
         · rfl
         · rfl
         · exact ((info_Tx H3.out)))
      | (with_reducible refine wp_store_blk (o := ⟨none, _, _, _, _, _⟩) ?_ 26 (.tmp 5) (.tmp 26) ?_ (wr.heap.size) 26 (ZTx.toArray) (cs2.toArray) ?_ ?_ (Blk.new wr _ _) ?_ ?_ ?_ (wr.heap.size) (wr) ?_ ?_ ?_
         · rfl
         · rfl
         · rfl
         · rfl
         · exact (by rw [List.size_toArray]; exact info_Tx H3.out)
         · exact (hzs)
         · exact (H1.out)
         · exact (hbr)
         · exact (Nat.le_refl _)
         intro w6 hB6 hb6 hg6 hs6))
    try simp only [put_none]
    obtain ⟨g, hg⟩ : ∃ g, g = wr.heap.size := ⟨_, rfl⟩
    have l6 := blk_range hB6.out
    rw [← hg] at l6 ⊢
    have hC6 := txC_keeps _ _ _ _ HE.out hb6
    have hcall := refTxEncode_any t cs2 false w6 hC6
    have HW6 := Lib.hid (below_fut HWk.out hb6 (Nat.le_refl _))
    have HR6 := Lib.hid (HRk.out.sep (hashE_keeps _) (Stays.of_below hb6 (Nat.le_refl _) (fun _ => False)) (fun _ h => h.elim))
    clear hb6 hg6 hs6 hB6 l2 hbr hz hg hzs HWk HRk
    by_cases hcan : canTx t = true
    case neg =>
      have hcf : canTx t = false := by cases h : canTx t <;> simp_all
      have HP2 : Hid (P = 80) := Lib.hid (by rw [HP.out]; exact chkP_bad HX.out (by unfold fineTx; rw [hcf]; rfl))
      rw [show txP t false = ([], 1) from by unfold txP; rw [hcf]; rfl] at hcall
      unfold OutB at hcall
      simp only at hcall
      clear hcan hcf
      go_wp2_with (first
        | (with_reducible refine wpList_load_mid (op := ⟨some 28, _, _, _, _, _⟩) ?_ 26 (.tmp 5) ?_ (g) (0) ?_ (cs2) _ (l6) Tryd.underlying26 ?_ ?_ ?_
           · rfl
           · rfl
           · rfl
           · rfl
           · exact ((info_Tx H3.out)))
        | (with_reducible refine hcall.mono ?_; rintro e w7 ⟨v7, rfl, ho7, hb7⟩; have HB7 := Lib.hid (below_fut HW6.out hb7 (Nat.le_refl _)); clear ho7 hb7))
      go_ret
      exact ⟨by rw [HP2.out]; rfl, HB01.out.trans (HB7.out.mono HB01.out.size)⟩
    have hbl := txB_big hcan hC6 false
    rw [show txP t false = (txB t false, 0) from by unfold txP; rw [hcan]; rfl] at hcall
    unfold OutB at hcall
    simp only at hcall
    obtain ⟨X, hX⟩ : ∃ X : Bs, X = txB t false := ⟨_, rfl⟩
    rw [← hX] at hcall hbl
    have HXX := Lib.hid hX
    have HBL := Lib.hid hbl
    have HCAN := Lib.hid hcan
    clear hX hbl hcan hC6
    by_cases h64 : X.length = 64
    · have HP2 : Hid (P = 80) := Lib.hid (by rw [HP.out]; exact chkP_bad HX.out (by unfold fineTx; rw [HCAN.out, ← HXX.out, h64]; rfl))
      have H64 := Lib.hid h64
      clear h64
      go_wp2_with (first
        | (with_reducible refine wpList_load_mid (op := ⟨some 28, _, _, _, _, _⟩) ?_ 26 (.tmp 5) ?_ (g) (0) ?_ (cs2) _ (l6) Tryd.underlying26 ?_ ?_ ?_
           · rfl
           · rfl
           · rfl
           · rfl
           · exact ((info_Tx H3.out)))
        | (with_reducible refine hcall.mono ?_; rintro e w7 ⟨v7, rfl, ho7, hb7⟩; have HB7 := Lib.hid (below_fut HW6.out hb7 (Nat.le_refl _)); obtain ⟨p7, n7, c7, rfl, hn7, _⟩ := ho7.open; have e7 : n7 = 64 := hn7.out.symm.trans H64.out; subst e7; clear ho7 hb7))
      go_ret
      exact ⟨by rw [HP2.out]; rfl, HB01.out.trans (HB7.out.mono HB01.out.size)⟩
    have HFN : Hid (fineTx t = true) := Lib.hid (by unfold fineTx; rw [HCAN.out, ← HXX.out]; simp [h64])
    have H64 := Lib.hid h64
    clear h64
    go_upto_region 8 with (first
      | (with_reducible refine wpList_load_mid (op := ⟨some 28, _, _, _, _, _⟩) ?_ 26 (.tmp 5) ?_ (g) (0) ?_ (cs2) _ (l6) Tryd.underlying26 ?_ ?_ ?_
         · rfl
         · rfl
         · rfl
         · rfl
         · exact ((info_Tx H3.out)))
      | (with_reducible refine hcall.mono ?_; rintro e w7 ⟨v7, rfl, ho7, hb7⟩))
    obtain ⟨p7, n7, c7, rfl, hn7, hnc7, hcm7, hr7⟩ := ho7.open
    have i64n : ¬ (n7 : Int) = 64 := by have := hn7.out; have := H64.out; omega
    have HW7 := Lib.hid (below_fut HW6.out hb7 (Nat.le_refl _))
    have HR7 := Lib.hid (HR6.out.sep (hashE_keeps _) (Stays.of_below hb7 (Nat.le_refl _) (fun _ => False)) (fun _ h => h.elim))
    have hD := refDouble_any p7 n7 c7 X w7 hr7 hn7.out (by have := HBL.out; have := hn7.out; omega)
    obtain ⟨V, hV⟩ : ∃ V, V = sha (sha X) := ⟨_, rfl⟩
    rw [← hV] at hD
    have HVL : Hid (V.length = 32) := Lib.hid (by rw [hV]; exact sha_len _)
    have HVI : Hid ((idsB b.ts)[k]? = some V) := Lib.hid (by unfold idsB; rw [List.getElem?_map, HX.out, hV, HXX.out]; rfl)
    clear ho7 hb7 hV hcall l6 HW6 HR6 hr7
    go_upto_region 11 with (first
      | (with_reducible refine hD.mono ?_
         rintro e w8 ⟨rfl, hb8⟩
         have HW8 : Hid (Below w1.heap.size w1 w8) := Lib.hid (below_fut HW7.out hb8 (Nat.le_refl _))
         obtain ⟨css, hcl, hown, hcs⟩ := HR7.out.sep (hashE_keeps _) (Stays.of_below hb8 (Nat.le_refl _) (fun _ => False)) (fun _ h => h.elim)
         have HOWN := Lib.hid hown
         have HCSS := Lib.hid hcs
         have HCL := Lib.hid hcl
         have hBw8 : w1.heap.size ≤ w8.heap.size := HW8.out.size
         have HHS : Hid ((hCells V).length = 32) := Lib.hid (by simp [hCells, HVL.out])
         clear hown hcs hcl hb8)
      | (with_reducible refine wp_lit (o := ⟨some 42, _, _, _, _, _⟩) ?_ 47 29 1 #[(0, .tmp 41)] ?_ [.agg (hCells V).toArray] ?_ 32 32 _ Tryd.underlying47 hash_info ?_ ?_ ?_ ?_ ?_ ?_
         · rfl
         · rfl
         · rfl
         · omega
         · exact (fun v hv => by rw [List.mem_singleton.1 hv]; exact hCells_size HVL.out)
         · rfl
         · omega
         · omega
         simp only [List.flatMap_cons, List.flatMap_nil, List.append_nil, Value.cells])
      | (with_reducible refine wp_rowapp (o := ⟨some 43, _, _, _, _, _⟩) ?_ (.tmp 39) (.tmp 42) 47 29 ?_ _ 32 32 Tryd.underlying47 hash_info ?_ ?_ ?_ (w1.heap.size) _ (((idsB b.ts).take k).length) css.flatten ?_ (World.ownsRow.alloc HOWN.out _) w8.heap.size 1 1 (hCells V) ?_ (Blk.new w8 _ _) ?_ ?_ ?_ ?_ ?_
         · rfl
         · rfl
         · rfl
         · omega
         · omega
         · rfl
         · rfl
         · exact HHS.out
         · exact one_all (hCells_one V)
         · omega
         · rw [World.size_alloc]; omega
         intro vb wb hlb hgb hob))
    have hnew := below_new w8 (.cells (hCells V).toArray 29)
    have hst9 : Stays (fun _ => False) w8 (w8.alloc (.cells (hCells V).toArray 29)) := Stays.of_below hnew (Nat.le_refl _) _
    have hSb := Stays.of_grown (S := fun k => Value.ownBlock _ = some k) hgb (fun k h => h)
    have HROW : Hid (RowO HashE 29 32 w1.heap.size wb vb ((idsB b.ts).take (k + 1))) := Lib.hid (by
      rw [← take_snoc (idsB b.ts) k V HVI.out]
      exact RowO.app HCL.out (World.ownsRow.alloc HOWN.out _) (fun i y hy => by
        obtain ⟨cs', h6, h7, h8⟩ := HCSS.out i y hy
        exact ⟨cs', h6, h7, h8⟩) (hashE_keeps _) (by decide) ⟨rfl, HVL.out⟩ HHS.out hlb hgb)
    have HBB : Hid (Below w1.heap.size w1 wb) := Lib.hid ((HW8.out.trans (hnew.mono hBw8)).trans (hSb.below (by have := hnew.size; omega) fun k hk => (own_ge HOWN.out k hk).1))
    have HA9 : Hid (∀ j t, b.ts[j]? = some t → j < k + 1 → fineTx t = true) := Lib.hid fun j t' hj hlt => by
      rcases Nat.lt_or_ge j k with h | h
      · exact HAk.out j t' hj h
      · obtain rfl : j = k := by omega
        rw [HX.out] at hj
        injection hj with hj
        rw [← hj]
        exact HFN.out
    clear hnew hst9 hSb hlb hgb hob hD i64n
    go_wp2_with fail
    go_roundw
    case rel => exact ⟨k + 1, by omega, by go_num, HA9, HBB, HROW⟩
    case measure => simp [intOf]; omega
end Go.Proofs.YthglocpbdfcfnaaDoor
