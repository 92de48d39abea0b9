/- tx.ID, sporranref07.ID: the walks. -/
import Derived.Test.YthglocpbdfcfnaaDoorTxRe
import Derived.Test.YthglocpbdfcfnaaDoorGS
namespace Go.Proofs.YthglocpbdfcfnaaDoor
open Go Go.RowKit
set_option linter.unusedVariables false

/-- a transaction's hash, or the error -/
def idP (t : TTx) : Bs × Int := if canTx t then (sha (sha (txB t false)), 0) else (noughts 32, 1)
theorem idP_len (t : TTx) : (idP t).1.length = 32 := by
  unfold idP
  split
  · exact sha_len _
  · rfl
def IdPost (w : World) (x : Bs × Int) (e : Ending) (w' : World) : Prop := e = .returned (.tuple #[.agg (hCells x.1).toArray, .int .i64 x.2]) ∧ Below w.heap.size w w'
theorem built_h0 : Tryd.prog.built 29 [] = some (hCells (noughts 32)).toArray := by kernel_rfl
theorem TxC.len4 {w : World} {t : TTx} {cs : List Value} (h : TxC w t cs) : cs.length = 4 := by obtain ⟨_, _, rfl, _⟩ := h; rfl

set_option maxRecDepth 100000 in
set_option maxHeartbeats 4000000 in
theorem txID_any (t : TTx) (cs : List Value) (w : World) (hc : TxC w t cs) (hK : Laid w) : Calls Tryd.prog 7 #[.agg cs.toArray] w (IdPost w (idP t)) := by
  obtain ⟨Y, hY⟩ : ∃ Y, Y = (hCells (noughts 32)).toArray := ⟨_, rfl⟩
  have hz : ∀ w, (zeroValue 29).run Tryd.prog w = .ok (.agg Y) w := by rw [hY]; exact zero32
  have hbt : Tryd.prog.built 29 [] = some Y := by rw [hY]; exact built_h0
  have HYS : Hid (Y.size = 32) := Lib.hid (by rw [hY]; rfl)
  have hyo : Y.all (·.oneCell') = true := by rw [hY]; exact hCells_one _
  have HY := Lib.hid hY
  have HK := Lib.hid hK
  have hKs := hK.size
  have HL := Lib.hid hc.len4
  obtain ⟨P, hP⟩ : ∃ P, P = idP t := ⟨_, rfl⟩
  rw [← hP]
  have HP := Lib.hid hP
  have HBIG : Hid (canTx t = true → (txB t false).length ≤ 10000000000) := Lib.hid fun h => txB_big h hc false
  have hE := fun (W : World) (hb : Below w.heap.size w W) => txEncode_any t cs false W (txC_keeps _ _ _ _ hc hb)
  have HB := Lib.hid ((Blk.new w 26 cs.toArray).alloc (.cells Y 29))
  have HZ := Lib.hid (Blk.new2 w (.cells cs.toArray 26) 29 Y)
  have hbw : Below w.heap.size w ((w.alloc (.cells cs.toArray 26)).alloc (.cells Y 29)) := ((Below.refl _ _).alloc (Nat.le_refl _) _).alloc (by simp) _
  clear hY hP hK hc
  go_enter Tryd.func7, Tryd.ntmps7
  go_upto_region 1 with fail
  generalize (w.alloc (.cells cs.toArray 26)).alloc (.cells Y 29) = w1 at *
  obtain ⟨z, hzz⟩ : ∃ z, z = w.heap.size + 1 := ⟨_, rfl⟩
  have HZZ := Lib.hid hzz
  rw [← hzz] at HZ ⊢
  clear hzz
  have l1 := blk_range HB.out
  have hE1 := hE w1 hbw
  have HW1 := Lib.hid hbw
  by_cases hcan : canTx t = true
  case neg =>
    have hcf : canTx t = false := by cases h : canTx t <;> simp_all
    have HP2 : Hid (P = (noughts 32, 1)) := Lib.hid (by rw [HP.out]; unfold idP; rw [hcf]; rfl)
    rw [show txP t false = ([], 1) from by unfold txP; rw [hcf]; rfl] at hE1
    unfold OutB at hE1
    simp only at hE1
    clear hcan hcf hE hbw
    go_upto_region 3 with (first
      | (with_reducible refine wpList_load_mid (op := ⟨some 7, _, _, _, _, _⟩) ?_ 26 (.tmp 1) ?_ (w.heap.size) (0) ?_ (cs) _ (l1) Tryd.underlying26 ?_ ?_ ?_
         · rfl
         · rfl
         · rfl
         · rfl
         · exact ((info_Tx HL.out)))
      | (with_reducible refine hE1.mono ?_; rintro e w3 ⟨v3, rfl, ho3, hb3⟩))
    have HW3 := Lib.hid (below_fut HW1.out hb3 (Nat.le_refl _))
    have HZ3 := Lib.hid (HZ.out.fut hb3)
    clear hb3 ho3 l1
    go_wp2_with (first
      | (with_reducible refine wp_build (o := ⟨some 13, _, _, _, _, _⟩) ?_ 29 #[] ?_ [] ?_ Y hbt ?_
         · rfl
         · rfl
         · rfl)
      | (with_reducible refine wp_store_blk (o := ⟨none, _, _, _, _, _⟩) ?_ 29 (.tmp 2) (.tmp 13) ?_ z 29 Y Y ?_ ?_ HZ3.out ?_ ?_ ?_ z w3 ?_ ?_ ?_
         · rfl
         · rfl
         · rfl
         · rfl
         · rw [HYS.out]; kernel_rfl
         · rfl
         · exact hyo
         · exact Below.refl _ _
         · exact Nat.le_refl _
         intro wf hBf hbf hgf hsf))
    have hbl : Blk wf z 29 (hCells (noughts 32)).toArray := by rw [← HY.out]; exact hBf.out
    refine bodyPost_ret (results_cell2 rfl _ _ _ z _ (hCells (noughts 32)) _ rfl hbl Tryd.underlying29 rfl (hCells_info rfl)) rfl ?_
    rw [HP2.out]
    exact ⟨rfl, HW3.out.trans (hbf.mono (by have := HZZ.out; omega))⟩
  have HP2 : Hid (P = (sha (sha (txB t false)), 0)) := Lib.hid (by rw [HP.out]; unfold idP; rw [hcan]; rfl)
  rw [show txP t false = (txB t false, 0) from by unfold txP; rw [hcan]; rfl] at hE1
  unfold OutB at hE1
  simp only at hE1
  have hbig := HBIG.out hcan
  obtain ⟨bb, hbb⟩ : ∃ bb, bb = txB t false := ⟨_, rfl⟩
  rw [← hbb] at hE1 HP2 hbig
  clear hcan hE hbw hbb
  go_upto_region 3 with (first
    | (with_reducible refine wpList_load_mid (op := ⟨some 7, _, _, _, _, _⟩) ?_ 26 (.tmp 1) ?_ (w.heap.size) (0) ?_ (cs) _ (l1) Tryd.underlying26 ?_ ?_ ?_
       · rfl
       · rfl
       · rfl
       · rfl
       · exact ((info_Tx HL.out)))
    | (with_reducible refine hE1.mono ?_; rintro e w3 ⟨v3, rfl, ho3, hb3⟩))
  have HW3 := Lib.hid (below_fut HW1.out hb3 (Nat.le_refl _))
  have HZ3 := Lib.hid (HZ.out.fut hb3)
  obtain ⟨p, n, c, rfl, hnn, hnc, hcm, hr3⟩ := ho3.open
  have hn := hnn.out
  have hD := shaDouble_any p n c bb w3 (HK.out.below HW3.out hKs) hr3 hn hnc hcm (by omega)
  obtain ⟨V, hV⟩ : ∃ V, V = sha (sha bb) := ⟨_, rfl⟩
  rw [← hV] at hD HP2
  have HVL : Hid (V.length = 32) := Lib.hid (by rw [hV]; exact sha_len _)
  clear hb3 ho3 l1 hn hnn hr3 hV
  go_wp2_with fail
  refine hD.mono ?_
  rintro e w4 ⟨rfl, hb4⟩
  have HW4 := Lib.hid (below_fut HW3.out hb4 (Nat.le_refl _))
  have HZ4 := Lib.hid (HZ3.out.fut hb4)
  clear hb4 hD
  go_wp2_with (with_reducible refine wp_store_blk (o := ⟨none, _, _, _, _, _⟩) ?_ 29 (.tmp 2) (.tmp 16) ?_ z 29 Y (hCells V).toArray ?_ ?_ HZ4.out ?_ ?_ ?_ z w4 ?_ ?_ ?_
               · rfl
               · rfl
               · rfl
               · rfl
               · exact hCells_info' HVL.out
               · exact HYS.out.trans (hCells_size HVL.out).symm
               · exact hCells_one _
               · exact Below.refl _ _
               · exact Nat.le_refl _
               intro wf hBf hbf hgf hsf)
  refine bodyPost_ret (results_cell2 rfl _ _ _ z _ (hCells V) _ rfl hBf.out Tryd.underlying29 rfl (hCells_info HVL.out)) rfl ?_
  rw [HP2.out]
  exact ⟨rfl, HW4.out.trans (hbf.mono (by have := HZZ.out; omega))⟩

set_option maxRecDepth 100000 in
set_option maxHeartbeats 4000000 in
theorem refTxID_any (t : TTx) (cs : List Value) (w : World) (hc : TxC w t cs) : Calls Tryd.prog 13 #[.agg cs.toArray] w (IdPost w (idP t)) := by
  obtain ⟨Y, hY⟩ : ∃ Y, Y = (hCells (noughts 32)).toArray := ⟨_, rfl⟩
  have hz : ∀ w, (zeroValue 29).run Tryd.prog w = .ok (.agg Y) w := by rw [hY]; exact zero32
  have hbt : Tryd.prog.built 29 [] = some Y := by rw [hY]; exact built_h0
  have HYS : Hid (Y.size = 32) := Lib.hid (by rw [hY]; rfl)
  have hyo : Y.all (·.oneCell') = true := by rw [hY]; exact hCells_one _
  have HY := Lib.hid hY
  have HL := Lib.hid hc.len4
  obtain ⟨P, hP⟩ : ∃ P, P = idP t := ⟨_, rfl⟩
  rw [← hP]
  have HP := Lib.hid hP
  have HBIG : Hid (canTx t = true → (txB t false).length ≤ 10000000000) := Lib.hid fun h => txB_big h hc false
  have hE := fun (W : World) (hb : Below w.heap.size w W) => refTxEncode_any t cs false W (txC_keeps _ _ _ _ hc hb)
  have HB := Lib.hid ((Blk.new w 26 cs.toArray).alloc (.cells Y 29))
  have HZ := Lib.hid (Blk.new2 w (.cells cs.toArray 26) 29 Y)
  have hbw : Below w.heap.size w ((w.alloc (.cells cs.toArray 26)).alloc (.cells Y 29)) := ((Below.refl _ _).alloc (Nat.le_refl _) _).alloc (by simp) _
  clear hY hP hc
  go_enter Tryd.func13, Tryd.ntmps13
  go_upto_region 1 with fail
  generalize (w.alloc (.cells cs.toArray 26)).alloc (.cells Y 29) = w1 at *
  obtain ⟨z, hzz⟩ : ∃ z, z = w.heap.size + 1 := ⟨_, rfl⟩
  have HZZ := Lib.hid hzz
  rw [← hzz] at HZ ⊢
  clear hzz
  have l1 := blk_range HB.out
  have hE1 := hE w1 hbw
  have HW1 := Lib.hid hbw
  by_cases hcan : canTx t = true
  case neg =>
    have hcf : canTx t = false := by cases h : canTx t <;> simp_all
    have HP2 : Hid (P = (noughts 32, 1)) := Lib.hid (by rw [HP.out]; unfold idP; rw [hcf]; rfl)
    rw [show txP t false = ([], 1) from by unfold txP; rw [hcf]; rfl] at hE1
    unfold OutB at hE1
    simp only at hE1
    clear hcan hcf hE hbw
    go_upto_region 3 with (first
      | (with_reducible refine wpList_load_mid (op := ⟨some 7, _, _, _, _, _⟩) ?_ 26 (.tmp 1) ?_ (w.heap.size) (0) ?_ (cs) _ (l1) Tryd.underlying26 ?_ ?_ ?_
         · rfl
         · rfl
         · rfl
         · rfl
         · exact ((info_Tx HL.out)))
      | (with_reducible refine hE1.mono ?_; rintro e w3 ⟨v3, rfl, ho3, hb3⟩))
    have HW3 := Lib.hid (below_fut HW1.out hb3 (Nat.le_refl _))
    have HZ3 := Lib.hid (HZ.out.fut hb3)
    clear hb3 ho3 l1
    go_wp2_with (first
      | (with_reducible refine wp_build (o := ⟨some 13, _, _, _, _, _⟩) ?_ 29 #[] ?_ [] ?_ Y hbt ?_
         · rfl
         · rfl
         · rfl)
      | (with_reducible refine wp_store_blk (o := ⟨none, _, _, _, _, _⟩) ?_ 29 (.tmp 2) (.tmp 13) ?_ z 29 Y Y ?_ ?_ HZ3.out ?_ ?_ ?_ z w3 ?_ ?_ ?_
         · rfl
         · rfl
         · rfl
         · rfl
         · rw [HYS.out]; kernel_rfl
         · rfl
         · exact hyo
         · exact Below.refl _ _
         · exact Nat.le_refl _
         intro wf hBf hbf hgf hsf))
    have hbl : Blk wf z 29 (hCells (noughts 32)).toArray := by rw [← HY.out]; exact hBf.out
    refine bodyPost_ret (results_cell2 rfl _ _ _ z _ (hCells (noughts 32)) _ rfl hbl Tryd.underlying29 rfl (hCells_info rfl)) rfl ?_
    rw [HP2.out]
    exact ⟨rfl, HW3.out.trans (hbf.mono (by have := HZZ.out; omega))⟩
  have HP2 : Hid (P = (sha (sha (txB t false)), 0)) := Lib.hid (by rw [HP.out]; unfold idP; rw [hcan]; rfl)
  rw [show txP t false = (txB t false, 0) from by unfold txP; rw [hcan]; rfl] at hE1
  unfold OutB at hE1
  simp only at hE1
  have hbig := HBIG.out hcan
  obtain ⟨bb, hbb⟩ : ∃ bb, bb = txB t false := ⟨_, rfl⟩
  rw [← hbb] at hE1 HP2 hbig
  clear hcan hE hbw hbb
  go_upto_region 3 with (first
    | (with_reducible refine wpList_load_mid (op := ⟨some 7, _, _, _, _, _⟩) ?_ 26 (.tmp 1) ?_ (w.heap.size) (0) ?_ (cs) _ (l1) Tryd.underlying26 ?_ ?_ ?_
       · rfl
       · rfl
       · rfl
       · rfl
       · exact ((info_Tx HL.out)))
    | (with_reducible refine hE1.mono ?_; rintro e w3 ⟨v3, rfl, ho3, hb3⟩))
  have HW3 := Lib.hid (below_fut HW1.out hb3 (Nat.le_refl _))
  have HZ3 := Lib.hid (HZ.out.fut hb3)
  obtain ⟨p, n, c, rfl, hnn, hnc, hcm, hr3⟩ := ho3.open
  have hn := hnn.out
  have hD := refDouble_any p n c bb w3 hr3 hn (by omega)
  obtain ⟨V, hV⟩ : ∃ V, V = sha (sha bb) := ⟨_, rfl⟩
  rw [← hV] at hD HP2
  have HVL : Hid (V.length = 32) := Lib.hid (by rw [hV]; exact sha_len _)
  clear hb3 ho3 l1 hn hnn hr3 hV
  go_wp2_with fail
  refine hD.mono ?_
  rintro e w4 ⟨rfl, hb4⟩
  have HW4 := Lib.hid (below_fut HW3.out hb4 (Nat.le_refl _))
  have HZ4 := Lib.hid (HZ3.out.fut hb4)
  clear hb4 hD
  go_wp2_with (with_reducible refine wp_store_blk (o := ⟨none, _, _, _, _, _⟩) ?_ 29 (.tmp 2) (.tmp 16) ?_ z 29 Y (hCells V).toArray ?_ ?_ HZ4.out ?_ ?_ ?_ z w4 ?_ ?_ ?_
               · rfl
               · rfl
               · rfl
               · rfl
               · exact hCells_info' HVL.out
               · exact HYS.out.trans (hCells_size HVL.out).symm
               · exact hCells_one _
               · exact Below.refl _ _
               · exact Nat.le_refl _
               intro wf hBf hbf hgf hsf)
  refine bodyPost_ret (results_cell2 rfl _ _ _ z _ (hCells V) _ rfl hBf.out Tryd.underlying29 rfl (hCells_info HVL.out)) rfl ?_
  rw [HP2.out]
  exact ⟨rfl, HW4.out.trans (hbf.mono (by have := HZZ.out; omega))⟩
end Go.Proofs.YthglocpbdfcfnaaDoor
