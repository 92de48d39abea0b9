/- sporranlaw07.TxWrites: the walk. -/
import Derived.Test.YthglocpbdfcfnaaDoorTxCp
import Derived.Test.YthglocpbdfcfnaaDoorTxID
namespace Go.Proofs.YthglocpbdfcfnaaDoor
open Go Go.RowKit
set_option linter.unusedVariables false

theorem TxC.sizeT {w : World} {t : TTx} {cs : List Value} (h : TxC w t cs) : ZTx.toArray.size = cs.toArray.size := by rw [List.size_toArray, List.size_toArray, h.len4]; rfl

set_option maxRecDepth 100000 in
set_option maxHeartbeats 32000000 in
theorem txWrites_walk (cs : Array Value) (t : TTx) (W : World) (hK : Laid W) (h : TxC W t cs.toList) (hsz : TxSz t) :
    Calls Tryd.prog 4 #[.agg cs] W fun e w' => e = .returned (.bool true) ∧ Below W.heap.size W w' := by
  obtain ⟨cl, hcl⟩ : ∃ cl, cl = cs.toList := ⟨_, rfl⟩
  have hcs : cs = cl.toArray := by rw [hcl]
  subst hcs
  rw [← hcl] at h
  clear hcl
  have hb1 := below_new W (.cells cl.toArray 26)
  have HB1 := Lib.hid (Blk.new W 26 cl.toArray)
  have HC1 := Lib.hid (txC_keeps _ _ _ _ h hb1)
  have HW1 := Lib.hid hb1
  have HLL := Lib.hid h.len4
  have HK := Lib.hid hK
  have HKs := Lib.hid hK.size
  have HZ := Lib.hid hsz
  have hz := zTx
  obtain ⟨x1, hx1⟩ : ∃ x, x = txP t true := ⟨_, rfl⟩
  obtain ⟨x2, hx2⟩ : ∃ x, x = txP t false := ⟨_, rfl⟩
  obtain ⟨x3, hx3⟩ : ∃ x, x = idP t := ⟨_, rfl⟩
  have hvl := idP_len t
  rw [← hx3] at hvl
  obtain ⟨b1, k1⟩ := x1
  obtain ⟨b2, k2⟩ := x2
  obtain ⟨V, k3⟩ := x3
  have HX1 := Lib.hid hx1.symm
  have HX2 := Lib.hid hx2.symm
  have HX3 := Lib.hid hx3.symm
  have HVL : Hid (V.length = 32) := Lib.hid hvl
  clear h hb1 hK hsz hx1 hx2 hx3 hvl
  obtain ⟨YH, hYH⟩ : ∃ Y, Y = (hCells (noughts 32)).toArray := ⟨_, rfl⟩
  have hzh : ∀ w, (zeroValue 29).run Tryd.prog w = .ok (.agg YH) w := by rw [hYH]; exact zero32
  have HYS : Hid (YH.size = (hCells V).toArray.size) := Lib.hid (by rw [hYH, hCells_size HVL.out]; rfl)
  clear hYH
  go_enter Tryd.func4, Tryd.ntmps4
  go_upto_region 1 with fail
  generalize W.alloc (.cells cl.toArray 26) = w1 at *
  obtain ⟨z1, hz1⟩ : ∃ z, z = W.heap.size := ⟨_, rfl⟩
  rw [← hz1] at HB1 ⊢
  clear hz1
  have l1 := blk_range HB1.out
  have hcp := refTxCopy_any t cl w1 HC1.out HZ.out
  go_upto_region 2 with (first
    | (with_reducible refine wpList_load_mid (op := ⟨some 16, _, _, _, _, _⟩) ?_ 26 (.tmp 1) ?_ (z1) (0) ?_ (cl) _ (l1) Tryd.underlying26 ?_ ?_ ?_
       · rfl
       · rfl
       · rfl
       · rfl
       · exact ((info_Tx HLL.out)))
    | (with_reducible refine hcp.mono ?_
       rintro e w2 ⟨ct, rfl, hO, hb2⟩
       have hone := hO.c.one
       have HTL := Lib.hid hO.c.len4
       have hbn := below_new w2 (.cells ZTx.toArray 26)
       have hzsz := hO.c.sizeT
       have HO2 := Lib.hid hO.c
       have HB2 := Lib.hid hb2
       clear hO hb2)
    | (with_reducible refine wp_store_blk (o := ⟨none, _, _, _, _, _⟩) ?_ 26 (.tmp 3) (.tmp 17) ?_ (w2.heap.size) 26 (ZTx.toArray) (ct.toArray) ?_ ?_ (Blk.new w2 _ _) ?_ ?_ ?_ (w2.heap.size) (w2) ?_ ?_ ?_
       · rfl
       · rfl
       · rfl
       · rfl
       · exact (by rw [List.size_toArray]; exact info_Tx HTL.out)
       · exact (hzsz)
       · exact (hone)
       · exact (hbn)
       · exact (Nat.le_refl _)
       intro w3 hB3 hb3 hg3 hs3))
  try simp only [put_none]
  obtain ⟨z3, hz3⟩ : ∃ z, z = w2.heap.size := ⟨_, rfl⟩
  have hb13 := below_fut HB2.out hb3 (Nat.le_refl _)
  have HW3 := Lib.hid (below_fut HW1.out hb13 (Nat.le_refl _))
  have HB1c := Lib.hid (HB1.out.fut hb13)
  have HC1c := Lib.hid (txC_keeps _ _ _ _ HC1.out hb13)
  have HC3 := Lib.hid (txC_keeps _ _ _ _ HO2.out hb3)
  have HB3 := Lib.hid hB3.out
  rw [← hz3] at HB3 ⊢
  clear hz3 hb13 hone hbn hzsz hb3 hg3 hs3 hB3 HO2 HB2 l1 hcp HB1 HC1 HW1
  have l3 := blk_range HB3.out
  have hE := txEncode_any t ct true w3 HC3.out
  rw [HX1.out] at hE
  unfold OutB at hE
  simp only at hE
  go_upto_region 3 with (first
    | (with_reducible refine wpList_load_mid (op := ⟨some 19, _, _, _, _, _⟩) ?_ 26 (.tmp 3) ?_ (z3) (0) ?_ (ct) _ (l3) Tryd.underlying26 ?_ ?_ ?_
       · rfl
       · rfl
       · rfl
       · rfl
       · exact ((info_Tx HTL.out)))
    | (with_reducible refine hE.mono ?_; rintro e w4 ⟨va, rfl, hoa, hb4⟩))
  have HW4 := Lib.hid (below_fut HW3.out hb4 (Nat.le_refl _))
  have HB1d := Lib.hid (HB1c.out.fut hb4)
  have HC1d := Lib.hid (txC_keeps _ _ _ _ HC1c.out hb4)
  have HC3d := Lib.hid (txC_keeps _ _ _ _ HC3.out hb4)
  have HB3d := Lib.hid (HB3.out.fut hb4)
  have HA1 := Lib.hid hoa.sl
  clear hoa hb4 l3 hE HB1c HC1c HC3 HB3 HW3
  have l1 := blk_range HB1d.out
  have hE := refTxEncode_any t cl true w4 HC1d.out
  rw [HX1.out] at hE
  unfold OutB at hE
  simp only at hE
  go_upto_region 4 with (first
    | (with_reducible refine wpList_load_mid (op := ⟨some 24, _, _, _, _, _⟩) ?_ 26 (.tmp 1) ?_ (z1) (0) ?_ (cl) _ (l1) Tryd.underlying26 ?_ ?_ ?_
       · rfl
       · rfl
       · rfl
       · rfl
       · exact ((info_Tx HLL.out)))
    | (with_reducible refine hE.mono ?_; rintro e w5 ⟨vb, rfl, hob, hb5⟩))
  have HW5 := Lib.hid (below_fut HW4.out hb5 (Nat.le_refl _))
  have HB1e := Lib.hid (HB1d.out.fut hb5)
  have HC1e := Lib.hid (txC_keeps _ _ _ _ HC1d.out hb5)
  have HC3e := Lib.hid (txC_keeps _ _ _ _ HC3d.out hb5)
  have HB3e := Lib.hid (HB3d.out.fut hb5)
  have HA1e := Lib.hid (HA1.out.fut hb5)
  have HA2 := Lib.hid hob.sl
  clear hob hb5 l1 hE HB1d HC1d HC3d HB3d HW4 HA1
  have l3 := blk_range HB3e.out
  have hE := txEncode_any t ct false w5 HC3e.out
  rw [HX2.out] at hE
  unfold OutB at hE
  simp only at hE
  go_upto_region 5 with (first
    | (with_reducible refine wpList_load_mid (op := ⟨some 29, _, _, _, _, _⟩) ?_ 26 (.tmp 3) ?_ (z3) (0) ?_ (ct) _ (l3) Tryd.underlying26 ?_ ?_ ?_
       · rfl
       · rfl
       · rfl
       · rfl
       · exact ((info_Tx HTL.out)))
    | (with_reducible refine hE.mono ?_; rintro e w6 ⟨vc, rfl, hoc, hb6⟩))
  have HW6 := Lib.hid (below_fut HW5.out hb6 (Nat.le_refl _))
  have HB1f := Lib.hid (HB1e.out.fut hb6)
  have HC1f := Lib.hid (txC_keeps _ _ _ _ HC1e.out hb6)
  have HC3f := Lib.hid (txC_keeps _ _ _ _ HC3e.out hb6)
  have HB3f := Lib.hid (HB3e.out.fut hb6)
  have HA1f := Lib.hid (HA1e.out.fut hb6)
  have HA2f := Lib.hid (HA2.out.fut hb6)
  have HA3 := Lib.hid hoc.sl
  clear hoc hb6 l3 hE HB1e HC1e HC3e HB3e HW5 HA1e HA2
  have l1 := blk_range HB1f.out
  have hE := refTxEncode_any t cl false w6 HC1f.out
  rw [HX2.out] at hE
  unfold OutB at hE
  simp only at hE
  go_upto_region 6 with (first
    | (with_reducible refine wpList_load_mid (op := ⟨some 34, _, _, _, _, _⟩) ?_ 26 (.tmp 1) ?_ (z1) (0) ?_ (cl) _ (l1) Tryd.underlying26 ?_ ?_ ?_
       · rfl
       · rfl
       · rfl
       · rfl
       · exact ((info_Tx HLL.out)))
    | (with_reducible refine hE.mono ?_; rintro e w7 ⟨vd, rfl, hod, hb7⟩))
  have HW7 := Lib.hid (below_fut HW6.out hb7 (Nat.le_refl _))
  have HB1g := Lib.hid (HB1f.out.fut hb7)
  have HC1g := Lib.hid (txC_keeps _ _ _ _ HC1f.out hb7)
  have HC3g := Lib.hid (txC_keeps _ _ _ _ HC3f.out hb7)
  have HB3g := Lib.hid (HB3f.out.fut hb7)
  have HA1g := Lib.hid (HA1f.out.fut hb7)
  have HA2g := Lib.hid (HA2f.out.fut hb7)
  have HA3g := Lib.hid (HA3.out.fut hb7)
  have HA4 := Lib.hid hod.sl
  clear hod hb7 l1 hE HB1f HC1f HC3f HB3f HW6 HA1f HA2f HA3
  have l3 := blk_range HB3g.out
  have hE := txID_any t ct w7 HC3g.out (HK.out.below HW7.out HKs.out)
  rw [HX3.out] at hE
  unfold IdPost at hE
  simp only at hE
  go_upto_region 7 with (first
    | (with_reducible refine wpList_load_mid (op := ⟨some 39, _, _, _, _, _⟩) ?_ 26 (.tmp 3) ?_ (z3) (0) ?_ (ct) _ (l3) Tryd.underlying26 ?_ ?_ ?_
       · rfl
       · rfl
       · rfl
       · rfl
       · exact ((info_Tx HTL.out)))
    | (with_reducible refine hE.mono ?_; rintro e w8 ⟨rfl, hb8⟩; have hbn := below_new w8 (.cells YH 29); have HB8 := Lib.hid hb8; clear hb8)
    | (with_reducible refine wp_store_blk (o := ⟨none, _, _, _, _, _⟩) ?_ 29 (.tmp 12) (.tmp 41) ?_ (w8.heap.size) 29 (YH) ((hCells (V)).toArray) ?_ ?_ (Blk.new w8 _ _) ?_ ?_ ?_ (w8.heap.size) (w8) ?_ ?_ ?_
       · rfl
       · rfl
       · rfl
       · rfl
       · exact (hCells_info' (HVL.out))
       · exact ((HYS.out.trans (hCells_size HVL.out)).trans (hCells_size (HVL.out)).symm)
       · exact (hCells_one _)
       · exact (hbn)
       · exact (Nat.le_refl _)
       intro w8b hB8 hb8b hg8 hs8))
  try simp only [put_none]
  obtain ⟨z12, hz12⟩ : ∃ z, z = w8.heap.size := ⟨_, rfl⟩
  have hb8 := below_fut HB8.out hb8b (Nat.le_refl _)
  have HW8 := Lib.hid (below_fut HW7.out hb8 (Nat.le_refl _))
  have HB1h := Lib.hid (HB1g.out.fut hb8)
  have HC1h := Lib.hid (txC_keeps _ _ _ _ HC1g.out hb8)
  have HC3h := Lib.hid (txC_keeps _ _ _ _ HC3g.out hb8)
  have HB3h := Lib.hid (HB3g.out.fut hb8)
  have HA1h := Lib.hid (HA1g.out.fut hb8)
  have HA2h := Lib.hid (HA2g.out.fut hb8)
  have HA3h := Lib.hid (HA3g.out.fut hb8)
  have HA4h := Lib.hid (HA4.out.fut hb8)
  have HH1h := Lib.hid hB8.out
  rw [← hz12] at HH1h ⊢
  clear hz12 hbn hb8 hb8b hg8 hs8 hB8 l3 hE HB8 HB1g HC1g HC3g HB3g HW7 HA1g HA2g HA3g HA4
  have l1 := blk_range HB1h.out
  have hE := refTxID_any t cl w8b HC1h.out
  rw [HX3.out] at hE
  unfold IdPost at hE
  simp only at hE
  go_upto_region 8 with (first
    | (with_reducible refine wpList_load_mid (op := ⟨some 44, _, _, _, _, _⟩) ?_ 26 (.tmp 1) ?_ (z1) (0) ?_ (cl) _ (l1) Tryd.underlying26 ?_ ?_ ?_
       · rfl
       · rfl
       · rfl
       · rfl
       · exact ((info_Tx HLL.out)))
    | (with_reducible refine hE.mono ?_; rintro e wa ⟨rfl, hba⟩; have hbn := below_new wa (.cells YH 29); have HBa := Lib.hid hba; clear hba)
    | (with_reducible refine wp_store_blk (o := ⟨none, _, _, _, _, _⟩) ?_ 29 (.tmp 14) (.tmp 46) ?_ (wa.heap.size) 29 (YH) ((hCells (V)).toArray) ?_ ?_ (Blk.new wa _ _) ?_ ?_ ?_ (wa.heap.size) (wa) ?_ ?_ ?_
       · rfl
       · rfl
       · rfl
       · rfl
       · exact (hCells_info' (HVL.out))
       · exact ((HYS.out.trans (hCells_size HVL.out)).trans (hCells_size (HVL.out)).symm)
       · exact (hCells_one _)
       · exact (hbn)
       · exact (Nat.le_refl _)
       intro w9 hB9 hb9b hg9 hs9))
  try simp only [put_none]
  obtain ⟨z14, hz14⟩ : ∃ z, z = wa.heap.size := ⟨_, rfl⟩
  have hb9 := below_fut HBa.out hb9b (Nat.le_refl _)
  have HW9 := Lib.hid (below_fut HW8.out hb9 (Nat.le_refl _))
  have HB1 := Lib.hid (HB1h.out.fut hb9)
  have HC1 := Lib.hid (txC_keeps _ _ _ _ HC1h.out hb9)
  have HC3 := Lib.hid (txC_keeps _ _ _ _ HC3h.out hb9)
  have HB3 := Lib.hid (HB3h.out.fut hb9)
  have HA1 := Lib.hid (HA1h.out.fut hb9)
  have HA2 := Lib.hid (HA2h.out.fut hb9)
  have HA3 := Lib.hid (HA3h.out.fut hb9)
  have HA4 := Lib.hid (HA4h.out.fut hb9)
  have HH1 := Lib.hid (HH1h.out.fut hb9)
  have HH2 := Lib.hid hB9.out
  rw [← hz14] at HH2 ⊢
  clear hz14 hbn hb9 hb9b hg9 hs9 hB9 l1 hE HBa HB1h HC1h HC3h HB3h HW8 HA1h HA2h HA3h HA4h HH1h HX1 HX2 HX3 hz hzh
  have hsame := hash_same V HVL.out
  have hk1 : (k1 == k1) = true := by simp
  have hk2 : (k2 == k2) = true := by simp
  have hk3 : (k3 == k3) = true := by simp
  have hr : (canTx t == canTx t) = true := by simp
  refine region_plan [qq 0, qq 1, oo 2, qq 3, qq 4, qq 5, qq 6, qq 7, qq 8, qq 9, qq 10, oo 11, qq 12, qq 13, qq 14, qq 15, qq 16, qq 17, qq 18, qq 19, qq 20, qq 21, qq 22, qq 23, qq 24, qq 25, qq 26, qq 27, qq 28, qq 29, qq 31, oo 30, oo 32, qq 33, qq 34, qq 35, qq 36, qq 37, oo 38, qq 39, qq 40, oo 41, qq 42, qq 43] (fun W => Below w9.heap.size w9 W) (by kernel_rfl) (by kernel_rfl) (Below.refl _ _).drew ?_
  refine' plan_quiet (s := 91) (A1 := _) [0, 1] [_, _] _ rfl rfl rfl (fun W hW => ?hq1) _ ((Below.refl w9.heap.size w9).drew) (fun _ => ?hr1)
  case hq1 =>
    simp only [List.getElem_toArray, List.getElem_cons_zero, List.getElem_cons_succ]
    iterate 2 (go_big_quiet_step (fail))
    refine wpQuiet_nil ?_
    rfl
  case hr1 =>
  refine plan_one rfl fun j2 => ?_
  have hd2 := below_draws w9 (1 + j2)
  go_wp2_with fail
  refine (bEqual_any _ _ b1 _ (HA1.out.below hd2 (Nat.le_refl _)) (HA2.out.below hd2 (Nat.le_refl _))).mono ?_
  rintro e v2 ⟨rfl, hw2⟩
  have hF2 : Below w9.heap.size w9 v2 := by rw [hw2]; exact hd2
  clear hw2 hd2
  go_wp2_with fail
  refine planQ_normal (And.intro hF2 ?_)
  refine' plan_quiet (s := 91) (A1 := _) [3, 4, 5, 6, 7, 8, 9, 10] [_, _, _, _, _, _, _, _] _ rfl rfl rfl (fun W hW => ?hq2) _ (hF2) (fun _ => ?hr2)
  case hq2 =>
    simp only [List.getElem_toArray, List.getElem_cons_zero, List.getElem_cons_succ]
    iterate 8 (go_big_quiet_step (fail))
    refine wpQuiet_nil ?_
    rfl
  case hr2 =>
  refine plan_one rfl fun j11 => ?_
  have hd11 := below_drewN (hF2) j11
  go_wp2_with fail
  refine (bEqual_any _ _ b2 _ (HA3.out.below hd11 (Nat.le_refl _)) (HA4.out.below hd11 (Nat.le_refl _))).mono ?_
  rintro e v11 ⟨rfl, hw11⟩
  have hF11 : Below w9.heap.size w9 v11 := by rw [hw11]; exact hd11
  clear hw11 hd11
  go_wp2_with fail
  refine planQ_normal (And.intro hF11 ?_)
  refine' plan_quiet (s := 91) (A1 := _) [12, 13, 14, 15, 16, 17, 18, 19, 20, 21, 22, 23, 24, 25, 26, 27, 28, 29, 31] [_, _, _, _, _, _, _, _, _, _, _, _, _, _, _, _, _, _, _] _ rfl rfl rfl (fun W hW => ?hq3) _ (hF11) (fun _ => ?hr3)
  case hq3 =>
    simp only [List.getElem_toArray, List.getElem_cons_zero, List.getElem_cons_succ]
    iterate 7 (go_big_quiet_step (fail))
    refine quiet_load_mid rfl 29 (.tmp 12) rfl z12 0 rfl (hCells V) _ (fun w hw => ?_) Tryd.underlying29 rfl (hCells_info HVL.out) ?_
    · obtain ⟨k, rfl⟩ := hw
      exact blk_range ((HH1.out.fut hW).drewN k)
    simp only [put_some, List.setIfInBounds_toArray, List.set_cons_succ, List.set_cons_zero]
    refine quiet_load_mid rfl 29 (.tmp 14) rfl z14 0 rfl (hCells V) _ (fun w hw => ?_) Tryd.underlying29 rfl (hCells_info HVL.out) ?_
    · obtain ⟨k, rfl⟩ := hw
      exact blk_range ((HH2.out.fut hW).drewN k)
    simp only [put_some, List.setIfInBounds_toArray, List.set_cons_succ, List.set_cons_zero]
    iterate 8 (go_big_quiet_step (fail))
    refine quiet_load_mid rfl 26 (.tmp 3) rfl z3 0 rfl ct _ (fun w hw => ?_) Tryd.underlying26 rfl (info_Tx HTL.out) ?_
    · obtain ⟨k, rfl⟩ := hw
      exact blk_range ((HB3.out.fut hW).drewN k)
    simp only [put_some, List.setIfInBounds_toArray, List.set_cons_succ, List.set_cons_zero]
    refine quiet_load_mid rfl 26 (.tmp 1) rfl z1 0 rfl cl _ (fun w hw => ?_) Tryd.underlying26 rfl (info_Tx HLL.out) ?_
    · obtain ⟨k, rfl⟩ := hw
      exact blk_range ((HB1.out.fut hW).drewN k)
    simp only [put_some, List.setIfInBounds_toArray, List.set_cons_succ, List.set_cons_zero]
    refine wpQuiet_nil ?_
    rfl
  case hr3 =>
  refine plan_one rfl fun j30 => ?_
  have hd30 := below_drewN (hF11) j30
  go_wp2_with fail
  refine (txCan_any t ct _ (txC_keeps _ _ _ _ HC3.out hd30)).mono ?_
  rintro e v30 ⟨rfl, hb30⟩
  have hF30 : Below w9.heap.size w9 v30 := below_fut hd30 hb30 (Nat.le_refl _)
  clear hb30 hd30
  go_wp2_with fail
  refine planQ_normal (And.intro hF30 ?_)
  refine plan_one rfl fun j32 => ?_
  have hd32 := below_drewN (hF30) j32
  go_wp2_with fail
  refine (refCan_any t cl _ (txC_keeps _ _ _ _ HC1.out hd32)).mono ?_
  rintro e v32 ⟨rfl, hb32⟩
  have hF32 : Below w9.heap.size w9 v32 := below_fut hd32 hb32 (Nat.le_refl _)
  clear hb32 hd32
  go_wp2_with fail
  refine planQ_normal (And.intro hF32 ?_)
  refine' plan_quiet (s := 91) (A1 := _) [33, 34, 35, 36, 37] [_, _, _, _, _] _ rfl rfl rfl (fun W hW => ?hq4) _ (hF32) (fun _ => ?hr4)
  case hq4 =>
    simp only [List.getElem_toArray, List.getElem_cons_zero, List.getElem_cons_succ]
    iterate 3 (go_big_quiet_step (fail))
    refine quiet_load_mid rfl 26 (.tmp 3) rfl z3 0 rfl ct _ (fun w hw => ?_) Tryd.underlying26 rfl (info_Tx HTL.out) ?_
    · obtain ⟨k, rfl⟩ := hw
      exact blk_range ((HB3.out.fut hW).drewN k)
    simp only [put_some, List.setIfInBounds_toArray, List.set_cons_succ, List.set_cons_zero]
    refine quiet_load_mid rfl 26 (.tmp 1) rfl z1 0 rfl cl _ (fun w hw => ?_) Tryd.underlying26 rfl (info_Tx HLL.out) ?_
    · obtain ⟨k, rfl⟩ := hw
      exact blk_range ((HB1.out.fut hW).drewN k)
    simp only [put_some, List.setIfInBounds_toArray, List.set_cons_succ, List.set_cons_zero]
    refine wpQuiet_nil ?_
    rfl
  case hr4 =>
  refine plan_one rfl fun j38 => ?_
  have hd38 := below_drewN (hF32) j38
  go_wp2_with fail
  refine (sameTx_any t ct cl _ (txC_keeps _ _ _ _ HC3.out hd38) (txC_keeps _ _ _ _ HC1.out hd38)).mono ?_
  rintro e v38 ⟨rfl, hb38⟩
  have hF38 : Below w9.heap.size w9 v38 := below_fut hd38 hb38 (Nat.le_refl _)
  clear hb38 hd38
  go_wp2_with fail
  refine planQ_normal (And.intro hF38 ?_)
  refine' plan_quiet (s := 91) (A1 := _) [39, 40] [_, _] _ rfl rfl rfl (fun W hW => ?hq5) _ (hF38) (fun _ => ?hr5)
  case hq5 =>
    simp only [List.getElem_toArray, List.getElem_cons_zero, List.getElem_cons_succ]
    iterate 2 (go_big_quiet_step (fail))
    refine wpQuiet_nil ?_
    rfl
  case hr5 =>
  refine plan_one rfl fun j41 => ?_
  have hd41 := below_drewN (hF38) j41
  go_wp2_with fail
  refine (awake_any _).mono ?_
  rintro e v41 ⟨rfl, hb41⟩
  have hF41 : Below w9.heap.size w9 v41 := below_fut hd41 hb41 (Nat.le_refl _)
  clear hb41 hd41
  go_wp2_with fail
  refine planQ_normal (And.intro hF41 ?_)
  refine' plan_quiet (s := 91) (A1 := _) (r := []) [42, 43] [_, _] _ rfl rfl rfl (fun W hW => ?hq6) _ (hF41) (fun _ => ?hr6)
  case hq6 =>
    simp only [List.getElem_toArray, List.getElem_cons_zero, List.getElem_cons_succ]
    iterate 2 (go_big_quiet_step (fail))
    refine wpQuiet_nil ?_
    rfl
  case hr6 =>
  refine plan_end fun k => NoPanic.normal ?_
  have HWz : Hid (Below W.heap.size W (v41.drewN k)) := Lib.hid (below_fut HW9.out (below_drewN hF41 k) (Nat.le_refl _))
  go_wp2_with fail
  go_ret
  exact ⟨rfl, HWz.out⟩
end Go.Proofs.YthglocpbdfcfnaaDoor
