/- sporranlaw08.BlockWrites: the walk. -/
import Derived.Test.YthglocpbdfcfnaaDoorBlkCr
import Derived.Test.YthglocpbdfcfnaaDoorTxJ
namespace Go.Proofs.YthglocpbdfcfnaaDoor
open Go Go.RowKit
set_option linter.unusedVariables false

set_option maxRecDepth 100000 in
set_option maxHeartbeats 32000000 in
theorem blockWrites_walk (cs : Array Value) (b : TBlk) (W : World) (hK : Laid W) (h : BlkC W b cs.toList) (hsz : BlkSz b) :
    Calls Tryd.prog 6 #[.agg cs] W fun e w' => e = .returned (.bool true) ∧ Below W.heap.size W w' := by
  obtain ⟨cl, hcl⟩ : ∃ cl, cl = cs.toList := ⟨_, rfl⟩
  have hcs : cs = cl.toArray := by rw [hcl]
  subst hcs
  rw [← hcl] at h
  clear hcl
  have hb1 := below_new W (.cells cl.toArray 52)
  have HB1 := Lib.hid (Blk.new W 52 cl.toArray)
  have HC1 := Lib.hid (blkC_keeps _ _ _ _ h hb1)
  have HW1 := Lib.hid hb1
  have HLL := Lib.hid h.len
  have HK := Lib.hid hK
  have HKs := Lib.hid hK.size
  have HZ := Lib.hid hsz
  have hz := zBlk
  obtain ⟨x1, hx1⟩ : ∃ x, x = blkP b := ⟨_, rfl⟩
  obtain ⟨b1, k1⟩ := x1
  have HX1 := Lib.hid hx1.symm
  clear h hb1 hK hsz hx1
  go_enter Tryd.func6, Tryd.ntmps6
  go_upto_region 1 with fail
  generalize W.alloc (.cells cl.toArray 52) = w1 at *
  obtain ⟨z1, hz1⟩ : ∃ z, z = W.heap.size := ⟨_, rfl⟩
  rw [← hz1] at HB1 ⊢
  clear hz1
  have l1 := blk_range HB1.out
  have hcp := refBlkCopy_any b cl w1 HC1.out HZ.out
  go_upto_region 2 with (first
    | (with_reducible refine wpList_load_mid (op := ⟨some 8, _, _, _, _, _⟩) ?_ 52 (.tmp 1) ?_ (z1) (0) ?_ (cl) _ (l1) Tryd.underlying52 ?_ ?_ ?_
       · rfl
       · rfl
       · rfl
       · rfl
       · exact ((info_Blk HLL.out)))
    | (with_reducible refine hcp.mono ?_
       rintro e w2 ⟨ct, rfl, hO, hb2⟩
       have hone := hO.c.one
       have HTL := Lib.hid hO.c.len
       have hbn := below_new w2 (.cells ZBlk.toArray 52)
       have hzsz := hO.c.size
       have HO2 := Lib.hid hO.c
       have HB2 := Lib.hid hb2
       clear hO hb2)
    | (with_reducible refine wp_store_blk (o := ⟨none, _, _, _, _, _⟩) ?_ 52 (.tmp 3) (.tmp 9) ?_ (w2.heap.size) 52 (ZBlk.toArray) (ct.toArray) ?_ ?_ (Blk.new w2 _ _) ?_ ?_ ?_ (w2.heap.size) (w2) ?_ ?_ ?_
       · rfl
       · rfl
       · rfl
       · rfl
       · exact (by rw [List.size_toArray]; exact info_Blk HTL.out)
       · exact (hzsz)
       · exact (hone)
       · exact (hbn)
       · exact (Nat.le_refl _)
       intro w3 hB3 hb3 hg3 hs3))
  try simp only [put_none]
  obtain ⟨z3, hz3⟩ : ∃ z, z = w2.heap.size := ⟨_, rfl⟩
  have hb13 := below_fut HB2.out hb3 (Nat.le_refl _)
  have HW3 := Lib.hid (below_fut HW1.out hb13 (Nat.le_refl _))
  have HB1c := Lib.hid (HB1.out.fut hb13)
  have HC1c := Lib.hid (blkC_keeps _ _ _ _ HC1.out hb13)
  have HC3c := Lib.hid (blkC_keeps _ _ _ _ HO2.out hb3)
  have HB3c := Lib.hid hB3.out
  rw [← hz3] at HB3c ⊢
  clear hz3 hb13 hone hbn hzsz hb3 hg3 hs3 hB3 HO2 HB2 l1 hcp HB1 HC1 HW1
  have l3 := blk_range HB3c.out
  have hE := blkEncode_any b ct w3 HC3c.out
  rw [HX1.out] at hE
  unfold OutB at hE
  simp only at hE
  go_upto_region 3 with (first
    | (with_reducible refine wpList_load_mid (op := ⟨some 11, _, _, _, _, _⟩) ?_ 52 (.tmp 3) ?_ (z3) (0) ?_ (ct) _ (l3) Tryd.underlying52 ?_ ?_ ?_
       · rfl
       · rfl
       · rfl
       · rfl
       · exact ((info_Blk HTL.out)))
    | (with_reducible refine hE.mono ?_; rintro e w4 ⟨va, rfl, hoa, hb4⟩))
  have HW4 := Lib.hid (below_fut HW3.out hb4 (Nat.le_refl _))
  have HB1d := Lib.hid (HB1c.out.fut hb4)
  have HC1d := Lib.hid (blkC_keeps _ _ _ _ HC1c.out hb4)
  have HC3d := Lib.hid (blkC_keeps _ _ _ _ HC3c.out hb4)
  have HB3d := Lib.hid (HB3c.out.fut hb4)
  have HA1d := Lib.hid hoa.sl
  clear hoa hb4 l3 hE HB1c HC1c HC3c HB3c HW3
  have l1 := blk_range HB1d.out
  have hE := refBlkEncode_any b cl w4 HC1d.out
  rw [HX1.out] at hE
  unfold OutB at hE
  simp only at hE
  go_upto_region 4 with (first
    | (with_reducible refine wpList_load_mid (op := ⟨some 16, _, _, _, _, _⟩) ?_ 52 (.tmp 1) ?_ (z1) (0) ?_ (cl) _ (l1) Tryd.underlying52 ?_ ?_ ?_
       · rfl
       · rfl
       · rfl
       · rfl
       · exact ((info_Blk HLL.out)))
    | (with_reducible refine hE.mono ?_; rintro e w9 ⟨vb, rfl, hob, hb9⟩))
  have HW9 := Lib.hid (below_fut HW4.out hb9 (Nat.le_refl _))
  have HB1 := Lib.hid (HB1d.out.fut hb9)
  have HC1 := Lib.hid (blkC_keeps _ _ _ _ HC1d.out hb9)
  have HC3 := Lib.hid (blkC_keeps _ _ _ _ HC3d.out hb9)
  have HB3 := Lib.hid (HB3d.out.fut hb9)
  have HA1 := Lib.hid (HA1d.out.fut hb9)
  have HA2 := Lib.hid hob.sl
  clear hob hb9 l1 hE HB1d HC1d HC3d HB3d HW4 HA1d HX1 hz
  have hk1 : (k1 == k1) = true := by simp
  have hr : (chkP b == chkP b) = true := by simp
  refine region_plan [qq 0, qq 1, oo 2, qq 3, qq 4, qq 5, qq 6, qq 7, qq 8, qq 9, qq 11, oo 10, oo 12, qq 13, qq 14, qq 15, qq 16, qq 17, oo 18, qq 19, qq 20, oo 21, qq 22, qq 23] (fun W => Below w9.heap.size w9 W) (by kernel_rfl) (by kernel_rfl) (Below.refl _ _).drew ?_
  refine' plan_quiet (s := 43) (A1 := _) [0, 1] [_, _] _ rfl rfl rfl (fun W hW => ?hq1) _ ((Below.refl w9.heap.size w9).drew) (fun _ => ?hr1)
  case hq1 =>
    simp only [List.getElem_toArray, List.getElem_cons_zero, List.getElem_cons_succ]
    iterate 2 (go_big_quiet_step (fail))
    refine wpQuiet_nil ?_
    rfl
  case hr1 =>
  refine plan_one rfl fun j2 => ?_
  have hd2 := below_draws w9 (1 + j2)
  go_wp2_with fail
  refine (bEqual_any _ _ b1 _ (HA1.out.below hd2 (Nat.le_refl _)) (HA2.out.below hd2 (Nat.le_refl _))).mono ?_
  rintro e v2 ⟨rfl, hw2⟩
  have hF2 : Below w9.heap.size w9 v2 := by rw [hw2]; exact hd2
  clear hw2 hd2
  go_wp2_with fail
  refine planQ_normal (And.intro hF2 ?_)
  refine' plan_quiet (s := 43) (A1 := _) [3, 4, 5, 6, 7, 8, 9, 11] [_, _, _, _, _, _, _, _] _ rfl rfl rfl (fun W hW => ?hq2) _ (hF2) (fun _ => ?hr2)
  case hq2 =>
    simp only [List.getElem_toArray, List.getElem_cons_zero, List.getElem_cons_succ]
    iterate 6 (go_big_quiet_step (fail))
    refine quiet_load_mid rfl 52 (.tmp 3) rfl z3 0 rfl ct _ (fun w hw => ?_) Tryd.underlying52 rfl (info_Blk HTL.out) ?_
    · obtain ⟨k, rfl⟩ := hw
      exact blk_range ((HB3.out.fut hW).drewN k)
    simp only [put_some, List.setIfInBounds_toArray, List.set_cons_succ, List.set_cons_zero]
    refine quiet_load_mid rfl 52 (.tmp 1) rfl z1 0 rfl cl _ (fun w hw => ?_) Tryd.underlying52 rfl (info_Blk HLL.out) ?_
    · obtain ⟨k, rfl⟩ := hw
      exact blk_range ((HB1.out.fut hW).drewN k)
    simp only [put_some, List.setIfInBounds_toArray, List.set_cons_succ, List.set_cons_zero]
    refine wpQuiet_nil ?_
    rfl
  case hr2 =>
  refine plan_one rfl fun j10 => ?_
  have hd10 := below_drewN (hF2) j10
  go_wp2_with fail
  refine (blkCheck_any b ct _ (blkC_keeps _ _ _ _ HC3.out hd10) ((HK.out.below HW9.out HKs.out).below hd10 (Nat.le_trans HKs.out HW9.out.size))).mono ?_
  rintro e v10 ⟨rfl, hb10⟩
  have hF10 : Below w9.heap.size w9 v10 := below_fut hd10 hb10 (Nat.le_refl _)
  clear hb10 hd10
  go_wp2_with fail
  refine planQ_normal (And.intro hF10 ?_)
  refine plan_one rfl fun j12 => ?_
  have hd12 := below_drewN (hF10) j12
  go_wp2_with fail
  refine (refBlkCheck_any b cl _ (blkC_keeps _ _ _ _ HC1.out hd12)).mono ?_
  rintro e v12 ⟨rfl, hb12⟩
  have hF12 : Below w9.heap.size w9 v12 := below_fut hd12 hb12 (Nat.le_refl _)
  clear hb12 hd12
  go_wp2_with fail
  refine planQ_normal (And.intro hF12 ?_)
  refine' plan_quiet (s := 43) (A1 := _) [13, 14, 15, 16, 17] [_, _, _, _, _] _ rfl rfl rfl (fun W hW => ?hq3) _ (hF12) (fun _ => ?hr3)
  case hq3 =>
    simp only [List.getElem_toArray, List.getElem_cons_zero, List.getElem_cons_succ]
    iterate 3 (go_big_quiet_step (fail))
    refine quiet_load_mid rfl 52 (.tmp 3) rfl z3 0 rfl ct _ (fun w hw => ?_) Tryd.underlying52 rfl (info_Blk HTL.out) ?_
    · obtain ⟨k, rfl⟩ := hw
      exact blk_range ((HB3.out.fut hW).drewN k)
    simp only [put_some, List.setIfInBounds_toArray, List.set_cons_succ, List.set_cons_zero]
    refine quiet_load_mid rfl 52 (.tmp 1) rfl z1 0 rfl cl _ (fun w hw => ?_) Tryd.underlying52 rfl (info_Blk HLL.out) ?_
    · obtain ⟨k, rfl⟩ := hw
      exact blk_range ((HB1.out.fut hW).drewN k)
    simp only [put_some, List.setIfInBounds_toArray, List.set_cons_succ, List.set_cons_zero]
    refine wpQuiet_nil ?_
    rfl
  case hr3 =>
  refine plan_one rfl fun j18 => ?_
  have hd18 := below_drewN (hF12) j18
  go_wp2_with fail
  refine (sameBlk_any b ct cl _ (blkC_keeps _ _ _ _ HC3.out hd18) (blkC_keeps _ _ _ _ HC1.out hd18)).mono ?_
  rintro e v18 ⟨rfl, hb18⟩
  have hF18 : Below w9.heap.size w9 v18 := below_fut hd18 hb18 (Nat.le_refl _)
  clear hb18 hd18
  go_wp2_with fail
  refine planQ_normal (And.intro hF18 ?_)
  refine' plan_quiet (s := 43) (A1 := _) [19, 20] [_, _] _ rfl rfl rfl (fun W hW => ?hq4) _ (hF18) (fun _ => ?hr4)
  case hq4 =>
    simp only [List.getElem_toArray, List.getElem_cons_zero, List.getElem_cons_succ]
    iterate 2 (go_big_quiet_step (fail))
    refine wpQuiet_nil ?_
    rfl
  case hr4 =>
  refine plan_one rfl fun j21 => ?_
  have hd21 := below_drewN (hF18) j21
  go_wp2_with fail
  refine (awakeB_any _).mono ?_
  rintro e v21 ⟨rfl, hb21⟩
  have hF21 : Below w9.heap.size w9 v21 := below_fut hd21 hb21 (Nat.le_refl _)
  clear hb21 hd21
  go_wp2_with fail
  refine planQ_normal (And.intro hF21 ?_)
  refine' plan_quiet (s := 43) (A1 := _) (r := []) [22, 23] [_, _] _ rfl rfl rfl (fun W hW => ?hq5) _ (hF21) (fun _ => ?hr5)
  case hq5 =>
    simp only [List.getElem_toArray, List.getElem_cons_zero, List.getElem_cons_succ]
    iterate 2 (go_big_quiet_step (fail))
    refine wpQuiet_nil ?_
    rfl
  case hr5 =>
  refine plan_end fun k => NoPanic.normal ?_
  have HWz : Hid (Below W.heap.size W (v21.drewN k)) := Lib.hid (below_fut HW9.out (below_drewN hF21 k) (Nat.le_refl _))
  go_wp2_with fail
  go_ret
  exact ⟨rfl, HWz.out⟩

theorem blk_cellsW {H : Type} {enc : TypeId × Value → H} {W : World} {fuel : Nat} {cs : List Value} {x : DataW H × List MemPlace} (h : DataW.trod enc Tryd.prog W 0 (fun _ => true) true fuel 52 cs = some x) (hw : Wts 52 x.1) : cs.length = 69 ∧ ∃ b, BlkC W b cs ∧ BlkSz b := by
  have hl : cs.length = 69 := by rw [trod_len Tryd.underlying52 h]; kernel_rfl
  obtain ⟨n0, y0, h0⟩ := Go.Proofs.YthglocpbdfcfnaaDoor.trod_fieldH Tryd.underlying52 h 0 _ rfl 68 (by kernel_rfl)
  obtain ⟨n1, y1, h1, w1⟩ := trod_fieldW Tryd.underlying52 h hw 1 _ rfl 1 (by kernel_rfl)
  obtain ⟨hd, hk, e0⟩ := header_cells h0
  obtain ⟨v1, ts, e1, ht, htb, htz⟩ := open_rowsW (n := 4) TxC TxSz (by omega) Tryd.underlying46 (by kernel_rfl) (fun fuel cs x h hw => tx_cellsW h hw) h1 w1
  rw [show Tryd.prog.bytesOf 26 = 64 from by kernel_rfl] at htb
  refine ⟨hl, ⟨hd, ts⟩, ⟨v1, ?_, hk, ht⟩, htb, htz⟩
  have q1 := parts2 cs 68 1 (by omega)
  have a0 : (cs.drop 0).take 68 = hd.cells := e0
  have a1 : (cs.drop 68).take 1 = [v1] := e1
  rw [a0, a1] at q1
  exact q1
theorem open_blockW {H : Type} {enc : TypeId × Value → H} {W : World} {cs : Array Value} {d0 : DataW H} {p : List MemPlace} (h0 : DataW.Trod enc Tryd.prog W 0 (fun _ => true) true 52 (.agg cs) d0 p) (hw : Wts 52 d0) : ∃ b, BlkC W b cs.toList ∧ BlkSz b := by
  obtain ⟨fuel, hf⟩ := h0
  exact (blk_cellsW hf hw).2
theorem open_txsW {H : Type} {enc : TypeId × Value → H} {W : World} {a0 : Option Addr} {len cap : Nat} {d0 : DataW H} {p : List MemPlace} (h0 : DataW.Trod enc Tryd.prog W 0 (fun _ => true) true 46 (.slice a0 len cap) d0 p) (hw : Wts 46 d0) : ∃ ts, ESl TxC 4 W (.slice a0 len cap) ts ∧ (ts.length * 64 ≤ maxB ∧ ∀ t ∈ ts, TxSz t) := by
  obtain ⟨fuel, hf⟩ := h0
  obtain ⟨v, ts, e, h, hb, hz⟩ := open_rowsW (n := 4) TxC TxSz (by omega) Tryd.underlying46 (by kernel_rfl) (fun fuel cs x h hw => tx_cellsW h hw) hf hw
  have e' : [Value.slice a0 len cap] = [v] := e
  injection e' with e'
  subst e'
  rw [show Tryd.prog.bytesOf 26 = 64 from by kernel_rfl] at hb
  exact ⟨ts, h, hb, hz⟩
end Go.Proofs.YthglocpbdfcfnaaDoor
