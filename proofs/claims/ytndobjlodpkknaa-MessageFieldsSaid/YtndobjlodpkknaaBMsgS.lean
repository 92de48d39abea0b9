/- sporranplain.SameMessage on messages that are the same: the walk.  -/
import Derived.Test.YtndobjlodpkknaaBMsgC
import Derived.Test.YtndobjlodpkknaaBGK
import Derived.Test.YtndobjlodpkknaaBGH
import Derived.Test.YtndobjlodpkknaaBGS
import Derived.Test.YtndobjlodpkknaaBGA
namespace Go.Proofs.Ytndobjlodpkknaa
open Go Go.RowKit
set_option linter.unusedVariables false
set_option maxRecDepth 100000 in
set_option maxHeartbeats 8000000 in
theorem eqHashes_any (u v : Value) (xs : List Bs) (w : World) (hu : ESl HashE 32 w u xs) (hv : ESl HashE 32 w v xs) :
    Calls Try.prog 23 #[u, v] w fun e w' => e = .returned (.bool true) ∧ Below w.heap.size w w' := by
  obtain ⟨p, n, c, rfl⟩ := hu.opens
  obtain ⟨q, m, d, rfl⟩ := hv.opens
  have HU := Lib.hid hu
  have HV := Lib.hid hv
  obtain ⟨hn, hnc, hcm⟩ := hu.slen
  obtain ⟨hm, hmd, hdm⟩ := hv.slen
  have hnm : n = m := hn.symm.trans hm
  subst hnm
  clear hu hv hn hm
  go_enter Try.func23, Try.ntmps23
  go_upto_region 4 with fail
  go_loopw [13] (fun i wr => ∃ k : Nat, k ≤ n ∧ i = .int .i64 k ∧ Hid (Below w.heap.size w wr)) (fun i _ => n - (intOf i).toNat)
  case atStart => exact ⟨0, by omega, rfl, Lib.hid (Below.refl _ _)⟩
  case round =>
    obtain ⟨k, hk, rfl, HWk⟩ := hrel
    by_cases hkn : k < n
    · have hlt : (k : Int) < (n : Int) := by omega
      obtain ⟨b, off, cs, x, rfl, hx, hE, l2⟩ := HU.out.at HWk.out hkn
      obtain ⟨b', off', ds, x', rfl, hx', hE', l3⟩ := HV.out.at HWk.out hkn
      have hxx : x' = x := by rw [hx] at hx'; injection hx' with h; exact h.symm
      subst hxx
      obtain ⟨hcs, hxl⟩ := hE
      obtain ⟨hds, _⟩ := hE'
      have hdc : ds = cs := hds.trans hcs.symm
      subst hdc
      have HCS := Lib.hid hcs
      have HXL := Lib.hid hxl
      have L2 := Lib.hid l2
      have L3 := Lib.hid l3
      have LT2 := Lib.hid (HU.out.lt HWk.out hkn)
      have LT3 := Lib.hid (HV.out.lt HWk.out hkn)
      have hcl : ds.length = 32 := by rw [hcs]; simp [hCells, hxl]
      have HCL := Lib.hid hcl
      have heq : ∀ w, (Op.equalIn 10000 29 (.agg ds.toArray) (.agg ds.toArray)).run Try.prog w = .ok true w := fun w => by rw [hcs]; exact hash_same x' hxl w
      clear hx hx' hcs hds hxl l2 l3 hcl
      go_upto_region 6 with fail
      have hF0 := below_draws wr 1
      refine region_plan [qq 0, qq 1, qq 2, qq 3, qq 4, qq 5, qq 6, qq 7, qq 8] (fun W => Below wr.heap.size wr W) (by kernel_rfl) (by kernel_rfl) hF0 ?_
      refine' plan_quiet (s := 26) (A1 := _) (r := []) [0, 1, 2, 3, 4, 5, 6, 7, 8] [_, _, _, _, _, _, _, _, _] _ rfl rfl rfl (fun W hW => ?hq1) _ hF0 (fun _ => ?hr1)
      case hq1 =>
        simp only [List.getElem_toArray, List.getElem_cons_zero, List.getElem_cons_succ]
        iterate 3 (go_big_quiet_step (fail))
        refine quiet_load_mid rfl 29 (.tmp 18) rfl b (off + k * 32) rfl ds _ (fun w hw => ?_) Try.underlying29 rfl (by rw [HCL.out]; kernel_rfl) ?_
        · obtain ⟨j, rfl⟩ := hw
          exact range_fut L2.out (hW.trans ((below_draws W j).mono hW.size)) LT2.out
        simp only [put_some, List.setIfInBounds_toArray, List.set_cons_succ, List.set_cons_zero]
        iterate 3 (go_big_quiet_step (fail))
        refine quiet_load_mid rfl 29 (.tmp 22) rfl b' (off' + k * 32) rfl ds _ (fun w hw => ?_) Try.underlying29 rfl (by rw [HCL.out]; kernel_rfl) ?_
        · obtain ⟨j, rfl⟩ := hw
          exact range_fut L3.out (hW.trans ((below_draws W j).mono hW.size)) LT3.out
        simp only [put_some, List.setIfInBounds_toArray, List.set_cons_succ, List.set_cons_zero]
        iterate 1 (go_big_quiet_step (fail))
        refine wpQuiet_nil ?_
        rfl
      case hr1 =>
      refine plan_end fun j => NoPanic.normal ?_
      have HB2 := Lib.hid (HWk.out.trans ((below_drewN (Below.refl wr.heap.size wr).drew j).mono HWk.out.size))
      generalize wr.drew.drewN j = w2 at *
      go_wp2_with fail
      go_roundw
      case rel => exact ⟨k + 1, by omega, by go_num, HB2⟩
      case measure => simp [intOf]; omega
    · obtain rfl : k = n := by omega
      have hge : ¬ (k : Int) < (k : Int) := by omega
      go_wp2_with fail
      go_ret
      exact ⟨rfl, HWk.out⟩
set_option maxRecDepth 100000 in
set_option maxHeartbeats 8000000 in
theorem eqHdrs_any (u v : Value) (xs : List Hdr) (w : World) (hu : ESl HdrE 68 w u xs) (hv : ESl HdrE 68 w v xs) :
    Calls Try.prog 24 #[u, v] w fun e w' => e = .returned (.bool true) ∧ Below w.heap.size w w' := by
  obtain ⟨p, n, c, rfl⟩ := hu.opens
  obtain ⟨q, m, d, rfl⟩ := hv.opens
  have HU := Lib.hid hu
  have HV := Lib.hid hv
  obtain ⟨hn, hnc, hcm⟩ := hu.slen
  obtain ⟨hm, hmd, hdm⟩ := hv.slen
  have hnm : n = m := hn.symm.trans hm
  subst hnm
  clear hu hv hn hm
  go_enter Try.func24, Try.ntmps24
  go_upto_region 4 with fail
  go_loopw [13] (fun i wr => ∃ k : Nat, k ≤ n ∧ i = .int .i64 k ∧ Hid (Below w.heap.size w wr)) (fun i _ => n - (intOf i).toNat)
  case atStart => exact ⟨0, by omega, rfl, Lib.hid (Below.refl _ _)⟩
  case round =>
    obtain ⟨k, hk, rfl, HWk⟩ := hrel
    by_cases hkn : k < n
    · have hlt : (k : Int) < (n : Int) := by omega
      obtain ⟨b, off, cs, x, rfl, hx, hE, l2⟩ := HU.out.at HWk.out hkn
      obtain ⟨b', off', ds, x', rfl, hx', hE', l3⟩ := HV.out.at HWk.out hkn
      have hxx : x' = x := by rw [hx] at hx'; injection hx' with h; exact h.symm
      subst hxx
      obtain ⟨hcs, hxl⟩ := hE
      obtain ⟨hds, _⟩ := hE'
      have hdc : ds = cs := hds.trans hcs.symm
      subst hdc
      have HCS := Lib.hid hcs
      have HXL := Lib.hid hxl
      have L2 := Lib.hid l2
      have L3 := Lib.hid l3
      have LT2 := Lib.hid (HU.out.lt HWk.out hkn)
      have LT3 := Lib.hid (HV.out.lt HWk.out hkn)
      have hcl : ds.length = 68 := by rw [hcs]; exact Hdr.cells_len hxl
      have HCL := Lib.hid hcl
      have heq : ∀ w, (Op.equalIn 10000 33 (.agg ds.toArray) (.agg ds.toArray)).run Try.prog w = .ok true w := fun w => by rw [hcs]; exact hdr_same x' hxl w
      clear hx hx' hcs hds hxl l2 l3 hcl
      go_upto_region 6 with fail
      have hF0 := below_draws wr 1
      refine region_plan [qq 0, qq 1, qq 2, qq 3, qq 4, qq 5, qq 6, qq 7, qq 8] (fun W => Below wr.heap.size wr W) (by kernel_rfl) (by kernel_rfl) hF0 ?_
      refine' plan_quiet (s := 26) (A1 := _) (r := []) [0, 1, 2, 3, 4, 5, 6, 7, 8] [_, _, _, _, _, _, _, _, _] _ rfl rfl rfl (fun W hW => ?hq1) _ hF0 (fun _ => ?hr1)
      case hq1 =>
        simp only [List.getElem_toArray, List.getElem_cons_zero, List.getElem_cons_succ]
        iterate 3 (go_big_quiet_step (fail))
        refine quiet_load_mid rfl 33 (.tmp 18) rfl b (off + k * 68) rfl ds _ (fun w hw => ?_) Try.underlying33 rfl (by rw [HCL.out]; kernel_rfl) ?_
        · obtain ⟨j, rfl⟩ := hw
          exact range_fut L2.out (hW.trans ((below_draws W j).mono hW.size)) LT2.out
        simp only [put_some, List.setIfInBounds_toArray, List.set_cons_succ, List.set_cons_zero]
        iterate 3 (go_big_quiet_step (fail))
        refine quiet_load_mid rfl 33 (.tmp 22) rfl b' (off' + k * 68) rfl ds _ (fun w hw => ?_) Try.underlying33 rfl (by rw [HCL.out]; kernel_rfl) ?_
        · obtain ⟨j, rfl⟩ := hw
          exact range_fut L3.out (hW.trans ((below_draws W j).mono hW.size)) LT3.out
        simp only [put_some, List.setIfInBounds_toArray, List.set_cons_succ, List.set_cons_zero]
        iterate 1 (go_big_quiet_step (fail))
        refine wpQuiet_nil ?_
        rfl
      case hr1 =>
      refine plan_end fun j => NoPanic.normal ?_
      have HB2 := Lib.hid (HWk.out.trans ((below_drewN (Below.refl wr.heap.size wr).drew j).mono HWk.out.size))
      generalize wr.drew.drewN j = w2 at *
      go_wp2_with fail
      go_roundw
      case rel => exact ⟨k + 1, by omega, by go_num, HB2⟩
      case measure => simp [intOf]; omega
    · obtain rfl : k = n := by omega
      have hge : ¬ (k : Int) < (k : Int) := by omega
      go_wp2_with fail
      go_ret
      exact ⟨rfl, HWk.out⟩
set_option maxRecDepth 100000 in
set_option maxHeartbeats 8000000 in
theorem sameMsg_any (m : TMsg) (cs ds : List Value) (w : World) (h1 : MsgC w m cs) (h2 : MsgC w m ds) : Calls Try.prog 10 #[.agg cs.toArray, .agg ds.toArray] w fun e w' => e = .returned (.bool true) ∧ Below w.heap.size w w' := by
  obtain ⟨hv, dv, bv, bc, hcs, hpv, hst, hh, hd, hb, hbl⟩ := h1
  obtain ⟨hv', dv', bv', bc', hds, _, _, hh', hd', hb', hbl'⟩ := h2
  obtain ⟨p3, n3, c3, rfl, hn3, hnc3, hcm3, hr3, _⟩ := hb
  obtain ⟨q3, m3, d3, rfl, hm3, hmc3, hdm3, hs3, _⟩ := hb'
  have hB1 := Blk.new w 38 cs.toArray
  have hb1 := below_new w (.cells cs.toArray 38)
  obtain ⟨w1, hw1⟩ : ∃ W, W = w.alloc (.cells cs.toArray 38) := ⟨_, rfl⟩
  rw [← hw1] at hB1 hb1
  have hB2 := Blk.new w1 38 ds.toArray
  have hb2 := below_new w1 (.cells ds.toArray 38)
  obtain ⟨w2, hw2⟩ : ∃ W, W = w1.alloc (.cells ds.toArray 38) := ⟨_, rfl⟩
  rw [← hw2] at hB2 hb2
  have hb02 := below_fut hb1 hb2 (Nat.le_refl _)
  obtain ⟨z1, hz1⟩ : ∃ z, z = w.heap.size := ⟨_, rfl⟩
  obtain ⟨z2, hz2⟩ : ∃ z, z = z1 + 1 := ⟨_, rfl⟩
  have hz2' : w1.heap.size = z2 := by rw [hw1, World.size_alloc, hz2, hz1]
  rw [hz2'] at hB2
  have hA : Blk w2 z1 38 (msgCells (.int .i64 m.k) (u32 m.nu) (u64 m.no) m.pv m.st hv dv (.slice p3 n3 c3) bc).toArray := by rw [← hcs, hz1]; exact hB1.fut hb2
  have hD : Blk w2 z2 38 (msgCells (.int .i64 m.k) (u32 m.nu) (u64 m.no) m.pv m.st hv' dv' (.slice q3 m3 d3) bc').toArray := by rw [← hds]; exact hB2
  have ha1 := hA.msg hpv hst
  have ha2 := hD.msg hpv hst
  have HA := Lib.hid hA
  have HD := Lib.hid hD
  obtain ⟨a0, a1, a2, ap, aq, a67, a68, a69, ab⟩ := ha1
  obtain ⟨b0, b1, b2, bp, bq, b67, b68, b69, bb⟩ := ha2
  have k1 := eqHashes_any hv hv' m.hs w2 (hh.fut hashE_c hb02) (hh'.fut hashE_c hb02)
  have K2 := Lib.hid (And.intro (hd.fut hdrE_c hb02) (hd'.fut hdrE_c hb02))
  have K3 := Lib.hid (And.intro (hr3.below hb02 (Nat.le_refl _)) (hs3.below hb02 (Nat.le_refl _)))
  have K4 := Lib.hid (And.intro (blkC_keeps _ _ _ _ hbl hb02) (blkC_keeps _ _ _ _ hbl' hb02))
  have HN := Lib.hid (And.intro hn3 hm3)
  have HPV := Lib.hid hpv
  have HST := Lib.hid hst
  have HBL := Lib.hid hbl.len
  have HBL' := Lib.hid hbl'.len
  have HB := Lib.hid hb02
  have hnm : n3 = m3 := hn3.symm.trans hm3
  have e1 := hash_same m.pv hpv
  have e2 := hash_same m.st hst
  obtain ⟨kk, hkk⟩ : ∃ k, k = m.k := ⟨_, rfl⟩
  rw [← hkk] at a0 b0
  obtain ⟨p1, n1, c1, rfl⟩ := hh.opens
  obtain ⟨q1, m1, d1, rfl⟩ := hh'.opens
  obtain ⟨p2, n2, c2, rfl⟩ := hd.opens
  obtain ⟨q2, m2, d2, rfl⟩ := hd'.opens
  clear hcs hds hpv hst hh hd hbl hh' hd' hbl' hn3 hm3 hr3 hs3 hB1 hB2 hb1 hb2 hb02 hkk ab bb hA hD
  subst hnm
  go_enter Try.func10, Try.ntmps10
  go_upto_region 1 with fail
  rw [← hw1, ← hw2, ← hz1, ← hz2]
  clear hw1 hw2 hz1 hz2
  go_wp2_with (first
    | (with_reducible refine wpList_load_midG (op := ⟨some 26, _, _, _, _, _⟩) ?_ 29 (.tmp 25) ?_ (z1) (3) ?_ ((hCells (m.pv))) _ (ap) Try.underlying29 ?_ ?_ ?_
       · rfl
       · rfl
       · rfl
       · rfl
       · exact (hCells_info (HPV.out)))
    | (with_reducible refine wpList_load_midG (op := ⟨some 28, _, _, _, _, _⟩) ?_ 29 (.tmp 27) ?_ (z2) (3) ?_ ((hCells (m.pv))) _ (bp) Try.underlying29 ?_ ?_ ?_
       · rfl
       · rfl
       · rfl
       · rfl
       · exact (hCells_info (HPV.out)))
    | (with_reducible refine wpList_load_midG (op := ⟨some 33, _, _, _, _, _⟩) ?_ 29 (.tmp 32) ?_ (z1) (35) ?_ ((hCells (m.st))) _ (aq) Try.underlying29 ?_ ?_ ?_
       · rfl
       · rfl
       · rfl
       · rfl
       · exact (hCells_info (HST.out)))
    | (with_reducible refine wpList_load_midG (op := ⟨some 35, _, _, _, _, _⟩) ?_ 29 (.tmp 34) ?_ (z2) (35) ?_ ((hCells (m.st))) _ (bq) Try.underlying29 ?_ ?_ ?_
       · rfl
       · rfl
       · rfl
       · rfl
       · exact (hCells_info (HST.out))))
  refine k1.mono ?_
  rintro e w3 ⟨rfl, hb3⟩
  have k2 := eqHdrs_any _ _ m.hd w3 (K2.out.1.fut hdrE_c hb3) (K2.out.2.fut hdrE_c hb3)
  have HA3 := Lib.hid (HA.out.fut hb3)
  have HD3 := Lib.hid (HD.out.fut hb3)
  obtain ⟨_, _, _, _, _, _, a68', a69', _⟩ := HA3.out.msg HPV.out HST.out
  obtain ⟨_, _, _, _, _, _, b68', b69', _⟩ := HD3.out.msg HPV.out HST.out
  have HB3 := Lib.hid (below_fut HB.out hb3 (Nat.le_refl _))
  have K33 := Lib.hid (And.intro (K3.out.1.below hb3 (Nat.le_refl _)) (K3.out.2.below hb3 (Nat.le_refl _)))
  have K43 := Lib.hid (And.intro (blkC_keeps _ _ _ _ K4.out.1 hb3) (blkC_keeps _ _ _ _ K4.out.2 hb3))
  clear k1 hb3 a68 b68 a69 b69 a0 b0 a1 b1 a2 b2 ap bp aq bq a67 b67 K2 K3 K4 HB HA HD
  go_wp2_with fail
  refine k2.mono ?_
  rintro e w4 ⟨rfl, hb4⟩
  have HA4 := Lib.hid (HA3.out.fut hb4)
  have HD4 := Lib.hid (HD3.out.fut hb4)
  obtain ⟨_, _, _, _, _, _, _, a69, ab⟩ := HA4.out.msg HPV.out HST.out
  obtain ⟨_, _, _, _, _, _, _, b69, bb⟩ := HD4.out.msg HPV.out HST.out
  have HB4 := Lib.hid (below_fut HB3.out hb4 (Nat.le_refl _))
  have k3 := equal_any p3 q3 n3 c3 n3 d3 m.tx m.tx w4 (K33.out.1.below hb4 (Nat.le_refl _)) (K33.out.2.below hb4 (Nat.le_refl _)) HN.out.1 HN.out.2
  rw [decide_eq_true rfl] at k3
  have k4 := sameBlk_any m.bl bc bc' w4 (blkC_keeps _ _ _ _ K43.out.1 hb4) (blkC_keeps _ _ _ _ K43.out.2 hb4)
  clear k2 hb4 a68' b68' a69' b69' HA3 HD3 HB3 K33 K43
  go_wp2_with fail
  refine k3.mono ?_
  rintro e w5 ⟨rfl, hw5⟩
  replace hw5 := hw5.symm
  subst hw5
  clear k3
  go_wp2_with (first
    | (with_reducible refine wpList_load_midG (op := ⟨some 61, _, _, _, _, _⟩) ?_ 36 (.tmp 60) ?_ (z1) (70) ?_ (bc) _ (ab) Try.underlying36 ?_ ?_ ?_
       · rfl
       · rfl
       · rfl
       · rfl
       · exact ((info_Blk HBL.out)))
    | (with_reducible refine wpList_load_midG (op := ⟨some 63, _, _, _, _, _⟩) ?_ 36 (.tmp 62) ?_ (z2) (70) ?_ (bc') _ (bb) Try.underlying36 ?_ ?_ ?_
       · rfl
       · rfl
       · rfl
       · rfl
       · exact ((info_Blk HBL'.out))))
  refine k4.mono ?_
  rintro e w6 ⟨rfl, hb6⟩
  go_wp2_with fail
  go_ret
  exact ⟨rfl, below_fut HB4.out hb6 (Nat.le_refl _)⟩
end Go.Proofs.Ytndobjlodpkknaa
