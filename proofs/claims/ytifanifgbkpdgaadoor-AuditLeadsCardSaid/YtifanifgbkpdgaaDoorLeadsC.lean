/- sporranlaw24.AuditLeads: the walk. -/
import Derived.Test.YtifanifgbkpdgaaDoorLeadsB
import Derived.Deep.DeepCutAuto
import Derived.Deep.CutBlock
namespace Go.Proofs.YtifanifgbkpdgaaDoor
open Go.RowKit

/-- some hash lies in the block -/
def SomeHash (w wx : World) : Prop := ∃ f2 : List (BitVec 8), f2.length = 32 ∧ Blk wx w.heap.size 24 (hCells f2).toArray ∧ Below w.heap.size w wx
set_option maxRecDepth 100000 in
set_option maxHeartbeats 4000000 in
theorem auditLeads_walk (first : List (BitVec 8)) (p : Option Addr) (n c : Nat) (hs : List Hdr) (w : World) (hK : Laid w) (hf : first.length = 32) (hn : hs.length = n) (hok : ∀ x ∈ hs, x.ok) (hl : n ≤ c) (hcm : c ≤ maxLen) (hr : RowsN 68 w p (hs.map Hdr.cells)) :
    Calls Tryd.prog 4 #[.agg (hCells first).toArray, .slice p n c] w fun e w' => e = .returned (.bool true) ∧ Below w.heap.size w w' := by
  unfold maxLen at hcm
  have HN := Lib.hid hn
  have HK := Lib.hid hK
  have hKs := hK.size
  have HF := Lib.hid hf
  obtain ⟨C, hC⟩ : ∃ C, C = (hCells first).toArray := ⟨_, rfl⟩
  rw [← hC]
  have HC := Lib.hid hC
  obtain ⟨m, hm⟩ : ∃ m, m = min n 40 := ⟨_, rfl⟩
  obtain ⟨gs, hgs⟩ : ∃ gs, gs = hs.take m := ⟨_, rfl⟩
  have hgl : gs.length = m := by rw [hgs, List.length_take, hn]; omega
  have HGL := Lib.hid hgl
  have HO : Hid (∀ x ∈ gs, x.ok) := Lib.hid (fun x hx => hok x (by rw [hgs] at hx; exact List.mem_of_mem_take hx))
  have HR : Hid (RowsN 68 w p (gs.map Hdr.cells)) := Lib.hid (by rw [hgs, List.map_take]; exact hr.take m)
  have hmn : m ≤ n := by omega
  have hmc : m ≤ c := by omega
  have hmin : min (n : Int) 40 = (m : Int) := by omega
  clear hK hf hC hn hok hr hgs hgl hm
  go_enter Tryd.func4, Tryd.ntmps4
  go_upto_region 1 with fail
  refine wp_abst (fun w' => Hid (Blk w' w.heap.size 24 (hCells first).toArray) ∧ Below w.heap.size w w') ⟨Lib.hid (by rw [← HC.out]; exact Blk.new w _ _), (Below.refl _ _).alloc (Nat.le_refl _) _⟩ ?_
  rintro w1 ⟨hb1, hbel1⟩
  go_upto_region 2 with fail
  have hlt1 := hb1.out.lt
  obtain ⟨x, hx⟩ : ∃ x, first[0]? = some x := ⟨_, List.getElem?_eq_getElem (by rw [HF.out]; omega)⟩
  have c0 : w1.cell? ⟨w.heap.size, 0, none⟩ = some (.int .u8 (iv8 x)) := by rw [hb1.out.cell, List.getElem?_toArray, hCells, List.getElem?_map, hx]; rfl
  clear hx hmin
  by_cases hm0 : m = 0
  · subst hm0
    have hxl := hb1.out.lt
    have hKx := HK.out.below hbel1 hKs
    have hRx := HR.out.below hbel1 (Nat.le_refl _)
    go_upto_region 4 with fail
    refine region_plan [qq 0, qq 1, qq 3, qq 4, oo 2, oo 5, qq 6, qq 7, qq 8, oo 9, qq 10, qq 11] (fun W => Below (w1).heap.size (w1) W) (by kernel_rfl) (by kernel_rfl) (Below.refl _ _).drew ?_
    refine' plan_quiet (s := 34) (A1 := _) [0, 1, 3, 4] [_, _, _, _] _ rfl rfl rfl (fun W hW => ?hq1) _ (Below.refl _ _).drew (fun _ => ?hr1)
    case hq1 =>
      have r2 := fun k => hash_range ((hb1.out.below hW hxl).drewN k)
      simp only [List.getElem_toArray, List.getElem_cons_zero, List.getElem_cons_succ]
      refine quiet_load_mid rfl 24 (.tmp 2) rfl w.heap.size 0 rfl (hCells first) _ (fun w' ⟨k, hk⟩ => by rw [hk]; exact r2 k) Tryd.underlying24 rfl (hCells_info HF.out) ?_
      simp only [put_some, List.setIfInBounds_toArray, List.set_cons_succ, List.set_cons_zero]
      iterate 1 (go_big_quiet_step (fail))
      refine quiet_load_mid rfl 24 (.tmp 2) rfl w.heap.size 0 rfl (hCells first) _ (fun w' ⟨k, hk⟩ => by rw [hk]; exact r2 k) Tryd.underlying24 rfl (hCells_info HF.out) ?_
      simp only [put_some, List.setIfInBounds_toArray, List.set_cons_succ, List.set_cons_zero]
      iterate 1 (go_big_quiet_step (fail))
      refine wpQuiet_nil ?_
      rfl
    case hr1 =>
    refine plan_one rfl fun k => ?_
    go_wp2_with fail
    refine (leads_any first p 0 c gs _ HF.out (hKx.below (below_drewN (Below.refl _ _) _) (Nat.le_trans hKs hbel1.size)) HGL.out HO.out hmc hcm (hRx.below (below_drewN (Below.refl _ _) _) (Nat.le_refl _))).mono ?_
    rintro e w6 ⟨rfl, hb6⟩
    have hF6 : Below (w1).heap.size (w1) w6 := by
      refine Below.trans ?_ (hb6.mono (Nat.le_refl _))
      exact below_drewN (Below.refl _ _) _
    obtain ⟨R, hR⟩ : ∃ x, x = leadsP first gs := ⟨_, rfl⟩
    rw [← hR]
    have HRR := Lib.hid hR
    clear hR hb6
    go_wp2_with fail
    refine planQ_normal (And.intro hF6 ?_)
    refine plan_one rfl fun k2 => ?_
    go_wp2_with fail
    refine (refLeads_any first p 0 c gs _ HF.out HGL.out HO.out hmc hcm (hRx.below (below_drewN hF6 _) (Nat.le_refl _))).mono ?_
    rw [← HRR.out]
    rintro e w7 ⟨rfl, hb7⟩
    have hF7 : Below (w1).heap.size (w1) w7 := by
      refine Below.trans ?_ (hb7.mono hF6.size)
      exact below_drewN hF6 _
    clear hb7
    go_wp2_with fail
    refine planQ_normal (And.intro hF7 ?_)
    have hRR : (R == R) = true := by simp
    have hnil : leadsP first [] = true := rfl
    refine' plan_quiet (s := 34) (A1 := _) [6, 7, 8] [_, _, _] _ rfl rfl rfl (fun W hW => ?hq2) _ hF7 (fun _ => ?hr2)
    case hq2 =>
      have r2 := fun k => hash_range ((hb1.out.below hW hxl).drewN k)
      simp only [List.getElem_toArray, List.getElem_cons_zero, List.getElem_cons_succ]
      iterate 2 (go_big_quiet_step (fail))
      refine quiet_load_mid rfl 24 (.tmp 2) rfl w.heap.size 0 rfl (hCells first) _ (fun w' ⟨k, hk⟩ => by rw [hk]; exact r2 k) Tryd.underlying24 rfl (hCells_info HF.out) ?_
      simp only [put_some, List.setIfInBounds_toArray, List.set_cons_succ, List.set_cons_zero]
      refine wpQuiet_nil ?_
      rfl
    case hr2 =>
    refine plan_one rfl fun k3 => ?_
    go_wp2_with fail
    refine (leads_any first none 0 0 [] _ HF.out (hKx.below (below_drewN hF7 _) (Nat.le_trans hKs hbel1.size)) rfl (fun x hx => by cases hx) (Nat.le_refl _) (by omega) (fun h => absurd rfl h)).mono ?_
    rw [hnil]
    rintro e w8 ⟨rfl, hb8⟩
    have hF8 : Below (w1).heap.size (w1) w8 := by
      refine Below.trans ?_ (hb8.mono hF7.size)
      exact below_drewN hF7 _
    clear hb8
    go_wp2_with fail
    refine planQ_normal (And.intro hF8 ?_)
    refine' plan_quiet (s := 34) (A1 := _) (r := []) [10, 11] [_, _] _ rfl rfl rfl (fun W hW => ?hq3) _ hF8 (fun _ => ?hr3)
    case hq3 =>
      simp only [List.getElem_toArray, List.getElem_cons_zero, List.getElem_cons_succ]
      iterate 2 (go_big_quiet_step (fail))
      refine wpQuiet_nil ?_
      rfl
    case hr3 =>
    refine plan_end fun k9 => NoPanic.normal ?_
    go_wp2
    go_ret
    exact ⟨rfl, hbel1.trans ((below_drewN hF8 _).mono hbel1.size)⟩
  · have hmp : (0 : Int) < (m : Int) := by omega
    have hmp2 : 0 < m := by omega
    have h8 := iv8_lo x
    obtain ⟨b, off, hp, hbl, hrow⟩ := HR.out (map_ne (by rw [HGL.out]; omega))
    subst hp
    obtain ⟨_, hr0⟩ := hrow 0 _ (hAt_map (by rw [HGL.out]; omega))
    rw [Nat.zero_mul, Nat.add_zero] at hr0
    have hok0 := Lib.hid (hAt_ok HO.out 0)
    obtain ⟨h, hh⟩ : ∃ x, x = hAt gs 0 := ⟨_, rfl⟩
    rw [← hh] at hr0 hok0
    have r1 := rangeAt_below hr0 hbel1 hbl
    clear hrow hr0 hh hm0
    go_wp2_with (with_reducible refine wpList_load_mid (op := ⟨some 21, _, _, _, _, _⟩) ?_ 33 (.tmp 20) ?_ b off ?_ h.cells _ r1 Tryd.underlying33 ?_ ?_ ?_
                 · rfl
                 · rfl
                 · rfl
                 · rfl
                 · exact hdr_size hok0.out)
    · refine (refHdrID_any h hok0.out w1).mono ?_
      rintro e w2 ⟨rfl, hb2⟩
      have hx2 := hb1.out.below hb2 hlt1
      have hbw2 := hbel1.trans (hb2.mono hbel1.size)
      clear r1 hb1 hb2
      go_upto_region 4 with (with_reducible refine wp_store_blk (o := ⟨none, _, _, _, _, _⟩) ?_ 24 (.tmp 2) (.tmp 22) ?_ w.heap.size 24 (hCells first).toArray (hCells (hid h)).toArray ?_ ?_ hx2 ?_ ?_ ?_ w.heap.size w hbw2 ?_ ?_
                             · rfl
                             · rfl
                             · rfl
                             · rfl
                             · exact hCells_info' (hid_len h)
                             · rw [List.size_toArray, List.size_toArray, hCells, hCells, List.length_map, List.length_map, HF.out, hid_len]
                             · exact hCells_one _
                             · exact Nat.le_refl _
                             intro w3 hx3 hb3 hg3 hs3)
      clear hx2 hbw2 hg3 hs3
      have hxl := hx3.out.lt
      have hKx := HK.out.below hb3 hKs
      have hRx := HR.out.below hb3 (Nat.le_refl _)
      refine region_plan [qq 0, qq 1, qq 3, qq 4, oo 2, oo 5, qq 6, qq 7, qq 8, oo 9, qq 10, qq 11] (fun W => Below (w3).heap.size (w3) W) (by kernel_rfl) (by kernel_rfl) (Below.refl _ _).drew ?_
      refine' plan_quiet (s := 34) (A1 := _) [0, 1, 3, 4] [_, _, _, _] _ rfl rfl rfl (fun W hW => ?hq1) _ (Below.refl _ _).drew (fun _ => ?hr1)
      case hq1 =>
        have r2 := fun k => hash_range ((hx3.out.below hW hxl).drewN k)
        simp only [List.getElem_toArray, List.getElem_cons_zero, List.getElem_cons_succ, put_none]
        refine quiet_load_mid rfl 24 (.tmp 2) rfl w.heap.size 0 rfl (hCells (hid h)) _ (fun w' ⟨k, hk⟩ => by rw [hk]; exact r2 k) Tryd.underlying24 rfl (hCells_info (hid_len h)) ?_
        simp only [put_some, List.setIfInBounds_toArray, List.set_cons_succ, List.set_cons_zero]
        iterate 1 (go_big_quiet_step (fail))
        refine quiet_load_mid rfl 24 (.tmp 2) rfl w.heap.size 0 rfl (hCells (hid h)) _ (fun w' ⟨k, hk⟩ => by rw [hk]; exact r2 k) Tryd.underlying24 rfl (hCells_info (hid_len h)) ?_
        simp only [put_some, List.setIfInBounds_toArray, List.set_cons_succ, List.set_cons_zero]
        iterate 1 (go_big_quiet_step (fail))
        refine wpQuiet_nil ?_
        rfl
      case hr1 =>
      refine plan_one rfl fun k => ?_
      go_wp2_with fail
      refine (leads_any (hid h) (some ⟨b, off, none⟩) m c gs _ (hid_len h) (hKx.below (below_drewN (Below.refl _ _) _) (Nat.le_trans hKs hb3.size)) HGL.out HO.out hmc hcm (hRx.below (below_drewN (Below.refl _ _) _) (Nat.le_refl _))).mono ?_
      rintro e w6 ⟨rfl, hb6⟩
      have hF6 : Below (w3).heap.size (w3) w6 := by
        refine Below.trans ?_ (hb6.mono (Nat.le_refl _))
        exact below_drewN (Below.refl _ _) _
      obtain ⟨R, hR⟩ : ∃ x, x = leadsP (hid h) gs := ⟨_, rfl⟩
      rw [← hR]
      have HRR := Lib.hid hR
      clear hR hb6
      go_wp2_with fail
      refine planQ_normal (And.intro hF6 ?_)
      refine plan_one rfl fun k2 => ?_
      go_wp2_with fail
      refine (refLeads_any (hid h) (some ⟨b, off, none⟩) m c gs _ (hid_len h) HGL.out HO.out hmc hcm (hRx.below (below_drewN hF6 _) (Nat.le_refl _))).mono ?_
      rw [← HRR.out]
      rintro e w7 ⟨rfl, hb7⟩
      have hF7 : Below (w3).heap.size (w3) w7 := by
        refine Below.trans ?_ (hb7.mono hF6.size)
        exact below_drewN hF6 _
      clear hb7
      go_wp2_with fail
      refine planQ_normal (And.intro hF7 ?_)
      have hRR : (R == R) = true := by simp
      have hnil : leadsP (hid h) [] = true := rfl
      refine' plan_quiet (s := 34) (A1 := _) [6, 7, 8] [_, _, _] _ rfl rfl rfl (fun W hW => ?hq2) _ hF7 (fun _ => ?hr2)
      case hq2 =>
        have r2 := fun k => hash_range ((hx3.out.below hW hxl).drewN k)
        simp only [List.getElem_toArray, List.getElem_cons_zero, List.getElem_cons_succ]
        iterate 2 (go_big_quiet_step (fail))
        refine quiet_load_mid rfl 24 (.tmp 2) rfl w.heap.size 0 rfl (hCells (hid h)) _ (fun w' ⟨k, hk⟩ => by rw [hk]; exact r2 k) Tryd.underlying24 rfl (hCells_info (hid_len h)) ?_
        simp only [put_some, List.setIfInBounds_toArray, List.set_cons_succ, List.set_cons_zero]
        refine wpQuiet_nil ?_
        rfl
      case hr2 =>
      refine plan_one rfl fun k3 => ?_
      go_wp2_with fail
      refine (leads_any (hid h) none 0 0 [] _ (hid_len h) (hKx.below (below_drewN hF7 _) (Nat.le_trans hKs hb3.size)) rfl (fun x hx => by cases hx) (Nat.le_refl _) (by omega) (fun h => absurd rfl h)).mono ?_
      rw [hnil]
      rintro e w8 ⟨rfl, hb8⟩
      have hF8 : Below (w3).heap.size (w3) w8 := by
        refine Below.trans ?_ (hb8.mono hF7.size)
        exact below_drewN hF7 _
      clear hb8
      go_wp2_with fail
      refine planQ_normal (And.intro hF8 ?_)
      refine' plan_quiet (s := 34) (A1 := _) (r := []) [10, 11] [_, _] _ rfl rfl rfl (fun W hW => ?hq3) _ hF8 (fun _ => ?hr3)
      case hq3 =>
        simp only [List.getElem_toArray, List.getElem_cons_zero, List.getElem_cons_succ]
        iterate 2 (go_big_quiet_step (fail))
        refine wpQuiet_nil ?_
        rfl
      case hr3 =>
      refine plan_end fun k9 => NoPanic.normal ?_
      go_wp2
      go_ret
      exact ⟨rfl, hb3.trans ((below_drewN hF8 _).mono hb3.size)⟩
    · clear r1
      have hxl := hb1.out.lt
      have hKx := HK.out.below hbel1 hKs
      have hRx := HR.out.below hbel1 (Nat.le_refl _)
      refine region_plan [qq 0, qq 1, qq 3, qq 4, oo 2, oo 5, qq 6, qq 7, qq 8, oo 9, qq 10, qq 11] (fun W => Below (w1).heap.size (w1) W) (by kernel_rfl) (by kernel_rfl) (Below.refl _ _).drew ?_
      refine' plan_quiet (s := 34) (A1 := _) [0, 1, 3, 4] [_, _, _, _] _ rfl rfl rfl (fun W hW => ?hq1) _ (Below.refl _ _).drew (fun _ => ?hr1)
      case hq1 =>
        have r2 := fun k => hash_range ((hb1.out.below hW hxl).drewN k)
        simp only [List.getElem_toArray, List.getElem_cons_zero, List.getElem_cons_succ]
        refine quiet_load_mid rfl 24 (.tmp 2) rfl w.heap.size 0 rfl (hCells first) _ (fun w' ⟨k, hk⟩ => by rw [hk]; exact r2 k) Tryd.underlying24 rfl (hCells_info HF.out) ?_
        simp only [put_some, List.setIfInBounds_toArray, List.set_cons_succ, List.set_cons_zero]
        iterate 1 (go_big_quiet_step (fail))
        refine quiet_load_mid rfl 24 (.tmp 2) rfl w.heap.size 0 rfl (hCells first) _ (fun w' ⟨k, hk⟩ => by rw [hk]; exact r2 k) Tryd.underlying24 rfl (hCells_info HF.out) ?_
        simp only [put_some, List.setIfInBounds_toArray, List.set_cons_succ, List.set_cons_zero]
        iterate 1 (go_big_quiet_step (fail))
        refine wpQuiet_nil ?_
        rfl
      case hr1 =>
      refine plan_one rfl fun k => ?_
      go_wp2_with fail
      refine (leads_any first (some ⟨b, off, none⟩) m c gs _ HF.out (hKx.below (below_drewN (Below.refl _ _) _) (Nat.le_trans hKs hbel1.size)) HGL.out HO.out hmc hcm (hRx.below (below_drewN (Below.refl _ _) _) (Nat.le_refl _))).mono ?_
      rintro e w6 ⟨rfl, hb6⟩
      have hF6 : Below (w1).heap.size (w1) w6 := by
        refine Below.trans ?_ (hb6.mono (Nat.le_refl _))
        exact below_drewN (Below.refl _ _) _
      obtain ⟨R, hR⟩ : ∃ x, x = leadsP first gs := ⟨_, rfl⟩
      rw [← hR]
      have HRR := Lib.hid hR
      clear hR hb6
      go_wp2_with fail
      refine planQ_normal (And.intro hF6 ?_)
      refine plan_one rfl fun k2 => ?_
      go_wp2_with fail
      refine (refLeads_any first (some ⟨b, off, none⟩) m c gs _ HF.out HGL.out HO.out hmc hcm (hRx.below (below_drewN hF6 _) (Nat.le_refl _))).mono ?_
      rw [← HRR.out]
      rintro e w7 ⟨rfl, hb7⟩
      have hF7 : Below (w1).heap.size (w1) w7 := by
        refine Below.trans ?_ (hb7.mono hF6.size)
        exact below_drewN hF6 _
      clear hb7
      go_wp2_with fail
      refine planQ_normal (And.intro hF7 ?_)
      have hRR : (R == R) = true := by simp
      have hnil : leadsP first [] = true := rfl
      refine' plan_quiet (s := 34) (A1 := _) [6, 7, 8] [_, _, _] _ rfl rfl rfl (fun W hW => ?hq2) _ hF7 (fun _ => ?hr2)
      case hq2 =>
        have r2 := fun k => hash_range ((hb1.out.below hW hxl).drewN k)
        simp only [List.getElem_toArray, List.getElem_cons_zero, List.getElem_cons_succ]
        iterate 2 (go_big_quiet_step (fail))
        refine quiet_load_mid rfl 24 (.tmp 2) rfl w.heap.size 0 rfl (hCells first) _ (fun w' ⟨k, hk⟩ => by rw [hk]; exact r2 k) Tryd.underlying24 rfl (hCells_info HF.out) ?_
        simp only [put_some, List.setIfInBounds_toArray, List.set_cons_succ, List.set_cons_zero]
        refine wpQuiet_nil ?_
        rfl
      case hr2 =>
      refine plan_one rfl fun k3 => ?_
      go_wp2_with fail
      refine (leads_any first none 0 0 [] _ HF.out (hKx.below (below_drewN hF7 _) (Nat.le_trans hKs hbel1.size)) rfl (fun x hx => by cases hx) (Nat.le_refl _) (by omega) (fun h => absurd rfl h)).mono ?_
      rw [hnil]
      rintro e w8 ⟨rfl, hb8⟩
      have hF8 : Below (w1).heap.size (w1) w8 := by
        refine Below.trans ?_ (hb8.mono hF7.size)
        exact below_drewN hF7 _
      clear hb8
      go_wp2_with fail
      refine planQ_normal (And.intro hF8 ?_)
      refine' plan_quiet (s := 34) (A1 := _) (r := []) [10, 11] [_, _] _ rfl rfl rfl (fun W hW => ?hq3) _ hF8 (fun _ => ?hr3)
      case hq3 =>
        simp only [List.getElem_toArray, List.getElem_cons_zero, List.getElem_cons_succ]
        iterate 2 (go_big_quiet_step (fail))
        refine wpQuiet_nil ?_
        rfl
      case hr3 =>
      refine plan_end fun k9 => NoPanic.normal ?_
      go_wp2
      go_ret
      exact ⟨rfl, hbel1.trans ((below_drewN hF8 _).mono hbel1.size)⟩
end Go.Proofs.YtifanifgbkpdgaaDoor
