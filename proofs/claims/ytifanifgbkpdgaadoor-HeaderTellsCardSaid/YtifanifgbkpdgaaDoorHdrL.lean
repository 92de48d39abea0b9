/- sporranlaw06.HeaderTells: the walk. -/
import Derived.Test.YtifanifgbkpdgaaDoorHdrK
namespace Go.Proofs.YtifanifgbkpdgaaDoor
open Go.RowKit

theorem hdrP_ok (bs : List (BitVec 8)) : (hdrP bs).1.ok := by
  unfold hdrP
  split
  · exact noHdr_ok
  · exact hdrOf_ok bs (by omega)

set_option maxRecDepth 100000 in
set_option maxHeartbeats 4000000 in
theorem headerTells_walk (h : Hdr) (p : Option Addr) (n c : Nat) (bs : List (BitVec 8)) (w : World) (hK : Laid w) (hk : h.ok) (hn : bs.length = n) (hl : n ≤ c) (hcb : c ≤ 140737488351232) (hr : Row8 w p bs) (hp : p = none → c = 0) :
    Calls Tryd.prog 5 #[.agg h.cells.toArray, .slice p n c] w fun e w' => e = .returned (.bool true) ∧ Below w.heap.size w w' := by
  have HN := Lib.hid hn
  have HK := Lib.hid hK
  have HH := Lib.hid hk
  have hKs := hK.size
  have HR := Lib.hid hr
  have hz := zeroHdr
  obtain ⟨Z, hZ⟩ : ∃ Z, Z = noHdr.cells.toArray := ⟨_, rfl⟩
  rw [← hZ] at hz
  have HZS : Hid (Z.size = 68) := Lib.hid (by rw [hZ, List.size_toArray, Hdr.cells_len noHdr_ok])
  obtain ⟨C, hC⟩ : ∃ C, C = h.cells.toArray := ⟨_, rfl⟩
  rw [← hC]
  have HC := Lib.hid hC
  have okx := hdrP_ok bs
  obtain ⟨X, hX⟩ : ∃ x, x = hdrP bs := ⟨_, rfl⟩
  rw [← hX] at okx
  obtain ⟨g, R, E⟩ := X
  have HX := Lib.hid hX
  have HG : Hid g.ok := Lib.hid okx
  have smH := hash_same (hid h) (hid_len h)
  obtain ⟨V, hV⟩ : ∃ V, V = (hCells (hid h)).toArray := ⟨_, rfl⟩
  rw [← hV] at smH
  have HV := Lib.hid hV
  clear hV
  have smG := hdr_same g okx
  have hE : (E == E) = true := by simp
  clear hn hK hk hr hZ hC hX okx
  go_enter Tryd.func5, Tryd.ntmps5
  go_upto_region 1 with fail
  refine wp_abst (fun w' => Hid (Blk w' w.heap.size 33 h.cells.toArray) ∧ Below w.heap.size w w') ⟨Lib.hid (by rw [← HC.out]; exact Blk.new w _ _), (Below.refl _ _).alloc (Nat.le_refl _) _⟩ ?_
  rintro w1 ⟨hh1, hb1⟩
  have hlt1 := hh1.out.lt
  go_wp2_with fail
  refine (clone_any p n c bs _ (HR.out.below hb1 (Nat.le_refl _)) HN.out (by omega) (fun h => by have := hp h; omega)).mono ?_
  rintro e w2 ⟨v2, rfl, ho2, hb2⟩
  obtain ⟨p2, n2, c2, rfl, H2, hl2, hm2, hr2⟩ := ho2.open
  have hn2 : n2 = n := H2.out.symm.trans HN.out
  subst hn2
  have hbw2 := hb1.trans (hb2.mono hb1.size)
  clear ho2
  go_wp2_with fail
  refine (hdrDecode_any p2 n2 c2 bs _ hr2 HN.out hl2 hm2 (by omega)).mono ?_
  rw [← HX.out]
  rintro e w3 ⟨v3, rfl, ho3, hb3⟩
  dsimp only at ho3 ⊢
  obtain ⟨p3, n3, c3, rfl, H3, hl3, hm3, hr3⟩ := ho3.open
  have hr23 := hr2.below hb3 (Nat.le_refl _)
  have hbw3 := hbw2.trans (hb3.mono hbw2.size)
  have hh3 := (hh1.out.below hb2 hlt1).below hb3 (by have := hb2.size; omega)
  clear ho3 hr2 hbw2 hb3 hb2 hh1 hb1
  go_upto_region 3 with (with_reducible refine wp_store_blk (o := ⟨none, _, _, _, _, _⟩) ?_ 33 (.tmp 6) (.tmp 17) ?_ w3.heap.size 33 Z g.cells.toArray ?_ ?_ (Blk.new w3 _ _) ?_ ?_ ?_ w3.heap.size w3 ?_ ?_ ?_
                         · rfl
                         · rfl
                         · rfl
                         · rfl
                         · rw [List.size_toArray]; exact hdr_size HG.out
                         · exact HZS.out.trans (by rw [List.size_toArray, Hdr.cells_len HG.out])
                         · exact Hdr.cells_one _
                         · exact (Below.refl _ _).alloc (Nat.le_refl _) _
                         · exact Nat.le_refl _
                         intro w4 hx4 hb4 hg4 hs4)
  obtain ⟨B6, hB6⟩ : ∃ x, x = w3.heap.size := ⟨_, rfl⟩
  have hh4 := hh3.below hb4 hh3.lt
  have hr34 := hr3.below hb4 (Nat.le_refl _)
  have hr24 := hr23.below hb4 (Nat.le_refl _)
  have hbw4 := hbw3.trans (hb4.mono hbw3.size)
  rw [← hB6] at hx4 ⊢
  have hx4' := Lib.hid hx4.out
  have hh4' := Lib.hid hh4
  clear hg4 hs4 hb4 hB6 hh3 hr3 hr23 hbw3 hx4 hh4
  go_wp2_with fail
  refine (refHdrDecode_any p n2 c bs _ (HR.out.below hbw4 (Nat.le_refl _)) HN.out hl (by omega) (by omega)).mono ?_
  rw [← HX.out]
  rintro e w5 ⟨v5, rfl, ho5, hb5⟩
  dsimp only at ho5 ⊢
  obtain ⟨p5, n5, c5, rfl, H5, hl5, hm5, hr5⟩ := ho5.open
  have hn53 : n5 = n3 := H5.out.symm.trans H3.out
  subst hn53
  have hr35 := hr34.below hb5 (Nat.le_refl _)
  have hr25 := hr24.below hb5 (Nat.le_refl _)
  have hbw5 := hbw4.trans (hb5.mono hbw4.size)
  have hx5 := hx4'.out.below hb5 hx4'.out.lt
  have hh5 := hh4'.out.below hb5 hh4'.out.lt
  clear ho5 hr34 hr24 hbw4 hb5 hx4' hh4'
  go_upto_region 4 with (with_reducible refine wp_store_blk (o := ⟨none, _, _, _, _, _⟩) ?_ 33 (.tmp 9) (.tmp 23) ?_ w5.heap.size 33 Z g.cells.toArray ?_ ?_ (Blk.new w5 _ _) ?_ ?_ ?_ w5.heap.size w5 ?_ ?_ ?_
                         · rfl
                         · rfl
                         · rfl
                         · rfl
                         · rw [List.size_toArray]; exact hdr_size HG.out
                         · exact HZS.out.trans (by rw [List.size_toArray, Hdr.cells_len HG.out])
                         · exact Hdr.cells_one _
                         · exact (Below.refl _ _).alloc (Nat.le_refl _) _
                         · exact Nat.le_refl _
                         intro w6 hy6 hb6 hg6 hs6)
  obtain ⟨B9, hB9⟩ : ∃ x, x = w5.heap.size := ⟨_, rfl⟩
  have hh6 := hh5.below hb6 hh5.lt
  have hx6 := hx5.below hb6 hx5.lt
  have hr36 := hr35.below hb6 (Nat.le_refl _)
  have hr26 := hr25.below hb6 (Nat.le_refl _)
  have hr56 := hr5.below hb6 (Nat.le_refl _)
  have hbw6 := hbw5.trans (hb6.mono hbw5.size)
  have hrw6 := HR.out.below hbw6 (Nat.le_refl _)
  have hK6 := HK.out.below hbw6 hKs
  rw [← hB9] at hy6 ⊢
  have hlh := hh6.lt
  have hlx := hx6.lt
  have hly := hy6.out.lt
  have hKs6 := hbw6.size
  clear hg6 hs6 hb6 hB9 hh5 hx5 hr35 hr25 hr5 hbw5 hz
  refine region_plan [qq 0, qq 2, oo 1, oo 3, oo 4, qq 5, qq 6, qq 8, oo 7, oo 9, qq 10, qq 11, qq 12, qq 13, qq 14, qq 15, qq 16, qq 17, qq 18, qq 19, oo 20, qq 21, qq 22, qq 23, qq 24, qq 25, qq 26, qq 27, qq 28, qq 29, oo 30, qq 31, qq 32] (fun W => Below w6.heap.size w6 W) (by kernel_rfl) (by kernel_rfl) (Below.refl _ _).drew ?_
  refine' plan_quiet (s := 58) (A1 := _) [0, 2] [_, _] _ rfl rfl rfl (fun W hW => ?hq1) _ (Below.refl _ _).drew (fun _ => ?hr1)
  case hq1 =>
    have rh := fun k => (hh6.below hW hlh).drewN k
    simp only [List.getElem_toArray, List.getElem_cons_zero, List.getElem_cons_succ]
    refine quiet_load_mid rfl 33 (.tmp 2) rfl w.heap.size 0 rfl h.cells _ (fun w' ⟨k, hk⟩ => by rw [hk]; exact (rh k).range) Tryd.underlying33 rfl (hdr_size HH.out) ?_
    simp only [put_some, List.setIfInBounds_toArray, List.set_cons_succ, List.set_cons_zero]
    refine quiet_load_mid rfl 33 (.tmp 2) rfl w.heap.size 0 rfl h.cells _ (fun w' ⟨k, hk⟩ => by rw [hk]; exact (rh k).range) Tryd.underlying33 rfl (hdr_size HH.out) ?_
    simp only [put_some, List.setIfInBounds_toArray, List.set_cons_succ, List.set_cons_zero]
    refine wpQuiet_nil ?_
    rfl
  case hr1 =>
  refine plan_one rfl fun k1 => ?_
  go_wp2_with fail
  refine (hdrEncode_any h HH.out _).mono ?_
  rintro e w7 ⟨G, rfl, hG7, _, hb7⟩
  have hF7 : Below w6.heap.size w6 w7 := by
    refine Below.trans ?_ (hb7.mono (Nat.le_refl _))
    exact below_drewN (Below.refl _ _) _
  have hr7 := hdr_row hG7.out
  have hb80 : Hid (h.bytes.length = 80) := Lib.hid (Hdr.bytes_len HH.out)
  clear hb7 hG7
  go_wp2_with fail
  refine planQ_normal (And.intro hF7 ?_)
  refine plan_one rfl fun k2 => ?_
  go_wp2_with fail
  refine (refHdrEncode_any h HH.out _).mono ?_
  rintro e w8 ⟨v8, rfl, ho8, hb8⟩
  obtain ⟨p8, n8, c8, rfl, H8, hl8, hm8, hr8⟩ := ho8.open
  have hn8 : n8 = 80 := H8.out.symm.trans hb80.out
  subst hn8
  have hF8 : Below w6.heap.size w6 w8 := by
    refine Below.trans ?_ (hb8.mono hF7.size)
    exact below_drewN hF7 _
  have hr78 := (hr7.below (below_drewN (Below.refl _ _) k2) (Nat.le_refl _)).below hb8 (Nat.le_refl _)
  clear hb8 ho8 hr7
  go_wp2_with fail
  refine planQ_normal (And.intro hF8 ?_)
  refine plan_one rfl fun k3 => ?_
  go_wp2_with fail
  refine (equal_same (some ⟨G, 0, none⟩) p8 80 80 80 c8 h.bytes _ (hr78.below (below_drewN (Below.refl _ _) k3) (Nat.le_refl _)) (hr8.below (below_drewN (Below.refl _ _) k3) (Nat.le_refl _)) hb80.out hb80.out).mono ?_
  rintro e w9 ⟨rfl, hw9⟩
  have hF9 : Below w6.heap.size w6 w9 := by rw [hw9]; exact below_drewN hF8 _
  clear hw9 hr78 hr8
  go_wp2_with fail
  refine planQ_normal (And.intro hF9 ?_)
  refine' plan_quiet (s := 58) (A1 := _) [5, 6, 8] [_, _, _] _ rfl rfl rfl (fun W hW => ?hq2) _ hF9 (fun _ => ?hr2)
  case hq2 =>
    have rh := fun k => (hh6.below hW hlh).drewN k
    simp only [List.getElem_toArray, List.getElem_cons_zero, List.getElem_cons_succ]
    iterate 1 (go_big_quiet_step (fail))
    refine quiet_load_mid rfl 33 (.tmp 2) rfl w.heap.size 0 rfl h.cells _ (fun w' ⟨k, hk⟩ => by rw [hk]; exact (rh k).range) Tryd.underlying33 rfl (hdr_size HH.out) ?_
    simp only [put_some, List.setIfInBounds_toArray, List.set_cons_succ, List.set_cons_zero]
    refine quiet_load_mid rfl 33 (.tmp 2) rfl w.heap.size 0 rfl h.cells _ (fun w' ⟨k, hk⟩ => by rw [hk]; exact (rh k).range) Tryd.underlying33 rfl (hdr_size HH.out) ?_
    simp only [put_some, List.setIfInBounds_toArray, List.set_cons_succ, List.set_cons_zero]
    refine wpQuiet_nil ?_
    rfl
  case hr2 =>
  refine plan_one rfl fun k4 => ?_
  go_wp2_with fail
  refine (hdrID_any h HH.out _ (hK6.below (below_drewN hF9 _) (by omega))).mono ?_
  rw [← HV.out]
  rintro e w10 ⟨rfl, hb10⟩
  have hF10 : Below w6.heap.size w6 w10 := by
    refine Below.trans ?_ (hb10.mono hF9.size)
    exact below_drewN hF9 _
  clear hb10
  go_wp2_with fail
  refine planQ_normal (And.intro hF10 ?_)
  refine plan_one rfl fun k5 => ?_
  go_wp2_with fail
  refine (refHdrID_any h HH.out _).mono ?_
  rw [← HV.out]
  rintro e w11 ⟨rfl, hb11⟩
  have hF11 : Below w6.heap.size w6 w11 := by
    refine Below.trans ?_ (hb11.mono hF10.size)
    exact below_drewN hF10 _
  clear hb11
  go_wp2_with fail
  refine planQ_normal (And.intro hF11 ?_)
  refine' plan_quiet (s := 58) (A1 := _) [10, 11, 12, 13, 14, 15, 16, 17, 18, 19] [_, _, _, _, _, _, _, _, _, _] _ rfl rfl rfl (fun W hW => ?hq3) _ hF11 (fun _ => ?hr3)
  case hq3 =>
    have rx := fun k => (hx6.below hW hlx).drewN k
    have ry := fun k => (hy6.out.below hW hly).drewN k
    simp only [List.getElem_toArray, List.getElem_cons_zero, List.getElem_cons_succ]
    iterate 3 (go_big_quiet_step (fail))
    refine quiet_load_mid rfl 33 (.tmp 6) rfl B6 0 rfl g.cells _ (fun w' ⟨k, hk⟩ => by rw [hk]; exact (rx k).range) Tryd.underlying33 rfl (hdr_size HG.out) ?_
    simp only [put_some, List.setIfInBounds_toArray, List.set_cons_succ, List.set_cons_zero]
    refine quiet_load_mid rfl 33 (.tmp 9) rfl B9 0 rfl g.cells _ (fun w' ⟨k, hk⟩ => by rw [hk]; exact (ry k).range) Tryd.underlying33 rfl (hdr_size HG.out) ?_
    simp only [put_some, List.setIfInBounds_toArray, List.set_cons_succ, List.set_cons_zero]
    iterate 5 (go_big_quiet_step (fail))
    refine wpQuiet_nil ?_
    rfl
  case hr3 =>
  refine plan_one rfl fun k6 => ?_
  go_wp2_with fail
  refine (equal_same p3 p5 n5 c3 n5 c5 R _ (hr36.below (below_drewN hF11 _) (Nat.le_refl _)) (hr56.below (below_drewN hF11 _) (Nat.le_refl _)) H5.out H5.out).mono ?_
  rintro e w12 ⟨rfl, hw12⟩
  have hF12 : Below w6.heap.size w6 w12 := by rw [hw12]; exact below_drewN hF11 _
  clear hw12
  go_wp2_with fail
  refine planQ_normal (And.intro hF12 ?_)
  refine' plan_quiet (s := 58) (A1 := _) [21, 22, 23, 24, 25, 26, 27, 28, 29] [_, _, _, _, _, _, _, _, _] _ rfl rfl rfl (fun W hW => ?hq4) _ hF12 (fun _ => ?hr4)
  case hq4 =>
    simp only [List.getElem_toArray, List.getElem_cons_zero, List.getElem_cons_succ]
    iterate 9 (go_big_quiet_step (fail))
    refine wpQuiet_nil ?_
    rfl
  case hr4 =>
  refine plan_one rfl fun k7 => ?_
  go_wp2_with fail
  refine (equal_same p2 p n2 c2 n2 c bs _ (hr26.below (below_drewN hF12 _) (Nat.le_refl _)) (hrw6.below (below_drewN hF12 _) (Nat.le_refl _)) HN.out HN.out).mono ?_
  rintro e w13 ⟨rfl, hw13⟩
  have hF13 : Below w6.heap.size w6 w13 := by rw [hw13]; exact below_drewN hF12 _
  clear hw13
  go_wp2_with fail
  refine planQ_normal (And.intro hF13 ?_)
  refine' plan_quiet (s := 58) (A1 := _) (r := []) [31, 32] [_, _] _ rfl rfl rfl (fun W hW => ?hq5) _ hF13 (fun _ => ?hr5)
  case hq5 =>
    simp only [List.getElem_toArray, List.getElem_cons_zero, List.getElem_cons_succ]
    iterate 2 (go_big_quiet_step (fail))
    refine wpQuiet_nil ?_
    rfl
  case hr5 =>
  refine plan_end fun k9 => NoPanic.normal ?_
  go_wp2
  go_ret
  exact ⟨rfl, hbw6.trans ((below_drewN hF13 _).mono hbw6.size)⟩
end Go.Proofs.YtifanifgbkpdgaaDoor
