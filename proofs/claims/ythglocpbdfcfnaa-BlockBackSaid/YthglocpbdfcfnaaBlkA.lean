/- sporranlaw08.awake, BlockReads: the walks. -/
import Derived.Test.YthglocpbdfcfnaaBlkS
namespace Go.Proofs.Ythglocpbdfcfnaa
open Go Go.RowKit
set_option linter.unusedVariables false

theorem noBlk_c (w : World) : BlkC w noBlk ZBlk := ⟨.slice none 0 0, rfl, noHdr_ok, ⟨none, 0, 0, rfl, rfl, Nat.le_refl _, by unfold maxLen; omega, fun h => absurd rfl h, fun _ => rfl⟩⟩
theorem noBlk_len : (blkB noBlk).length = 81 := by
  unfold blkB
  rw [List.length_append, show noBlk.h.bytes.length = 80 from Hdr.bytes_len noHdr_ok]
  rfl
theorem noBlk_P : blkP noBlk = (blkB noBlk, 0) := blkP_fine (by show ¬ 2000 < 0; omega) rfl (by rw [noBlk_len]; omega)
set_option maxRecDepth 100000 in
set_option maxHeartbeats 4000000 in
theorem awakeB_any (w : World) : Calls Try.prog 22 #[] w fun e w' => e = .returned (.bool true) ∧ Below w.heap.size w w' := by
  have hc := blkEncode_any noBlk ZBlk w (noBlk_c w)
  rw [noBlk_P] at hc
  unfold OutB at hc
  simp only at hc
  obtain ⟨b, hb⟩ : ∃ b, b = blkB noBlk := ⟨_, rfl⟩
  have hl := noBlk_len
  rw [← hb] at hc hl
  have HL := Lib.hid hl
  have hbt := built_blk0
  clear hb hl
  go_enter Try.func22, Try.ntmps22
  go_wp2_with (first
    | (with_reducible refine wp_build (o := ⟨some 4, _, _, _, _, _⟩) ?_ 48 #[] ?_ [] ?_ ZBlk.toArray hbt ?_
       · rfl
       · rfl
       · rfl)
    | (with_reducible refine hc.mono ?_; rintro e w' ⟨v, rfl, ho, hb⟩; obtain ⟨p, n, c, rfl, hn, hnc, hcm, _⟩ := Own8.open ho; obtain rfl : n = 81 := (hn.out.symm.trans HL.out)))
  go_ret
  exact ⟨rfl, hb⟩

theorem BlkO.m {B : Nat} {w : World} {b : TBlk} {cs : List Value} (h : BlkO B w b cs) : ∃ v, cs[68]? = some v ∧ RowM (S8 B w) (TxM (S8 B w)) 4 w v b.ts := by
  obtain ⟨v, rfl, hk, hv⟩ := h
  exact ⟨v, by rw [List.getElem?_append_right (by rw [Hdr.cells_len hk]; exact Nat.le_refl _), Hdr.cells_len hk]; rfl, hv.m (by decide) fun _ _ h => h.m⟩
theorem BlkC.size {w : World} {b : TBlk} {cs : List Value} (h : BlkC w b cs) : ZBlk.toArray.size = cs.toArray.size := by rw [List.size_toArray, List.size_toArray, h.len]; rfl

set_option maxRecDepth 100000 in
set_option maxHeartbeats 8000000 in
theorem blockReads_walk (p : Option Addr) (n c : Nat) (bs : List (BitVec 8)) (W : World) (hn : bs.length = n) (hl : n ≤ c) (hcb : c ≤ 140737488351232) (hr : Row8 W p bs) (hp : p = none → c = 0) :
    Calls Try.prog 8 #[.slice p n c] W fun e w' => e = .returned (.bool true) ∧ Below W.heap.size W w' := by
  obtain ⟨x, hx⟩ : ∃ x, x = blkDecP bs := ⟨_, rfl⟩
  obtain ⟨X, k⟩ := x
  have hz := zBlk
  have hC := clone_any p n c bs W hr hn (by omega) (fun e => by have := hp e; omega)
  have HSL : Hid (Sl W (.slice p n c) bs) := Lib.hid ⟨p, n, c, rfl, hn, hl, by unfold maxLen; omega, hr, hp⟩
  have HR := Lib.hid hr
  have HN := Lib.hid hn
  have HX := Lib.hid hx.symm
  clear hr hn hx
  have hszw : Hid (W.heap.size ≤ W.heap.size) := Lib.hid (Nat.le_refl _)
  go_enter Try.func8, Try.ntmps8
  go_wp2_with fail
  refine hC.mono ?_
  rintro e w2 ⟨v2, rfl, ho2, hb2⟩
  have HW2 := Lib.hid hb2
  have HO2 := Lib.hid ho2
  obtain ⟨q2, n2, c2, rfl, hn2, hnc2, hcm2, hr2⟩ := Own8.open ho2
  have hD := blkDecode_any q2 n2 c2 bs w2 hr2 hn2.out hnc2 hcm2
  rw [HX.out] at hD
  obtain ⟨B, hB⟩ : ∃ B, B = w2.heap.size := ⟨_, rfl⟩
  have HBe := Lib.hid hB
  have HWB : Hid (W.heap.size ≤ B) := Lib.hid (by rw [hB]; exact hb2.size)
  clear hC ho2 hr2 hn2 hb2 hB
  go_upto_region 3 with (first
    | (with_reducible refine hD.mono ?_
       rintro e w3 ⟨cs2, rfl, hO, hb3⟩
       simp only at hO
       rw [← HBe.out] at hO
       have hone := hO.c.one
       have hcl2 := hO.c.len
       have HCL := Lib.hid hcl2
       have hbn := below_new w3 (.cells ZBlk.toArray 48)
       have hzsz := hO.c.size
       have HO3 := Lib.hid hO
       have HB3 := Lib.hid hb3
       clear hO hcl2 hb3)
    | (with_reducible refine wp_store_blk (o := ⟨none, _, _, _, _, _⟩) ?_ 48 (.tmp 4) (.tmp 14) ?_ (w3.heap.size) 48 (ZBlk.toArray) (cs2.toArray) ?_ ?_ (Blk.new w3 _ _) ?_ ?_ ?_ (w3.heap.size) (w3) ?_ ?_ ?_
       · rfl
       · rfl
       · rfl
       · rfl
       · exact (by rw [List.size_toArray]; exact info_Blk HCL.out)
       · exact (hzsz)
       · exact (hone)
       · exact (hbn)
       · exact (Nat.le_refl _)
       intro w4 hB4 hb4 hg4 hs4))
  have HB4 := Lib.hid (below_fut HB3.out hb4 (Nat.le_refl _))
  have HW4 := Lib.hid (below_fut HW2.out HB4.out hszw.out)
  have HO4 := Lib.hid (blkO_keeps _ _ _ _ _ _ HO3.out (Stays.of_below hb4 (Nat.le_refl _) (fun _ => False)) (fun _ h => h.elim))
  have HT4 := Lib.hid hB4.out
  have hD2 := refBlkDecode_any p n c bs w4 (HR.out.below HW4.out (Nat.le_refl _)) HN.out hl (by omega)
  rw [HX.out] at hD2
  obtain ⟨z4, hz4⟩ : ∃ z, z = w3.heap.size := ⟨_, rfl⟩
  rw [← hz4] at HT4 ⊢
  clear hz4 hbn hzsz hone hb4 hg4 hs4 hB4 HB3 HO3 hD
  try simp only [put_none]
  go_upto_region 4 with (first
    | (with_reducible refine hD2.mono ?_
       rintro e w5 ⟨cs5, rfl, hO, hb5⟩
       simp only at hO
       have hone5 := hO.c.one
       have hcl5 := hO.c.len
       have HCL5 := Lib.hid hcl5
       have hbn := below_new w5 (.cells ZBlk.toArray 48)
       have hzsz := hO.c.size
       have HO5 := Lib.hid hO.c
       have HB5 := Lib.hid hb5
       clear hO hcl5 hb5)
    | (with_reducible refine wp_store_blk (o := ⟨none, _, _, _, _, _⟩) ?_ 48 (.tmp 6) (.tmp 19) ?_ (w5.heap.size) 48 (ZBlk.toArray) (cs5.toArray) ?_ ?_ (Blk.new w5 _ _) ?_ ?_ ?_ (w5.heap.size) (w5) ?_ ?_ ?_
       · rfl
       · rfl
       · rfl
       · rfl
       · exact (by rw [List.size_toArray]; exact info_Blk HCL5.out)
       · exact (hzsz)
       · exact (hone5)
       · exact (hbn)
       · exact (Nat.le_refl _)
       intro w6 hB6 hb6 hg6 hs6))
  have hb46 := below_fut HB5.out hb6 (Nat.le_refl _)
  have HB6 := Lib.hid (below_fut HB4.out hb46 (Nat.le_refl _))
  have HO6 := Lib.hid (blkO_keeps _ _ _ _ _ _ HO4.out (Stays.of_below hb46 (Nat.le_refl _) (fun _ => False)) (fun _ h => h.elim))
  have HT6 := Lib.hid (HT4.out.fut hb46)
  have HU6 := Lib.hid hB6.out
  have HX6 := Lib.hid (blkC_keeps _ _ _ _ HO5.out hb6)
  clear hb46 hbn hzsz hb6 hg6 hs6 hB6 HB5 HB4 HW4 HO4 HT4 HO5 hone5 hD2
  try simp only [put_none]
  have l1 := blk_range HT6.out
  have l2 := blk_range HU6.out
  have hst := sameBlk_any X cs2 cs5 w6 HO6.out.c HX6.out
  have hkk : (k == k) = true := by simp
  go_wp2_with (first
    | (with_reducible refine wpList_load_mid (op := ⟨some 21, _, _, _, _, _⟩) ?_ 48 (.tmp 4) ?_ (z4) (0) ?_ (cs2) _ (l1) Try.underlying48 ?_ ?_ ?_
       · rfl
       · rfl
       · rfl
       · rfl
       · exact ((info_Blk HCL.out)))
    | (with_reducible refine wpList_load_mid (op := ⟨some 22, _, _, _, _, _⟩) ?_ 48 (.tmp 6) ?_ (w5.heap.size) (0) ?_ (cs5) _ (l2) Try.underlying48 ?_ ?_ ?_
       · rfl
       · rfl
       · rfl
       · rfl
       · exact ((info_Blk HCL5.out))))
  refine hst.mono ?_
  rintro e w7 ⟨rfl, hb7⟩
  have HB7 := Lib.hid (below_fut HB6.out hb7 (Nat.le_refl _))
  have HO7 := Lib.hid (blkO_keeps _ _ _ _ _ _ HO6.out (Stays.of_below hb7 (Nat.le_refl _) (fun _ => False)) (fun _ h => h.elim))
  have HT7 := Lib.hid (HT6.out.fut hb7)
  clear hb7 HB6 HO6 HT6 HU6 HX6 l1 l2 hst
  have hm7 := HO7.out.m
  obtain ⟨S, hS⟩ : ∃ S, S = S8 B w7 := ⟨_, rfl⟩
  have hSlt : ∀ k, S k → k < w7.heap.size := fun k h => by rw [hS] at h; exact h.lt
  have hSB : ∀ k, S k → B ≤ k := fun k h => by rw [hS] at h; exact h.1
  rw [← hS] at hm7
  obtain ⟨v7, hv7, hrow7⟩ := hm7
  have HSB := Lib.hid hSB
  have l7 := blk_range HT7.out
  have hsp := spoilBlock_any S cs2 v7 X.ts w7 hSlt hv7 hrow7
  clear hS hSlt hSB hv7 hrow7 HO7
  go_wp2_with (first
    | (with_reducible refine wpList_load_mid (op := ⟨some 29, _, _, _, _, _⟩) ?_ 48 (.tmp 4) ?_ (z4) (0) ?_ (cs2) _ (l7) Try.underlying48 ?_ ?_ ?_
       · rfl
       · rfl
       · rfl
       · rfl
       · exact ((info_Blk HCL.out))))
  refine hsp.mono ?_
  rintro e w10 ⟨rfl, hp10⟩
  have hb10 : Below B w7 w10 := hp10.st.below (by have := HB7.out.size; have := HBe.out; omega) HSB.out
  have hbg : Below B w2 w10 := (HB7.out.mono (by rw [HBe.out]; exact Nat.le_refl _)).trans hb10
  have hgiven : Sl w10 (.slice q2 n2 c2) bs := HO2.out.sl.below hbg (by rw [HBe.out]; exact Nat.le_refl _)
  have HW10 : Hid (Below W.heap.size W w10) := Lib.hid (HW2.out.trans (hbg.mono HWB.out))
  have HG := Lib.hid hgiven
  clear hb10 hbg hgiven hp10 l7 hsp
  go_wp2_with fail
  refine (bEqual_any _ _ bs w10 HG.out (HSL.out.below HW10.out (Nat.le_refl _))).mono ?_
  rintro e w11 ⟨rfl, hw11⟩
  replace hw11 := hw11.symm
  subst hw11
  go_wp2_with fail
  refine (awakeB_any _).mono ?_
  rintro e w12 ⟨rfl, hb12⟩
  go_wp2_with fail
  go_ret
  exact ⟨rfl, below_fut HW10.out hb12 hszw.out⟩
end Go.Proofs.Ythglocpbdfcfnaa
