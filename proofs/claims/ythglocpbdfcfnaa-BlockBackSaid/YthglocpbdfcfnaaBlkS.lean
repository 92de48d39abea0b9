/- sporranplain.SameBlock: the walk (what says the same is the same). -/
import Derived.Test.YthglocpbdfcfnaaBlkQ
import Derived.Test.YthglocpbdfcfnaaTxK
namespace Go.Proofs.Ythglocpbdfcfnaa
open Go Go.RowKit
set_option linter.unusedVariables false

theorem zeroTxs : ∃ Z : Array Value, Z.size = 4 ∧ ∀ w, (zeroValue 26).run Try.prog w = .ok (.agg Z) w := ⟨ZTx.toArray, rfl, zTx⟩
theorem TxC.len {w : World} {t : TTx} {cs : List Value} (h : TxC w t cs) : cs.length = 4 := by obtain ⟨_, _, rfl, _⟩ := h; rfl

set_option maxRecDepth 100000 in
set_option maxHeartbeats 8000000 in
theorem eqTxs_any (gf : Nat) (eg : ∀ args w, (callFunc gf args).run Try.prog w = .ok (.enter gf args) w) (u v : Value) (xs : List (TTx)) (w : World) (hu : ESl TxC 4 w u xs) (hv : ESl TxC 4 w v xs)
    (hp : ∀ (W : World) (x : TTx) (cs ds : List Value), Below w.heap.size w W → TxC W x cs → TxC W x ds → Calls Try.prog gf #[.agg cs.toArray, .agg ds.toArray] W fun e w' => e = .returned (.bool true) ∧ Below W.heap.size W w') :
    Calls Try.prog 58 #[u, v, .func (.func gf) #[] #[]] w fun e w' => e = .returned (.bool true) ∧ Below w.heap.size w w' := by
  obtain ⟨p, n, c, rfl⟩ := hu.opens
  obtain ⟨q, m, d, rfl⟩ := hv.opens
  have HU := Lib.hid hu
  have HV := Lib.hid hv
  have HP := Lib.hid hp
  obtain ⟨hn, hnc, hcm⟩ := hu.slen
  obtain ⟨hm, hmd, hdm⟩ := hv.slen
  have hnm : n = m := hn.symm.trans hm
  subst hnm
  have HN := Lib.hid hn
  clear hu hv hp hn hm
  go_enter Try.func58, Try.ntmps58
  go_upto_region 4 with fail
  go_loopw [17] (fun i wr => ∃ k : Nat, k ≤ n ∧ i = .int .i64 k ∧ Hid (Below w.heap.size w wr)) (fun i _ => n - (intOf i).toNat)
  case atStart => exact ⟨0, by omega, rfl, Lib.hid (Below.refl _ _)⟩
  case round =>
    obtain ⟨k, hk, rfl, HWk⟩ := hrel
    by_cases hkn : k < n
    · have hlt : (k : Int) < (n : Int) := by omega
      obtain ⟨b, off, cs, x, rfl, hx, hE, l2⟩ := HU.out.at HWk.out hkn
      obtain ⟨b', off', ds, x', rfl, hx', hE', l3⟩ := HV.out.at HWk.out hkn
      have hxx : x' = x := by rw [hx] at hx'; injection hx' with h; exact h.symm
      subst hxx
      clear hx hx'
      have H3 := Lib.hid hE.len
      have H1 := Lib.hid hE.one
      have H3' := Lib.hid hE'.len
      have H1' := Lib.hid hE'.one
      have HE := Lib.hid hE
      have HE' := Lib.hid hE'
      obtain ⟨Z, hZl, hz⟩ := zeroTxs
      have HZ := Lib.hid hZl
      have hbr := below_new wr (.cells Z 26)
      clear hE hE' hZl
      go_upto_region 6 with (first
        | (with_reducible refine wpList_load_mid (op := ⟨some 21, _, _, _, _, _⟩) ?_ 26 (.tmp 20) ?_ (b) (off + k * 4) ?_ (cs) _ (l2) Try.underlying26 ?_ ?_ ?_
           · rfl
           · rfl
           · rfl
           · rfl
           · exact ((info_Tx H3.out)))
        | (with_reducible refine wp_store_blk (o := ⟨none, _, _, _, _, _⟩) ?_ 26 (.tmp 8) (.tmp 21) ?_ (wr.heap.size) 26 (Z) (cs.toArray) ?_ ?_ (Blk.new wr _ _) ?_ ?_ ?_ (wr.heap.size) (wr) ?_ ?_ ?_
           · rfl
           · rfl
           · rfl
           · rfl
           · exact (by rw [List.size_toArray]; exact info_Tx H3.out)
           · exact (HZ.out.trans (by rw [List.size_toArray]; exact H3.out.symm))
           · exact (H1.out)
           · exact (hbr)
           · exact (Nat.le_refl _)
           intro w6 hB6 hb6 hg6 hs6))
      simp only [put_none]
      have l3' : w6.rangeAt b' (off' + k * 4) ds := range_fut l3 hb6 (HV.out.lt HWk.out hkn)
      have HW6 := Lib.hid (below_fut HWk.out hb6 (Nat.le_refl _))
      have HB6 := Lib.hid hB6.out
      have hbr' := below_new w6 (.cells Z 26)
      have hzz : wr.heap.size < w6.heap.size := hB6.out.lt
      clear hb6 hg6 hs6 l2 l3 hbr hB6
      generalize wr.heap.size = z8 at *
      go_upto_region 7 with (first
        | (with_reducible refine wpList_load_mid (op := ⟨some 25, _, _, _, _, _⟩) ?_ 26 (.tmp 24) ?_ (b') (off' + k * 4) ?_ (ds) _ (l3') Try.underlying26 ?_ ?_ ?_
           · rfl
           · rfl
           · rfl
           · rfl
           · exact ((info_Tx H3'.out)))
        | (with_reducible refine wp_store_blk (o := ⟨none, _, _, _, _, _⟩) ?_ 26 (.tmp 9) (.tmp 25) ?_ (w6.heap.size) 26 (Z) (ds.toArray) ?_ ?_ (Blk.new w6 _ _) ?_ ?_ ?_ (w6.heap.size) (w6) ?_ ?_ ?_
           · rfl
           · rfl
           · rfl
           · rfl
           · exact (by rw [List.size_toArray]; exact info_Tx H3'.out)
           · exact (HZ.out.trans (by rw [List.size_toArray]; exact H3'.out.symm))
           · exact (H1'.out)
           · exact (hbr')
           · exact (Nat.le_refl _)
           intro w7 hB7 hb7 hg7 hs7))
      have HW7 := Lib.hid (below_fut HW6.out hb7 (Nat.le_refl _))
      have l6 := blk_range (HB6.out.fut hb7)
      have l7 := blk_range hB7.out
      have hcall := HP.out w7 _ cs ds HW7.out (txC_keeps _ _ _ _ HE.out HW7.out) (txC_keeps _ _ _ _ HE'.out HW7.out)
      clear hb7 hg7 hs7 l3' hbr' hz hB7
      go_wp2_with (first
        | (with_reducible refine wpList_load_mid (op := ⟨some 27, _, _, _, _, _⟩) ?_ 26 (.tmp 8) ?_ (z8) (0) ?_ (cs) _ (l6) Try.underlying26 ?_ ?_ ?_
           · rfl
           · rfl
           · rfl
           · rfl
           · exact ((info_Tx H3.out)))
        | (with_reducible refine wpList_load_mid (op := ⟨some 28, _, _, _, _, _⟩) ?_ 26 (.tmp 9) ?_ (w6.heap.size) (0) ?_ (ds) _ (l7) Try.underlying26 ?_ ?_ ?_
           · rfl
           · rfl
           · rfl
           · rfl
           · exact ((info_Tx H3'.out))))
      go_at_fn gf
      refine hcall.mono ?_
      rintro e w8 ⟨rfl, hb8⟩
      have HW8 := Lib.hid (below_fut HW7.out hb8 (Nat.le_refl _))
      go_wp2_with fail
      go_roundw
      case rel => exact ⟨k + 1, by omega, by go_num, HW8⟩
      case measure => simp [intOf]; omega
    · obtain rfl : k = n := by omega
      go_wp2_with fail
      go_ret
      exact ⟨rfl, HWk.out⟩

set_option maxRecDepth 100000 in
set_option maxHeartbeats 8000000 in
theorem sameBlk_any (b : TBlk) (cs ds : List Value) (w : World) (h1 : BlkC w b cs) (h2 : BlkC w b ds) : Calls Try.prog 25 #[.agg cs.toArray, .agg ds.toArray] w fun e w' => e = .returned (.bool true) ∧ Below w.heap.size w w' := by
  obtain ⟨v, hcs, hk, hv⟩ := h1
  obtain ⟨v', hds, _, hv'⟩ := h2
  have HCS := Lib.hid hcs
  have HDS := Lib.hid hds
  have HK := Lib.hid hk
  have hb1 := below_new w (.cells cs.toArray 48)
  have hb2 := below_new (w.alloc (.cells cs.toArray 48)) (.cells ds.toArray 48)
  have HB1 := Lib.hid ((Blk.new w 48 cs.toArray).fut hb2)
  have HB2 := Lib.hid (Blk.new (w.alloc (.cells cs.toArray 48)) 48 ds.toArray)
  have HW := Lib.hid (below_fut hb1 hb2 (Nat.le_refl _))
  have hTs := eqTxs_any 17 (enters_of Try.func17 (by kernel_rfl) rfl) v v' b.ts _ (hv.fut txC_keeps HW.out) (hv'.fut txC_keeps HW.out) (fun W x cs ds _ ha hb => sameTx_any x cs ds W ha hb)
  simp only [World.size_alloc] at HB2
  clear hb1 hb2 hcs hds hk hv hv'
  go_enter Try.func25, Try.ntmps25
  go_upto_region 1 with fail
  generalize (w.alloc (.cells cs.toArray 48)).alloc (.cells ds.toArray 48) = w2 at *
  obtain ⟨z3, hz3⟩ : ∃ z, z = w.heap.size + 1 := ⟨_, rfl⟩
  rw [← hz3] at HB2 ⊢
  obtain ⟨z2, hz2⟩ : ∃ z, z = w.heap.size := ⟨_, rfl⟩
  rw [← hz2] at HB1 ⊢
  have l1 : w2.rangeAt z2 0 b.h.cells := Blk.hdr (h := b.h) (v := v) (HCS.out ▸ HB1.out)
  have l2 : w2.rangeAt z3 0 b.h.cells := Blk.hdr (h := b.h) (v := v') (HDS.out ▸ HB2.out)
  have a1 : w2.cell? ⟨z2, 68, none⟩ = some v := by
    rw [HB1.out.cell, HCS.out, List.getElem?_toArray, List.getElem?_append_right (by rw [Hdr.cells_len HK.out]; exact Nat.le_refl _), Hdr.cells_len HK.out]
    rfl
  have a2 : w2.cell? ⟨z3, 68, none⟩ = some v' := by
    rw [HB2.out.cell, HDS.out, List.getElem?_toArray, List.getElem?_append_right (by rw [Hdr.cells_len HK.out]; exact Nat.le_refl _), Hdr.cells_len HK.out]
    rfl
  have hsm := hdr_same b.h HK.out
  clear hz2 hz3
  go_wp2_with (first
    | (with_reducible refine wpList_load_mid (op := ⟨some 6, _, _, _, _, _⟩) ?_ 46 (.tmp 5) ?_ (z2) (0) ?_ (b.h.cells) _ (l1) Try.underlying46 ?_ ?_ ?_
       · rfl
       · rfl
       · rfl
       · rfl
       · exact ((hdr_size HK.out)))
    | (with_reducible refine wpList_load_mid (op := ⟨some 8, _, _, _, _, _⟩) ?_ 46 (.tmp 7) ?_ (z3) (0) ?_ (b.h.cells) _ (l2) Try.underlying46 ?_ ?_ ?_
       · rfl
       · rfl
       · rfl
       · rfl
       · exact ((hdr_size HK.out))))
  refine hTs.mono ?_
  rintro e w3 ⟨rfl, hb3⟩
  go_wp2_with fail
  go_ret
  exact ⟨rfl, below_fut HW.out hb3 (Nat.le_refl _)⟩
end Go.Proofs.Ythglocpbdfcfnaa
