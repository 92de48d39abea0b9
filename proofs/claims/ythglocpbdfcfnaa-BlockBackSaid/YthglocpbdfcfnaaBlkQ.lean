/- sporranref08.Decode: the walk. -/
import Derived.Test.YthglocpbdfcfnaaBlkD
import Derived.Test.YthglocpbdfcfnaaHdrK
namespace Go.Proofs.Ythglocpbdfcfnaa
open Go Go.RowKit
set_option linter.unusedVariables false


set_option maxRecDepth 100000 in
set_option maxHeartbeats 16000000 in
theorem refBlkDecode_any (p : Option Addr) (n c : Nat) (s : Bs) (w : World) (hr : Row8 w p s) (hn : s.length = n) (hl : n ≤ c) (hb : c ≤ 9223372036854775807) :
    Calls Try.prog 24 #[.slice p n c] w (BlkDec w (blkDecP s)) := by
  obtain ⟨P, hP⟩ : ∃ P, P = blkDecP s := ⟨_, rfl⟩
  rw [← hP]
  have HP := Lib.hid hP
  have HR := Lib.hid hr
  have HN := Lib.hid hn
  have hz := zBlk
  have hbt := built_blk0
  have hzo := zBlk_one
  clear hP hr hn
  go_enter Try.func24, Try.ntmps24
  go_upto_region 1 with fail
  have hb1 := below_new w (.cells ZBlk.toArray 48)
  have HZ2 := Lib.hid (Blk.new w 48 ZBlk.toArray)
  generalize w.alloc (.cells ZBlk.toArray 48) = w1 at *
  obtain ⟨z2, hz2⟩ : ∃ z, z = w.heap.size := ⟨_, rfl⟩
  rw [← hz2] at HZ2 ⊢
  have hlt := HZ2.out.lt
  have HB01 := Lib.hid hb1
  have HLT := Lib.hid hlt
  have HZZ := Lib.hid hz2
  clear hb1 hlt hz2
  by_cases hlong : 200000 < n
  · have hli : (200000 : Int) < (n : Int) := by omega
    have HP2 : Hid (P = (noBlk, 91)) := Lib.hid (by rw [HP.out]; exact blkDec_long (by have := HN.out; omega))
    go_wp2_with (first
      | (with_reducible refine wp_build (o := ⟨some 15, _, _, _, _, _⟩) ?_ 48 #[] ?_ [] ?_ ZBlk.toArray hbt ?_
         · rfl
         · rfl
         · rfl)
      | (with_reducible refine wp_store_blk (o := ⟨none, _, _, _, _, _⟩) ?_ 48 (.tmp 2) (.tmp 15) ?_ (z2) 48 (ZBlk.toArray) (ZBlk.toArray) ?_ ?_ (HZ2.out) ?_ ?_ ?_ (z2) (w1) ?_ ?_ ?_
         · rfl
         · rfl
         · rfl
         · rfl
         · exact (by rw [List.size_toArray]; exact info_Blk rfl)
         · exact (rfl)
         · exact (hzo)
         · exact (Below.refl _ _)
         · exact (Nat.le_refl _)
         intro wf hBf hbf hgf hsf))
    refine bodyPost_ret (results_cell2 rfl _ _ _ z2 _ ZBlk _ rfl hBf.out Try.underlying48 rfl (info_Blk rfl)) rfl ?_
    exact BlkDec.bad HP2 ((HB01.out).trans (hbf.mono (by have := HZZ.out; omega)))
  have hli : ¬ (200000 : Int) < (n : Int) := by omega
  have hn2 : n ≤ 200000 := by omega
  have HNL : Hid (¬ 200000 < s.length) := Lib.hid (by have := HN.out; omega)
  have hD := refHdrDecode_any p n c s w1 (HR.out.fut HB01.out) HN.out hl hb (by omega)
  obtain ⟨x, hx⟩ : ∃ x, x = hdrP s := ⟨_, rfl⟩
  rw [← hx] at hD
  obtain ⟨hd, s1, k1⟩ := x
  unfold HdrPost at hD
  simp only at hD
  have HX := Lib.hid hx.symm
  have hzh := zeroHdr
  have hhc : hd.ok ∨ k1 ≠ 0 := by
    by_cases h : k1 = 0
    · subst h; exact .inl (hdr_len hx.symm).2
    · exact .inr h
  have hdok : hd.ok := by
    have h1 : hd = (hdrP s).1 := by rw [← hx]
    rw [h1]
    unfold hdrP
    split
    · exact noHdr_ok
    · exact hdrOf_ok s (by omega)
  have HK := Lib.hid hdok
  have hone := Hdr.cells_one hd
  have hsz := Hdr.cells_size hdok
  have HSZ := Lib.hid hsz
  have hns : noHdr.cells.toArray.size = hd.cells.toArray.size := by rw [hsz]; exact Hdr.cells_size noHdr_ok
  clear hx hhc hdok hlong hli hsz
  go_upto_region 4 with (first
    | (with_reducible refine hD.mono ?_
       rintro e w2 ⟨v1, rfl, ho1, hb2⟩
       have HO1 := Lib.hid ho1
       have HB2 := Lib.hid hb2
       have hbn := below_new w2 (.cells noHdr.cells.toArray 46)
       clear ho1 hb2)
    | (with_reducible refine wp_store_blk (o := ⟨none, _, _, _, _, _⟩) ?_ 46 (.tmp 4) (.tmp 19) ?_ (w2.heap.size) 46 (noHdr.cells.toArray) (hd.cells.toArray) ?_ ?_ (Blk.new w2 _ _) ?_ ?_ ?_ (w2.heap.size) (w2) ?_ ?_ ?_
       · rfl
       · rfl
       · rfl
       · rfl
       · exact (by rw [List.size_toArray]; exact hdr_size HK.out)
       · exact (hns)
       · exact (hone)
       · exact (hbn)
       · exact (Nat.le_refl _)
       intro w3 hB3 hb3 hg3 hs3))
  have HB3 := Lib.hid (below_fut HB2.out hb3 (Nat.le_refl _))
  have HF3 := Lib.hid hB3.out
  obtain ⟨z4, hz4⟩ : ∃ z, z = w2.heap.size := ⟨_, rfl⟩
  rw [← hz4] at HF3 ⊢
  have HO3 : Hid (Own8 w3 w1.heap.size v1 s1) := Lib.hid (Own8.fut HO1.out hb3)
  have HZ3 := Lib.hid (HZ2.out.below HB3.out HLT.out)
  have HWW3 : Hid (Below w.heap.size w w3) := Lib.hid (HB01.out.trans (HB3.out.mono HB01.out.size))
  have H14 : Hid (w1.heap.size ≤ z4) := Lib.hid (by rw [hz4]; exact HB2.out.size)
  clear hz4 hbn hns hone hzh hb3 hg3 hs3 hB3 hD HO1 HB2
  try simp only [put_none]
  obtain ⟨p1, n1, c1, rfl, hn1, hnc1, hcm1, hr1⟩ := HO3.out.open
  have HR1 := Lib.hid hr1
  clear hr1
  by_cases hk1 : k1 = 0
  case neg =>
    have hki : (k1 != 0) = true := by simp [hk1]
    have HP2 : Hid (P = (noBlk, k1)) := Lib.hid (by rw [HP.out]; exact blkDec_hdr HNL.out (by rw [HX.out]) hk1)
    clear HZ2
    have HZ2 := HZ3
    go_wp2_with (first
      | (with_reducible refine wp_build (o := ⟨some 24, _, _, _, _, _⟩) ?_ 48 #[] ?_ [] ?_ ZBlk.toArray hbt ?_
         · rfl
         · rfl
         · rfl)
      | (with_reducible refine wp_store_blk (o := ⟨none, _, _, _, _, _⟩) ?_ 48 (.tmp 2) (.tmp 24) ?_ (z2) 48 (ZBlk.toArray) (ZBlk.toArray) ?_ ?_ (HZ2.out) ?_ ?_ ?_ (z2) (w3) ?_ ?_ ?_
         · rfl
         · rfl
         · rfl
         · rfl
         · exact (by rw [List.size_toArray]; exact info_Blk rfl)
         · exact (rfl)
         · exact (hzo)
         · exact (Below.refl _ _)
         · exact (Nat.le_refl _)
         intro wf hBf hbf hgf hsf))
    refine bodyPost_ret (results_cell2 rfl _ _ _ z2 _ ZBlk _ rfl hBf.out Try.underlying48 rfl (info_Blk rfl)) rfl ?_
    exact BlkDec.bad HP2 ((HWW3.out).trans (hbf.mono (by have := HZZ.out; omega)))
  subst hk1
  have HP3 : Hid (P = endB (((cntZ 2000).bind fun n => (manyZ txZ n).bind fun ts => Pz.ret (⟨hd, ts⟩ : TBlk)) s1)) := Lib.hid (by rw [HP.out]; exact blkDec_cnt HNL.out HX.out)
  have HL1 : Hid (s1.length ≤ 200000) := Lib.hid (by have := (hdr_len HX.out).1; have := HN.out; omega)
  have hS := fun (W : World) (hb : Below w3.heap.size w3 W) => refDecode_any p1 n1 c1 s1 W (Row8.fut HR1.out hb) hn1.out hnc1 (by have := HL1.out; have := hn1.out; omega)
  obtain ⟨y, hy⟩ : ∃ y, y = cutP s1 := ⟨_, rfl⟩
  rw [← hy] at hS
  obtain ⟨cn, s2, k2⟩ := y
  unfold DecPost at hS
  simp only at hS
  have hcn : iv64 cn = (cn.toNat : Int) := rfl
  rw [hcn] at hS
  have HY := Lib.hid hy.symm
  obtain ⟨m, hm⟩ : ∃ m, m = cn.toNat := ⟨_, rfl⟩
  rw [← hm] at hS
  have HM := Lib.hid hm
  have hS3 := hS w3 (Below.refl _ _)
  clear hy hcn hm hS HP HX HNL
  go_upto_region 7 with (with_reducible refine hS3.mono ?_; rintro e w5 ⟨v2, rfl, ho2, hb5⟩)
  have HO5 : Hid (Own8 w5 w1.heap.size v2 s2) := Lib.hid (ownsRow_mono ho2 HB3.out.size)
  have HB5 := Lib.hid (below_fut HB3.out hb5 (Nat.le_refl _))
  have HF5 := Lib.hid (HF3.out.fut hb5)
  have HZ5 := Lib.hid (HZ3.out.fut hb5)
  have HWW5 := Lib.hid (below_fut HWW3.out hb5 (Nat.le_refl _))
  clear hS3 ho2 hb5 HO3 HB3 HF3 HZ3 HWW3 HR1
  by_cases hk2 : k2 = 0
  case neg =>
    have hki : (k2 != 0) = true := by simp [hk2]
    have HP2 : Hid (P = (noBlk, k2)) := Lib.hid (by rw [HP3.out]; exact cnt_err HY.out hk2 _)
    clear HZ2
    have HZ2 := HZ5
    go_wp2_with (first
      | (with_reducible refine wp_build (o := ⟨some 34, _, _, _, _, _⟩) ?_ 48 #[] ?_ [] ?_ ZBlk.toArray hbt ?_
         · rfl
         · rfl
         · rfl)
      | (with_reducible refine wp_store_blk (o := ⟨none, _, _, _, _, _⟩) ?_ 48 (.tmp 2) (.tmp 34) ?_ (z2) 48 (ZBlk.toArray) (ZBlk.toArray) ?_ ?_ (HZ2.out) ?_ ?_ ?_ (z2) (w5) ?_ ?_ ?_
         · rfl
         · rfl
         · rfl
         · rfl
         · exact (by rw [List.size_toArray]; exact info_Blk rfl)
         · exact (rfl)
         · exact (hzo)
         · exact (Below.refl _ _)
         · exact (Nat.le_refl _)
         intro wf hBf hbf hgf hsf))
    refine bodyPost_ret (results_cell2 rfl _ _ _ z2 _ ZBlk _ rfl hBf.out Try.underlying48 rfl (info_Blk rfl)) rfl ?_
    exact BlkDec.bad HP2 ((HWW5.out).trans (hbf.mono (by have := HZZ.out; omega)))
  subst hk2
  by_cases hm2 : 2000 < m
  · have hmi : (2000 : Int) < (m : Int) := by omega
    have HP2 : Hid (P = (noBlk, 4)) := Lib.hid (by rw [HP3.out]; exact cnt_full HY.out (by have := HM.out; omega) _)
    clear HZ2
    have HZ2 := HZ5
    go_wp2_with (first
      | (with_reducible refine wp_build (o := ⟨some 38, _, _, _, _, _⟩) ?_ 48 #[] ?_ [] ?_ ZBlk.toArray hbt ?_
         · rfl
         · rfl
         · rfl)
      | (with_reducible refine wp_store_blk (o := ⟨none, _, _, _, _, _⟩) ?_ 48 (.tmp 2) (.tmp 38) ?_ (z2) 48 (ZBlk.toArray) (ZBlk.toArray) ?_ ?_ (HZ2.out) ?_ ?_ ?_ (z2) (w5) ?_ ?_ ?_
         · rfl
         · rfl
         · rfl
         · rfl
         · exact (by rw [List.size_toArray]; exact info_Blk rfl)
         · exact (rfl)
         · exact (hzo)
         · exact (Below.refl _ _)
         · exact (Nat.le_refl _)
         intro wf hBf hbf hgf hsf))
    refine bodyPost_ret (results_cell2 rfl _ _ _ z2 _ ZBlk _ rfl hBf.out Try.underlying48 rfl (info_Blk rfl)) rfl ?_
    exact BlkDec.bad HP2 ((HWW5.out).trans (hbf.mono (by have := HZZ.out; omega)))
  have hmi : ¬ (2000 : Int) < (m : Int) := by omega
  have hm3 : m ≤ 2000 := by omega
  have HP4 : Hid (P = restB hd [] m s2) := Lib.hid (by rw [HP3.out, HM.out]; exact cnt_fine HY.out (by have := HM.out; omega) hd)
  have HL2 : Hid (s2.length ≤ 200000) := Lib.hid (by have := cut_len HY.out; have := HL1.out; omega)
  go_upto_region 11 with fail
  clear hm2 hmi HP3 HY HM HZ2
  have l4 := blk_range HF5.out
  have hbh := built_blkh hd HK.out
  have hoh : (hd.cells ++ [Value.slice none 0 0]).toArray.all (·.oneCell') = true := by
    have h1 := Hdr.cells_one hd
    rw [List.all_toArray] at h1 ⊢
    rw [List.all_append, h1]
    rfl
  have hlh : (hd.cells ++ [Value.slice none 0 0]).length = 69 := by rw [List.length_append, Hdr.cells_len HK.out]; rfl
  have HLH := Lib.hid hlh
  have hsh : ZBlk.toArray.size = (hd.cells ++ [Value.slice none 0 0]).toArray.size := by rw [List.size_toArray, List.size_toArray, hlh]; rfl
  have hbn := below_new w5 (.cells ZBlk.toArray 48)
  clear hlh
  obtain ⟨q2, n2, c2, rfl⟩ : ∃ q n c, v2 = .slice q n c := by obtain ⟨q, n, c, e, _⟩ := HO5.out.open; exact ⟨_, _, _, e⟩
  go_upto_region 13 with (first
    | (with_reducible refine wpList_load_mid (op := ⟨some 39, _, _, _, _, _⟩) ?_ 46 (.tmp 4) ?_ (z4) (0) ?_ (hd.cells) _ (l4) Try.underlying46 ?_ ?_ ?_
       · rfl
       · rfl
       · rfl
       · rfl
       · exact (hdr_size HK.out))
    | (with_reducible refine wp_build (o := ⟨some 40, _, _, _, _, _⟩) ?_ 48 #[(0, .tmp 39)] ?_ [(0, .agg hd.cells.toArray)] ?_ (hd.cells ++ [Value.slice none 0 0]).toArray hbh ?_
       · rfl
       · rfl
       · rfl)
    | (with_reducible refine wp_store_blk (o := ⟨none, _, _, _, _, _⟩) ?_ 48 (.tmp 8) (.tmp 40) ?_ (w5.heap.size) 48 (ZBlk.toArray) ((hd.cells ++ [Value.slice none 0 0]).toArray) ?_ ?_ (Blk.new w5 _ _) ?_ ?_ ?_ (w5.heap.size) (w5) ?_ ?_ ?_
       · rfl
       · rfl
       · rfl
       · rfl
       · exact (by rw [List.size_toArray]; exact info_Blk HLH.out)
       · exact (hsh)
       · exact (hoh)
       · exact (hbn)
       · exact (Nat.le_refl _)
       intro w6 hB6 hb6 hg6 hs6))
  have HO6 := Lib.hid (Own8.fut HO5.out hb6)
  have HB6 := Lib.hid (below_fut HB5.out hb6 (Nat.le_refl _))
  have HZ6 := Lib.hid (HZ5.out.fut hb6)
  have HX6 := Lib.hid hB6.out
  obtain ⟨z7, hz7⟩ : ∃ z, z = w5.heap.size := ⟨_, rfl⟩
  have H17 : Hid (w1.heap.size ≤ z7) := Lib.hid (by rw [hz7]; exact HB5.out.size)
  rw [← hz7] at HX6 ⊢
  clear hz7 hbn hsh hoh hbh l4 hb6 hg6 hs6 hB6 HO5 HB5 HZ5 HF5 HWW5
  try simp only [put_none]
  go_loopw [5, 42] (fun u i wr => ∃ (k : Nat) (sr : Bs) (xs : List TTx) (v7 : Value), k ≤ m ∧ i = .int .u64 k ∧ Hid (xs.length = k) ∧ Hid (P = restB hd xs (m - k) sr) ∧ Hid (sr.length ≤ 200000) ∧ Hid (Own8 wr w1.heap.size u sr) ∧ Hid (Below w1.heap.size w1 wr) ∧ Hid (Blk wr z2 48 ZBlk.toArray) ∧ Hid (Blk wr z7 48 (hd.cells ++ [v7]).toArray) ∧ Hid (RowO (TxO w1.heap.size) 26 4 w1.heap.size wr v7 xs)) (fun _ i _ => m - (intOf i).toNat)
  case atStart => exact ⟨0, s2, [], .slice none 0 0, by omega, rfl, Lib.hid rfl, HP4, HL2, HO6, HB6, HZ6, HX6, Lib.hid (RowO.nil _ _ _ _ _)⟩
  case round =>
    clear HP4 HL2 HO6 HB6 HZ6 HX6
    obtain ⟨k, sr, xs, v7, hkm, rfl, HXL, HPk, HLk, HOk, HBk, HZk, HXk, HTk⟩ := hrel
    obtain ⟨qk, nk, ck, rfl, hnk, hnck, hcmk, hrk⟩ := HOk.out.open
    have HNK := Lib.hid hnk.out
    have HWWk : Hid (Below w.heap.size w wr) := Lib.hid (HB01.out.trans (HBk.out.mono HB01.out.size))
    by_cases hkn : k < m
    case neg =>
      obtain rfl : k = m := by omega
      have hge : ¬ (k : Int) < (k : Int) := by omega
      have hPe : P = if sr = [] then (⟨hd, xs⟩, 0) else (noBlk, 70) := by rw [HPk.out, Nat.sub_self]; exact restB_end
      by_cases hnk0 : 0 < nk
      · have hni : (0 : Int) < (nk : Int) := by omega
        have HP2 : Hid (P = (noBlk, 70)) := Lib.hid (by rw [hPe, if_neg]; intro e; have := HNK.out; rw [e] at this; simp at this; omega)
        clear hPe hrk hnk
        have HZ2 := HZk
        go_wp2_with (first
          | (with_reducible refine wp_build (o := ⟨some 65, _, _, _, _, _⟩) ?_ 48 #[] ?_ [] ?_ ZBlk.toArray hbt ?_
             · rfl
             · rfl
             · rfl)
          | (with_reducible refine wp_store_blk (o := ⟨none, _, _, _, _, _⟩) ?_ 48 (.tmp 2) (.tmp 65) ?_ (z2) 48 (ZBlk.toArray) (ZBlk.toArray) ?_ ?_ (HZ2.out) ?_ ?_ ?_ (z2) (wr) ?_ ?_ ?_
             · rfl
             · rfl
             · rfl
             · rfl
             · exact (by rw [List.size_toArray]; exact info_Blk rfl)
             · exact (rfl)
             · exact (hzo)
             · exact (Below.refl _ _)
             · exact (Nat.le_refl _)
             intro wf hBf hbf hgf hsf))
        refine bodyPost_ret (results_cell2 rfl _ _ _ z2 _ ZBlk _ rfl hBf.out Try.underlying48 rfl (info_Blk rfl)) rfl ?_
        exact BlkDec.bad HP2 ((HWWk.out).trans (hbf.mono (by have := HZZ.out; omega)))
      · have hni : ¬ (0 : Int) < (nk : Int) := by omega
        have HP2 : Hid (P = (⟨hd, xs⟩, 0)) := Lib.hid (by rw [hPe, if_pos]; exact List.eq_nil_of_length_eq_zero (by have := HNK.out; omega))
        clear hPe hrk hnk
        obtain ⟨bc, hbc⟩ : ∃ bc : List Value, bc = hd.cells ++ [v7] := ⟨_, rfl⟩
        have HBC := Lib.hid hbc
        have hbl : bc.length = 69 := by rw [hbc, List.length_append, Hdr.cells_len HK.out]; rfl
        have HBL := Lib.hid hbl
        have hX : Blk wr z7 48 bc.toArray := by rw [hbc]; exact HXk.out
        have l7 := blk_range hX
        have hoX : bc.toArray.all (·.oneCell') = true := by
          have h1 := Hdr.cells_one hd
          rw [List.all_toArray] at h1 ⊢
          rw [hbc, List.all_append, h1]
          simp only [List.all_cons, List.all_nil, Bool.and_true, Bool.true_and]
          exact (HTk.out.e (E' := TxC) fun _ _ h => h.c).one
        have hsX : ZBlk.toArray.size = bc.toArray.size := by rw [List.size_toArray, List.size_toArray, hbl]; rfl
        clear hbc hbl hX
        go_wp2_with (first
          | (with_reducible refine wpList_load_mid (op := ⟨some 66, _, _, _, _, _⟩) ?_ 48 (.tmp 8) ?_ (z7) (0) ?_ (bc) _ (l7) Try.underlying48 ?_ ?_ ?_
             · rfl
             · rfl
             · rfl
             · rfl
             · exact (info_Blk HBL.out))
          | (with_reducible refine wp_store_blk (o := ⟨none, _, _, _, _, _⟩) ?_ 48 (.tmp 2) (.tmp 66) ?_ (z2) 48 (ZBlk.toArray) (bc.toArray) ?_ ?_ (HZk.out) ?_ ?_ ?_ (z2) (wr) ?_ ?_ ?_
             · rfl
             · rfl
             · rfl
             · rfl
             · exact (by rw [List.size_toArray]; exact info_Blk HBL.out)
             · exact (hsX)
             · exact (hoX)
             · exact (Below.refl _ _)
             · exact (Nat.le_refl _)
             intro wf hBf hbf hgf hsf))
        refine bodyPost_ret (results_cell2 rfl _ _ _ z2 _ bc _ rfl hBf.out Try.underlying48 rfl (info_Blk HBL.out)) rfl ?_
        rw [HP2.out]
        have hst := Stays.of_grown (S := fun k => k = z2) hgf.out (fun k h => by injection h with h; exact h.symm)
        refine ⟨bc, rfl, ⟨v7, HBC.out, HK.out, ?_⟩, HWWk.out.trans (hbf.mono (by have := HZZ.out; omega))⟩
        exact (HTk.out.sep (txO_keeps _) hst (Sep.low fun k hk => by have : k = z2 := hk; have := HLT.out; omega)).mono (fun _ _ h => h.mono HB01.out.size) HB01.out.size
    have hlt : (k : Int) < (m : Int) := by omega
    have hk63 : (k : Int) + 1 ≤ 9223372036854775807 := by omega
    have hzt := zTx
    have hqk : qk = none → ck = 0 := by
      obtain ⟨p', n', c', e, _, _, _, _, h6⟩ := HOk.out.sl
      injection e with e1 e2 e3
      subst e1 e2 e3
      exact h6
    have hD := fun (W : World) (hb : Below wr.heap.size wr W) => refTxDecode_any qk nk ck sr W (hrk.fut hb) HNK.out hnck hcmk (by have := HLk.out; have := HNK.out; omega) hqk
    obtain ⟨T, r, kk, hT, hTk⟩ : ∃ T r kk, txDecP sr = (T, r, kk) ∧ (kk ≠ 0 ∧ txZ sr = .error kk ∨ kk = 0 ∧ txZ sr = .ok (T, r)) := by
      unfold txDecP
      cases h : txZ sr with
      | error k => exact ⟨_, _, k, rfl, .inl ⟨nz_tx sr k h, rfl⟩⟩
      | ok x => obtain ⟨t, r⟩ := x; exact ⟨t, r, 0, rfl, .inr ⟨rfl, rfl⟩⟩
    have HTK := Lib.hid hTk
    clear hTk hrk hnk
    go_upto_region 15 with (first
      | (with_reducible refine (hD wr (Below.refl _ _)).mono ?_
         rintro e w15 ⟨cs, vr, rfl, hO, hov, hb15⟩
         simp only [hT] at hO hov ⊢
         have hot := hO.c.one
         have hcl := hO.len
         have HCL := Lib.hid hcl
         have hzs : ZTx.toArray.size = cs.toArray.size := by rw [List.size_toArray, List.size_toArray, hcl]; rfl
         have hbn := below_new w15 (.cells ZTx.toArray 26)
         have HO15 := Lib.hid hO
         have HV15 := Lib.hid hov
         have HB15 := Lib.hid hb15
         clear hO hov hb15 hcl)
      | (with_reducible refine wp_store_blk (o := ⟨none, _, _, _, _, _⟩) ?_ 26 (.tmp 9) (.tmp 47) ?_ (w15.heap.size) 26 (ZTx.toArray) (cs.toArray) ?_ ?_ (Blk.new w15 _ _) ?_ ?_ ?_ (w15.heap.size) (w15) ?_ ?_ ?_
         · rfl
         · rfl
         · rfl
         · rfl
         · exact (by rw [List.size_toArray]; exact info_Tx HCL.out)
         · exact (hzs)
         · exact (hot)
         · exact (hbn)
         · exact (Nat.le_refl _)
         intro w16 hB16 hb16 hg16 hs16))
    have HB16 := Lib.hid hB16.out
    have hst := Stays.of_below hb16 (Nat.le_refl _) (fun _ => False)
    have hBW := below_fut HB15.out hb16 (Nat.le_refl _)
    have hO16 := txO_keeps _ _ _ _ _ _ HO15.out hst (fun _ h => h.elim)
    have hV16 := HV15.out.sep hst (fun _ h => h.elim)
    have HO16 := Lib.hid (hO16.mono HBk.out.size : TxO w1.heap.size w16 T cs)
    have HV16 : Hid (Own8 w16 w1.heap.size vr r) := Lib.hid (ownsRow_mono hV16 HBk.out.size)
    obtain ⟨g8, hg8⟩ : ∃ z, z = w15.heap.size := ⟨_, rfl⟩
    have HG8 : Hid (wr.heap.size ≤ g8) := Lib.hid (by rw [hg8]; exact HB15.out.size)
    rw [← hg8] at HB16 ⊢
    clear hg8 hst hO16 hV16 hbn hzs hot hB16 hb16 hg16 hs16 HB15 HO15 HV15
    try simp only [put_none]
    have HBW := Lib.hid hBW
    have HZn := Lib.hid (HZk.out.fut hBW)
    have HXn := Lib.hid (HXk.out.fut hBW)
    have HTn := Lib.hid (HTk.out.sep (txO_keeps _) (Stays.of_below hBW (Nat.le_refl _) (fun _ => False)) (fun _ h => h.elim))
    have HBn : Hid (Below w1.heap.size w1 w16) := Lib.hid (below_fut HBk.out hBW (Nat.le_refl _))
    have HWWn : Hid (Below w.heap.size w w16) := Lib.hid (HB01.out.trans (HBn.out.mono HB01.out.size))
    clear hBW hD hT HZk HXk HTk HBk HWWk hzt
    by_cases hkk : kk = 0
    case neg =>
      have hki : (kk != 0) = true := by simp [hkk]
      have HP2 : Hid (P = (noBlk, kk)) := Lib.hid (by
        rcases HTK.out with ⟨_, h⟩ | ⟨h, _⟩
        · rw [HPk.out, show m - k = (m - k - 1) + 1 by omega]
          exact restB_err h
        · exact absurd h hkk)
      have HZ2 := HZn
      go_wp2_with (first
        | (with_reducible refine wp_build (o := ⟨some 52, _, _, _, _, _⟩) ?_ 48 #[] ?_ [] ?_ ZBlk.toArray hbt ?_
           · rfl
           · rfl
           · rfl)
        | (with_reducible refine wp_store_blk (o := ⟨none, _, _, _, _, _⟩) ?_ 48 (.tmp 2) (.tmp 52) ?_ (z2) 48 (ZBlk.toArray) (ZBlk.toArray) ?_ ?_ (HZ2.out) ?_ ?_ ?_ (z2) (w16) ?_ ?_ ?_
           · rfl
           · rfl
           · rfl
           · rfl
           · exact (by rw [List.size_toArray]; exact info_Blk rfl)
           · exact (rfl)
           · exact (hzo)
           · exact (Below.refl _ _)
           · exact (Nat.le_refl _)
           intro wf hBf hbf hgf hsf))
      refine bodyPost_ret (results_cell2 rfl _ _ _ z2 _ ZBlk _ rfl hBf.out Try.underlying48 rfl (info_Blk rfl)) rfl ?_
      exact BlkDec.bad HP2 ((HWWn.out).trans (hbf.mono (by have := HZZ.out; omega)))
    subst hkk
    have hok : txZ sr = .ok (T, r) := by
      rcases HTK.out with ⟨h, _⟩ | ⟨_, h⟩
      · exact absurd rfl h
      · exact h
    have HPn : Hid (P = restB hd (xs ++ [T]) (m - (k + 1)) r) := Lib.hid (by
      rw [HPk.out, show m - k = (m - (k + 1)) + 1 by omega]
      exact restB_ok hok)
    have HLn : Hid (r.length ≤ 200000) := Lib.hid (by have := txZ_len hok; have := HLk.out; omega)
    clear hok HTK HPk HLk
    obtain ⟨css, hcl, hown, hcs⟩ := HTn.out
    have hxl : xs.length = k := HXL.out
    have l8 := blk_range HB16.out
    have hl5 := HO16.out.len
    have H5 := Lib.hid hl5
    have ho5 := HO16.out.c.one
    have hB1 : w1.heap.size ≤ w16.heap.size := HBn.out.size
    have hz7n : v7.ownBlock ≠ some z7 := fun h => by
      rcases hown.2 with ⟨e', _⟩ | ⟨b', _, cur', e', _, hh, _⟩
      · rw [e'] at h; cases h
      · rw [e'] at h
        injection h with h
        have h' : b' = z7 := h
        rw [h'] at hh
        exact absurd (Blk.inj HXn.out (show Blk w16 z7 26 cur' from hh)).1 (by decide)
    have c68 : w16.cell? ⟨z7, 68, none⟩ = some v7 := by
      rw [HXn.out.cell, List.getElem?_toArray, List.getElem?_append_right (by rw [Hdr.cells_len HK.out]; exact Nat.le_refl _), Hdr.cells_len HK.out]
      rfl
    obtain ⟨pv, nv, cv, rfl⟩ : ∃ pv nv cv, v7 = .slice pv nv cv := by
      obtain ⟨p, c, e, _⟩ := ownsRow_open hown
      exact ⟨_, _, _, e⟩
    have HZ7N := Lib.hid hz7n
    have HOWN := Lib.hid hown
    have HCS := Lib.hid hcs
    have HCLL := Lib.hid hcl
    clear hown hcs hcl hz7n
    go_wp2_with (first
      | (with_reducible refine wpList_load_mid (op := ⟨some 56, _, _, _, _, _⟩) ?_ 26 (.tmp 9) ?_ (g8) (0) ?_ (cs) _ (l8) Try.underlying26 ?_ ?_ ?_
         · rfl
         · rfl
         · rfl
         · rfl
         · exact (info_Tx H5.out))
      | (with_reducible refine wp_lit (o := ⟨some 57, _, _, _, _, _⟩) ?_ 42 26 1 #[(0, .tmp 56)] ?_ [.agg cs.toArray] ?_ 4 64 _ Try.underlying42 tx_row ?_ ?_ ?_ ?_ ?_ ?_
         · rfl
         · rfl
         · rfl
         · omega
         · exact (fun v hv => by rw [List.mem_singleton.1 hv]; show cs.toArray.size = 4; rw [List.size_toArray]; exact hl5)
         · rfl
         · omega
         · omega
         simp only [List.flatMap_cons, List.flatMap_nil, List.append_nil, Value.cells])
      | (with_reducible refine wp_rowapp (o := ⟨some 58, _, _, _, _, _⟩) ?_ (.tmp 55) (.tmp 57) 42 26 ?_ _ 4 64 Try.underlying42 tx_row ?_ ?_ ?_ w1.heap.size _ xs.length css.flatten ?_ (World.ownsRow.alloc HOWN.out _) w16.heap.size 1 1 cs ?_ (Blk.new w16 _ _) ?_ ?_ ?_ ?_ ?_
         · rfl
         · rfl
         · rfl
         · omega
         · omega
         · rfl
         · rfl
         · omega
         · exact one_all ho5
         · omega
         · rw [World.size_alloc]; omega
         intro v8 w8 hl8 hg8 ho8
         have hX8 : Blk w8 z7 48 (hd.cells ++ [Value.slice pv nv cv]).toArray := (hg8.block z7 (HXn.out.alloc _).lt (Ne.symm HZ7N.out)).trans (HXn.out.alloc _)
         have c68n : w8.cell? ⟨z7, 68, none⟩ = some (.slice pv nv cv) := by
           rw [hX8.cell, List.getElem?_toArray, List.getElem?_append_right (by rw [Hdr.cells_len HK.out]; exact Nat.le_refl _), Hdr.cells_len HK.out]
           rfl
         have f68n := hX8.frozen 68
         have HX8 := Lib.hid hX8
         clear hX8
         obtain ⟨p8, n8, c8, rfl⟩ : ∃ p8 n8 c8, v8 = .slice p8 n8 c8 := by
           obtain ⟨p, c, e, _⟩ := ownsRow_open hl8
           exact ⟨_, _, _, e⟩))
    have hnew := below_new w16 (.cells cs.toArray 26)
    have hst : Stays (fun _ => False) w16 (w16.alloc (.cells cs.toArray 26)) := Stays.of_below hnew (Nat.le_refl _) _
    have hS8 := Stays.of_grown (S := fun k => Value.ownBlock _ = some k) hg8 (fun k h => h)
    have hS78 := Stays.set w8 z7 68 (.slice p8 n8 c8)
    have hROW := RowO.app HCLL.out (World.ownsRow.alloc HOWN.out _) (fun i y hy => by
      obtain ⟨cs', h6, h7, h8⟩ := HCS.out i y hy
      exact ⟨cs', h6, txO_keeps _ _ _ _ _ _ h7 hst (fun _ h => h.elim), h8⟩) (txO_keeps w1.heap.size) (by decide) (txO_keeps _ _ _ _ _ _ HO16.out hst (fun _ h => h.elim)) hl5 hl8 hg8
    have HROW := Lib.hid (hROW.sep (txO_keeps _) hS78 (sep_one HX8.out (by decide)))
    have hz2n : ¬ (Value.slice pv nv cv).ownBlock = some z2 := fun h => by have := (own_ge HOWN.out _ h).1; have := HLT.out; omega
    have HZ8 := Lib.hid (((HZn.out.fut hnew).stays hS8 hz2n).stays hS78 (by have := H17.out; have := HLT.out; omega))
    have HV8 := Lib.hid (((HV16.out.sep hst (fun _ h => h.elim)).sep hS8 (own_sep (World.ownsRow.alloc HOWN.out _) (by decide))).sep hS78 (sep_one HX8.out (by decide)))
    have HXX : Hid (Blk (w8.setCell ⟨z7, 68, none⟩ (.slice p8 n8 c8)) z7 48 (hd.cells ++ [Value.slice p8 n8 c8]).toArray) := Lib.hid (by
      have := HX8.out.set 68 (.slice p8 n8 c8)
      rwa [hdr_set hd HK.out] at this)
    have HBB : Hid (Below w1.heap.size w1 (w8.setCell ⟨z7, 68, none⟩ (.slice p8 n8 c8))) := Lib.hid (((below_fut HBn.out hnew (Nat.le_refl _)).trans (hS8.below (by have := hnew.size; omega) fun k hk => (own_ge HOWN.out k hk).1)).trans (hS78.below (by have := hnew.size; have := hS8.size; omega) fun k hk => by have : k = z7 := hk; have := H17.out; omega))
    clear hnew hst hS8 hS78 hROW hz2n hl8 hg8 ho8 c68n f68n c68 l8 hl5 ho5 hB1
    try go_wp2_with fail
    go_roundw
    case rel => exact ⟨k + 1, r, xs ++ [T], .slice p8 n8 c8, by omega, by go_num, Lib.hid (by rw [List.length_append, hxl]; rfl), HPn, HLn, HV8, HBB, HZ8, HXX, HROW⟩
    case measure => simp [intOf]; omega
end Go.Proofs.Ythglocpbdfcfnaa
