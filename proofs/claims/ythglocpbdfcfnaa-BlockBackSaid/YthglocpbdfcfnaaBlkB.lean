/- sporranlaw08.BlockBack, BlockShort: the walks. -/
import Derived.Test.YthglocpbdfcfnaaBlkA
import Derived.Test.YthglocpbdfcfnaaBlkI
import Derived.Test.YthglocpbdfcfnaaBlkR
namespace Go.Proofs.Ythglocpbdfcfnaa
open Go Go.RowKit
set_option linter.unusedVariables false

theorem blkP_cases (b : TBlk) : (∃ k, k ≠ 0 ∧ blkP b = ([], k)) ∨ (blkP b = (blkB b, 0) ∧ b.ts.length ≤ 2000 ∧ (∀ t ∈ b.ts, canTx t = true) ∧ (blkB b).length ≤ 200000) := by
  unfold blkP
  split
  · exact .inl ⟨1, by decide, rfl⟩
  · split
    · rename_i h1 h2
      rw [List.all_eq_true] at h2
      split
      · exact .inl ⟨91, by decide, rfl⟩
      · rename_i h3
        exact .inr ⟨rfl, by omega, h2, by omega⟩
    · exact .inl ⟨1, by decide, rfl⟩
theorem BlkC.hok {w : World} {b : TBlk} {cs : List Value} (h : BlkC w b cs) : b.h.ok := by obtain ⟨_, _, h, _⟩ := h; exact h
theorem blk_long (b : TBlk) (hk : b.h.ok) : 81 ≤ (blkB b).length := by
  unfold blkB
  have h1 : cntB b.ts.length ≠ [] := cntB_pos _
  have h2 : 0 < (cntB b.ts.length).length := by
    cases h : cntB b.ts.length with
    | nil => exact absurd h h1
    | cons _ _ => simp
  rw [List.length_append, List.length_append, Hdr.bytes_len hk]
  omega

set_option maxRecDepth 100000 in
set_option maxHeartbeats 8000000 in
theorem blockBack_walk (cs : Array Value) (b : TBlk) (W : World) (h : BlkC W b cs.toList) :
    Calls Try.prog 9 #[.agg cs] W fun e w' => e = .returned (.bool true) ∧ Below W.heap.size W w' := by
  obtain ⟨cl, hcl⟩ : ∃ cl, cl = cs.toList := ⟨_, rfl⟩
  have hcs : cs = cl.toArray := by rw [hcl]
  subst hcs
  rw [← hcl] at h
  clear hcl
  have hb1 := below_new W (.cells cl.toArray 48)
  have HB1 := Lib.hid (Blk.new W 48 cl.toArray)
  have HC1 := Lib.hid (blkC_keeps _ _ _ _ h hb1)
  have HW1 := Lib.hid hb1
  have HL := Lib.hid h.len
  obtain ⟨x, hx⟩ : ∃ x, x = blkP b := ⟨_, rfl⟩
  have hcase := blkP_cases b
  rw [← hx] at hcase
  obtain ⟨bb, k⟩ := x
  have HX := Lib.hid hx.symm
  have HCA := Lib.hid hcase
  clear h hb1 hx hcase
  go_enter Try.func9, Try.ntmps9
  go_upto_region 1 with fail
  generalize W.alloc (.cells cl.toArray 48) = w1 at *
  obtain ⟨z, hz⟩ : ∃ z, z = W.heap.size := ⟨_, rfl⟩
  rw [← hz] at HB1 ⊢
  clear hz
  have l1 := blk_range HB1.out
  have hE := blkEncode_any b cl w1 HC1.out
  rw [HX.out] at hE
  unfold OutB at hE
  simp only at hE
  go_upto_region 2 with (first
    | (with_reducible refine wpList_load_mid (op := ⟨some 9, _, _, _, _, _⟩) ?_ 48 (.tmp 1) ?_ (z) (0) ?_ (cl) _ (l1) Try.underlying48 ?_ ?_ ?_
       · rfl
       · rfl
       · rfl
       · rfl
       · exact ((info_Blk HL.out)))
    | (with_reducible refine hE.mono ?_; rintro e w2 ⟨v, rfl, ho, hb2⟩))
  have HO2 := Lib.hid ho
  have HB2 := Lib.hid (HB1.out.fut hb2)
  have HC2 := Lib.hid (blkC_keeps _ _ _ _ HC1.out hb2)
  have HW2 := Lib.hid (below_fut HW1.out hb2 (Nat.le_refl _))
  have l2 := blk_range HB2.out
  have hE2 := refBlkEncode_any b cl w2 HC2.out
  rw [HX.out] at hE2
  unfold OutB at hE2
  simp only at hE2
  obtain ⟨q, m, d, rfl, hm, hmd, hdm, hr⟩ := Own8.open ho
  have HM := Lib.hid hm.out
  have HRR := Lib.hid hr
  clear ho hb2 l1 hE HB1 HC1 HW1 hm hr
  go_upto_region 3 with (first
    | (with_reducible refine wpList_load_mid (op := ⟨some 14, _, _, _, _, _⟩) ?_ 48 (.tmp 1) ?_ (z) (0) ?_ (cl) _ (l2) Try.underlying48 ?_ ?_ ?_
       · rfl
       · rfl
       · rfl
       · rfl
       · exact ((info_Blk HL.out)))
    | (with_reducible refine hE2.mono ?_; rintro e w3 ⟨v3, rfl, ho3, hb3⟩))
  have HR3 := Lib.hid (HRR.out.fut hb3)
  have HB3 := Lib.hid (HB2.out.fut hb3)
  have HC3 := Lib.hid (blkC_keeps _ _ _ _ HC2.out hb3)
  have HW3 := Lib.hid (below_fut HW2.out hb3 (Nat.le_refl _))
  clear ho3 hb3 l2 hE2 HB2 HC2 HW2 HRR HO2
  have hkk : (k != k) = false := by simp
  by_cases hk : k = 0
  case neg =>
    have hki : (k != 0) = true := by simp [hk]
    have hm0 : m = 0 := by
      rcases HCA.out with ⟨k', _, e⟩ | ⟨e, _⟩
      · injection e with e1 _
        rw [← HM.out, e1]
        rfl
      · injection e with _ e2
        exact absurd e2 hk
    subst hm0
    go_wp2_with fail
    refine (awakeB_any _).mono ?_
    rintro e w4 ⟨rfl, hb4⟩
    go_wp2_with fail
    go_ret
    exact ⟨rfl, below_fut HW3.out hb4 (Nat.le_refl _)⟩
  subst hk
  obtain ⟨hbb, hn, hcan, hlen⟩ : bb = blkB b ∧ b.ts.length ≤ 2000 ∧ (∀ t ∈ b.ts, canTx t = true) ∧ (blkB b).length ≤ 200000 := by
    rcases HCA.out with ⟨k', hk', e⟩ | ⟨e, h1, h2, h3⟩
    · injection e with _ e2
      exact absurd e2.symm hk'
    · injection e with e1 _
      exact ⟨e1, h1, h2, h3⟩
  have hP : blkDecP bb = (b, 0) := by
    unfold blkDecP
    rw [if_neg (by rw [hbb]; omega), hbb]
    have := blk_dec b HC3.out.hok hn hcan HC3.out.ok []
    rw [List.append_nil] at this
    rw [this]
    rfl
  have hD := blkDecode_any q m d bb w3 HR3.out HM.out hmd hdm
  rw [hP] at hD
  have hzz := zBlk
  clear hP hbb hn hcan hlen hkk
  go_upto_region 8 with (first
    | (with_reducible refine hD.mono ?_
       rintro e w5 ⟨cs5, rfl, hO, hb5⟩
       simp only at hO
       have hone5 := hO.c.one
       have HCL5 := Lib.hid hO.c.len
       have hbn := below_new w5 (.cells ZBlk.toArray 48)
       have hzsz := hO.c.size
       have HO5 := Lib.hid hO.c
       have HB5 := Lib.hid hb5
       clear hO hb5)
    | (with_reducible refine wp_store_blk (o := ⟨none, _, _, _, _, _⟩) ?_ 48 (.tmp 7) (.tmp 32) ?_ (w5.heap.size) 48 (ZBlk.toArray) (cs5.toArray) ?_ ?_ (Blk.new w5 _ _) ?_ ?_ ?_ (w5.heap.size) (w5) ?_ ?_ ?_
       · rfl
       · rfl
       · rfl
       · rfl
       · exact (by rw [List.size_toArray]; exact info_Blk HCL5.out)
       · exact (hzsz)
       · exact (hone5)
       · exact (hbn)
       · exact (Nat.le_refl _)
       intro w6 hB6 hb6 hg6 hs6))
  have hb36 := below_fut HB5.out hb6 (Nat.le_refl _)
  have HW6 := Lib.hid (below_fut HW3.out hb36 (Nat.le_refl _))
  have HC6 := Lib.hid (blkC_keeps _ _ _ _ HC3.out hb36)
  have HX6 := Lib.hid (blkC_keeps _ _ _ _ HO5.out hb6)
  have l6 := blk_range (HB3.out.fut hb36)
  have l5 := blk_range hB6.out
  have hst := sameBlk_any b cs5 cl w6 HX6.out HC6.out
  clear hb36 hb6 hg6 hs6 hbn hzsz hone5 hB6 hD hzz
  go_wp2_with (first
    | (with_reducible refine wpList_load_midG (op := ⟨some 37, _, _, _, _, _⟩) ?_ 48 (.tmp 7) ?_ (w5.heap.size) (0) ?_ (cs5) _ (l5) Try.underlying48 ?_ ?_ ?_
       · rfl
       · rfl
       · rfl
       · rfl
       · exact ((info_Blk HCL5.out)))
    | (with_reducible refine wpList_load_midG (op := ⟨some 38, _, _, _, _, _⟩) ?_ 48 (.tmp 1) ?_ (z) (0) ?_ (cl) _ (l6) Try.underlying48 ?_ ?_ ?_
       · rfl
       · rfl
       · rfl
       · rfl
       · exact ((info_Blk HL.out))))
  refine hst.mono ?_
  rintro e w8 ⟨rfl, hb8⟩
  go_wp2_with fail
  go_ret
  exact ⟨rfl, below_fut HW6.out hb8 (Nat.le_refl _)⟩

set_option maxRecDepth 100000 in
set_option maxHeartbeats 8000000 in
theorem blockShort_walk (cs : Array Value) (b : TBlk) (zn : Int) (y : BitVec 8) (W : World) (h : BlkC W b cs.toList) (hz1 : -9223372036854775808 ≤ zn) (hz2 : zn ≤ 9223372036854775807) :
    Calls Try.prog 7 #[.agg cs, .int .i64 zn, .int .u8 (iv8 y)] W fun e w' => e = .returned (.bool true) ∧ Below W.heap.size W w' := by
  obtain ⟨cl, hcl⟩ : ∃ cl, cl = cs.toList := ⟨_, rfl⟩
  have hcs : cs = cl.toArray := by rw [hcl]
  subst hcs
  rw [← hcl] at h
  clear hcl
  have hb1 := below_new W (.cells cl.toArray 48)
  have HB1 := Lib.hid (Blk.new W 48 cl.toArray)
  have HC1 := Lib.hid (blkC_keeps _ _ _ _ h hb1)
  have HW1 := Lib.hid hb1
  have HL := Lib.hid h.len
  obtain ⟨x, hx⟩ : ∃ x, x = blkP b := ⟨_, rfl⟩
  have hcase := blkP_cases b
  rw [← hx] at hcase
  obtain ⟨bb, k⟩ := x
  have HX := Lib.hid hx.symm
  have HCA := Lib.hid hcase
  clear h hb1 hx hcase
  go_enter Try.func7, Try.ntmps7
  go_upto_region 1 with fail
  generalize W.alloc (.cells cl.toArray 48) = w1 at *
  obtain ⟨z, hz⟩ : ∃ z, z = W.heap.size := ⟨_, rfl⟩
  rw [← hz] at HB1 ⊢
  clear hz
  have l1 := blk_range HB1.out
  have hE := blkEncode_any b cl w1 HC1.out
  rw [HX.out] at hE
  unfold OutB at hE
  simp only at hE
  go_upto_region 2 with (first
    | (with_reducible refine wpList_load_mid (op := ⟨some 16, _, _, _, _, _⟩) ?_ 48 (.tmp 3) ?_ (z) (0) ?_ (cl) _ (l1) Try.underlying48 ?_ ?_ ?_
       · rfl
       · rfl
       · rfl
       · rfl
       · exact ((info_Blk HL.out)))
    | (with_reducible refine hE.mono ?_; rintro e w2 ⟨v, rfl, ho, hb2⟩))
  have HB2 := Lib.hid (HB1.out.fut hb2)
  have HC2 := Lib.hid (blkC_keeps _ _ _ _ HC1.out hb2)
  have HW2 := Lib.hid (below_fut HW1.out hb2 (Nat.le_refl _))
  have l2 := blk_range HB2.out
  have hE2 := refBlkEncode_any b cl w2 HC2.out
  rw [HX.out] at hE2
  unfold OutB at hE2
  simp only at hE2
  obtain ⟨q, m, d, rfl, hm, hmd, hdm, hr⟩ := Own8.open ho
  have hq : q = none → d = 0 := by
    obtain ⟨p', n', c', e, _, _, _, _, h6⟩ := ho.sl
    injection e with e1 e2 e3
    subst e1 e2 e3
    exact h6
  have HM := Lib.hid hm.out
  have HRR := Lib.hid hr
  have hkk : (k == k) = true := by simp
  clear ho hb2 l1 hE HB1 HC1 HW1 hm hr
  by_cases hgo : k = 0 ∧ m ≤ 190000
  case neg =>
    have hmb : ¬ (k = 0 ∧ ¬ 81 ≤ m) := by
      rintro ⟨rfl, hm81⟩
      rcases HCA.out with ⟨k', hk', e⟩ | ⟨e, _⟩
      · injection e with _ e2
        exact hk' e2.symm
      · injection e with e1 _
        have := blk_long b HC2.out.hok
        rw [← e1, HM.out] at this
        exact hm81 this
    by_cases hk : k = 0
    · subst hk
      have h81 : 81 ≤ m := Nat.le_of_not_lt fun h => hmb ⟨rfl, by omega⟩
      have h19 : 190000 < m := Nat.lt_of_not_le fun h => hgo ⟨rfl, h⟩
      have i81 : ¬ (m : Int) < 81 := by omega
      have i19 : (190000 : Int) < (m : Int) := by omega
      clear hgo hmb
      go_wp2_with (first
        | (with_reducible refine wpList_load_mid (op := ⟨some 33, _, _, _, _, _⟩) ?_ 48 (.tmp 3) ?_ (z) (0) ?_ (cl) _ (l2) Try.underlying48 ?_ ?_ ?_
           · rfl
           · rfl
           · rfl
           · rfl
           · exact ((info_Blk HL.out)))
        | (with_reducible refine hE2.mono ?_; rintro e w3 ⟨v3, rfl, ho3, hb3⟩; have HW3 := Lib.hid (below_fut HW2.out hb3 (Nat.le_refl _)); clear ho3 hb3))
      refine (awakeB_any _).mono ?_
      rintro e w4 ⟨rfl, hb4⟩
      go_wp2_with fail
      go_ret
      exact ⟨rfl, below_fut HW3.out hb4 (Nat.le_refl _)⟩
    · have hki : (k != 0) = true := by simp [hk]
      clear hgo hmb
      go_wp2_with (first
        | (with_reducible refine wpList_load_mid (op := ⟨some 33, _, _, _, _, _⟩) ?_ 48 (.tmp 3) ?_ (z) (0) ?_ (cl) _ (l2) Try.underlying48 ?_ ?_ ?_
           · rfl
           · rfl
           · rfl
           · rfl
           · exact ((info_Blk HL.out)))
        | (with_reducible refine hE2.mono ?_; rintro e w3 ⟨v3, rfl, ho3, hb3⟩; have HW3 := Lib.hid (below_fut HW2.out hb3 (Nat.le_refl _)); clear ho3 hb3))
      refine (awakeB_any _).mono ?_
      rintro e w4 ⟨rfl, hb4⟩
      go_wp2_with fail
      go_ret
      exact ⟨rfl, below_fut HW3.out hb4 (Nat.le_refl _)⟩
  obtain ⟨rfl, hm19⟩ := hgo
  obtain ⟨hbb, hn, hcan, hlen⟩ : bb = blkB b ∧ b.ts.length ≤ 2000 ∧ (∀ t ∈ b.ts, canTx t = true) ∧ (blkB b).length ≤ 200000 := by
    rcases HCA.out with ⟨k', hk', e⟩ | ⟨e, h1, h2, h3⟩
    · injection e with _ e2
      exact absurd e2.symm hk'
    · injection e with e1 _
      exact ⟨e1, h1, h2, h3⟩
  have hm81 : 81 ≤ m := by have := blk_long b HC2.out.hok; rw [← hbb, HM.out] at this; exact this
  have i81 : ¬ (m : Int) < 81 := by omega
  have i19 : ¬ (190000 : Int) < (m : Int) := by omega
  have hnz : ¬ (m : Int) = 0 := by omega
  obtain ⟨j, hj, hjm⟩ := rem_small zn m (by omega) (by omega)
  have hsl := slice_h8k w2 q m d j (by omega)
  have hD := blkDecode_any q j d (bb.take j) w2 (HRR.out.take j) (by rw [List.length_take]; have := HM.out; omega) (by omega) hdm
  have hP : blkDecP (bb.take j) = (noBlk, 50) := by
    unfold blkDecP
    rw [if_neg (by rw [List.length_take]; have := HM.out; omega), hbb, blk_cut b HC2.out.hok hn hcan HC2.out.ok j (by rw [← hbb, HM.out]; exact hjm)]
    rfl
  have hP2 : blkDecP (bb ++ [y]) = (noBlk, 70) := by
    unfold blkDecP
    rw [if_neg (by rw [List.length_append, HM.out]; simp; omega), hbb, blk_dec b HC2.out.hok hn hcan HC2.out.ok [y]]
    rfl
  rw [hP] at hD
  have HP2 := Lib.hid hP2
  have hzz := zBlk
  clear hP hP2 hbb hn hcan hlen hkk hE2 l2 HCA HX
  go_upto_region 6 with (first
    | (with_reducible refine hD.mono ?_
       rintro e w5 ⟨cs5, rfl, hO, hb5⟩
       simp only at hO
       have hone5 := hO.c.one
       have HCL5 := Lib.hid hO.c.len
       have hbn := below_new w5 (.cells ZBlk.toArray 48)
       have hzsz := hO.c.size
       have HB5 := Lib.hid hb5
       clear hO hb5)
    | (with_reducible refine wp_store_blk (o := ⟨none, _, _, _, _, _⟩) ?_ 48 (.tmp 11) (.tmp 54) ?_ (w5.heap.size) 48 (ZBlk.toArray) (cs5.toArray) ?_ ?_ (Blk.new w5 _ _) ?_ ?_ ?_ (w5.heap.size) (w5) ?_ ?_ ?_
       · rfl
       · rfl
       · rfl
       · rfl
       · exact (by rw [List.size_toArray]; exact info_Blk HCL5.out)
       · exact (hzsz)
       · exact (hone5)
       · exact (hbn)
       · exact (Nat.le_refl _)
       intro w6 hB6 hb6 hg6 hs6))
  have hb26 := below_fut HB5.out hb6 (Nat.le_refl _)
  have HW6 := Lib.hid (below_fut HW2.out hb26 (Nat.le_refl _))
  have hcl6 := clone_any q m d bb w6 (HRR.out.fut hb26) HM.out (by omega) (fun e => by have := hq e; omega)
  clear hb26 hb6 hg6 hs6 hbn hzsz hone5 hB6 hD i81 i19 hnz hj hsl
  try simp only [put_none]
  go_wp2_with fail
  refine hcl6.mono ?_
  rintro e w7 ⟨v7, rfl, ho7, hb7⟩
  have HW7 := Lib.hid (below_fut HW6.out hb7 (Nat.le_refl _))
  have hs7 := hb7.size
  have hrow := new_one w7 y
  have ho8 := Own8.alloc ho7 (.cells #[u8 y] 5)
  have hb8 := Below.refl w6.heap.size (w7.alloc (.cells #[u8 y] 5))
  have hs8 : w6.heap.size ≤ (w7.alloc (.cells #[u8 y] 5)).heap.size := by rw [World.size_alloc]; omega
  obtain ⟨q7, m7, d7, rfl, _⟩ := Own8.open ho7
  clear hcl6 ho7 hb7
  go_wp2_with ((with_reducible refine wp_append8 (o := ⟨some 61, _, _, _, _, _⟩) ?_ (.tmp 58) (.tmp 60) ?_ (w6.heap.size) _ (bb) ?_ (ho8) ((some ⟨w7.heap.size, 0, none⟩)) (1) (1) ([y]) ?_ (rfl) (hrow) ?_ (hs8) (w6.heap.size) ((w7.alloc (.cells #[u8 y] 5))) (hb8) ?_ ?_
                · rfl
                · rfl
                · rfl
                · rfl
                · have := HM.out; simp only [List.length_cons, List.length_nil]; omega
                · exact Nat.le_refl _
                intro v9 w9 ho9 hb9 hg9 hk9))
  obtain ⟨q9, m9, d9, rfl, hm9, hmd9, hdm9, hr9⟩ := Own8.open ho9
  have hD9 := blkDecode_any q9 m9 d9 (bb ++ [y]) w9 hr9 hm9.out hmd9 hdm9
  rw [HP2.out] at hD9
  have HW9 : Hid (Below W.heap.size W w9) := Lib.hid ((below_fut HW7.out (below_new w7 _) (Nat.le_refl _)).trans (hb9.mono HW6.out.size))
  clear ho9 hg9 hk9 hr9 hb9 ho8 hrow hb8 hs8 hs7
  refine hD9.mono ?_
  rintro e w10 ⟨cs10, rfl, hO, hb10⟩
  simp only at hO
  have hone10 := hO.c.one
  have HCL10 := Lib.hid hO.c.len
  have hbn := below_new w10 (.cells ZBlk.toArray 48)
  have hzsz := hO.c.size
  have HB10 := Lib.hid hb10
  clear hO hb10
  go_upto_region 7 with (first
    | (with_reducible refine wp_store_blk (o := ⟨none, _, _, _, _, _⟩) ?_ 48 (.tmp 13) (.tmp 63) ?_ (w10.heap.size) 48 (ZBlk.toArray) (cs10.toArray) ?_ ?_ (Blk.new w10 _ _) ?_ ?_ ?_ (w10.heap.size) (w10) ?_ ?_ ?_
       · rfl
       · rfl
       · rfl
       · rfl
       · exact (by rw [List.size_toArray]; exact info_Blk HCL10.out)
       · exact (hzsz)
       · exact (hone10)
       · exact (hbn)
       · exact (Nat.le_refl _)
       intro w11 hB11 hb11 hg11 hs11))
  have HW11 := Lib.hid (below_fut HW9.out (below_fut HB10.out hb11 (Nat.le_refl _)) (Nat.le_refl _))
  go_wp2_with fail
  go_ret
  exact ⟨rfl, HW11.out⟩
end Go.Proofs.Ythglocpbdfcfnaa
