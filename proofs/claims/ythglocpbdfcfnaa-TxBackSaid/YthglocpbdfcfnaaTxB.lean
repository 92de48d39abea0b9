/- sporranlaw07.TxBack: the walk. -/
import Derived.Test.YthglocpbdfcfnaaTxA
import Derived.Test.YthglocpbdfcfnaaTxY
namespace Go.Proofs.Ythglocpbdfcfnaa
open Go Go.RowKit
set_option linter.unusedVariables false

set_option maxRecDepth 100000 in
set_option maxHeartbeats 8000000 in
theorem txBack_walk (cs : Array Value) (t : TTx) (p : Option Addr) (n c : Nat) (bs : List (BitVec 8)) (W : World) (h : TxC W t cs.toList) (hn : bs.length = n) (hl : n ≤ c) (hcb : c ≤ 140737488351232) (hr : Row8 W p bs) (hp : p = none → c = 0) :
    Calls Try.prog 6 #[.agg cs, .slice p n c] W fun e w' => e = .returned (.bool true) ∧ Below W.heap.size W w' := by
  obtain ⟨cl, hcl⟩ : ∃ cl, cl = cs.toList := ⟨_, rfl⟩
  have hcs : cs = cl.toArray := by rw [hcl]
  subst hcs
  rw [← hcl] at h
  clear hcl
  have hl4 : cl.length = 4 := by obtain ⟨_, _, rfl, _⟩ := h; rfl
  have hb1 := below_new W (.cells cl.toArray 26)
  have HB1 := Lib.hid (Blk.new W 26 cl.toArray)
  have HC1 := Lib.hid (txC_keeps _ _ _ _ h hb1)
  have HW1 := Lib.hid hb1
  have HL := Lib.hid hl4
  have HSL : Hid (Sl W (.slice p n c) bs) := Lib.hid ⟨p, n, c, rfl, hn, hl, by unfold maxLen; omega, hr, hp⟩
  have HR := Lib.hid hr
  have HN := Lib.hid hn
  clear h hb1 hl4 hr hn hp
  go_enter Try.func6, Try.ntmps6
  go_upto_region 1 with fail
  generalize W.alloc (.cells cl.toArray 26) = w1 at *
  have l1 := blk_range HB1.out
  have hE := txEncode_any t cl true w1 HC1.out
  unfold OutB at hE
  have hC := fun w (hb : Below w1.heap.size w1 w) => refCan_any t cl w (txC_keeps _ _ _ _ HC1.out hb)
  by_cases hcan : canTx t = true
  case neg =>
    have hcf : canTx t = false := by cases h : canTx t <;> simp_all
    have hP : txP t true = ([], 1) := by unfold txP; rw [hcf]; rfl
    rw [hP] at hE
    rw [hcf] at hC
    simp only at hE
    clear hcan hcf hP
    go_upto_region 2 with (first
      | (with_reducible refine wpList_load_mid (op := ⟨some 11, _, _, _, _, _⟩) ?_ 26 (.tmp 2) ?_ (W.heap.size) (0) ?_ (cl) _ (l1) Try.underlying26 ?_ ?_ ?_
         · rfl
         · rfl
         · rfl
         · rfl
         · exact ((info_Tx HL.out)))
      | (with_reducible refine hE.mono ?_; rintro e w2 ⟨v, rfl, ho, hb2⟩))
    have l2 := blk_range (HB1.out.fut hb2)
    have hC2 := hC w2 hb2
    have HW2 := Lib.hid (below_fut HW1.out hb2 (Nat.le_refl _))
    obtain ⟨q, m, d, rfl, hm, hmd, hdm, _⟩ := Own8.open ho
    obtain rfl : m = 0 := hm.out.symm
    clear hb2 l1 hE hC ho hm
    go_wp2_with ((with_reducible refine wpList_load_mid (op := ⟨some 15, _, _, _, _, _⟩) ?_ 26 (.tmp 2) ?_ (W.heap.size) (0) ?_ (cl) _ (l2) Try.underlying26 ?_ ?_ ?_
                  · rfl
                  · rfl
                  · rfl
                  · rfl
                  · exact ((info_Tx HL.out))))
    refine hC2.mono ?_
    rintro e w3 ⟨rfl, hb3⟩
    go_wp2_with fail
    refine (awake_any _).mono ?_
    rintro e w4 ⟨rfl, hb4⟩
    go_wp2_with fail
    go_ret
    exact ⟨rfl, below_fut (below_fut HW2.out hb3 (Nat.le_refl _)) hb4 (Nat.le_refl _)⟩
  case pos =>
    have hP : txP t true = (txB t (hasWs t.is), 0) := by unfold txP; rw [hcan]; rfl
    rw [hP] at hE
    rw [hcan] at hC
    have hbig := txB_big hcan HC1.out (hasWs t.is)
    have hrd := reads_tx t hcan HC1.out.ok bs
    obtain ⟨b, hb⟩ : ∃ b, b = txB t (hasWs t.is) := ⟨_, rfl⟩
    rw [← hb] at hE hbig hrd
    have HRD := Lib.hid hrd
    have HBIG := Lib.hid hbig
    simp only at hE
    clear hcan hP hb hbig hrd
    go_upto_region 2 with (first
      | (with_reducible refine wpList_load_mid (op := ⟨some 11, _, _, _, _, _⟩) ?_ 26 (.tmp 2) ?_ (W.heap.size) (0) ?_ (cl) _ (l1) Try.underlying26 ?_ ?_ ?_
         · rfl
         · rfl
         · rfl
         · rfl
         · exact ((info_Tx HL.out)))
      | (with_reducible refine hE.mono ?_; rintro e w2 ⟨v, rfl, ho, hb2⟩))
    obtain ⟨q, m, d, rfl, hm, hmd, hdm, hrb⟩ := Own8.open ho
    have hq : q = none → m = 0 := by
      intro e
      subst e
      rcases ho.2 with ⟨e', _⟩ | ⟨_, _, _, e', _⟩
      · injection e'
      · injection e' with e'; cases e'
    have l2 := blk_range (HB1.out.fut hb2)
    have hC2 := hC w2 hb2
    have HW2 := Lib.hid (below_fut HW1.out hb2 (Nat.le_refl _))
    have HB2 := Lib.hid (HB1.out.fut hb2)
    have HC2 := Lib.hid (txC_keeps _ _ _ _ HC1.out hb2)
    have HM := Lib.hid hm
    have hmb : m ≤ 10000000000 := by have := HBIG.out; have := hm.out; omega
    have HRB := Lib.hid hrb
    clear hb2 l1 hE hC ho hm hrb HC1 HB1 HW1
    go_upto_region 4 with (first
      | (with_reducible refine wpList_load_mid (op := ⟨some 15, _, _, _, _, _⟩) ?_ 26 (.tmp 2) ?_ (W.heap.size) (0) ?_ (cl) _ (l2) Try.underlying26 ?_ ?_ ?_
         · rfl
         · rfl
         · rfl
         · rfl
         · exact ((info_Tx HL.out)))
      | (with_reducible refine hC2.mono ?_; rintro e w3 ⟨rfl, hb3⟩))
    have HRB3 := HRB.out.fut hb3
    have HB3 := Lib.hid (HB2.out.fut hb3)
    have HC3 := Lib.hid (txC_keeps _ _ _ _ HC2.out hb3)
    have HW3 := Lib.hid (below_fut HW2.out hb3 (Nat.le_refl _))
    have hcl3 := clone_any q m d b w3 HRB3 HM.out.out (by omega) hq
    clear l2 hC2 hb3 HRB HRB3 HB2 HC2 HW2 hq
    go_wp2_with fail
    refine hcl3.mono ?_
    rintro e w4 ⟨v4, rfl, ho4, hb4⟩
    have hsf := Sfx8.of ho4
    have HB34 := Lib.hid hb4
    have HW4 := Lib.hid (below_fut HW3.out hb4 (Nat.le_refl _))
    have hr4 : Row8 w4 p bs := HR.out.below HW4.out (Nat.le_refl _)
    have hsz4 : w3.heap.size ≤ w4.heap.size := hb4.size
    have hlen : b.length + bs.length ≤ 200000000000000 := by have := HBIG.out; have := HN.out; omega
    have HOW := Lib.hid (Sfx8.lt hsf)
    have hv4 : ∃ q4 n4 c4, v4 = .slice q4 n4 c4 := by obtain ⟨q4, n4, c4, e, _⟩ := Own8.open ho4; exact ⟨_, _, _, e⟩
    obtain ⟨q4, n4, c4, rfl⟩ := hv4
    clear hb4 hcl3 ho4
    go_upto_region 5 with (first
      | (with_reducible refine wp_sfx8 (o := ⟨some 32, _, _, _, _, _⟩) ?_ (.tmp 30) (.tmp 31) ?_ w3.heap.size _ b ?_ hsf p n c bs ?_ HN.out hr4 hlen hsz4 ?_
         · rfl
         · rfl
         · rfl
         · rfl
         intro v5 w5 hs5 hg5 hj5
         have hb5 : Below w3.heap.size w4 w5 := (Stays.of_grown (S := fun k => (Value.slice q4 n4 c4).ownBlock = some k) hg5 fun k h => h).below hsz4 fun k hk => (HOW.out k hk).1
         obtain ⟨q5, n5, c5, rfl, hn5, hnc5, hcm5, hr5, hp5⟩ := Sfx8.row hs5
         have hdec := txDecode_any q5 n5 c5 (b ++ bs) w5 hr5 hn5.out hnc5 hcm5 (by have := hn5.out; rw [List.length_append] at this; have := HN.out; have := HM.out.out; omega) hp5
         have hPD : txDecP (b ++ bs) = (t, bs, 0) := by unfold txDecP; rw [HRD.out]
         rw [hPD] at hdec
         have hz := zTx
         have HD := Lib.hid hdec
         have HB35 := Lib.hid (HB34.out.trans hb5)
         have hszw : Hid (w3.heap.size ≤ w3.heap.size) := Lib.hid (Nat.le_refl _)
         clear hs5 hg5 hj5 hr5 hn5 hdec)
      | (with_reducible refine HD.out.mono ?_
         rintro e w6 ⟨cs6, v6, rfl, hO, hov, hb6⟩
         simp only at hO hov
         have hone := hO.c.one
         have hcl6 : cs6.length = 4 := by obtain ⟨_, _, rfl, _⟩ := hO; rfl
         have HCL := Lib.hid hcl6
         have hbn := below_new w6 (.cells ZTx.toArray 26)
         have hzsz : ZTx.toArray.size = cs6.toArray.size := by rw [List.size_toArray, List.size_toArray, hcl6]; rfl
         have HO6 := Lib.hid hO.c
         have HV6 := Lib.hid hov.sl
         clear hO hov hcl6)
      | (with_reducible refine wp_store_blk (o := ⟨none, _, _, _, _, _⟩) ?_ 26 (.tmp 7) (.tmp 34) ?_ (w6.heap.size) 26 (ZTx.toArray) (cs6.toArray) ?_ ?_ (Blk.new w6 _ _) ?_ ?_ ?_ (w6.heap.size) (w6) ?_ ?_ ?_
         · rfl
         · rfl
         · rfl
         · rfl
         · exact (by rw [List.size_toArray]; exact info_Tx HCL.out)
         · exact (hzsz)
         · exact (hone)
         · exact (hbn)
         · exact (Nat.le_refl _)
         intro w7 hB7 hb7 hg7 hs7))
    have hb37 := below_fut (below_fut HB35.out hb6 hszw.out) hb7 (Nat.le_refl _)
    have HW7 := Lib.hid (below_fut HW3.out hb37 (Nat.le_refl _))
    have HC7 := Lib.hid (txC_keeps _ _ _ _ HC3.out hb37)
    have HX7 := Lib.hid (txC_keeps _ _ _ _ HO6.out hb7)
    have HV7 := Lib.hid (HV6.out.fut hb7)
    have HR7 := Lib.hid (HSL.out.below HW7.out (Nat.le_refl _))
    have l7 := blk_range (HB3.out.fut hb37)
    have l8 := blk_range hB7.out
    have hst := sameTx_any t cs6 cl w7 HX7.out HC7.out
    clear hb37 hb7 hb6 hg7 hs7 hbn hB7
    go_wp2_with (first
      | (with_reducible refine wpList_load_midG (op := ⟨some 44, _, _, _, _, _⟩) ?_ 26 (.tmp 7) ?_ (w6.heap.size) (0) ?_ (cs6) _ (l8) Try.underlying26 ?_ ?_ ?_
         · rfl
         · rfl
         · rfl
         · rfl
         · exact ((info_Tx HCL.out)))
      | (with_reducible refine wpList_load_midG (op := ⟨some 45, _, _, _, _, _⟩) ?_ 26 (.tmp 2) ?_ (W.heap.size) (0) ?_ (cl) _ (l7) Try.underlying26 ?_ ?_ ?_
         · rfl
         · rfl
         · rfl
         · rfl
         · exact ((info_Tx HL.out))))
    refine hst.mono ?_
    rintro e w8 ⟨rfl, hb8⟩
    go_wp2_with fail
    refine (bEqual_any _ _ bs w8 (HV7.out.fut hb8) (HR7.out.fut hb8)).mono ?_
    rintro e w9 ⟨rfl, hw9⟩
    replace hw9 := hw9.symm
    subst hw9
    go_wp2_with fail
    go_ret
    exact ⟨rfl, below_fut HW7.out hb8 (Nat.le_refl _)⟩
end Go.Proofs.Ythglocpbdfcfnaa
