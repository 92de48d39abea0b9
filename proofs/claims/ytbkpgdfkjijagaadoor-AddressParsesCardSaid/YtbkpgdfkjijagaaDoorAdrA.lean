/- sporranref14.Text: the walk. -/
import Derived.Test.YtbkpgdfkjijagaaDoorAdrZ
import Derived.Test.YtbkpgdfkjijagaaDoorScriptG
import Derived.Test.YtbkpgdfkjijagaaDoorGS
namespace Go.Proofs.YtbkpgdfkjijagaaDoor
open Go.RowKit
set_option linter.unusedVariables false

theorem hCells_sizeA {l : List (BitVec 8)} (h : l.length = 32) : (hCells l).toArray.size = 32 := by simp [hCells, h]
def sumB (b : List (BitVec 8)) : List (BitVec 8) := b ++ (sha (sha b)).take 4
/-- the address of a kind and its data -/
def textB (k : Nat) (d : List (BitVec 8)) : List (BitVec 8) × Int :=
  if k = 1 then (b58 (sumB (0#8 :: d)), 0) else if k = 2 then (b58 (sumB (5#8 :: d)), 0) else if k = 3 ∨ k = 4 then (segB 0 d, 0) else if k = 5 then (segB 1 d, 0) else ([], 130)
def TextPost (w : World) (x : List (BitVec 8) × Int) (e : Ending) (w' : World) : Prop := e = .returned (.tuple #[.string (strB x.1), .int .i64 x.2]) ∧ Below w.heap.size w w'

set_option maxRecDepth 100000 in
set_option maxHeartbeats 8000000 in
theorem refText_any (p : Option Addr) (n c : Nat) (bs : List (BitVec 8)) (k : Nat) (d : List (BitVec 8)) (w : World) (hr : Row8 w p bs) (hn : bs.length = n) (hl : n ≤ c) (hb : n ≤ 1000) (hcm : c ≤ 9223372036854775807) (hc : cls bs = (k, d)) (hd : d.length ≤ 100) :
    Calls Tryd.prog 28 #[.slice p n c] w (TextPost w (textB k d)) := by
  have HC : Hid (Calls Tryd.prog 54 #[.slice p n c] w fun e w' => ∃ v, e = .returned (.tuple #[.int .i64 (k : Int), v]) ∧ Own8 w' w.heap.size v d ∧ Below w.heap.size w w') := Lib.hid (by
    have h := refClass_any p n c bs w hr hn hl (by omega) hcm
    rw [hc] at h
    exact h)
  have HDL := Lib.hid hd
  clear hr hn hc hd
  go_enter Tryd.func28, Tryd.ntmps28
  go_wp2_with fail
  refine HC.out.mono ?_
  rintro e w2 ⟨v2, rfl, ho2, hb2⟩
  obtain ⟨q2, m2, c2, rfl, hm2, hmc2, hcm2, hr2⟩ := ho2.open
  have hsz2 := hb2.size
  clear HC ho2
  rcases (show k = 1 ∨ k = 2 ∨ k = 3 ∨ k = 4 ∨ k = 5 ∨ (k ≠ 1 ∧ k ≠ 2 ∧ k ≠ 3 ∧ k ≠ 4 ∧ k ≠ 5) by omega) with rfl | rfl | rfl | rfl | rfl | ⟨h1, h2, h3, h4, h5⟩
  · have hbz := hb2.alloc hsz2 (.cells #[.int .u8 0] 5)
    have hszz := hbz.size
    have ho3 := own_one w2 w.heap.size 0 0#8 (by decide) hsz2
    have hr3 := hr2.fut (below_new w2 (.cells #[.int .u8 0] 5))
    have hm2 := hm2.out
    have hlen : [0#8].length + d.length ≤ 140737488355328 := by have := HDL.out; simp only [List.length_cons, List.length_nil]; omega
    go_upto_region 8 with fail
    go_upto_region 9 with ((with_reducible refine wp_append8 (o := ⟨some 23, _, _, _, _, _⟩) ?_ ((.tmp 21)) ((.tmp 22)) ?_ (w.heap.size) _ ([0#8]) ?_ (ho3) (q2) (m2) (c2) (d) ?_ (hm2) (hr3) ?_ (hszz) (w.heap.size) (w) (hbz) ?_ ?_
                            · rfl
                            · rfl
                            · rfl
                            · rfl
                            · exact hlen
                            · exact Nat.le_refl _
                            intro v4 w4 ho4 hb4 hg4 hs4))
    have HO4 := Lib.hid ho4
    obtain ⟨q4, n4, c4, rfl, hn4, hnc4, _, hr4⟩ := ho4.open
    have hn44 := hn4.out
    clear ho4 hg4 hs4 hbz hszz ho3 hr3 hlen hr2 hm2
    go_wp2_with fail
    refine (refDouble_any q4 n4 c4 ([0#8] ++ d) w4 hr4 hn4.out (by have := HDL.out; rw [← hn44, List.length_append]; simp only [List.length_cons, List.length_nil]; omega)).mono ?_
    obtain ⟨R, hRe⟩ : ∃ R, R = sha (sha ([0#8] ++ d)) := ⟨_, rfl⟩
    have hRl : R.length = 32 := by rw [hRe, sha_len]
    rw [← hRe]
    have HRe := Lib.hid hRe
    have HRl := Lib.hid hRl
    clear hRe hRl hr4 hn4
    rintro e w5 ⟨rfl, hb5⟩
    have hz32 := zero32
    obtain ⟨Y, hY⟩ : ∃ Y, Y = ((noughts 32).map u8).toArray := ⟨_, rfl⟩
    rw [← hY] at hz32
    have hYl : Hid (Y.size = 32) := Lib.hid (by rw [hY]; rfl)
    clear hY
    go_upto_region 10 with (first
      | (with_reducible refine wp_store_blk (o := ⟨none, _, _, _, _, _⟩) ?_ 78 (.tmp 8) (.tmp 25) ?_ (w5.heap.size) 78 (Y) ((hCells R).toArray) ?_ ?_ (Blk.new w5 _ _) ?_ ?_ ?_ (w5.heap.size) (w5) ?_ ?_ ?_
         · rfl
         · rfl
         · rfl
         · rfl
         · exact (hCells_info' HRl.out)
         · exact ((hYl.out).trans (hCells_sizeA HRl.out).symm)
         · exact (hCells_one _)
         · exact (below_new w5 _)
         · exact (Nat.le_refl _)
         intro w6 hR6 hb7 hg7 hs7))
    obtain ⟨g5, hg5⟩ : ∃ g, g = w5.heap.size := ⟨_, rfl⟩
    rw [← hg5] at hR6 ⊢
    have hb56 : Below w4.heap.size w4 w6 := below_fut hb5 hb7 (Nat.le_refl _)
    have ho6 := HO4.out.fut hb56
    have hbw6 := below_fut hb4 hb56 (Nat.le_refl _)
    have hszw := hbw6.size
    have hr6 := (hCells_row hR6.out).take 4
    have hl4 : (R.take 4).length = 4 := by rw [List.length_take, HRl.out]; rfl
    have hlen : ([0#8] ++ d).length + (R.take 4).length ≤ 140737488355328 := by have := HDL.out; rw [hl4, List.length_append]; simp only [List.length_cons, List.length_nil]; omega
    clear hg5 hb7 hb5 hg7 hs7 HO4 hb56
    go_wp2_with ((with_reducible refine wp_append8 (o := ⟨some 28, _, _, _, _, _⟩) ?_ ((.tmp 26)) ((.tmp 27)) ?_ (w.heap.size) _ (([0#8] ++ d)) ?_ (ho6) ((some ⟨g5, 0, none⟩)) (4) (32) ((R.take 4)) ?_ (hl4) (hr6) ?_ (hszw) (w.heap.size) (w) (hbw6) ?_ ?_
                  · rfl
                  · rfl
                  · rfl
                  · rfl
                  · exact hlen
                  · exact Nat.le_refl _
                  intro v8 w8 ho8 hb8 hg8 hs8))
    obtain ⟨q8, n8, c8, rfl, hn8, hnc8, _, hr8⟩ := ho8.open
    have HE : Hid (textB 1 d = (b58 ([0#8] ++ d ++ R.take 4), 0)) := Lib.hid (by rw [HRe.out]; rfl)
    refine (refBase58_any q8 n8 c8 _ w8 hr8 hn8.out).mono ?_
    rintro e w9 ⟨rfl, hb9⟩
    go_wp2_with fail
    go_ret2
    exact ⟨by rw [HE.out]; rfl, below_fut hb8 hb9 (Nat.le_refl _)⟩
  · have hbz := hb2.alloc hsz2 (.cells #[.int .u8 5] 5)
    have hszz := hbz.size
    have ho3 := own_one w2 w.heap.size 5 5#8 (by decide) hsz2
    have hr3 := hr2.fut (below_new w2 (.cells #[.int .u8 5] 5))
    have hm2 := hm2.out
    have hlen : [5#8].length + d.length ≤ 140737488355328 := by have := HDL.out; simp only [List.length_cons, List.length_nil]; omega
    go_upto_region 8 with fail
    go_upto_region 9 with ((with_reducible refine wp_append8 (o := ⟨some 23, _, _, _, _, _⟩) ?_ ((.tmp 21)) ((.tmp 22)) ?_ (w.heap.size) _ ([5#8]) ?_ (ho3) (q2) (m2) (c2) (d) ?_ (hm2) (hr3) ?_ (hszz) (w.heap.size) (w) (hbz) ?_ ?_
                            · rfl
                            · rfl
                            · rfl
                            · rfl
                            · exact hlen
                            · exact Nat.le_refl _
                            intro v4 w4 ho4 hb4 hg4 hs4))
    have HO4 := Lib.hid ho4
    obtain ⟨q4, n4, c4, rfl, hn4, hnc4, _, hr4⟩ := ho4.open
    have hn44 := hn4.out
    clear ho4 hg4 hs4 hbz hszz ho3 hr3 hlen hr2 hm2
    go_wp2_with fail
    refine (refDouble_any q4 n4 c4 ([5#8] ++ d) w4 hr4 hn4.out (by have := HDL.out; rw [← hn44, List.length_append]; simp only [List.length_cons, List.length_nil]; omega)).mono ?_
    obtain ⟨R, hRe⟩ : ∃ R, R = sha (sha ([5#8] ++ d)) := ⟨_, rfl⟩
    have hRl : R.length = 32 := by rw [hRe, sha_len]
    rw [← hRe]
    have HRe := Lib.hid hRe
    have HRl := Lib.hid hRl
    clear hRe hRl hr4 hn4
    rintro e w5 ⟨rfl, hb5⟩
    have hz32 := zero32
    obtain ⟨Y, hY⟩ : ∃ Y, Y = ((noughts 32).map u8).toArray := ⟨_, rfl⟩
    rw [← hY] at hz32
    have hYl : Hid (Y.size = 32) := Lib.hid (by rw [hY]; rfl)
    clear hY
    go_upto_region 10 with (first
      | (with_reducible refine wp_store_blk (o := ⟨none, _, _, _, _, _⟩) ?_ 78 (.tmp 8) (.tmp 25) ?_ (w5.heap.size) 78 (Y) ((hCells R).toArray) ?_ ?_ (Blk.new w5 _ _) ?_ ?_ ?_ (w5.heap.size) (w5) ?_ ?_ ?_
         · rfl
         · rfl
         · rfl
         · rfl
         · exact (hCells_info' HRl.out)
         · exact ((hYl.out).trans (hCells_sizeA HRl.out).symm)
         · exact (hCells_one _)
         · exact (below_new w5 _)
         · exact (Nat.le_refl _)
         intro w6 hR6 hb7 hg7 hs7))
    obtain ⟨g5, hg5⟩ : ∃ g, g = w5.heap.size := ⟨_, rfl⟩
    rw [← hg5] at hR6 ⊢
    have hb56 : Below w4.heap.size w4 w6 := below_fut hb5 hb7 (Nat.le_refl _)
    have ho6 := HO4.out.fut hb56
    have hbw6 := below_fut hb4 hb56 (Nat.le_refl _)
    have hszw := hbw6.size
    have hr6 := (hCells_row hR6.out).take 4
    have hl4 : (R.take 4).length = 4 := by rw [List.length_take, HRl.out]; rfl
    have hlen : ([5#8] ++ d).length + (R.take 4).length ≤ 140737488355328 := by have := HDL.out; rw [hl4, List.length_append]; simp only [List.length_cons, List.length_nil]; omega
    clear hg5 hb7 hb5 hg7 hs7 HO4 hb56
    go_wp2_with ((with_reducible refine wp_append8 (o := ⟨some 28, _, _, _, _, _⟩) ?_ ((.tmp 26)) ((.tmp 27)) ?_ (w.heap.size) _ (([5#8] ++ d)) ?_ (ho6) ((some ⟨g5, 0, none⟩)) (4) (32) ((R.take 4)) ?_ (hl4) (hr6) ?_ (hszw) (w.heap.size) (w) (hbw6) ?_ ?_
                  · rfl
                  · rfl
                  · rfl
                  · rfl
                  · exact hlen
                  · exact Nat.le_refl _
                  intro v8 w8 ho8 hb8 hg8 hs8))
    obtain ⟨q8, n8, c8, rfl, hn8, hnc8, _, hr8⟩ := ho8.open
    have HE : Hid (textB 2 d = (b58 ([5#8] ++ d ++ R.take 4), 0)) := Lib.hid (by rw [HRe.out]; rfl)
    refine (refBase58_any q8 n8 c8 _ w8 hr8 hn8.out).mono ?_
    rintro e w9 ⟨rfl, hb9⟩
    go_wp2_with fail
    go_ret2
    exact ⟨by rw [HE.out]; rfl, below_fut hb8 hb9 (Nat.le_refl _)⟩
  · have HE : Hid (textB 3 d = (segB 0 d, 0)) := Lib.hid rfl
    have HS := Lib.hid (segwit_any q2 m2 c2 d 0 w2 hr2 hm2.out (by have := HDL.out; have := hm2.out; omega) (by decide))
    go_wp2_with fail
    refine HS.out.mono ?_
    rintro e w3 ⟨rfl, hb3⟩
    go_wp2_with fail
    go_ret2
    exact ⟨by rw [HE.out]; rfl, below_fut hb2 hb3 (Nat.le_refl _)⟩
  · have HE : Hid (textB 4 d = (segB 0 d, 0)) := Lib.hid rfl
    have HS := Lib.hid (segwit_any q2 m2 c2 d 0 w2 hr2 hm2.out (by have := HDL.out; have := hm2.out; omega) (by decide))
    go_wp2_with fail
    refine HS.out.mono ?_
    rintro e w3 ⟨rfl, hb3⟩
    go_wp2_with fail
    go_ret2
    exact ⟨by rw [HE.out]; rfl, below_fut hb2 hb3 (Nat.le_refl _)⟩
  · have HE : Hid (textB 5 d = (segB 1 d, 0)) := Lib.hid rfl
    have HS := Lib.hid (segwit_any q2 m2 c2 d 1 w2 hr2 hm2.out (by have := HDL.out; have := hm2.out; omega) (by decide))
    go_wp2_with fail
    refine HS.out.mono ?_
    rintro e w3 ⟨rfl, hb3⟩
    go_wp2_with fail
    go_ret2
    exact ⟨by rw [HE.out]; rfl, below_fut hb2 hb3 (Nat.le_refl _)⟩
  · have HE : Hid (textB k d = ([], 130)) := Lib.hid (by unfold textB; rw [if_neg h1, if_neg h2, if_neg (by omega), if_neg h5])
    have f1 : ((k : Int) == 1) = false := by rw [beq_eq_false_iff_ne]; omega
    have f2 : ((k : Int) == 2) = false := by rw [beq_eq_false_iff_ne]; omega
    have f3 : ((k : Int) == 3) = false := by rw [beq_eq_false_iff_ne]; omega
    have f4 : ((k : Int) == 4) = false := by rw [beq_eq_false_iff_ne]; omega
    have f5 : ((k : Int) == 5) = false := by rw [beq_eq_false_iff_ne]; omega
    clear h1 h2 h3 h4 h5
    go_wp2_with fail
    go_ret2
    exact ⟨by rw [HE.out]; rfl, hb2⟩
end Go.Proofs.YtbkpgdfkjijagaaDoor
