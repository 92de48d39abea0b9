/- sporranlaw08.BlockRoots: the walk. -/
import Derived.Test.YtifanifgbkpdgaaDoorMerkF
namespace Go.Proofs.YtifanifgbkpdgaaDoor
open Go.RowKit

/-- the hash whose first byte is x, else noughts -/
def hash1 (x : BitVec 8) : List (BitVec 8) := x :: noughts 31
theorem hash1_len (x : BitVec 8) : (hash1 x).length = 32 := rfl
theorem built_h7 : Tryd.prog.built 24 [(0, .int .u8 7)] = some (hCells (hash1 7#8)).toArray := by kernel_rfl
theorem built_h9 : Tryd.prog.built 24 [(0, .int .u8 9)] = some (hCells (hash1 9#8)).toArray := by kernel_rfl
theorem merk_hash1 (x : BitVec 8) : merkP [hash1 x] = (hash1 x, false) := merkP_one rfl
theorem new_rowsH (w : World) {x : List (BitVec 8)} (hx : x.length = 32) : RowsN 32 (w.alloc (.cells (hCells x).toArray 24)) (some ⟨w.heap.size, 0, none⟩) [hCells x] := fun _ =>
  ⟨_, _, rfl, by simp, fun i cs hi => by
    cases i with
    | zero =>
      injection hi with hi
      subst hi
      refine ⟨by rw [hCells, List.length_map]; exact hx, fun j v hj => ?_⟩
      rw [Nat.zero_mul, Nat.add_zero, Nat.zero_add]
      exact ((Blk.new w 24 _).cell j).trans (by rw [List.getElem?_toArray]; exact hj)
    | succ i => cases hi⟩

set_option maxRecDepth 100000 in
set_option maxHeartbeats 4000000 in
theorem blockRoots_walk (p : Option Addr) (n c : Nat) (ids0 : List (List (BitVec 8))) (w : World) (hK : Laid w) (hn : ids0.length = n) (hok : ∀ x ∈ ids0, x.length = 32) (hnc : n ≤ c) (_hcm : c ≤ 9223372036854775807) (hr : RowsN 32 w p (ids0.map hCells)) (hp : p = none → c = 0) :
    Calls Tryd.prog 6 #[.slice p n c] w fun e w' => e = .returned (.bool true) ∧ Below w.heap.size w w' := by
  obtain ⟨m, hm⟩ : ∃ m, m = min n 300 := ⟨_, rfl⟩
  obtain ⟨ids, hids⟩ : ∃ l, l = ids0.take m := ⟨_, rfl⟩
  have HN := Lib.hid (show ids.length = m by rw [hids, List.length_take]; omega)
  have HO := Lib.hid (show ∀ x ∈ ids, x.length = 32 from fun x hx => hok x (List.mem_of_mem_take (by rw [hids] at hx; exact hx)))
  have HR := Lib.hid (show RowsN 32 w p (ids.map hCells) by rw [hids, List.map_take]; exact hr.take m)
  have HK := Lib.hid hK
  have hKs := hK.size
  have qm : min (n : Int) 300 = (m : Int) := by omega
  have hm300 : m ≤ 300 := by omega
  have hmn : m ≤ n := by omega
  have hmc : m ≤ c := by omega
  have hmi : (m : Int) ≤ (c : Int) := by omega
  have hp0 : p = none → m = 0 := fun h => by have := hp h; omega
  have hz := zero32
  obtain ⟨Y, hY⟩ : ∃ Y, Y = (hCells (noughts 32)).toArray := ⟨_, rfl⟩
  replace hz : ∀ w, (zeroValue 24).run Tryd.prog w = .ok (.agg Y) w := by rw [hY]; exact hz
  have hYl := Lib.hid (show Y.size = 32 by rw [hY]; rfl)
  clear hn hok hr hK hids hm hY hp
  obtain ⟨R, hR⟩ : ∃ R, R = (merkP ids).1 := ⟨_, rfl⟩
  obtain ⟨ob, hob⟩ : ∃ R, R = (merkP ids).2 := ⟨_, rfl⟩
  have HRl : Hid (R.length = 32) := Lib.hid (by rw [hR]; exact merkP_len _ HO.out)
  have HRe := Lib.hid hR
  have HOe := Lib.hid hob
  clear hR hob
  obtain ⟨h7, hh7⟩ : ∃ x, x = hash1 7#8 := ⟨_, rfl⟩
  have H7l : Hid (h7.length = 32) := Lib.hid (by rw [hh7]; rfl)
  have H7b := Lib.hid built_h7
  have H7m := Lib.hid (merk_hash1 7#8)
  rw [← hh7] at H7b H7m
  clear hh7
  go_enter Tryd.func6, Tryd.ntmps6
  go_wp2_with fail
  refine (cloneH_any p m c ids _ HN.out (by omega) HR.out hp0).mono ?_
  rintro e w1 ⟨v1, rfl, ho1, hb1⟩
  obtain ⟨p1, c1, rfl, hc1, hcm1, hr1⟩ := ho1.open HO.out
  rw [HN.out] at hc1 ⊢
  have hrw1 := Lib.hid (HR.out.below hb1 (Nat.le_refl _))
  have hr1' := Lib.hid hr1
  clear ho1 hr1 HR
  go_wp2_with fail
  refine (merkle_any p1 m c1 ids _ (HK.out.below hb1 hKs) HN.out HO.out hc1 hcm1 (by omega) hr1'.out).mono ?_
  rw [← HRe.out, ← HOe.out]
  rintro e w2 ⟨rfl, hb2⟩
  have hrw2 := Lib.hid (hrw1.out.below hb2 (Nat.le_refl _))
  have hr12 := Lib.hid (hr1'.out.below hb2 (Nat.le_refl _))
  have hbw2 := hb1.trans (hb2.mono hb1.size)
  clear hrw1 hr1' hb1 hb2
  go_upto_region 4 with (first
    | (with_reducible refine wp_store_blk (o := ⟨none, _, _, _, _, _⟩) ?_ 24 (.tmp 4) (.tmp 20) ?_ (w2.heap.size) 24 (Y) ((hCells (R)).toArray) ?_ ?_ (Blk.new w2 _ _) ?_ ?_ ?_ (w2.heap.size) (w2) ?_ ?_ ?_
       · rfl
       · rfl
       · rfl
       · rfl
       · exact (hCells_info' (HRl.out))
       · exact ((hYl.out).trans (hCells_size (HRl.out)).symm)
       · exact (hCells_one _)
       · exact ((Below.refl _ _).alloc (Nat.le_refl _) _)
       · exact (Nat.le_refl _)
       intro w3 hR3 hb3 hg3 hs3))
  have hrw3 := Lib.hid (hrw2.out.below hb3 (Nat.le_refl _))
  have hr13 := Lib.hid (hr12.out.below hb3 (Nat.le_refl _))
  have hbw3 := hbw2.trans (hb3.mono hbw2.size)
  obtain ⟨g4, hg4⟩ : ∃ g, g = w2.heap.size := ⟨_, rfl⟩
  rw [← hg4]
  rw [← hg4] at hR3
  clear hrw2 hr12 hbw2 hb3 hg3 hs3 hg4
  go_wp2_with fail
  refine (refMerkle_any m p c ids _ HN.out HO.out hmc (by omega) hrw3.out).mono ?_
  rw [← HRe.out, ← HOe.out]
  rintro e w4 ⟨rfl, hb4⟩
  have hrw4 := Lib.hid (hrw3.out.below hb4 (Nat.le_refl _))
  have hr14 := Lib.hid (hr13.out.below hb4 (Nat.le_refl _))
  have hR4 := Lib.hid (hR3.out.below hb4 hR3.out.lt)
  have hbw4 := hbw3.trans (hb4.mono hbw3.size)
  clear hrw3 hr13 hbw3 hb4 hR3
  go_upto_region 5 with (first
    | (with_reducible refine wp_store_blk (o := ⟨none, _, _, _, _, _⟩) ?_ 24 (.tmp 6) (.tmp 25) ?_ (w4.heap.size) 24 (Y) ((hCells (R)).toArray) ?_ ?_ (Blk.new w4 _ _) ?_ ?_ ?_ (w4.heap.size) (w4) ?_ ?_ ?_
       · rfl
       · rfl
       · rfl
       · rfl
       · exact (hCells_info' (HRl.out))
       · exact ((hYl.out).trans (hCells_size (HRl.out)).symm)
       · exact (hCells_one _)
       · exact ((Below.refl _ _).alloc (Nat.le_refl _) _)
       · exact (Nat.le_refl _)
       intro w5 hR5 hb5 hg5 hs5))
  have hrw5 := Lib.hid (hrw4.out.below hb5 (Nat.le_refl _))
  have hr15 := Lib.hid (hr14.out.below hb5 (Nat.le_refl _))
  have hR45 := Lib.hid (hR4.out.below hb5 hR4.out.lt)
  have hbw5 := hbw4.trans (hb5.mono hbw4.size)
  obtain ⟨g6, hg6⟩ : ∃ g, g = w4.heap.size := ⟨_, rfl⟩
  rw [← hg6]
  rw [← hg6] at hR5
  clear hrw4 hr14 hbw4 hb5 hg5 hs5 hR4 hg6
  go_wp2_with (first
    | (with_reducible refine wp_build (o := ⟨some 28, _, _, _, _, _⟩) ?_ 24 #[(0, .const (.int .u8 7))] ?_ [(0, .int .u8 7)] ?_ (hCells h7).toArray H7b.out ?_
       · rfl
       · rfl
       · rfl)
    | (with_reducible refine wp_lit (o := ⟨some 29, _, _, _, _, _⟩) ?_ 22 24 1 #[(0, .tmp 28)] ?_ [.agg (hCells (h7)).toArray] ?_ 32 32 _ Tryd.underlying22 hash_info ?_ ?_ ?_ ?_ ?_ ?_
       · rfl
       · rfl
       · rfl
       · omega
       · exact (fun v hv => by rw [List.mem_singleton.1 hv]; exact hCells_size (H7l.out))
       · rfl
       · omega
       · omega))
  have hb6 : Below w5.heap.size w5 (w5.alloc (.cells (hCells h7).toArray 24)) := (Below.refl _ _).alloc (Nat.le_refl _) _
  have hbw6 := hbw5.trans (hb6.mono hbw5.size)
  refine (merkle_any _ 1 1 [h7] _ (HK.out.below hbw6 hKs) rfl (fun x hx => by rw [List.mem_singleton.1 hx]; exact H7l.out) (Nat.le_refl _) (by omega) (by omega) (new_rowsH w5 H7l.out)).mono ?_
  rw [H7m.out]
  rintro e w7 ⟨rfl, hb7⟩
  have hb57 := hb6.trans (hb7.mono hb6.size)
  have hrw7 := Lib.hid (hrw5.out.below hb57 (Nat.le_refl _))
  have hr17 := Lib.hid (hr15.out.below hb57 (Nat.le_refl _))
  have hR47 := Lib.hid (hR45.out.below hb57 hR45.out.lt)
  have hR67 := Lib.hid (hR5.out.below hb57 hR5.out.lt)
  have hbw7 := hbw5.trans (hb57.mono hbw5.size)
  clear hrw5 hr15 hR45 hR5 hbw5 hb57 hb6 hb7 hbw6
  go_upto_region 6 with (first
    | (with_reducible refine wp_store_blk (o := ⟨none, _, _, _, _, _⟩) ?_ 24 (.tmp 8) (.tmp 31) ?_ (w7.heap.size) 24 (Y) ((hCells (h7)).toArray) ?_ ?_ (Blk.new w7 _ _) ?_ ?_ ?_ (w7.heap.size) (w7) ?_ ?_ ?_
       · rfl
       · rfl
       · rfl
       · rfl
       · exact (hCells_info' (H7l.out))
       · exact ((hYl.out).trans (hCells_size (H7l.out)).symm)
       · exact (hCells_one _)
       · exact ((Below.refl _ _).alloc (Nat.le_refl _) _)
       · exact (Nat.le_refl _)
       intro w8 hR8 hb8 hg8 hs8))
  have hrw8 := Lib.hid (hrw7.out.below hb8 (Nat.le_refl _))
  have hr18 := Lib.hid (hr17.out.below hb8 (Nat.le_refl _))
  have hR48 := Lib.hid (hR47.out.below hb8 hR47.out.lt)
  have hR68 := Lib.hid (hR67.out.below hb8 hR67.out.lt)
  have hbw8 := hbw7.trans (hb8.mono hbw7.size)
  obtain ⟨g8, hg8'⟩ : ∃ g, g = w7.heap.size := ⟨_, rfl⟩
  rw [← hg8']
  rw [← hg8'] at hR8
  clear hrw7 hr17 hR47 hR67 hbw7 hb8 hg8 hs8 hg8'
  have r4 := hash_range hR48.out
  have r6 := hash_range hR68.out
  have sm1 := hash_same R HRl.out
  have sm2 := hash_same h7 H7l.out
  go_wp2_with (first
    | (with_reducible refine wpList_load_mid (op := ⟨some 33, _, _, _, _, _⟩) ?_ 24 (.tmp 4) ?_ (g4) (0) ?_ ((hCells (R))) _ (r4) Tryd.underlying24 ?_ ?_ ?_
       · rfl
       · rfl
       · rfl
       · rfl
       · exact (hCells_info (HRl.out)))
    | (with_reducible refine wpList_load_mid (op := ⟨some 34, _, _, _, _, _⟩) ?_ 24 (.tmp 6) ?_ (g6) (0) ?_ ((hCells (R))) _ (r6) Tryd.underlying24 ?_ ?_ ?_
       · rfl
       · rfl
       · rfl
       · rfl
       · exact (hCells_info (HRl.out))))
  refine (equalH_same p1 p m c1 c ids _ HN.out HO.out (by omega) hc1 hmc hr18.out hrw8.out).mono ?_
  rintro e w9 ⟨rfl, hb9⟩
  have hbw9 := hbw8.trans (hb9.mono hbw8.size)
  have r8 := hash_range (hR8.out.below hb9 hR8.out.lt)
  clear r4 r6
  go_wp2_with (first
    | (with_reducible refine wpList_load_midG (op := ⟨some 47, _, _, _, _, _⟩) ?_ 24 (.tmp 8) ?_ (g8) (0) ?_ ((hCells (h7))) _ (r8) Tryd.underlying24 ?_ ?_ ?_
       · rfl
       · rfl
       · rfl
       · rfl
       · exact (hCells_info (H7l.out)))
    | (with_reducible refine wp_buildGd (o := ⟨some 48, _, _, _, _, _⟩) ?_ 24 #[(0, .const (.int .u8 7))] ?_ [(0, .int .u8 7)] ?_ (hCells h7).toArray H7b.out ?_
       · rfl
       · rfl
       · rfl))
  go_ret
  exact ⟨rfl, hbw9⟩
end Go.Proofs.YtifanifgbkpdgaaDoor
