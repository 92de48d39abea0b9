/- sha.Sum, sha.Double: they are the plain sha. A hasher that no call made. -/
import Derived.Test.YtikjhnbehihbjaaDoorShaM
namespace Go.Proofs.YtikjhnbehihbjaaDoor
open Go.RowKit

set_option maxRecDepth 100000 in
set_option maxHeartbeats 4000000 in
theorem shaSum_any (p : Option Addr) (n c : Nat) (bs : List (BitVec 8)) (w : World) (hK : Laid w) (hr : Row8 w p bs) (hn : bs.length = n) (hnc : n ≤ c) (hcm : c ≤ 9223372036854775807) (hbig : n ≤ 1152921504606846976) :
    Calls Tryd.prog 34 #[.slice p n c] w fun e w' => e = .returned (.agg (hCells (sha bs)).toArray) ∧ Below w.heap.size w w' := by
  have HN := Lib.hid hn
  have HK := Lib.hid hK
  have hKs := hK.size
  have HR := Lib.hid hr
  clear hn hK hr
  have hz := zero32
  obtain ⟨Y, hY⟩ : ∃ Y, Y = ((noughts 32).map u8).toArray := ⟨_, rfl⟩
  rw [← hY] at hz
  have HY := Lib.hid hY
  clear hY
  go_enter Tryd.func34, Tryd.ntmps34
  go_upto_region 1 with fail
  refine wp_abst (fun w' => Hid (Blk w' w.heap.size 59 Y) ∧ Below w.heap.size w w') ⟨Lib.hid (Blk.new w _ _), (Below.refl _ _).alloc (Nat.le_refl _) _⟩ ?_
  rintro w1 ⟨hy1, hb1⟩
  have hlt1 := hy1.out.lt
  have hK1 := HK.out.below hb1 hKs
  clear hz
  go_wp2_with fail
  refine (new_any w1 hK1).mono ?_
  rintro e w2 ⟨rfl, hh2, hb2⟩
  obtain ⟨C, hC⟩ : ∃ C, C = w1.heap.size := ⟨_, rfl⟩
  have hb2' := hb1.trans (hb2.mono hb1.size)
  have hy2 := Lib.hid (hy1.out.below hb2 hlt1)
  have hK2 := HK.out.below hb2' hKs
  have hr2 := HR.out.below hb2' (Nat.le_refl _)
  have hf2 := HR.out.far hb1.size
  have hs1 := hb1.size
  rw [← hC] at hh2 hf2 hs1 hlt1 ⊢
  clear hC hy1 hb1 hb2 hK1
  go_wp2_with fail
  refine (write_any C [] bs p n c w2 hK2 (by omega) hr2 HN.out hnc hcm hf2 (by simp only [List.length_nil]; omega) hh2).mono ?_
  rintro e w3 ⟨rfl, hh3, hg3⟩
  rw [List.nil_append] at hh3
  have hy3 := Lib.hid (hy2.out.kept hg3 (by omega))
  have hb3 := hb2'.grown hg3 hb2'.size (fun k hk => by injection hk with hk; omega)
  have hK3 := HK.out.below hb3 hKs
  clear hy2 hb2' hg3 hh2 hr2 hK2 hf2
  go_wp2_with fail
  refine (hsum_any C bs w3 hK3 (by rw [HN.out]; exact hbig) hh3).mono ?_
  rintro e w4 ⟨rfl, hb4⟩
  have hy4 := Lib.hid (hy3.out.below hb4 hy3.out.lt)
  have hb4' := hb3.trans (hb4.mono hb3.size)
  clear hy3 hh3 hb3 hb4 hK3
  obtain ⟨RS, hRS⟩ : ∃ x, x = sha bs := ⟨_, rfl⟩
  have hRl : RS.length = 32 := by rw [hRS]; exact sha_len _
  rw [← hRS]
  have HRS := Lib.hid hRS
  have HRL := Lib.hid hRl
  clear hRS hRl
  go_wp2_with (with_reducible refine wp_store_blk (o := ⟨none, _, _, _, _, _⟩) ?_ 59 (.tmp 2) (.tmp 9) ?_ w.heap.size 59 Y (hCells RS).toArray ?_ ?_ hy4.out ?_ ?_ ?_ w.heap.size w hb4' ?_ ?_
               · rfl
               · rfl
               · rfl
               · rfl
               · exact hCells_info' HRL.out
               · rw [HY.out, List.size_toArray, List.size_toArray, hCells, List.length_map, List.length_map, HRL.out]; rfl
               · exact hCells_one _
               · exact Nat.le_refl _
               intro w5 hR5 hb5 hg5 hs5)
  refine bodyPost_ret (results_cell1 rfl _ _ _ w.heap.size _ (hCells RS) _ rfl hR5.out Tryd.underlying59 rfl (hCells_info HRL.out)) rfl ?_
  exact ⟨by rw [HRS.out], hb5⟩

set_option maxRecDepth 100000 in
set_option maxHeartbeats 4000000 in
theorem shaDouble_any (p : Option Addr) (n c : Nat) (bs : List (BitVec 8)) (w : World) (hK : Laid w) (hr : Row8 w p bs) (hn : bs.length = n) (hnc : n ≤ c) (hcm : c ≤ 9223372036854775807) (hbig : n ≤ 1152921504606846976) :
    Calls Tryd.prog 21 #[.slice p n c] w fun e w' => e = .returned (.agg (hCells (sha (sha bs))).toArray) ∧ Below w.heap.size w w' := by
  have HN := Lib.hid hn
  have HK := Lib.hid hK
  have hKs := hK.size
  have hz32 := zero32
  obtain ⟨Y, hY⟩ : ∃ Y, Y = ((noughts 32).map u8).toArray := ⟨_, rfl⟩
  rw [← hY] at hz32
  have HYS : Hid (Y.size = 32) := Lib.hid (by rw [hY]; rfl)
  obtain ⟨X, hX⟩ : ∃ X, X = sha bs := ⟨_, rfl⟩
  have hxl : X.length = 32 := by rw [hX, sha_len]
  rw [← hX]
  obtain ⟨V, hV⟩ : ∃ V, V = sha X := ⟨_, rfl⟩
  have hvl : V.length = 32 := by rw [hV, sha_len]
  rw [← hV]
  have HX := Lib.hid hX
  have HXL := Lib.hid hxl
  have HV := Lib.hid hV
  have HVL := Lib.hid hvl
  clear hY hX hxl hV hvl hn hK
  go_enter Tryd.func21, Tryd.ntmps21
  go_upto_region 1 with fail
  refine wp_abst (fun w' => Hid (Blk w' w.heap.size 59 Y) ∧ Below w.heap.size w w') ⟨Lib.hid (by exact Blk.new w _ _), (Below.refl _ _).alloc (Nat.le_refl _) _⟩ ?_
  rintro w1 ⟨hy1, hb1⟩
  have hr1 := hr.below hb1 (Nat.le_refl _)
  go_wp2_with fail
  refine (shaSum_any p n c bs w1 (HK.out.below hb1 hKs) hr1 HN.out hnc hcm hbig).mono ?_
  rw [← HX.out]
  rintro e w2 ⟨rfl, hb2⟩
  have hlt1 := hy1.out.lt
  have hy2 := Lib.hid (hy1.out.below hb2 hlt1)
  have hbw2 := hb1.trans (hb2.mono hb1.size)
  clear hr1 hy1 hb1 hb2
  go_wp2_with (with_reducible refine wp_store_blk (o := ⟨none, _, _, _, _, _⟩) ?_ 59 (.tmp 3) (.tmp 5) ?_ w2.heap.size 59 Y (hCells X).toArray ?_ ?_ (Blk.new w2 _ _) ?_ ?_ ?_ w2.heap.size w2 ?_ ?_ ?_
               · rfl
               · rfl
               · rfl
               · rfl
               · exact hCells_info' HXL.out
               · exact HYS.out.trans (by rw [List.size_toArray, hCells, List.length_map, HXL.out])
               · exact hCells_one X
               · exact (Below.refl _ _).alloc (Nat.le_refl _) _
               · exact Nat.le_refl _
               intro w3 hx3 hb3 _ _)
  have hlt2 := hy2.out.lt
  have hy3 := Lib.hid (hy2.out.below hb3 hlt2)
  have hbw3 := hbw2.trans (hb3.mono hbw2.size)
  have hrow3 := hCells_row hx3.out
  clear hy2 hbw2 hb3
  refine (shaSum_any (some ⟨w2.heap.size, 0, none⟩) 32 32 X w3 (HK.out.below hbw3 hKs) hrow3 HXL.out (by omega) (by omega) (by omega)).mono ?_
  rw [← HV.out]
  rintro e w4 ⟨rfl, hb4⟩
  have hlt3 := hy3.out.lt
  have hy4 := Lib.hid (hy3.out.below hb4 hlt3)
  have hbw4 := hbw3.trans (hb4.mono hbw3.size)
  go_wp2_with (with_reducible refine wp_store_blk (o := ⟨none, _, _, _, _, _⟩) ?_ 59 (.tmp 2) (.tmp 7) ?_ w.heap.size 59 Y (hCells V).toArray ?_ ?_ hy4.out ?_ ?_ ?_ w.heap.size w hbw4 ?_ ?_
               · rfl
               · rfl
               · rfl
               · rfl
               · exact hCells_info' HVL.out
               · exact HYS.out.trans (by rw [List.size_toArray, hCells, List.length_map, HVL.out])
               · exact hCells_one V
               · exact Nat.le_refl _
               intro w5 hz5 hb5 _ _)
  refine bodyPost_ret (results_cell1 rfl _ _ _ w.heap.size _ (hCells V) _ rfl hz5.out Tryd.underlying59 rfl (hCells_info HVL.out)) rfl ?_
  exact ⟨rfl, hb5⟩

/-- the block of a hasher that no call made -/
def NoHasher (w : World) (H : Nat) : Prop := Blk w H 99 hsZ.toArray
set_option maxRecDepth 100000 in
theorem write_nil (v : Value) (w : World) : Calls Tryd.prog 43 #[.pointer none, v] w fun e w' => e = .returned (.int .i64 2) ∧ w' = w := by
  go_enter Tryd.func43, Tryd.ntmps43
  go_wp2
  go_ret
  exact ⟨rfl, rfl⟩
set_option maxRecDepth 100000 in
theorem write_none (H : Nat) (v : Value) (w : World) (hh : NoHasher w H) : Calls Tryd.prog 43 #[.pointer (some ⟨H, 0, none⟩), v] w fun e w' => e = .returned (.int .i64 2) ∧ w' = w := by
  have c0 : w.cell? ⟨H, 0, none⟩ = some (.bool false) := by rw [Blk.cell hh]; rfl
  clear hh
  go_enter Tryd.func43, Tryd.ntmps43
  go_wp2
  go_ret
  exact ⟨rfl, rfl⟩
theorem built_no : Tryd.prog.built 59 [] = some (hCells (noughts 32)).toArray := by kernel_rfl
set_option maxRecDepth 100000 in
set_option maxHeartbeats 4000000 in
theorem hsum_nil (w : World) : Calls Tryd.prog 44 #[.pointer none] w fun e w' => e = .returned (.agg (hCells (noughts 32)).toArray) ∧ Below w.heap.size w w' := by
  have hz := zero32
  obtain ⟨Y, hY⟩ : ∃ Y, Y = hCells (noughts 32) := ⟨_, rfl⟩
  replace hz : ∀ w, (zeroValue 59).run Tryd.prog w = .ok (.agg Y.toArray) w := by rw [hY]; exact hz
  have hbt := built_no
  rw [← hY] at hbt
  have HBT := Lib.hid hbt
  have HY := Lib.hid hY
  have HYL : Hid (Y.length = 32) := Lib.hid (by rw [hY]; rfl)
  rw [← hY]
  clear hY hbt
  go_enter Tryd.func44, Tryd.ntmps44
  go_wp2_with (first
    | (with_reducible refine wp_build (o := ⟨some 19, _, _, _, _, _⟩) ?_ 59 #[] ?_ [] ?_ Y.toArray HBT.out ?_
       · rfl
       · rfl
       · rfl)
    | (with_reducible refine wp_store_blk (o := ⟨none, _, _, _, _, _⟩) ?_ 59 (.tmp 2) (.tmp 19) ?_ w.heap.size 59 Y.toArray Y.toArray ?_ ?_ (Blk.new w _ _) ?_ ?_ ?_ w.heap.size w ?_ ?_ ?_
       · rfl
       · rfl
       · rfl
       · rfl
       · rw [List.size_toArray, HYL.out]; kernel_rfl
       · rfl
       · rw [HY.out]; exact hCells_one _
       · exact (Below.refl _ _).alloc (Nat.le_refl _) _
       · exact Nat.le_refl _
       intro w5 hR5 hb5 hg5 hs5))
  refine bodyPost_ret (results_cell1 rfl _ _ _ w.heap.size _ Y _ rfl hR5.out Tryd.underlying59 rfl (by rw [HYL.out]; kernel_rfl)) rfl ?_
  exact ⟨rfl, hb5⟩
set_option maxRecDepth 100000 in
set_option maxHeartbeats 4000000 in
theorem hsum_none (H : Nat) (w : World) (hh : NoHasher w H) : Calls Tryd.prog 44 #[.pointer (some ⟨H, 0, none⟩)] w fun e w' => e = .returned (.agg (hCells (noughts 32)).toArray) ∧ Below w.heap.size w w' := by
  have c0 : w.cell? ⟨H, 0, none⟩ = some (.bool false) := by rw [Blk.cell hh]; rfl
  have hHlt := Blk.lt hh
  have hz := zero32
  obtain ⟨Y, hY⟩ : ∃ Y, Y = hCells (noughts 32) := ⟨_, rfl⟩
  replace hz : ∀ w, (zeroValue 59).run Tryd.prog w = .ok (.agg Y.toArray) w := by rw [hY]; exact hz
  have hbt := built_no
  rw [← hY] at hbt
  have HBT := Lib.hid hbt
  have HY := Lib.hid hY
  have HYL : Hid (Y.length = 32) := Lib.hid (by rw [hY]; rfl)
  rw [← hY]
  clear hY hbt hh
  go_enter Tryd.func44, Tryd.ntmps44
  go_wp2_with (first
    | (with_reducible refine wp_build (o := ⟨some 19, _, _, _, _, _⟩) ?_ 59 #[] ?_ [] ?_ Y.toArray HBT.out ?_
       · rfl
       · rfl
       · rfl)
    | (with_reducible refine wp_store_blk (o := ⟨none, _, _, _, _, _⟩) ?_ 59 (.tmp 2) (.tmp 19) ?_ w.heap.size 59 Y.toArray Y.toArray ?_ ?_ (Blk.new w _ _) ?_ ?_ ?_ w.heap.size w ?_ ?_ ?_
       · rfl
       · rfl
       · rfl
       · rfl
       · rw [List.size_toArray, HYL.out]; kernel_rfl
       · rfl
       · rw [HY.out]; exact hCells_one _
       · exact (Below.refl _ _).alloc (Nat.le_refl _) _
       · exact Nat.le_refl _
       intro w5 hR5 hb5 hg5 hs5))
  refine bodyPost_ret (results_cell1 rfl _ _ _ w.heap.size _ Y _ rfl hR5.out Tryd.underlying59 rfl (by rw [HYL.out]; kernel_rfl)) rfl ?_
  exact ⟨rfl, hb5⟩
end Go.Proofs.YtikjhnbehihbjaaDoor
