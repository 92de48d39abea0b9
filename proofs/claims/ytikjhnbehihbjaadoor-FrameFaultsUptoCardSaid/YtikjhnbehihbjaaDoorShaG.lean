/- sporranref01.Double: the walk. -/
import Derived.Test.YtikjhnbehihbjaaDoorShaF
namespace Go.Proofs.YtikjhnbehihbjaaDoor
open Go.RowKit

theorem sha_len (bs : List (BitVec 8)) : (sha bs).length = 32 := by unfold sha; exact hashTo_len _ _
/-- a hash's cells -/
def hCells (l : List (BitVec 8)) : List Value := l.map u8
theorem hCells_info {l : List (BitVec 8)} (h : l.length = 32) : (Tryd.prog.info? 59).map (·.size) = some (hCells l).length := by rw [hCells, List.length_map, h]; kernel_rfl
theorem hCells_info' {l : List (BitVec 8)} (h : l.length = 32) : (Tryd.prog.info? 59).map (·.size) = some (hCells l).toArray.size := by rw [List.size_toArray]; exact hCells_info h
theorem hCells_one (l : List (BitVec 8)) : (hCells l).toArray.all (·.oneCell') = true := by
  rw [List.all_toArray, hCells]; simp [Value.oneCell']
theorem hCells_row {w : World} {g : Nat} {t : TypeId} {l : List (BitVec 8)} (h : Blk w g t (hCells l).toArray) : Row8 w (some ⟨g, 0, none⟩) l := fun _ =>
  ⟨g, 0, rfl, h.lt, fun i x hx => by rw [Nat.zero_add, h.cell, List.getElem?_toArray, hCells, List.getElem?_map, hx]; rfl⟩

set_option maxRecDepth 100000 in
set_option maxHeartbeats 4000000 in
theorem refDouble_any (p : Option Addr) (n c : Nat) (bs : List (BitVec 8)) (w : World) (hr : Row8 w p bs) (hn : bs.length = n) (hbig : n ≤ 140737488355000) :
    Calls Tryd.prog 26 #[.slice p n c] w fun e w' => e = .returned (.agg (hCells (sha (sha bs))).toArray) ∧ Below w.heap.size w w' := by
  have HN := Lib.hid hn
  have hz32 := zero32
  obtain ⟨Y, hY⟩ : ∃ Y, Y = ((noughts 32).map u8).toArray := ⟨_, rfl⟩
  rw [← hY] at hz32
  have HYS : Hid (Y.size = 32) := Lib.hid (by rw [hY]; rfl)
  obtain ⟨X, hX⟩ : ∃ X, X = sha bs := ⟨_, rfl⟩
  have hxl : X.length = 32 := by rw [hX, sha_len]
  rw [← hX]
  obtain ⟨V, hV⟩ : ∃ V, V = sha X := ⟨_, rfl⟩
  have hvl : V.length = 32 := by rw [hV, sha_len]
  rw [← hV]
  have HX := Lib.hid hX
  have HXL := Lib.hid hxl
  have HV := Lib.hid hV
  have HVL := Lib.hid hvl
  clear hY hX hxl hV hvl hn
  go_enter Tryd.func26, Tryd.ntmps26
  go_upto_region 1 with fail
  refine wp_abst (fun w' => Hid (Blk w' w.heap.size 59 Y) ∧ Below w.heap.size w w') ⟨Lib.hid (by exact Blk.new w _ _), (Below.refl _ _).alloc (Nat.le_refl _) _⟩ ?_
  rintro w1 ⟨hy1, hb1⟩
  have hr1 := hr.below hb1 (Nat.le_refl _)
  go_wp2_with fail
  refine (refSum_any p n c bs w1 hr1 HN.out hbig).mono ?_
  rw [← HX.out]
  rintro e w2 ⟨rfl, hb2⟩
  have hlt1 := hy1.out.lt
  have hy2 := Lib.hid (hy1.out.below hb2 hlt1)
  have hbw2 := hb1.trans (hb2.mono hb1.size)
  clear hr1 hy1 hb1 hb2
  go_wp2_with (with_reducible refine wp_store_blk (o := ⟨none, _, _, _, _, _⟩) ?_ 59 (.tmp 3) (.tmp 5) ?_ w2.heap.size 59 Y (hCells X).toArray ?_ ?_ (Blk.new w2 _ _) ?_ ?_ ?_ w2.heap.size w2 ?_ ?_ ?_
               · rfl
               · rfl
               · rfl
               · rfl
               · exact hCells_info' HXL.out
               · exact HYS.out.trans (by rw [List.size_toArray, hCells, List.length_map, HXL.out])
               · exact hCells_one X
               · exact (Below.refl _ _).alloc (Nat.le_refl _) _
               · exact Nat.le_refl _
               intro w3 hx3 hb3 _ _)
  have hlt2 := hy2.out.lt
  have hy3 := Lib.hid (hy2.out.below hb3 hlt2)
  have hbw3 := hbw2.trans (hb3.mono hbw2.size)
  have hrow3 := hCells_row hx3.out
  clear hy2 hbw2 hb3
  refine (refSum_any (some ⟨w2.heap.size, 0, none⟩) 32 32 X w3 hrow3 HXL.out (by omega)).mono ?_
  rw [← HV.out]
  rintro e w4 ⟨rfl, hb4⟩
  have hlt3 := hy3.out.lt
  have hy4 := Lib.hid (hy3.out.below hb4 hlt3)
  have hbw4 := hbw3.trans (hb4.mono hbw3.size)
  go_wp2_with (with_reducible refine wp_store_blk (o := ⟨none, _, _, _, _, _⟩) ?_ 59 (.tmp 2) (.tmp 7) ?_ w.heap.size 59 Y (hCells V).toArray ?_ ?_ hy4.out ?_ ?_ ?_ w.heap.size w hbw4 ?_ ?_
               · rfl
               · rfl
               · rfl
               · rfl
               · exact hCells_info' HVL.out
               · exact HYS.out.trans (by rw [List.size_toArray, hCells, List.length_map, HVL.out])
               · exact hCells_one V
               · exact Nat.le_refl _
               intro w5 hz5 hb5 _ _)
  refine bodyPost_ret (results_cell1 rfl _ _ _ w.heap.size _ (hCells V) _ rfl hz5.out Tryd.underlying59 rfl (hCells_info HVL.out)) rfl ?_
  exact ⟨rfl, hb5⟩
end Go.Proofs.YtikjhnbehihbjaaDoor
