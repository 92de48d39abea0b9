/- block.pair: the walk. -/
import Derived.Test.YtifanifgbkpdgaaDoorShaO
import Derived.Test.YtifanifgbkpdgaaDoorPlan
namespace Go.Proofs.YtifanifgbkpdgaaDoor
open Go.RowKit

/-- the hash of two -/
def pairH (a b : List (BitVec 8)) : List (BitVec 8) := sha (sha (a ++ b))
theorem pairH_len (a b : List (BitVec 8)) : (pairH a b).length = 32 := sha_len _
theorem zero64b : ∀ w, (zeroValue 104).run Tryd.prog w = .ok (.agg (hCells (noughts 64)).toArray) w := zero_of2 (by kernel_rfl)

set_option maxRecDepth 100000 in
set_option maxHeartbeats 4000000 in
theorem pair_any (a b : List (BitVec 8)) (w : World) (ha : a.length = 32) (hb : b.length = 32) (hK : Laid w) :
    Calls Tryd.prog 41 #[.agg (hCells a).toArray, .agg (hCells b).toArray] w fun e w' => e = .returned (.agg (hCells (pairH a b)).toArray) ∧ Below w.heap.size w w' := by
  have HA := Lib.hid ha
  have HB := Lib.hid hb
  have HK := Lib.hid hK
  have hKs := hK.size
  obtain ⟨A, hA⟩ : ∃ x, x = (hCells a).toArray := ⟨_, rfl⟩
  obtain ⟨B, hB⟩ : ∃ x, x = (hCells b).toArray := ⟨_, rfl⟩
  rw [← hA, ← hB]
  have hz := zero32
  obtain ⟨Y, hY⟩ : ∃ Y, Y = ((noughts 32).map u8).toArray := ⟨_, rfl⟩
  rw [← hY] at hz
  have HYS : Hid (Y.size = 32) := Lib.hid (by rw [hY]; rfl)
  have hz64 := zero64b
  obtain ⟨Z, hZ⟩ : ∃ Z, Z = (hCells (noughts 64)).toArray := ⟨_, rfl⟩
  rw [← hZ] at hz64
  obtain ⟨V, hV⟩ : ∃ V, V = pairH a b := ⟨_, rfl⟩
  rw [← hV]
  have HV := Lib.hid hV
  have HVL : Hid (V.length = 32) := Lib.hid (by rw [hV]; exact pairH_len a b)
  have HAA := Lib.hid hA
  have HBB := Lib.hid hB
  have HZ := Lib.hid hZ
  clear ha hb hK hA hB hY hZ hV
  go_enter Tryd.func41, Tryd.ntmps41
  go_upto_region 2 with fail
  refine wp_abst (fun w' => Hid (Blk w' w.heap.size 24 (hCells a).toArray) ∧ Hid (Blk w' (w.heap.size + 1) 24 (hCells b).toArray) ∧ Hid (Blk w' (w.heap.size + 2) 24 Y) ∧ Hid (Blk w' (w.heap.size + 3) 104 (hCells (noughts 64)).toArray) ∧ Below w.heap.size w w') ⟨?_, ?_, ?_, ?_, ?_⟩ ?_
  · exact Lib.hid (by rw [← HAA.out]; exact (((Blk.new w _ _).alloc _).alloc _).alloc _)
  · exact Lib.hid (by rw [← HBB.out]; exact ((Blk.new2 w _ _ _).alloc _).alloc _)
  · exact Lib.hid ((by have := Blk.new ((w.alloc (.cells A 24)).alloc (.cells B 24)) 24 Y; simp only [World.size_alloc] at this; exact this.alloc _))
  · exact Lib.hid (by rw [← HZ.out]; have := Blk.new (((w.alloc (.cells A 24)).alloc (.cells B 24)).alloc (.cells Y 24)) 104 Z; simp only [World.size_alloc] at this; exact this)
  · exact ((((Below.refl _ _).alloc (Nat.le_refl _) _).alloc (by simp) _).alloc (by simp; omega) _).alloc (by simp; omega) _
  rintro w1 ⟨ha1, hb1, hy1, hx1, hbel1⟩
  have hlt1 := hx1.out.lt
  refine quiet_tail 2 (by kernel_rfl) (by kernel_rfl) ?_
  simp only [List.take_succ_cons, List.take_zero, List.drop_succ_cons, List.drop_zero]
  iterate 2 (go_big_quiet_step (fail))
  refine wpQuiet_nil ?_
  rintro _ ⟨nq, rfl⟩
  have hsp1 : Hid (splice (hCells (noughts 64)) 0 ((a.take 64).map Go.Proofs.YtifanifgbkpdgaaDoor.u8) = hCells (a ++ noughts 32)) := Lib.hid (by
    rw [List.take_of_length_le (by rw [HA.out]; omega)]
    unfold splice hCells
    rw [List.take_zero, List.nil_append, List.length_map, HA.out, List.map_append]
    rfl)
  refine wp_copy8g (o := ⟨some 8, _, _, _, _, _⟩) rfl (.tmp 6) (.tmp 7) 35 35 rfl 5 Tryd.underlying35 (by kernel_rfl) 64 64 32 32 (some ⟨w.heap.size, 0, none⟩) a (w.heap.size + 3) 0 rfl rfl HA.out (hCells_row (ha1.out.drewN nq)) (hCells (noughts 64)) _ (hx1.out.drewN nq) 32 rfl (by simp [hCells, noughts]) ?_
  intro w2 hx2 hg2 hs2
  rw [hsp1.out] at hx2
  have hb2 := Lib.hid ((hb1.out.drewN nq).kept hg2 (by omega))
  have hy2 := Lib.hid ((hy1.out.drewN nq).kept hg2 (by omega))
  have hbel2 := (below_drewN hbel1 nq).grown hg2 (below_drewN hbel1 nq).size (fun k hk => by injection hk with hk; omega)
  clear ha1 hb1 hy1 hx1 hbel1 hg2 hs2 hsp1
  go_upto_region 3 with fail
  refine quiet_tail 2 (by kernel_rfl) (by kernel_rfl) ?_
  simp only [List.take_succ_cons, List.take_zero, List.drop_succ_cons, List.drop_zero, put_some, List.setIfInBounds_toArray, List.set_cons_succ, List.set_cons_zero]
  iterate 2 (go_big_quiet_step (fail))
  refine wpQuiet_nil ?_
  rintro _ ⟨nq2, rfl⟩
  have hsp2 : Hid (splice (hCells (a ++ noughts 32)) 32 ((b.take 32).map Go.Proofs.YtifanifgbkpdgaaDoor.u8) = hCells (a ++ b)) := Lib.hid (by
    rw [List.take_of_length_le (by rw [HB.out]; omega)]
    unfold splice hCells
    rw [List.map_append, List.take_left' (by rw [List.length_map, HA.out]), List.length_map, HB.out, List.drop_of_length_le (by simp [HA.out, noughts]), List.append_nil, List.map_append])
  refine wp_copy8g (o := ⟨some 11, _, _, _, _, _⟩) rfl (.tmp 9) (.tmp 10) 35 35 rfl 5 Tryd.underlying35 (by kernel_rfl) 32 32 32 32 (some ⟨w.heap.size + 1, 0, none⟩) b (w.heap.size + 3) 32 rfl rfl HB.out (hCells_row (hb2.out.drewN nq2)) (hCells (a ++ noughts 32)) _ (hx2.out.drewN nq2) 32 rfl (by simp [hCells, HA.out, noughts]) ?_
  intro w3 hx3 hg3 hs3
  rw [hsp2.out] at hx3
  have hy3 := Lib.hid ((hy2.out.drewN nq2).kept hg3 (by omega))
  have hbel3 := (below_drewN hbel2 nq2).grown hg3 (below_drewN hbel2 nq2).size (fun k hk => by injection hk with hk; omega)
  clear hb2 hy2 hx2 hbel2 hg3 hs3 hsp2
  have hlen : Hid ((a ++ b).length = 64) := Lib.hid (by rw [List.length_append, HA.out, HB.out])
  go_wp2_with fail
  refine (shaDouble_any (some ⟨w.heap.size + 3, 0, none⟩) 64 64 (a ++ b) w3 (HK.out.below hbel3 hKs) (hCells_row hx3.out) hlen.out (by omega) (by omega) (by omega)).mono ?_
  rw [show hCells (sha (sha (a ++ b))) = hCells V from by rw [HV.out]; rfl]
  rintro e w4 ⟨rfl, hbel4⟩
  have hy4 := Lib.hid (hy3.out.below hbel4 hy3.out.lt)
  have hbw4 := hbel3.trans (hbel4.mono hbel3.size)
  go_wp2_with (with_reducible refine wp_store_blk (o := ⟨none, _, _, _, _, _⟩) ?_ 24 (.tmp 4) (.tmp 13) ?_ (w.heap.size + 2) 24 Y (hCells V).toArray ?_ ?_ hy4.out ?_ ?_ ?_ w.heap.size w hbw4 ?_ ?_
               · rfl
               · rfl
               · rfl
               · rfl
               · exact hCells_info' HVL.out
               · exact HYS.out.trans (by rw [List.size_toArray, hCells, List.length_map, HVL.out])
               · exact hCells_one V
               · omega
               intro w5 hz5 hb5 _ _)
  refine bodyPost_ret (results_cell1 rfl _ _ _ (w.heap.size + 2) _ (hCells V) _ rfl hz5.out Tryd.underlying24 rfl (hCells_info HVL.out)) rfl ?_
  exact ⟨rfl, hb5⟩
end Go.Proofs.YtifanifgbkpdgaaDoor
