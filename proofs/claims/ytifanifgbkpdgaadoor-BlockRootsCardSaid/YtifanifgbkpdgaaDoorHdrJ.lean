/- header.ID, sporranref06.ID: the walks. -/
import Derived.Test.YtifanifgbkpdgaaDoorHdrH
import Derived.Test.YtifanifgbkpdgaaDoorShaO
namespace Go.Proofs.YtifanifgbkpdgaaDoor
open Go.RowKit

/-- a header's hash -/
def hid (h : Hdr) : List (BitVec 8) := sha (sha h.bytes)
theorem hid_len (h : Hdr) : (hid h).length = 32 := sha_len _

set_option maxRecDepth 100000 in
set_option maxHeartbeats 4000000 in
theorem hdrID_any (h : Hdr) (hk : h.ok) (w : World) (hK : Laid w) : Calls Tryd.prog 22 #[.agg h.cells.toArray] w fun e w' => e = .returned (.agg (hCells (hid h)).toArray) ∧ Below w.heap.size w w' := by
  obtain ⟨C, hC⟩ : ∃ C, C = h.cells.toArray := ⟨_, rfl⟩
  rw [← hC]
  have HC := Lib.hid hC
  have HK := Lib.hid hk
  have HL := Lib.hid hK
  have hKs := hK.size
  have hz := zero32
  obtain ⟨Y, hY⟩ : ∃ Y, Y = ((noughts 32).map u8).toArray := ⟨_, rfl⟩
  rw [← hY] at hz
  have HYS : Hid (Y.size = 32) := Lib.hid (by rw [hY]; rfl)
  obtain ⟨V, hV⟩ : ∃ V, V = hid h := ⟨_, rfl⟩
  have HV := Lib.hid hV
  have HVL : Hid (V.length = 32) := Lib.hid (by rw [hV]; exact hid_len h)
  rw [← hV]
  clear hC hk hK hY hV
  go_enter Tryd.func22, Tryd.ntmps22
  go_upto_region 1 with fail
  refine wp_abst (fun w' => Hid (Blk w' w.heap.size 33 h.cells.toArray) ∧ Hid (Blk w' (w.heap.size + 1) 24 Y) ∧ Below w.heap.size w w') ⟨Lib.hid (by rw [← HC.out]; exact (Blk.new w _ _).alloc _), Lib.hid (Blk.new2 w _ _ _), ((Below.refl _ _).alloc (Nat.le_refl _) _).alloc (by simp) _⟩ ?_
  rintro w1 ⟨hb1, hy1, hbel1⟩
  have hlt1 := hy1.out.lt
  have hrg := hb1.out.range
  go_wp2_with (with_reducible refine wpList_load_mid (op := ⟨some 3, _, _, _, _, _⟩) ?_ 33 (.tmp 1) ?_ w.heap.size 0 ?_ h.cells _ hrg Tryd.underlying33 ?_ ?_ ?_
               · rfl
               · rfl
               · rfl
               · rfl
               · exact hdr_size HK.out)
  refine (hdrEncode_any h HK.out w1).mono ?_
  rintro e w2 ⟨g, rfl, hb2, hg2, hbel2⟩
  have hbw2 := hbel1.trans (hbel2.mono hbel1.size)
  have hy2 := Lib.hid (hy1.out.below hbel2 hlt1)
  have hr2 := hdr_row hb2.out
  have hL2 := HL.out.below hbw2 hKs
  have hbl : Hid (h.bytes.length = 80) := Lib.hid (Hdr.bytes_len HK.out)
  clear hrg hb1 hy1 hbel1 hbel2
  go_wp2_with fail
  refine (shaDouble_any (some ⟨g, 0, none⟩) 80 80 h.bytes w2 hL2 hr2 hbl.out (by omega) (by omega) (by omega)).mono ?_
  rw [show hCells (sha (sha h.bytes)) = hCells V from by rw [HV.out]; rfl]
  rintro e w3 ⟨rfl, hbel3⟩
  have hbw3 := hbw2.trans (hbel3.mono hbw2.size)
  have hy3 := Lib.hid (hy2.out.below hbel3 hy2.out.lt)
  go_wp2_with (with_reducible refine wp_store_blk (o := ⟨none, _, _, _, _, _⟩) ?_ 24 (.tmp 2) (.tmp 5) ?_ (w.heap.size + 1) 24 Y (hCells V).toArray ?_ ?_ hy3.out ?_ ?_ ?_ w.heap.size w hbw3 ?_ ?_
               · rfl
               · rfl
               · rfl
               · rfl
               · exact hCells_info' HVL.out
               · exact HYS.out.trans (by rw [List.size_toArray, hCells, List.length_map, HVL.out])
               · exact hCells_one V
               · omega
               intro w4 hz4 hb4 _ _)
  refine bodyPost_ret (results_cell1 rfl _ _ _ (w.heap.size + 1) _ (hCells V) _ rfl hz4.out Tryd.underlying24 rfl (hCells_info HVL.out)) rfl ?_
  exact ⟨rfl, hb4⟩

set_option maxRecDepth 100000 in
set_option maxHeartbeats 4000000 in
theorem refHdrID_any (h : Hdr) (hk : h.ok) (w : World) : Calls Tryd.prog 13 #[.agg h.cells.toArray] w fun e w' => e = .returned (.agg (hCells (hid h)).toArray) ∧ Below w.heap.size w w' := by
  obtain ⟨C, hC⟩ : ∃ C, C = h.cells.toArray := ⟨_, rfl⟩
  rw [← hC]
  have HC := Lib.hid hC
  have HK := Lib.hid hk
  have hz := zero32
  obtain ⟨Y, hY⟩ : ∃ Y, Y = ((noughts 32).map u8).toArray := ⟨_, rfl⟩
  rw [← hY] at hz
  have HYS : Hid (Y.size = 32) := Lib.hid (by rw [hY]; rfl)
  obtain ⟨V, hV⟩ : ∃ V, V = hid h := ⟨_, rfl⟩
  have HV := Lib.hid hV
  have HVL : Hid (V.length = 32) := Lib.hid (by rw [hV]; exact hid_len h)
  rw [← hV]
  clear hC hk hY hV
  go_enter Tryd.func13, Tryd.ntmps13
  go_upto_region 1 with fail
  refine wp_abst (fun w' => Hid (Blk w' w.heap.size 33 h.cells.toArray) ∧ Hid (Blk w' (w.heap.size + 1) 24 Y) ∧ Below w.heap.size w w') ⟨Lib.hid (by rw [← HC.out]; exact (Blk.new w _ _).alloc _), Lib.hid (Blk.new2 w _ _ _), ((Below.refl _ _).alloc (Nat.le_refl _) _).alloc (by simp) _⟩ ?_
  rintro w1 ⟨hb1, hy1, hbel1⟩
  have hlt1 := hy1.out.lt
  have hrg := hb1.out.range
  go_wp2_with (with_reducible refine wpList_load_mid (op := ⟨some 3, _, _, _, _, _⟩) ?_ 33 (.tmp 1) ?_ w.heap.size 0 ?_ h.cells _ hrg Tryd.underlying33 ?_ ?_ ?_
               · rfl
               · rfl
               · rfl
               · rfl
               · exact hdr_size HK.out)
  refine (refHdrEncode_any h HK.out w1).mono ?_
  rintro e w2 ⟨v2, rfl, ho2, hbel2⟩
  obtain ⟨g, n2, c2, rfl, H2, hl2, hm2, hr2⟩ := ho2.open
  have hn2 : n2 = 80 := H2.out.symm.trans (Hdr.bytes_len HK.out)
  subst hn2
  clear ho2
  have hbw2 := hbel1.trans (hbel2.mono hbel1.size)
  have hy2 := Lib.hid (hy1.out.below hbel2 hlt1)
  clear hrg hb1 hy1 hbel1 hbel2
  go_wp2_with fail
  refine (refDouble_any g 80 c2 h.bytes w2 hr2 H2.out (by omega)).mono ?_
  rw [show hCells (sha (sha h.bytes)) = hCells V from by rw [HV.out]; rfl]
  rintro e w3 ⟨rfl, hbel3⟩
  have hbw3 := hbw2.trans (hbel3.mono hbw2.size)
  have hy3 := Lib.hid (hy2.out.below hbel3 hy2.out.lt)
  go_wp2_with (with_reducible refine wp_store_blk (o := ⟨none, _, _, _, _, _⟩) ?_ 24 (.tmp 2) (.tmp 5) ?_ (w.heap.size + 1) 24 Y (hCells V).toArray ?_ ?_ hy3.out ?_ ?_ ?_ w.heap.size w hbw3 ?_ ?_
               · rfl
               · rfl
               · rfl
               · rfl
               · exact hCells_info' HVL.out
               · exact HYS.out.trans (by rw [List.size_toArray, hCells, List.length_map, HVL.out])
               · exact hCells_one V
               · omega
               intro w4 hz4 hb4 _ _)
  refine bodyPost_ret (results_cell1 rfl _ _ _ (w.heap.size + 1) _ (hCells V) _ rfl hz4.out Tryd.underlying24 rfl (hCells_info HVL.out)) rfl ?_
  exact ⟨rfl, hb4⟩
end Go.Proofs.YtifanifgbkpdgaaDoor
