/- sporranlaw06.HeaderShort: the walk. -/
import Derived.Test.YtamcmckfommlnaaHdrD
import Derived.Test.YtamcmckfommlnaaSizeX
namespace Go.Proofs.Ytamcmckfommlnaa
open Go.RowKit

theorem hdr_size {h : Hdr} (hk : h.ok) : (Try.prog.info? 26).map (·.size) = some h.cells.length := by rw [Hdr.cells_len hk]; kernel_rfl

set_option maxRecDepth 100000 in
set_option maxHeartbeats 2000000 in
theorem headerShort_walk (h : Hdr) (x : Int) (w : World) (hk : h.ok) (_hx0 : -9223372036854775808 ≤ x) (_hx1 : x ≤ 9223372036854775807) :
    Calls Try.prog 3 #[.agg h.cells.toArray, .int .i64 x] w fun e w' => e = .returned (.bool true) ∧ Below w.heap.size w w' := by
  have hw0 : 0 ≤ IntKind.u64.wrap x := by rw [wrapU64]; omega
  obtain ⟨j, hj⟩ : ∃ j : Nat, IntKind.u64.wrap x % 80 = (j : Int) := ⟨(IntKind.u64.wrap x % 80).toNat, by omega⟩
  have hj80 : j < 80 := by omega
  have hz := zeroHdr
  obtain ⟨Z, hZ⟩ : ∃ Z, Z = noHdr.cells.toArray := ⟨_, rfl⟩
  obtain ⟨C, hC⟩ : ∃ C, C = h.cells.toArray := ⟨_, rfl⟩
  rw [← hZ] at hz
  rw [← hC]
  have HZ := Lib.hid hZ
  have HC := Lib.hid hC
  have HJ := Lib.hid hj
  clear hZ hC hj
  go_enter Try.func3, Try.ntmps3
  go_upto_region 1 with fail
  refine wp_abst (fun w' => Hid (Blk w' w.heap.size 26 h.cells.toArray) ∧ Below w.heap.size w w') ⟨Lib.hid (by rw [← HC.out]; exact Blk.new w _ _), (Below.refl _ _).alloc (Nat.le_refl _) _⟩ ?_
  rintro w1 ⟨hb1, hbel1⟩
  have hrg := hb1.out.range
  go_wp2_with (with_reducible refine wpList_load_mid (op := ⟨some 9, _, _, _, _, _⟩) ?_ 26 (.tmp 2) ?_ w.heap.size 0 ?_ h.cells _ hrg Try.underlying26 ?_ ?_ ?_
               · rfl
               · rfl
               · rfl
               · rfl
               · exact hdr_size hk)
  refine (hdrEncode_any h hk _).mono ?_
  rintro e w2 ⟨g, rfl, hb2, hg2, hbel2⟩
  have hbw2 := hbel1.trans (hbel2.mono hbel1.size)
  have hrow := (hdr_row hb2.out).take j
  have hlj : Hid ((h.bytes.take j).length = j) := Lib.hid (by rw [List.length_take, Hdr.bytes_len hk]; omega)
  have HP : Hid (hdrP (h.bytes.take j) = (noHdr, [], 50)) := Lib.hid (by unfold hdrP; rw [if_pos (by rw [hlj.out]; exact hj80)])
  have hj := HJ.out
  have hjs : IntKind.i64.wrap (j : Int) = (j : Int) := by rw [IntKind.wrap_i64]; omega
  have hj0 : (0 : Int) ≤ (j : Int) := by omega
  have hji : (j : Int) ≤ 80 := by omega
  clear hrg hb1 hbel1 hbel2
  go_wp2_with fail
  refine (hdrDecode_any (some ⟨g, 0, none⟩) j 80 _ w2 hrow hlj.out (by omega) (by omega) (by omega)).mono ?_
  rw [HP.out]
  rintro e w3 ⟨v3, rfl, ho3, hbel3⟩
  dsimp only at ho3 ⊢
  obtain ⟨p3, n3, c3, rfl, H3, hl3, hm3, hr3⟩ := ho3.open
  have hn3 : n3 = 0 := H3.out.symm
  subst hn3
  have hbw3 := hbw2.trans (hbel3.mono hbw2.size)
  have hsz := hbw3.size
  rw [← HZ.out]
  have hZs : Hid (Z.size = 68) := Lib.hid (by rw [HZ.out, Hdr.cells_size noHdr_ok])
  clear hj hjs hrow hbel3 hb2
  go_wp2_with (with_reducible refine wp_store_blk (o := ⟨none, _, _, _, _, _⟩) ?_ 26 (.tmp 6) (.tmp 22) ?_ w3.heap.size 26 Z Z ?_ ?_ (Blk.new w3 _ _) ?_ ?_ ?_ w.heap.size w ?_ ?_ ?_
               · rfl
               · rfl
               · rfl
               · rfl
               · rw [hZs.out]; kernel_rfl
               · rfl
               · rw [HZ.out]; exact Hdr.cells_one _
               · exact hbw3.alloc hsz _
               · exact hsz
               intro w4 hb4 hbel4 _ _)
  go_ret
  exact ⟨rfl, hbel4⟩
end Go.Proofs.Ytamcmckfommlnaa
