/- sporranref06.Encode: the walk. -/
import Derived.Test.YthglocpbdfcfnaaHdrQ
import Derived.Test.YthglocpbdfcfnaaGA
namespace Go.Proofs.Ythglocpbdfcfnaa
open Go.RowKit

/-- the last three numbers' bytes, k of them -/
def lastN (h : Hdr) (k : Nat) : List (BitVec 8) := ([h.t, h.b, h.n].take k).flatMap le32
theorem lastN_len (h : Hdr) (k : Nat) (hk : k ≤ 3) : (lastN h k).length = 4 * k := by
  rcases (by omega : k = 0 ∨ k = 1 ∨ k = 2 ∨ k = 3) with rfl | rfl | rfl | rfl <;> simp [lastN, le32_len]
theorem lastN_succ (h : Hdr) (k : Nat) (x : BitVec 32) (hx : [h.t, h.b, h.n][k]? = some x) : lastN h (k + 1) = lastN h k ++ le32 x := by
  unfold lastN
  obtain ⟨hk, rfl⟩ := List.getElem?_eq_some_iff.1 hx
  rw [List.take_succ_eq_append_getElem hk, List.flatMap_append]
  simp
theorem hdr_bytes_last (h : Hdr) : (le32 h.v ++ h.p ++ h.m) ++ lastN h 3 = h.bytes := by
  unfold Hdr.bytes lastN
  simp [List.append_assoc]

set_option maxRecDepth 100000 in
set_option maxHeartbeats 4000000 in
theorem refHdrEncode_any (h : Hdr) (hk : h.ok) (w : World) : Calls Try.prog 51 #[.agg h.cells.toArray] w (GivesOwn w h.bytes) := by
  obtain ⟨C, hC⟩ : ∃ C, C = h.cells.toArray := ⟨_, rfl⟩
  rw [← hC]
  have HC := Lib.hid hC
  clear hC
  have HK := Lib.hid hk
  clear hk
  go_enter Try.func51, Try.ntmps51
  go_upto_region 1 with fail
  refine wp_abst (fun w' => Hid (Blk w' w.heap.size 46 h.cells.toArray) ∧ Below w.heap.size w w') ⟨Lib.hid (by rw [← HC.out]; exact Blk.new w _ _), (Below.refl _ _).alloc (Nat.le_refl _) _⟩ ?_
  rintro w1 ⟨hb1, hbel1⟩
  have c0 : w1.cell? ⟨w.heap.size, 0, none⟩ = some (.int .u32 (iv32 h.v)) := by rw [hb1.out.cell]; rfl
  have e0 := ext32_64 h.v
  go_wp2_with fail
  refine (low_any (h.v.setWidth 64) 4 (by omega) _).mono ?_
  rintro e w2 ⟨v2, rfl, ho2, hbel2⟩
  replace ho2 : Own8 w2 w1.heap.size v2 (le32 h.v) := ho2
  have hlt1 := hb1.out.lt
  have hp1 := Lib.hid (hdr_row_p HK.out hb1.out)
  have hm1 := Lib.hid (hdr_row_m HK.out hb1.out)
  clear c0 e0
  go_upto_region 2 with fail
  refine region_plan [qq 0, qq 1, qq 2, qq 4, qq 5, oo 3, oo 6, qq 7] (fun _ => True) (by kernel_rfl) (by kernel_rfl) trivial ?_
  refine' plan_quiet (s := 36) (A1 := _) [0, 1, 2, 4, 5] [_, _, _, _, _] _ rfl rfl rfl (fun W _ => ?hq1) _ trivial (fun _ => ?hr1)
  case hq1 =>
    simp only [List.getElem_toArray, List.getElem_cons_zero, List.getElem_cons_succ]
    iterate 5 (go_big_quiet_step (fail))
    refine wpQuiet_nil ?_
    rfl
  case hr1 =>
  refine plan_one rfl fun k => ?_
  refine wp_append8 (o := ⟨some 13, _, _, _, _, _⟩) rfl (.tmp 10) (.tmp 12) rfl w1.heap.size v2 (le32 h.v) rfl ((ho2.drew).drewN k) (some ⟨w.heap.size, 1, none⟩) 32 32 h.p rfl HK.out.1 ?_ ?_ ?_ w1.heap.size w1 ?_ (Nat.le_refl _) ?_
  · exact hp1.out.below (below_drewN hbel2.drew k) (Nat.le_refl _)
  · rw [le32_len, HK.out.1]; omega
  · exact hbel2.size
  · exact below_drewN hbel2.drew k
  intro v3 w3 ho3 hbel3 _ _
  refine planQ_normal ⟨trivial, ?_⟩
  refine plan_one rfl fun k3 => ?_
  refine wp_append8 (o := ⟨some 16, _, _, _, _, _⟩) rfl (.tmp 13) (.tmp 15) rfl w1.heap.size v3 (le32 h.v ++ h.p) rfl (ho3.drewN k3) (some ⟨w.heap.size, 33, none⟩) 32 32 h.m rfl HK.out.2 ?_ ?_ ?_ w1.heap.size w1 ?_ (Nat.le_refl _) ?_
  · exact hm1.out.below (below_drewN hbel3 k3) (Nat.le_refl _)
  · rw [List.length_append, le32_len, HK.out.1, HK.out.2]; omega
  · exact hbel3.size
  · exact below_drewN hbel3 k3
  intro v4 w4 ho4 hbel4 _ _
  refine planQ_normal ⟨trivial, ?_⟩
  refine' plan_quiet (s := 36) (A1 := _) (r := []) [7] [_] _ rfl rfl rfl (fun W _ => ?hq2) _ trivial (fun _ => ?hr2)
  case hq2 =>
    simp only [List.getElem_toArray, List.getElem_cons_zero, List.getElem_cons_succ, put_some, List.setIfInBounds_toArray, List.set_cons_succ, List.set_cons_zero]
    iterate 1 (go_big_quiet_step (fail))
    refine wpQuiet_nil ?_
    rfl
  case hr2 =>
  refine plan_end fun k4 => NoPanic.normal ?_
  clear hbel3 ho3 hp1 hm1 hbel2 ho2
  obtain ⟨X, hX⟩ : ∃ X, X = le32 h.v ++ h.p ++ h.m := ⟨_, rfl⟩
  rw [← hX] at ho4
  have HX := Lib.hid hX
  have hXl : Hid (X.length = 68) := Lib.hid (by rw [hX, List.length_append, List.length_append, le32_len, HK.out.1, HK.out.2])
  clear hX
  have ho5 := ho4.drewN k4
  have hbel5 := below_drewN hbel4 k4
  have hb5 := hb1.out.below hbel5 hlt1
  obtain ⟨w5, hw5⟩ : ∃ x, x = w4.drewN k4 := ⟨_, rfl⟩
  rw [← hw5] at ho5 hbel5 hb5
  have c3 : w5.cell? ⟨w.heap.size, 65, none⟩ = some (.int .u32 (iv32 h.t)) := by rw [hb5.cell, List.getElem?_toArray]; exact hdr_cell_last HK.out 0
  have c4 : w5.cell? ⟨w.heap.size, 66, none⟩ = some (.int .u32 (iv32 h.b)) := by rw [hb5.cell, List.getElem?_toArray]; exact hdr_cell_last HK.out 1
  have c5 : w5.cell? ⟨w.heap.size, 67, none⟩ = some (.int .u32 (iv32 h.n)) := by rw [hb5.cell, List.getElem?_toArray]; exact hdr_cell_last HK.out 2
  rw [← hw5]
  clear hw5 ho4 hbel4 hb5
  go_wp2_with fail
  have hv5 : v4.ownBlock ≠ some w5.heap.size := by
    intro e
    have := (World.ownsRow.lt ho5 _ e).2
    omega
  have hG0 : Hid (Blk (w5.alloc (.cells #[.int .u32 (iv32 h.t), .int .u32 (iv32 h.b), .int .u32 (iv32 h.n)] 22)) w5.heap.size 22 ([h.t, h.b, h.n].map Go.Proofs.Ythglocpbdfcfnaa.u32).toArray) := Lib.hid (Blk.new w5 _ _)
  have ho6 := ho5.alloc (.cells #[.int .u32 (iv32 h.t), .int .u32 (iv32 h.b), .int .u32 (iv32 h.n)] 22)
  have hbel6 := hbel5.alloc hbel5.size (.cells #[.int .u32 (iv32 h.t), .int .u32 (iv32 h.b), .int .u32 (iv32 h.n)] 22)
  have hXe : Hid (X ++ lastN h 0 = X) := Lib.hid (List.append_nil X)
  rw [← hXe.out] at ho6
  obtain ⟨G, hG⟩ : ∃ G, G = w5.heap.size := ⟨_, rfl⟩
  rw [← hG] at hv5 hG0 ⊢
  clear c3 c4 c5 ho5 hbel5 hG
  go_loopw [3, 25] (fun v i wr => ∃ k : Nat, k ≤ 3 ∧ i = .int .i64 k ∧ Own8 wr w1.heap.size v (X ++ lastN h k) ∧ v.ownBlock ≠ some G ∧ Hid (Blk wr G 22 ([h.t, h.b, h.n].map Go.Proofs.Ythglocpbdfcfnaa.u32).toArray) ∧ Below w1.heap.size w1 wr) (fun _ i _ => 3 - (intOf i).toNat)
  case atStart => exact ⟨0, by omega, rfl, ho6, hv5, hG0, hbel6⟩
  case round =>
    obtain ⟨q, hq, rfl, ho8, hv8, hG8, hbel8⟩ := hrel
    clear ho6 hv5 hG0 hbel6
    by_cases hq3 : q < 3
    · have hlt : (q : Int) < 3 := by omega
      obtain ⟨x, hx⟩ : ∃ x, [h.t, h.b, h.n][q]? = some x := ⟨_, List.getElem?_eq_getElem (by simpa using hq3)⟩
      have cc : wr.cell? ⟨G, q, none⟩ = some (.int .u32 (iv32 x)) := by rw [hG8.out.cell, List.getElem?_toArray, List.getElem?_map, hx]; rfl
      have e0 := ext32_64 x
      have HX2 := Lib.hid (lastN_succ h q x hx)
      have hlt8 := hG8.out.lt
      clear hx
      go_wp2_with fail
      refine (low_any (x.setWidth 64) 4 (by omega) _).mono ?_
      rintro e w9 ⟨v9, rfl, ho9, hbel9⟩
      replace ho9 : Own8 w9 wr.heap.size v9 (le32 x) := ho9
      obtain ⟨p9, n9, c9, rfl, H9, hl9, hm9, hr9⟩ := ho9.open
      have hn9 : n9 = 4 := H9.out.symm.trans (le32_len x)
      subst hn9
      have ho10 := ho8.below hbel9 (Nat.le_refl _)
      have hG10 := hG8.out.below hbel9 hlt8
      have hbel10 := hbel8.trans (hbel9.mono hbel8.size)
      have hs9 := hbel9.size
      clear cc e0 ho8 ho9
      go_wp2_with (with_reducible refine wp_append8 (o := ⟨some 33, _, _, _, _, _⟩) ?_ (.tmp 29) (.tmp 32) ?_ w1.heap.size _ (X ++ lastN h q) ?_ ho10 p9 4 c9 (le32 x) ?_ H9.out hr9 ?_ ?_ w1.heap.size w1 hbel10 ?_ ?_
                   · rfl
                   · rfl
                   · rfl
                   · rfl
                   · rw [List.length_append, hXl.out, lastN_len h q hq, le32_len]; omega
                   · exact hbel10.size
                   · exact Nat.le_refl _
                   intro v11 w11 ho11 hbel11 hg11 hv11)
      have hv12 : v11.ownBlock ≠ some G := by
        rcases hv11 with h1 | h1
        · rw [h1]; exact hv8
        · rw [h1]; intro e; injection e with e; omega
      have hG11 : Blk w11 G 22 ([h.t, h.b, h.n].map Go.Proofs.Ythglocpbdfcfnaa.u32).toArray := (hg11.block G hG10.lt (Ne.symm hv8)).trans hG10
      rw [List.append_assoc, ← HX2.out] at ho11
      go_roundw
      case rel => exact ⟨q + 1, by omega, by go_num, ho11, hv12, Lib.hid hG11, hbel11⟩
      case measure => simp [intOf]; omega
    · have hq3' : q = 3 := by omega
      subst hq3'
      have hge : ¬ ((3 : Nat) : Int) < 3 := by omega
      rw [HX.out, hdr_bytes_last] at ho8
      have hbw := hbel1.trans (hbel8.mono hbel1.size)
      go_wp2
      go_ret
      exact ⟨_, rfl, ho8.mono hbel1.size, hbw⟩
end Go.Proofs.Ythglocpbdfcfnaa
