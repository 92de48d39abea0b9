/- sporranref06.Decode: the walk. -/
import Derived.Test.YthglocpbdfcfnaaHdrH
import Derived.Test.YthglocpbdfcfnaaKept
import Derived.Test.YthglocpbdfcfnaaGZ
namespace Go.Proofs.Ythglocpbdfcfnaa
open Go.RowKit

theorem hset_v (h : Hdr) (x : BitVec 32) : h.cells.toArray.setIfInBounds 0 (.int .u32 (iv32 x)) = ({ h with v := x } : Hdr).cells.toArray := by
  rw [List.setIfInBounds_toArray]; rfl
theorem hcell_split (h : Hdr) : h.cells = ([u32 h.v] ++ h.p.map u8 ++ h.m.map u8) ++ [u32 h.t, u32 h.b, u32 h.n] := by simp [Hdr.cells]
theorem hset_l {h : Hdr} (hk : h.ok) (i : Nat) (x : Value) : h.cells.toArray.setIfInBounds (65 + i) x = (([u32 h.v] ++ h.p.map u8 ++ h.m.map u8) ++ [u32 h.t, u32 h.b, u32 h.n].set i x).toArray := by
  rw [List.setIfInBounds_toArray, hcell_split, List.set_append_right _ _ (by simp [hk.1, hk.2] <;> omega)]
  congr 3
  simp [hk.1, hk.2]
theorem hset_t {h : Hdr} (hk : h.ok) (x : BitVec 32) : h.cells.toArray.setIfInBounds 65 (.int .u32 (iv32 x)) = ({ h with t := x } : Hdr).cells.toArray := by
  rw [hset_l hk 0, hcell_split]; rfl
theorem hset_b {h : Hdr} (hk : h.ok) (x : BitVec 32) : h.cells.toArray.setIfInBounds 66 (.int .u32 (iv32 x)) = ({ h with b := x } : Hdr).cells.toArray := by
  rw [hset_l hk 1, hcell_split]; rfl
theorem hset_n {h : Hdr} (hk : h.ok) (x : BitVec 32) : h.cells.toArray.setIfInBounds 67 (.int .u32 (iv32 x)) = ({ h with n := x } : Hdr).cells.toArray := by
  rw [hset_l hk 2, hcell_split]; rfl
theorem hsp_p {h : Hdr} (hk : h.ok) (p : List (BitVec 8)) (hp : p.length = 32) : splice h.cells 1 (p.map u8) = ({ h with p := p } : Hdr).cells := by
  unfold splice Hdr.cells
  rw [List.take_succ_cons, List.take_zero, List.length_map, hp, show 1 + 32 = 32 + 1 from rfl, List.drop_succ_cons, List.drop_left' (by rw [List.length_map, hk.1])]
  rfl
theorem hsp_m {h : Hdr} (hk : h.ok) (m : List (BitVec 8)) (hm : m.length = 32) : splice h.cells 33 (m.map u8) = ({ h with m := m } : Hdr).cells := by
  unfold splice Hdr.cells
  rw [show 33 = 32 + 1 from rfl, List.take_succ_cons, List.take_left' (by rw [List.length_map, hk.1]), List.length_map, hm, show 32 + 1 + 32 = (32 + 32) + 1 from rfl, List.drop_succ_cons, ← List.drop_drop, List.drop_left' (by rw [List.length_map, hk.1]), List.drop_left' (by rw [List.length_map, hk.2])]
  rfl

theorem Own8.keptB {w w' : World} {B H : Nat} {v : Value} {bs : List (BitVec 8)} (h : Own8 w B v bs) (hg : w.grownBy w' (some H)) (hH : H < B) : Own8 w' B v bs := by
  refine h.kept hg ?_
  cases hv : v.ownBlock with
  | none => exact .inl rfl
  | some k =>
    have := (World.ownsRow.lt h k hv).1
    exact .inr (by intro e; injection e with e; omega)
theorem numTo_takeK (L : List (BitVec 8)) (k m : Nat) (hk : k ≤ m) : numTo (L.take m) k = numTo L k := by
  induction k with
  | zero => rfl
  | succ k ih => rw [numTo, numTo, ih (by omega), List.getElem?_take, if_pos (by omega)]
theorem num32_takeK (L : List (BitVec 8)) : (numTo (L.take 4) 4).setWidth 32 = num32 L := by rw [numTo_takeK _ _ _ (Nat.le_refl _)]; rfl

set_option maxRecDepth 100000 in
set_option maxHeartbeats 4000000 in
theorem refHdrDecode_any (p : Option Addr) (n c : Nat) (bs : List (BitVec 8)) (w : World) (hr : Row8 w p bs) (hn : bs.length = n) (hl : n ≤ c) (hb : c ≤ 9223372036854775807) (hbig : n ≤ 140737488355328) :
    Calls Try.prog 56 #[.slice p n c] w (HdrPost w (hdrP bs)) := by
  have HN := Lib.hid hn
  have HR := Lib.hid hr
  have hz := zeroHdr
  have hbt := builtNo
  obtain ⟨Z, hZ⟩ : ∃ Z, Z = noHdr.cells.toArray := ⟨_, rfl⟩
  rw [← hZ] at hz hbt
  have HZ := Lib.hid hZ
  have HBT := Lib.hid hbt
  clear hn hr hZ hbt
  by_cases h80 : n < 80
  · have hni : (n : Int) < 80 := by omega
    have HP : Hid (hdrP bs = (noHdr, [], 50)) := Lib.hid (by unfold hdrP; rw [if_pos (by rw [HN.out]; exact h80)])
    go_enter Try.func56, Try.ntmps56
    go_wp2_with (first
      | (with_reducible refine wp_build (o := ⟨some 9, _, _, _, _, _⟩) ?_ 46 #[] ?_ [] ?_ Z HBT.out ?_
         · rfl
         · rfl
         · rfl)
      | (with_reducible refine wp_store_blk (o := ⟨none, _, _, _, _, _⟩) ?_ 46 (.tmp 2) (.tmp 9) ?_ w.heap.size 46 Z Z ?_ ?_ (Blk.new w _ _) ?_ ?_ ?_ w.heap.size w ?_ ?_ ?_
         · rfl
         · rfl
         · rfl
         · rfl
         · rw [HZ.out, List.size_toArray]; exact hdr_size noHdr_ok
         · rfl
         · rw [HZ.out]; exact Hdr.cells_one _
         · exact (Below.refl _ _).alloc (Nat.le_refl _) _
         · exact Nat.le_refl _
         intro w5 hR5 hb5 hg5 hs5))
    rw [HZ.out] at hR5
    refine bodyPost_ret (results_cell3 rfl _ _ _ w.heap.size _ noHdr.cells _ rfl hR5.out Try.underlying46 rfl (hdr_size noHdr_ok)) rfl ?_
    rw [HP.out]
    exact ⟨_, rfl, Own8.nil _ _, hb5⟩
  · have hni : ¬ (n : Int) < 80 := by omega
    have HP : Hid (hdrP bs = (hdrOf bs, bs.drop 80, 0)) := Lib.hid (by unfold hdrP; rw [if_neg (by rw [HN.out]; exact h80)])
    obtain ⟨bb, of, rfl, hbl, _⟩ := HR.out (by intro e; have := HN.out; rw [e] at this; simp at this; omega)
    have row : ∀ k m, k + m ≤ n → k < c → Hid (Row8 w (some ⟨bb, of + k, none⟩) ((bs.drop k).take m)) := fun k m _ hk => by
      have := (HR.out.drop (k := k) (c := c) (by rw [HN.out]; exact hl)).take m
      rw [if_neg (by omega), Option.map_some, Addr.add_lit] at this
      exact Lib.hid this
    have len : ∀ k m, k + m ≤ n → Hid (((bs.drop k).take m).length = m) := fun k m hkm => Lib.hid (by rw [List.length_take, List.length_drop, HN.out]; omega)
    have r0 := row 0 4 (by omega) (by omega)
    have r4 := row 4 32 (by omega) (by omega)
    have r36 := row 36 32 (by omega) (by omega)
    have r68 := row 68 4 (by omega) (by omega)
    have r72 := row 72 4 (by omega) (by omega)
    have r76 := row 76 4 (by omega) (by omega)
    have l0 := len 0 4 (by omega)
    have l4 := len 4 32 (by omega)
    have l36 := len 36 32 (by omega)
    have l68 := len 68 4 (by omega)
    have l72 := len 72 4 (by omega)
    have l76 := len 76 4 (by omega)
    rw [Nat.add_zero] at r0
    clear row len
    have hn80 : 80 ≤ n := by omega
    have q1 : (4 : Int) ≤ (c : Int) := by omega
    have q2 : (36 : Int) ≤ (c : Int) := by omega
    have q3 : (68 : Int) ≤ (c : Int) := by omega
    have q4 : (72 : Int) ≤ (c : Int) := by omega
    have q5 : (76 : Int) ≤ (c : Int) := by omega
    have q6 : (80 : Int) ≤ (c : Int) := by omega
    have z1 : ¬ (c = 4) := by omega
    have z2 : ¬ (c = 36) := by omega
    have z3 : ¬ (c = 68) := by omega
    have z4 : ¬ (c = 72) := by omega
    have z5 : ¬ (c = 76) := by omega
    go_enter Try.func56, Try.ntmps56
    go_upto_region 4 with fail
    refine wp_abst (fun w' => Hid (Blk w' w.heap.size 46 Z) ∧ Hid (Blk w' (w.heap.size + 1) 46 noHdr.cells.toArray) ∧ Below w.heap.size w w') ⟨Lib.hid ((Blk.new w _ _).alloc _), Lib.hid (by rw [← HZ.out]; exact Blk.new2 w _ _ _), ((Below.refl _ _).alloc (Nat.le_refl _) _).alloc (by simp) _⟩ ?_
    rintro w1 ⟨hz1, hh1, hb1⟩
    have hlt1 := hh1.out.lt
    have f0 := hh1.out.frozen 0
    have k0 : w1.cell? ⟨w.heap.size + 1, 0, none⟩ = some (.int .u32 (iv32 0#32)) := by rw [hh1.out.cell]; rfl
    go_wp2_with fail
    refine (number_any _ 4 c _ w1 (r0.out.below hb1 (Nat.le_refl _)) l0.out (by omega)).mono ?_
    rintro e w2 ⟨rfl, hw2⟩
    replace hw2 := hw2.symm
    subst hw2
    have e0 := cut64_32 (numTo ((bs.drop 0).take 4) 4)
    go_upto_region 5 with fail
    obtain ⟨g1, hg1⟩ : ∃ x : Hdr, x = { noHdr with v := (numTo ((bs.drop 0).take 4) 4).setWidth 32 } := ⟨_, rfl⟩
    have HG1 := Lib.hid hg1
    have ok1 : Hid g1.ok := Lib.hid (by rw [hg1]; exact noHdr_ok)
    refine wp_abst (fun w' => Hid (Blk w' w.heap.size 46 Z) ∧ Hid (Blk w' (w.heap.size + 1) 46 g1.cells.toArray) ∧ Below w.heap.size w w') ⟨Lib.hid (hz1.out.far (by show _ ≠ _; simp) _), Lib.hid (by rw [hg1, ← hset_v]; exact hh1.out.set _ _), hb1.setCell (by simp) _⟩ ?_
    clear hz1 hh1 hb1 f0 k0 e0 hg1 hlt1
    rintro w2 ⟨hz2, hh2, hb2⟩
    refine quiet_tail 4 (by kernel_rfl) (by kernel_rfl) ?_
    simp only [List.take_succ_cons, List.take_zero, List.drop_succ_cons, List.drop_zero]
    iterate 4 (go_big_quiet_step (fail))
    refine wpQuiet_nil ?_
    rintro _ ⟨nq, rfl⟩
    have r2 := r4.out.below (below_drewN hb2 nq) (Nat.le_refl _)
    have hh2' := hh2.out.drewN nq
    have hft : 1 + 32 ≤ g1.cells.length := by rw [Hdr.cells_len ok1.out]; omega
    obtain ⟨g2, hg2⟩ : ∃ x : Hdr, x = { g1 with p := (bs.drop 4).take 32 } := ⟨_, rfl⟩
    have HG2 := Lib.hid hg2
    have ok2 : Hid g2.ok := Lib.hid (by rw [hg2]; exact ⟨l4.out, ok1.out.2⟩)
    have hsp : Hid (splice g1.cells 1 (((bs.drop 4).take 32).take 32 |>.map Go.Proofs.Ythglocpbdfcfnaa.u8) = g2.cells) := Lib.hid (by rw [List.take_of_length_le (l := (bs.drop 4).take 32) (by rw [l4.out]; omega), hsp_p ok1.out _ l4.out, hg2])
    clear hg2
    refine wp_copy8g (o := ⟨some 19, _, _, _, _, _⟩) rfl (.tmp 16) (.tmp 18) 27 27 rfl 5 Try.underlying27 (by kernel_rfl) 32 32 32 (c - 4) (some ⟨bb, of + 4, none⟩) ((bs.drop 4).take 32) (w.heap.size + 1) 1 rfl rfl l4.out r2 g1.cells _ hh2' 32 rfl hft ?_
    intro w3 hB3 hgr3 hs3
    rw [hsp.out] at hB3
    have hz3 := Lib.hid ((hz2.out.drewN nq).kept hgr3 (by omega))
    have hb3 := (below_drewN hb2 nq).grown hgr3 (below_drewN hb2 nq).size (fun k hk => by injection hk with hk; omega)
    clear hgr3 hs3 hsp hft hh2 hz2 hb2 hh2' r2
    go_upto_region 6 with fail
    refine quiet_tail 4 (by kernel_rfl) (by kernel_rfl) ?_
    simp only [List.take_succ_cons, List.take_zero, List.drop_succ_cons, List.drop_zero, put_some, List.setIfInBounds_toArray, List.set_cons_succ, List.set_cons_zero]
    iterate 4 (go_big_quiet_step (fail))
    refine wpQuiet_nil ?_
    rintro _ ⟨nq2, rfl⟩
    have r2 := r36.out.below (below_drewN hb3 nq2) (Nat.le_refl _)
    have hh2' := hB3.out.drewN nq2
    have hft : 33 + 32 ≤ g2.cells.length := by rw [Hdr.cells_len ok2.out]; omega
    obtain ⟨g3, hg3⟩ : ∃ x : Hdr, x = { g2 with m := (bs.drop 36).take 32 } := ⟨_, rfl⟩
    have HG3 := Lib.hid hg3
    have ok3 : Hid g3.ok := Lib.hid (by rw [hg3]; exact ⟨ok2.out.1, l36.out⟩)
    have hsp : Hid (splice g2.cells 33 (((bs.drop 36).take 32).take 32 |>.map Go.Proofs.Ythglocpbdfcfnaa.u8) = g3.cells) := Lib.hid (by rw [List.take_of_length_le (l := (bs.drop 36).take 32) (by rw [l36.out]; omega), hsp_m ok2.out _ l36.out, hg3])
    clear hg3
    refine wp_copy8g (o := ⟨some 24, _, _, _, _, _⟩) rfl (.tmp 21) (.tmp 23) 27 27 rfl 5 Try.underlying27 (by kernel_rfl) 32 32 32 (c - 36) (some ⟨bb, of + 36, none⟩) ((bs.drop 36).take 32) (w.heap.size + 1) 33 rfl rfl l36.out r2 g2.cells _ hh2' 32 rfl hft ?_
    intro w4 hB4 hgr4 hs4
    rw [hsp.out] at hB4
    have hz4 := Lib.hid ((hz3.out.drewN nq2).kept hgr4 (by omega))
    have hb4 := (below_drewN hb3 nq2).grown hgr4 (below_drewN hb3 nq2).size (fun k hk => by injection hk with hk; omega)
    clear hgr4 hs4 hsp hft hB3 hz3 hb3 hh2' r2
    have hlt65 := hB4.out.lt
    have f65 := hB4.out.frozen 65
    have k65 : w4.cell? ⟨w.heap.size + 1, 65, none⟩ = some (.int .u32 (iv32 g3.t)) := by rw [hB4.out.cell, List.getElem?_toArray]; exact hdr_cell_last ok3.out 0
    go_wp2_with fail
    refine (number_any _ 4 (c - 68) _ w4 (r68.out.below hb4 (Nat.le_refl _)) l68.out (by omega)).mono ?_
    rintro e w9 ⟨rfl, hw9⟩
    replace hw9 := hw9.symm
    subst hw9
    have e65 := cut64_32 (numTo ((bs.drop 68).take 4) 4)
    go_upto_region 8 with fail
    obtain ⟨g4, hgn⟩ : ∃ x : Hdr, x = { g3 with t := (numTo ((bs.drop 68).take 4) 4).setWidth 32 } := ⟨_, rfl⟩
    have HG4 := Lib.hid hgn
    have ok4 : Hid g4.ok := Lib.hid (by rw [hgn]; exact ok3.out)
    refine wp_abst (fun w' => Hid (Blk w' w.heap.size 46 Z) ∧ Hid (Blk w' (w.heap.size + 1) 46 g4.cells.toArray) ∧ Below w.heap.size w w') ⟨Lib.hid (hz4.out.far (by show _ ≠ _; simp) _), Lib.hid (by rw [hgn, ← hset_t ok3.out]; exact hB4.out.set _ _), hb4.setCell (by simp) _⟩ ?_
    clear hz4 hB4 hb4 f65 k65 e65 hgn hlt65
    rintro w5 ⟨hz5, hB5, hb5⟩
    have hlt66 := hB5.out.lt
    have f66 := hB5.out.frozen 66
    have k66 : w5.cell? ⟨w.heap.size + 1, 66, none⟩ = some (.int .u32 (iv32 g4.b)) := by rw [hB5.out.cell, List.getElem?_toArray]; exact hdr_cell_last ok4.out 1
    go_wp2_with fail
    refine (number_any _ 4 (c - 72) _ w5 (r72.out.below hb5 (Nat.le_refl _)) l72.out (by omega)).mono ?_
    rintro e w9 ⟨rfl, hw9⟩
    replace hw9 := hw9.symm
    subst hw9
    have e66 := cut64_32 (numTo ((bs.drop 72).take 4) 4)
    go_upto_region 9 with fail
    obtain ⟨g5, hgn⟩ : ∃ x : Hdr, x = { g4 with b := (numTo ((bs.drop 72).take 4) 4).setWidth 32 } := ⟨_, rfl⟩
    have HG5 := Lib.hid hgn
    have ok5 : Hid g5.ok := Lib.hid (by rw [hgn]; exact ok4.out)
    refine wp_abst (fun w' => Hid (Blk w' w.heap.size 46 Z) ∧ Hid (Blk w' (w.heap.size + 1) 46 g5.cells.toArray) ∧ Below w.heap.size w w') ⟨Lib.hid (hz5.out.far (by show _ ≠ _; simp) _), Lib.hid (by rw [hgn, ← hset_b ok4.out]; exact hB5.out.set _ _), hb5.setCell (by simp) _⟩ ?_
    clear hz5 hB5 hb5 f66 k66 e66 hgn hlt66
    rintro w6 ⟨hz6, hB6, hb6⟩
    have hlt67 := hB6.out.lt
    have f67 := hB6.out.frozen 67
    have k67 : w6.cell? ⟨w.heap.size + 1, 67, none⟩ = some (.int .u32 (iv32 g5.n)) := by rw [hB6.out.cell, List.getElem?_toArray]; exact hdr_cell_last ok5.out 2
    go_wp2_with fail
    refine (number_any _ 4 (c - 76) _ w6 (r76.out.below hb6 (Nat.le_refl _)) l76.out (by omega)).mono ?_
    rintro e w9 ⟨rfl, hw9⟩
    replace hw9 := hw9.symm
    subst hw9
    have e67 := cut64_32 (numTo ((bs.drop 76).take 4) 4)
    go_upto_region 10 with fail
    obtain ⟨g6, hgn⟩ : ∃ x : Hdr, x = { g5 with n := (numTo ((bs.drop 76).take 4) 4).setWidth 32 } := ⟨_, rfl⟩
    have HG6 := Lib.hid hgn
    have ok6 : Hid g6.ok := Lib.hid (by rw [hgn]; exact ok5.out)
    refine wp_abst (fun w' => Hid (Blk w' w.heap.size 46 Z) ∧ Hid (Blk w' (w.heap.size + 1) 46 g6.cells.toArray) ∧ Below w.heap.size w w') ⟨Lib.hid (hz6.out.far (by show _ ≠ _; simp) _), Lib.hid (by rw [hgn, ← hset_n ok5.out]; exact hB6.out.set _ _), hb6.setCell (by simp) _⟩ ?_
    clear hz6 hB6 hb6 f67 k67 e67 hgn hlt67
    rintro w7 ⟨hz7, hB7, hb7⟩
    have hg6 : Hid (g6 = hdrOf bs) := Lib.hid (by
      rw [HG6.out, HG5.out, HG4.out, HG3.out, HG2.out, HG1.out, num32_takeK, num32_takeK, num32_takeK, num32_takeK]
      rfl)
    obtain ⟨q, hq⟩ : ∃ q, q = cutAt (some ⟨bb, of, none⟩) c 80 := ⟨_, rfl⟩
    have sl : ∀ w, (Instr.sliceAt 27 (.slice (some ⟨bb, of, none⟩) n c) (some (.int .i64 80)) none none).run Try.prog w = .ok (.slice q (n - 80) (c - 80)) w := fun w => by
      rw [hq]; exact slice_from8 w (some ⟨bb, of, none⟩) n c 80 hn80
    have hrq : Hid (Row8 w q (bs.drop 80)) := Lib.hid (by rw [hq]; exact HR.out.cut (by rw [HN.out]; exact hl))
    have hlq : Hid ((bs.drop 80).length = n - 80) := Lib.hid (by rw [List.length_drop, HN.out])
    have hlt7 := hB7.out.lt
    clear hq r0 r4 r36 r68 r72 r76 l0 l4 l36 l68 l72 l76 q1 q2 q3 q4 q5 q6 z1 z2 z3 z4 z5
    refine region_plan [qq 0, qq 2, qq 3, oo 1, oo 4, oo 5, qq 6, qq 7] (fun W => Blk W (w.heap.size + 1) 46 g6.cells.toArray) (by kernel_rfl) (by kernel_rfl) hB7.out.drew ?_
    refine' plan_quiet (s := 45) (A1 := _) [0, 2, 3] [_, _, _] _ rfl rfl rfl (fun W hW => ?hq1) _ hB7.out.drew (fun _ => ?hr1)
    case hq1 =>
      have rg := fun k => (Blk.drewN hW k).range
      simp only [List.getElem_toArray, List.getElem_cons_zero, List.getElem_cons_succ]
      refine quiet_load_mid rfl 46 (.tmp 5) rfl (w.heap.size + 1) 0 rfl g6.cells _ (fun w' ⟨k, hk⟩ => by rw [hk]; exact rg k) Try.underlying46 rfl (hdr_size ok6.out) ?_
      simp only [put_some, List.setIfInBounds_toArray, List.set_cons_succ, List.set_cons_zero]
      iterate 2 (go_big_quiet_step (fail))
      refine wpQuiet_nil ?_
      rfl
    case hr1 =>
    refine plan_one rfl fun k => ?_
    go_wp2_with fail
    have hbx : Below w7.heap.size w7 ((w7.alloc (.cells #[] 5)).drewN (1 + k)) := below_drewN ((Below.refl _ _).alloc (Nat.le_refl _) _) _
    have hox : Own8 ((w7.alloc (.cells #[] 5)).drewN (1 + k)) w7.heap.size (.slice (some ⟨w7.heap.size, 0, none⟩) 0 0) [] := (own_nothing w7 w7.heap.size (Nat.le_refl _)).drewN _
    refine planQ_normal (And.intro (hB7.out.below hbx hlt7) ?_)
    refine plan_one rfl fun k2 => ?_
    refine wp_append8 (o := ⟨some 44, _, _, _, _, _⟩) rfl (.tmp 41) (.tmp 43) rfl w7.heap.size (.slice (some ⟨w7.heap.size, 0, none⟩) 0 0) [] rfl (hox.drewN k2) q (n - 80) (c - 80) (bs.drop 80) rfl hlq.out ?_ ?_ ?_ w7.heap.size w7 (below_drewN hbx k2) (Nat.le_refl _) ?_
    · exact (hrq.out.below hb7 (Nat.le_refl _)).below (below_drewN hbx k2) (Nat.le_refl _)
    · rw [hlq.out, List.length_nil]; omega
    · exact hbx.size
    intro v8 w8 ho8 hb8 _ _
    rw [List.nil_append] at ho8
    have hB8 := hB7.out.below hb8 hlt7
    have hz8 := hz7.out.below hb8 (by omega)
    have hbw8 := hb7.trans (hb8.mono hb7.size)
    refine planQ_normal (And.intro hB8 ?_)
    refine plan_one rfl fun k3 => ?_
    refine wp_store_blk (o := ⟨none, _, _, _, _, _⟩) rfl 46 (.tmp 2) (.tmp 40) rfl w.heap.size 46 Z g6.cells.toArray rfl rfl (hz8.drewN k3) (by rw [List.size_toArray]; exact hdr_size ok6.out) (by rw [HZ.out, List.size_toArray, List.size_toArray, Hdr.cells_len noHdr_ok, Hdr.cells_len ok6.out]) (Hdr.cells_one _) w.heap.size w (below_drewN hbw8 k3) (Nat.le_refl _) ?_
    intro w9 hR9 hb9 hg9 hs9
    have hB9 : Blk w9 (w.heap.size + 1) 46 g6.cells.toArray := (hB8.drewN k3).kept hg9.out (by omega)
    have ho9 := (ho8.drewN k3).keptB hg9.out (by omega)
    refine planQ_normal (And.intro hB9 ?_)
    refine' plan_quiet (s := 45) (A1 := _) (r := []) [6, 7] [_, _] _ rfl rfl rfl (fun W hW => ?hq2) _ hB9 (fun _ => ?hr2)
    case hq2 =>
      simp only [List.getElem_toArray, List.getElem_cons_zero, List.getElem_cons_succ, put_none, put_some, List.setIfInBounds_toArray, List.set_cons_succ, List.set_cons_zero]
      iterate 2 (go_big_quiet_step (fail))
      refine wpQuiet_nil ?_
      rfl
    case hr2 =>
    refine plan_end fun k9 => NoPanic.normal ?_
    go_wp2
    refine bodyPost_ret (results_cell3 rfl _ _ _ w.heap.size _ g6.cells _ rfl (hR9.out.drewN _) Try.underlying46 rfl (hdr_size ok6.out)) rfl ?_
    rw [HP.out, ← hg6.out]
    exact ⟨v8, rfl, (ho9.mono hb7.size).drewN _, below_drewN hb9 _⟩
end Go.Proofs.Ythglocpbdfcfnaa
