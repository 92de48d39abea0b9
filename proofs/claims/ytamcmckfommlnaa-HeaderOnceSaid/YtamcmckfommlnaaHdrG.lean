/- sporranlaw06.HeaderOnce: the walk. -/
import Derived.Test.YtamcmckfommlnaaHdrF
namespace Go.Proofs.Ytamcmckfommlnaa
open Go.RowKit

theorem numTo_bits (L : List (BitVec 8)) (k : Nat) (j : Nat) (hj : j < 64) : (numTo L k).getLsbD j = (decide (j < 8 * k) && (L[j / 8]?.getD 0#8).getLsbD (j % 8)) := by
  induction k with
  | zero => simp [numTo]
  | succ k ih =>
    rw [numTo, BitVec.getLsbD_or, ih, BitVec.getLsbD_shiftLeft, BitVec.getLsbD_setWidth]
    by_cases h1 : j < 8 * k
    · simp [h1, show j < 8 * (k + 1) by omega]
    · by_cases h2 : j < 8 * (k + 1)
      · have e1 : j / 8 = k := by omega
        have e2 : j % 8 = j - 8 * k := by omega
        simp [h1, h2, hj, e1, e2, show j - 8 * k < 64 by omega]
      · have : (L[k]?.getD 0#8).getLsbD (j - 8 * k) = false := BitVec.getLsbD_of_ge _ _ (by omega)
        simp [h1, h2, this]
theorem le32_num32 (L : List (BitVec 8)) (h : 4 ≤ L.length) : le32 (num32 L) = L.take 4 := by
  apply List.ext_getElem
  · rw [le32_len, List.length_take]; omega
  · intro i h1 h2
    rw [le32_len] at h1
    simp only [le32, low, List.getElem_map, List.getElem_range, List.getElem_take]
    unfold byteN num32
    apply BitVec.eq_of_getLsbD_eq
    intro j hj
    have hx : L[i]? = some (L[i]'(by omega)) := List.getElem?_eq_getElem (by omega)
    simp only [BitVec.getLsbD_setWidth, BitVec.getLsbD_ushiftRight]
    rw [numTo_bits L 4 (8 * i + j) (by omega), show (8 * i + j) / 8 = i by omega, show (8 * i + j) % 8 = j by omega, hx]
    simp [hj, show 8 * i + j < 64 by omega, show 8 * i + j < 32 by omega]
theorem hdrOf_bytes (bs : List (BitVec 8)) (h : 80 ≤ bs.length) : (hdrOf bs).bytes ++ bs.drop 80 = bs := by
  have d : ∀ k, (bs.drop k).length = bs.length - k := fun k => List.length_drop
  have e : ∀ k m, bs.drop k = (bs.drop k).take m ++ bs.drop (k + m) := fun k m => by rw [← List.drop_drop, List.take_append_drop]
  unfold hdrOf Hdr.bytes
  simp only []
  rw [le32_num32 bs (by omega), le32_num32 _ (by rw [d]; omega), le32_num32 _ (by rw [d]; omega), le32_num32 _ (by rw [d]; omega)]
  simp only [List.append_assoc]
  rw [← e 76 4, ← e 72 4, ← e 68 4, ← e 36 32, ← e 4 32]
  exact List.take_append_drop 4 bs

/-- append to a full row of whatever type of array -/
theorem run_append_full (w : World) (ty : TypeId) (g : Nat) (t : TypeId) (as1 : List (BitVec 8)) (k : Nat) (hk : as1.length = k) (hb : Blk w g t (as1.map u8).toArray) (p : Option Addr) (c : Nat) (bs : List (BitVec 8)) (hr : Row8 w p bs) (hlen : k + bs.length ≤ 140737488355328) :
    ∃ q d w', (Builtin.append_ #[27, 27] ty #[.slice (some ⟨g, 0, none⟩) k k, .slice p bs.length c]).run Try.prog w = .ok (.slice q (k + bs.length) d) w' ∧ Row8 w' q (as1 ++ bs) ∧ Below w.heap.size w w' := by
  obtain ⟨i0, hi, hz0, hz1, hz2⟩ := info_parts u8info
  subst hk
  by_cases hne : bs = []
  · subst hne
    refine ⟨some ⟨g, 0, none⟩, as1.length, w, ?_, by rw [List.append_nil]; exact hdr_row hb, Below.refl _ _⟩
    cases p with
    | none => simp [Builtin.append_, run_underlying Try.underlying27, sizeOf, typeInfo, hi, Builtin.lenOf, Builtin.firstCells, storeCells]
    | some ad => simp [Builtin.append_, run_underlying Try.underlying27, sizeOf, typeInfo, hi, Builtin.lenOf, Builtin.firstCells, storeCells, loadCells, loadCellsFrom]
  · obtain ⟨b, off, rfl, _, hcell⟩ := hr hne
    have hcells : ∀ j u, (bs.map u8)[j]? = some u → w.cell? ((⟨b, off, none⟩ : Addr).add j) = some u := by
      intro j u hu
      rw [List.getElem?_map] at hu
      cases hx : bs[j]? with
      | none => rw [hx] at hu; cases hu
      | some x =>
        rw [hx] at hu
        injection hu with hu
        rw [Addr.add_lit, hcell j x hx, ← hu]
    have hpos : 0 < bs.length := by
      cases bs with
      | nil => exact absurd rfl hne
      | cons _ _ => simp
    obtain ⟨v', w', hrun, ho, hgr⟩ := run_append_arg_grows (P := Try.prog) w 27 ty 5 i0 (.int .u8 0) 1 1 Try.underlying27 hi hz0 hz1 hz2 rfl (by decide) ⟨g, 0, none⟩ as1.length as1.length (as1.map u8) (by simp)
      (fun j u hu => by rw [Addr.add_lit, Nat.zero_add, hb.cell, List.getElem?_toArray]; exact hu) ⟨b, off, none⟩ bs.length c (bs.map u8) (by simp) hcells (by omega) (by simp only [maxLen]; omega) (by omega)
    have hown : Own8 w' w.heap.size v' (as1 ++ bs) := by
      unfold Own8
      rw [List.length_append, List.map_append]
      exact ho
    obtain ⟨q, d, rfl, _, _, hrow⟩ := hown.row
    rw [List.length_append] at hrun
    exact ⟨q, d, w', hrun, hrow, (Below.refl _ w).grown hgr (Nat.le_refl _) (fun k hk => by cases hk)⟩
theorem wp_append_full {ops : Array Oper} {rest : List Oper} {o : Oper} {a : Act} {Q : Exit → Act → World → Prop} {w : World} (hw : Region.wanted o (yielded ops a.tmps) = true) (s x : Operand)
    (ho : o.op = .call { callee := .builtin .append, args := #[s, x], argTypes := #[27, 27] }) (g : Nat) (t : TypeId) (as1 : List (BitVec 8)) (k : Nat) (hs : a.eval s = .slice (some ⟨g, 0, none⟩) k k) (hk : as1.length = k) (hb : Blk w g t (as1.map u8).toArray)
    (p : Option Addr) (m c : Nat) (bs : List (BitVec 8)) (hx : a.eval x = .slice p m c) (hm : bs.length = m) (hr : Row8 w p bs) (hlen : k + m ≤ 140737488355328)
    (h : ∀ q d w', Row8 w' q (as1 ++ bs) → Below w.heap.size w w' → wpList Try.prog ops Q rest (a.put o.dst (.slice q (k + m) d)) w') : wpList Try.prog ops Q (o :: rest) a w := by
  subst hm
  obtain ⟨q, d, w', hrun, h2, h3⟩ := run_append_full w o.type g t as1 k hk hb p c bs hr hlen
  unfold wpList
  rw [if_pos hw]
  refine .inl ?_
  unfold Oper.wp execOp
  simp only [ho, resolve, invoke, builtin, Sem.run_bind, Sem.run_pure, Result.andThen_ok, List.map_toArray, List.map_cons, List.map_nil, hs, hx, hrun]
  exact h q d w' h2 h3

set_option maxRecDepth 100000 in
set_option maxHeartbeats 2000000 in
theorem headerOnce_walk (p : Option Addr) (n c : Nat) (bs : List (BitVec 8)) (w : World) (hn : bs.length = n) (hl : n ≤ c) (hcb : c ≤ 140737488351232) (hr : Row8 w p bs) (_hp : p = none → c = 0) :
    Calls Try.prog 5 #[.slice p n c] w fun e w' => e = .returned (.bool true) ∧ Below w.heap.size w w' := by
  have HN := Lib.hid hn
  have hz := zeroHdr
  have hbn : ∀ w, (Instr.build 26 #[]).run Try.prog w = .ok (.agg noHdr.cells.toArray) w := fun w => run_build w _ _ _ builtNo
  obtain ⟨Z, hZ⟩ : ∃ Z, Z = noHdr.cells.toArray := ⟨_, rfl⟩
  rw [← hZ] at hz hbn
  have HZ := Lib.hid hZ
  have hZs : Hid (Z.size = 68) := Lib.hid (by rw [hZ, Hdr.cells_size noHdr_ok])
  clear hZ hn
  go_enter Try.func5, Try.ntmps5
  go_wp2_with fail
  refine (hdrDecode_any p n c bs _ hr HN.out hl (by omega) (by omega)).mono ?_
  by_cases h80 : n < 80
  · have HP : Hid (hdrP bs = (noHdr, [], 50)) := Lib.hid (by unfold hdrP; rw [if_pos (by rw [HN.out]; exact h80)])
    rw [HP.out]
    rintro e w1 ⟨v1, rfl, ho1, hbel1⟩
    dsimp only at ho1 ⊢
    obtain ⟨p1, n1, c1, rfl, H1, hl1, hm1, hr1⟩ := ho1.open
    have hn1 : n1 = 0 := H1.out.symm
    subst hn1
    have hlt : (n : Int) < 80 := by omega
    have hsame := hdr_same noHdr noHdr_ok
    rw [← HZ.out] at hsame ⊢
    have hNN : Hid (noHdr.cells.length = 68) := Lib.hid (Hdr.cells_len noHdr_ok)
    go_wp2_with (first
      | (with_reducible refine wp_store_blk (o := ⟨none, _, _, _, _, _⟩) ?_ 26 (.tmp 3) (.tmp 9) ?_ w1.heap.size 26 Z Z ?_ ?_ (Blk.new w1 _ _) ?_ ?_ ?_ w1.heap.size w1 ?_ ?_ ?_
         · rfl
         · rfl
         · rfl
         · rfl
         · rw [hZs.out]; kernel_rfl
         · rfl
         · rw [HZ.out]; exact Hdr.cells_one _
         · exact (Below.refl _ _).alloc (Nat.le_refl _) _
         · exact Nat.le_refl _
         intro w6 hb6 hbel6 _ _
         rw [HZ.out] at hb6
         have hrg6 := hb6.out.range)
      | (with_reducible refine wpList_load_midG (op := ⟨some 18, _, _, _, _, _⟩) ?_ 26 (.tmp 3) ?_ w1.heap.size 0 ?_ noHdr.cells _ hrg6 Try.underlying26 ?_ ?_ ?_
         · rfl
         · rfl
         · rfl
         · rfl
         · exact hdr_size noHdr_ok
         rw [← HZ.out])
      | (with_reducible refine wpList_load_midG (op := ⟨some 28, _, _, _, _, _⟩) ?_ 26 (.tmp 3) ?_ w1.heap.size 0 ?_ noHdr.cells _ hrg6 Try.underlying26 ?_ ?_ ?_
         · rfl
         · rfl
         · rfl
         · rfl
         · exact hdr_size noHdr_ok))
    refine (hdrEncode_any noHdr noHdr_ok _).mono ?_
    rintro e w7 ⟨g, rfl, hb7, _, hbel7⟩
    have hsz6 := hbel6.size
    go_wp2
    go_ret
    exact ⟨rfl, hbel1.trans (((hbel6.trans (hbel7.mono hsz6))).mono hbel1.size)⟩
  · have hn80 : 80 ≤ n := by omega
    have hHo := hdrOf_ok bs (by rw [HN.out]; exact hn80)
    obtain ⟨h, hh⟩ : ∃ h, h = hdrOf bs := ⟨_, rfl⟩
    have HP : Hid (hdrP bs = (h, bs.drop 80, 0)) := Lib.hid (by unfold hdrP; rw [if_neg (by rw [HN.out]; omega), hh])
    have HB : Hid (h.bytes ++ bs.drop 80 = bs) := Lib.hid (by rw [hh]; exact hdrOf_bytes bs (by rw [HN.out]; exact hn80))
    rw [← hh] at hHo
    clear hh
    rw [HP.out]
    rintro e w1 ⟨v1, rfl, ho1, hbel1⟩
    dsimp only at ho1 ⊢
    obtain ⟨p1, n1, c1, rfl, H1, hl1, hm1, hr1⟩ := ho1.open
    have hn1 : 80 + n1 = n := by rw [← H1.out, List.length_drop, HN.out]; omega
    have hge : ¬ (n : Int) < 80 := by omega
    have HS : Hid (h.cells.length = 68) := Lib.hid (Hdr.cells_len hHo)
    have hrw1 := hr.below hbel1 (Nat.le_refl _)
    clear ho1
    go_wp2_with (first
      | (with_reducible refine wp_store_blk (o := ⟨none, _, _, _, _, _⟩) ?_ 26 (.tmp 3) (.tmp 9) ?_ w1.heap.size 26 Z h.cells.toArray ?_ ?_ (Blk.new w1 _ _) ?_ ?_ ?_ w1.heap.size w1 ?_ ?_ ?_
         · rfl
         · rfl
         · rfl
         · rfl
         · rw [List.size_toArray, HS.out]; kernel_rfl
         · exact hZs.out.trans (by rw [List.size_toArray, HS.out])
         · exact Hdr.cells_one _
         · exact (Below.refl _ _).alloc (Nat.le_refl _) _
         · exact Nat.le_refl _
         intro w6 hb6 hbel6 _ _
         have hrg6 := hb6.out.range)
      | (with_reducible refine wpList_load_midG (op := ⟨some 36, _, _, _, _, _⟩) ?_ 26 (.tmp 3) ?_ w1.heap.size 0 ?_ h.cells _ hrg6 Try.underlying26 ?_ ?_ ?_
         · rfl
         · rfl
         · rfl
         · rfl
         · exact hdr_size hHo))
    refine (hdrEncode_any h hHo _).mono ?_
    rintro e w7 ⟨g, rfl, hb7, hg7, hbel7⟩
    have hr16 := hr1.below hbel6 (Nat.le_refl _)
    have hr17 := hr16.below hbel7 (Nat.le_refl _)
    have hrw7 := (hrw1.below hbel6 (Nat.le_refl _)).below hbel7 (Nat.le_refl _)
    have hsz6 := hbel6.size
    have hbw7 := hbel1.trans (((hbel6.trans (hbel7.mono hsz6))).mono hbel1.size)
    have hl80 : Hid (h.bytes.length = 80) := Lib.hid (Hdr.bytes_len hHo)
    have H1' : Hid ((bs.drop 80).length = n1) := H1
    go_wp2_with (with_reducible refine wp_append_full (o := ⟨some 39, _, _, _, _, _⟩) ?_ (.tmp 37) (.tmp 38) ?_ g 53 h.bytes 80 ?_ hl80.out hb7.out p1 n1 c1 (bs.drop 80) ?_ H1'.out hr17 ?_ ?_
                 · rfl
                 · rfl
                 · rfl
                 · rfl
                 · omega
                 intro q d w8 hrow8 hbel8)
    rw [HB.out] at hrow8
    refine (equal_same q p n d n c bs _ hrow8 (hrw7.below hbel8 (Nat.le_refl _)) HN.out HN.out).mono ?_
    rintro e w9 ⟨rfl, hw9⟩
    replace hw9 := hw9.symm
    subst hw9
    go_wp2
    go_ret
    exact ⟨rfl, hbw7.trans (hbel8.mono hbw7.size)⟩
end Go.Proofs.Ytamcmckfommlnaa
