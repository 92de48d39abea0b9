/- block.Check: the walk. -/
import Derived.Test.YthglocpbdfcfnaaDoorBlkCp
import Derived.Test.YthglocpbdfcfnaaDoorGM
import Derived.Test.YthglocpbdfcfnaaDoorTxRe
namespace Go.Proofs.YthglocpbdfcfnaaDoor
open Go Go.RowKit
set_option linter.unusedVariables false

def idsB (ts : List TTx) : List Bs := ts.map fun t => sha (sha (txB t false))
theorem idsB_len (ts : List TTx) : (idsB ts).length = ts.length := by unfold idsB; rw [List.length_map]
theorem idsB_ok {ts : List TTx} : ∀ x ∈ idsB ts, x.length = 32 := fun x hx => by
  obtain ⟨t, _, rfl⟩ := List.mem_map.1 hx
  exact sha_len _
def fineTx (t : TTx) : Bool := canTx t && !decide ((txB t false).length = 64)
/-- whether a block may be -/
def chkP (b : TBlk) : Int := if b.ts.length = 0 ∨ 2000 < b.ts.length then 80 else if b.ts.all fineTx then (if (merkP (idsB b.ts)).2 = true ∨ (merkP (idsB b.ts)).1 ≠ b.h.m then 80 else 0) else 80
theorem chkP_few {b : TBlk} (h : b.ts.length = 0 ∨ 2000 < b.ts.length) : chkP b = 80 := by unfold chkP; rw [if_pos h]
theorem chkP_bad {b : TBlk} {k : Nat} {t : TTx} (ht : b.ts[k]? = some t) (hc : fineTx t = false) : chkP b = 80 := by
  unfold chkP
  split
  · rfl
  · rw [if_neg]
    rw [all_miss fineTx b.ts k t ht hc]
    simp
theorem chkP_all {b : TBlk} (h : ¬ (b.ts.length = 0 ∨ 2000 < b.ts.length)) (ha : b.ts.all fineTx = true) : chkP b = if (merkP (idsB b.ts)).2 = true ∨ (merkP (idsB b.ts)).1 ≠ b.h.m then 80 else 0 := by
  unfold chkP
  rw [if_neg h, if_pos ha]
/-- hashes as elements -/
def HashE (w : World) (x : Bs) (cs : List Value) : Prop := cs = hCells x ∧ x.length = 32
theorem hashE_keeps (B : Nat) : KeepsO B [] HashE := fun _ _ _ _ _ h _ _ => h
theorem hash_rows {B : Nat} {w : World} {v : Value} {ids : List Bs} (h : RowO HashE 29 32 B w v ids) : ∃ p c, v = .slice p ids.length c ∧ ids.length ≤ c ∧ c ≤ 9223372036854775807 ∧ RowsN 32 w p (ids.map hCells) := by
  obtain ⟨p, n, c, rfl, hn, hc, hm, hr, _⟩ := h.e (E' := HashE) fun _ _ h => h
  refine ⟨p, c, by rw [hn], by omega, by unfold maxLen at hm; omega, fun hne => ?_⟩
  obtain ⟨b, off, rfl, hlt, hx⟩ := hr (by intro e; rw [e] at hne; exact hne rfl)
  refine ⟨b, off, rfl, hlt, fun i cs hi => ?_⟩
  rw [List.getElem?_map] at hi
  cases hxi : ids[i]? with
  | none => rw [hxi] at hi; cases hi
  | some x =>
    rw [hxi] at hi
    injection hi with hi
    obtain ⟨cs', ⟨e, hl⟩, hra⟩ := hx i x hxi
    rw [← hi]
    rw [e] at hra
    exact ⟨by simp [hCells, hl], hra⟩
theorem make_hashes (w : World) (n : Nat) (h : n ≤ 2000) : ∃ cur : Array Value, cur.size = n * 32 ∧ (Instr.makeSlice 47 (.int .i64 0) (.int .i64 (n : Int))).run Tryd.prog w = .ok (.slice (some ⟨w.heap.size, 0, none⟩) 0 n) (w.alloc (.cells cur 29)) := by
  obtain ⟨i0, hi, hz0, hz1, hz2⟩ := info_parts hash_info
  have hr := run_make (P := Tryd.prog) w 47 29 i0 _ Tryd.underlying47 hi hz0 .i64 .i64 (0 : Int) (n : Int) (by omega) (by omega) (by rw [hz2]; omega) (by omega)
  rw [Int.toNat_natCast, Int.toNat_zero] at hr
  refine ⟨_, ?_, hr⟩
  unfold madeCells
  simp [hz1]
theorem nil_hashes (w : World) (B n : Nat) (cur : Array Value) (h : cur.size = n * 32) (hn : n ≤ 2000) (hB : B ≤ w.heap.size) : RowO HashE 29 32 B (w.alloc (.cells cur 29)) (.slice (some ⟨w.heap.size, 0, none⟩) 0 n) [] :=
  ⟨[], rfl, ⟨by simp, .inr ⟨w.heap.size, n, cur, rfl, hB, Blk.new w _ _, by simp, by unfold maxLen; omega, h, by simp⟩⟩, fun i x hi => by cases hi⟩
theorem hdr_m_range {w : World} {g : Nat} {t : TypeId} {h : Hdr} {v : Value} (hk : h.ok) (hb : Blk w g t (h.cells ++ [v]).toArray) : w.rangeAt g 33 (hCells h.m) := fun j u hj => by
  have hj32 : j < 32 := by rw [← hk.2]; have := (List.getElem?_eq_some_iff.1 hj).1; simpa [hCells] using this
  have h1 := Blk.hdr hb (33 + j) u (by
    have h2 : h.cells = ([u32 h.v] ++ h.p.map u8) ++ (h.m.map u8 ++ [u32 h.t, u32 h.b, u32 h.n]) := by simp [Hdr.cells]
    have h3 : ([u32 h.v] ++ h.p.map u8).length = 33 := by simp [hk.1]
    rw [h2, List.getElem?_append_right (by omega), h3, show 33 + j - 33 = j by omega, List.getElem?_append_left (by simp [hk.2]; exact hj32)]
    exact hj)
  rw [Nat.zero_add] at h1
  exact h1

set_option maxRecDepth 100000 in
set_option maxHeartbeats 32000000 in
theorem blkCheck_any (b : TBlk) (cs : List Value) (w : World) (hc : BlkC w b cs) (hK : Laid w) : Calls Tryd.prog 17 #[.agg cs.toArray] w fun e w' => e = .returned (.int .i64 (chkP b)) ∧ Below w.heap.size w w' := by
  obtain ⟨P, hP⟩ : ∃ P, P = chkP b := ⟨_, rfl⟩
  rw [← hP]
  have HP := Lib.hid hP
  have hlen := hc.len
  obtain ⟨v, hcs, hk, hv⟩ := hc
  obtain ⟨pt, n, ct, rfl⟩ := hv.opens
  obtain ⟨hn, hnc, hcm⟩ := hv.slen
  have HCS := Lib.hid hcs
  have HK := Lib.hid hk
  have HV := Lib.hid hv
  have HN := Lib.hid hn
  have HKw := Lib.hid hK
  have HKs0 := Lib.hid hK.size
  have hb1 := below_new w (.cells cs.toArray 52)
  have HB := Lib.hid (Blk.new w 52 cs.toArray)
  clear hP hcs hk hv hn hlen hK
  go_enter Tryd.func17, Tryd.ntmps17
  go_upto_region 1 with fail
  generalize w.alloc (.cells cs.toArray 52) = w1 at *
  have HB01 := Lib.hid hb1
  have HKL := Lib.hid (HKw.out.below hb1 HKs0.out)
  have HKs := Lib.hid HKL.out.size
  obtain ⟨z, hz⟩ : ∃ z, z = w.heap.size := ⟨_, rfl⟩
  rw [← hz] at HB ⊢
  have HLT := Lib.hid HB.out.lt
  have HAT : Hid (cs.toArray[68]? = some (.slice pt n ct)) := Lib.hid (by
    rw [HCS.out, List.getElem?_toArray, List.getElem?_append_right (by rw [Hdr.cells_len HK.out]; exact Nat.le_refl _), Hdr.cells_len HK.out]
    rfl)
  clear hz hb1
  have c68 : w1.cell? ⟨z, 68, none⟩ = some (.slice pt n ct) := by rw [HB.out.cell]; exact HAT.out
  by_cases h0 : n = 0
  · subst h0
    have HP2 : Hid (P = 80) := Lib.hid (by rw [HP.out]; exact chkP_few (.inl HN.out))
    go_wp2_with fail
    go_ret
    exact ⟨by rw [HP2.out]; rfl, HB01.out⟩
  by_cases h2 : 2000 < n
  · have hl : (2000 : Int) < (n : Int) := by omega
    have hl0 : ¬ (n : Int) = 0 := by omega
    have hl1 : ¬ (n : Int) < 1 := by omega
    have HP2 : Hid (P = 80) := Lib.hid (by rw [HP.out]; exact chkP_few (.inr (by have := HN.out; omega)))
    go_wp2_with fail
    go_ret
    exact ⟨by rw [HP2.out]; rfl, HB01.out⟩
  have hl : ¬ (2000 : Int) < (n : Int) := by omega
  have hl0 : ¬ (n : Int) = 0 := by omega
  have hl1 : ¬ (n : Int) < 1 := by omega
  have hn2 : n ≤ 2000 := by omega
  have HN2 : Hid (¬ (b.ts.length = 0 ∨ 2000 < b.ts.length)) := Lib.hid (by have := HN.out; omega)
  obtain ⟨cur, hcur, hmk⟩ := make_hashes w1 n (by omega)
  have hro := nil_hashes w1 w1.heap.size n cur hcur (by omega) (Nat.le_refl _)
  have c68b : (w1.alloc (.cells cur 29)).cell? ⟨z, 68, none⟩ = some (.slice pt n ct) := by rw [(HB.out.alloc _).cell]; exact HAT.out
  go_upto_region 5 with fail
  have HW3 : Hid (Below w1.heap.size w1 (w1.alloc (.cells cur 29))) := Lib.hid (below_new w1 _)
  have HRO : Hid (RowO HashE 29 32 w1.heap.size (w1.alloc (.cells cur 29)) (.slice (some ⟨w1.heap.size, 0, none⟩) 0 n) ((idsB b.ts).take 0)) := Lib.hid hro
  clear hro c68b hmk hcur
  clear hl hl0 hl1 h2 h0 c68
  go_loopw [3, 27] (fun v i wr => ∃ k : Nat, k ≤ n ∧ i = .int .i64 k ∧ Hid (∀ j t, b.ts[j]? = some t → j < k → fineTx t = true) ∧ Hid (Below w1.heap.size w1 wr) ∧ Hid (RowO HashE 29 32 w1.heap.size wr v ((idsB b.ts).take k))) (fun _ i _ => n - (intOf i).toNat)
  case atStart => exact ⟨0, by omega, rfl, Lib.hid (by intro j t _ hj; omega), HW3, HRO⟩
  case round =>
    clear HW3 HRO
    obtain ⟨k, hk, rfl, HAk, HWk, HRk⟩ := hrel
    obtain ⟨pI, cI, rfl, hnI, hcI, hrI⟩ := hash_rows HRk.out
    have hlk : ((idsB b.ts).take k).length = k := by rw [List.length_take, idsB_len]; have := HN.out; omega
    rw [hlk] at hnI HRk ⊢
    by_cases hkn : k < n
    case neg =>
      obtain rfl : k = n := by omega
      have hall : b.ts.all fineTx = true := by
        rw [List.all_eq_true]
        intro t ht
        obtain ⟨j, hj⟩ := List.getElem?_of_mem ht
        exact HAk.out j t hj (by have := (List.getElem?_eq_some_iff.1 hj).1; have := HN.out; omega)
      have hPa := chkP_all HN2.out hall
      rw [← HP.out] at hPa
      have HPa := Lib.hid hPa
      rw [List.take_of_length_le (by rw [idsB_len]; have := HN.out; omega)] at hrI
      have HRI := Lib.hid hrI
      have hge : ¬ (k : Int) < (k : Int) := by omega
      obtain ⟨n, hnk⟩ : ∃ n, n = k := ⟨_, rfl⟩
      subst hnk
      have hM := merkle_any pI n cI (idsB b.ts) wr (HKL.out.below HWk.out HKs.out) (by rw [idsB_len]; exact HN.out) idsB_ok hnI hcI (by omega) HRI.out
      obtain ⟨M, hMM⟩ : ∃ M, M = merkP (idsB b.ts) := ⟨_, rfl⟩
      rw [← hMM] at hM hPa
      have hml : M.1.length = 32 := by rw [hMM]; exact merkP_len _ idsB_ok
      obtain ⟨R, o⟩ := M
      simp only at hM hml
      have HRL : Hid (R.length = 32) := Lib.hid hml
      obtain ⟨YH, hYH⟩ : ∃ Y, Y = (hCells (noughts 32)).toArray := ⟨_, rfl⟩
      have hzh : ∀ w, (zeroValue 29).run Tryd.prog w = .ok (.agg YH) w := by rw [hYH]; exact zero32
      have HYS : Hid (YH.size = 32) := Lib.hid (by rw [hYH]; rfl)
      have HPb := Lib.hid hPa
      clear hall hrI hMM hml hYH hPa HPa HRk
      go_upto_region 13 with (first
        | (with_reducible refine hM.mono ?_; rintro e w8 ⟨rfl, hb8⟩; have hbn := below_new w8 (.cells YH 29); have HB8 := Lib.hid hb8; clear hb8)
        | (with_reducible refine wp_store_blk (o := ⟨none, _, _, _, _, _⟩) ?_ 29 (.tmp 8) (.tmp 52) ?_ (w8.heap.size) 29 (YH) ((hCells (R)).toArray) ?_ ?_ (Blk.new w8 _ _) ?_ ?_ ?_ (w8.heap.size) (w8) ?_ ?_ ?_
           · rfl
           · rfl
           · rfl
           · rfl
           · exact (hCells_info' (HRL.out))
           · exact ((HYS.out).trans (hCells_size (HRL.out)).symm)
           · exact (hCells_one _)
           · exact (hbn)
           · exact (Nat.le_refl _)
           intro w9 hB9 hb9 hg9 hs9))
      try simp only [put_none]
      obtain ⟨z8, hz8⟩ : ∃ z, z = w8.heap.size := ⟨_, rfl⟩
      have hb19 := below_fut HWk.out (below_fut HB8.out hb9 (Nat.le_refl _)) (Nat.le_refl _)
      have HW9 : Hid (Below w.heap.size w w9) := Lib.hid (HB01.out.trans (hb19.mono HB01.out.size))
      have hBz := HB.out.below hb19 HLT.out
      have l8 := blk_range hB9.out
      have lm := hdr_m_range (h := b.h) (v := .slice pt n ct) HK.out (HCS.out ▸ hBz)
      have heq := fun w => hash_eq R b.h.m HRL.out HK.out.2 w
      rw [← hz8] at l8 ⊢
      clear hz8 hb19 hbn hb9 hg9 hs9 hB9 HB8 hM hzh hge hBz
      by_cases hR : R = b.h.m
      · rw [decide_eq_true hR] at heq
        cases o with
        | true =>
          have HP2 : Hid (P = 80) := Lib.hid (by rw [HPb.out]; simp)
          clear hR
          go_wp2_with (first
            | (with_reducible refine wpList_load_midG (op := ⟨some 56, _, _, _, _, _⟩) ?_ 29 (.tmp 8) ?_ (z8) (0) ?_ ((hCells (R))) _ (l8) Tryd.underlying29 ?_ ?_ ?_
               · rfl
               · rfl
               · rfl
               · rfl
               · exact (hCells_info (HRL.out)))
            | (with_reducible refine wpList_load_midG (op := ⟨some 59, _, _, _, _, _⟩) ?_ 29 (.tmp 58) ?_ (z) (33) ?_ ((hCells (b.h.m))) _ (lm) Tryd.underlying29 ?_ ?_ ?_
               · rfl
               · rfl
               · rfl
               · rfl
               · exact (hCells_info (HK.out.2))))
          go_ret
          exact ⟨by rw [HP2.out]; rfl, HW9.out⟩
        | false =>
          have HP2 : Hid (P = 0) := Lib.hid (by rw [HPb.out]; simp [hR])
          clear hR
          go_wp2_with (first
            | (with_reducible refine wpList_load_midG (op := ⟨some 56, _, _, _, _, _⟩) ?_ 29 (.tmp 8) ?_ (z8) (0) ?_ ((hCells (R))) _ (l8) Tryd.underlying29 ?_ ?_ ?_
               · rfl
               · rfl
               · rfl
               · rfl
               · exact (hCells_info (HRL.out)))
            | (with_reducible refine wpList_load_midG (op := ⟨some 59, _, _, _, _, _⟩) ?_ 29 (.tmp 58) ?_ (z) (33) ?_ ((hCells (b.h.m))) _ (lm) Tryd.underlying29 ?_ ?_ ?_
               · rfl
               · rfl
               · rfl
               · rfl
               · exact (hCells_info (HK.out.2))))
          go_ret
          exact ⟨by rw [HP2.out]; rfl, HW9.out⟩
      · rw [decide_eq_false hR] at heq
        have HP2 : Hid (P = 80) := Lib.hid (by rw [HPb.out]; simp [hR])
        clear hR
        cases o with
        | true =>
          go_wp2_with (first
            | (with_reducible refine wpList_load_midG (op := ⟨some 56, _, _, _, _, _⟩) ?_ 29 (.tmp 8) ?_ (z8) (0) ?_ ((hCells (R))) _ (l8) Tryd.underlying29 ?_ ?_ ?_
               · rfl
               · rfl
               · rfl
               · rfl
               · exact (hCells_info (HRL.out)))
            | (with_reducible refine wpList_load_midG (op := ⟨some 59, _, _, _, _, _⟩) ?_ 29 (.tmp 58) ?_ (z) (33) ?_ ((hCells (b.h.m))) _ (lm) Tryd.underlying29 ?_ ?_ ?_
               · rfl
               · rfl
               · rfl
               · rfl
               · exact (hCells_info (HK.out.2))))
          go_ret
          exact ⟨by rw [HP2.out]; rfl, HW9.out⟩
        | false =>
          go_wp2_with (first
            | (with_reducible refine wpList_load_midG (op := ⟨some 56, _, _, _, _, _⟩) ?_ 29 (.tmp 8) ?_ (z8) (0) ?_ ((hCells (R))) _ (l8) Tryd.underlying29 ?_ ?_ ?_
               · rfl
               · rfl
               · rfl
               · rfl
               · exact (hCells_info (HRL.out)))
            | (with_reducible refine wpList_load_midG (op := ⟨some 59, _, _, _, _, _⟩) ?_ 29 (.tmp 58) ?_ (z) (33) ?_ ((hCells (b.h.m))) _ (lm) Tryd.underlying29 ?_ ?_ ?_
               · rfl
               · rfl
               · rfl
               · rfl
               · exact (hCells_info (HK.out.2))))
          go_ret
          exact ⟨by rw [HP2.out]; rfl, HW9.out⟩
    have hlt : (k : Int) < (n : Int) := by omega
    clear hrI
    have hBw := HB01.out.trans (HWk.out.mono HB01.out.size)
    obtain ⟨bb, off, cs2, t, rfl, hx, hE, l2⟩ := HV.out.at hBw hkn
    have H3 := Lib.hid hE.len
    have H1 := Lib.hid hE.one
    have HX := Lib.hid hx
    have HE := Lib.hid (txC_keeps _ _ _ _ hE hBw)
    have hz := zTx
    have hbr := below_new wr (.cells ZTx.toArray 26)
    have hzs : ZTx.toArray.size = cs2.toArray.size := by rw [List.size_toArray, List.size_toArray, H3.out]; rfl
    clear hx hE hBw
    go_upto_region 7 with (first
      | (with_reducible refine wpList_load_mid (op := ⟨some 30, _, _, _, _, _⟩) ?_ 26 (.tmp 29) ?_ (bb) (off + k * 4) ?_ (cs2) _ (l2) Tryd.underlying26 ?_ ?_ ?_
         · rfl
         · rfl
         · rfl
         · rfl
         · exact ((info_Tx H3.out)))
      | (with_reducible refine wp_store_blk (o := ⟨none, _, _, _, _, _⟩) ?_ 26 (.tmp 5) (.tmp 30) ?_ (wr.heap.size) 26 (ZTx.toArray) (cs2.toArray) ?_ ?_ (Blk.new wr _ _) ?_ ?_ ?_ (wr.heap.size) (wr) ?_ ?_ ?_
         · rfl
         · rfl
         · rfl
         · rfl
         · exact (by rw [List.size_toArray]; exact info_Tx H3.out)
         · exact (hzs)
         · exact (H1.out)
         · exact (hbr)
         · exact (Nat.le_refl _)
         intro w6 hB6 hb6 hg6 hs6))
    try simp only [put_none]
    obtain ⟨g, hg⟩ : ∃ g, g = wr.heap.size := ⟨_, rfl⟩
    have l6 := blk_range hB6.out
    rw [← hg] at l6 ⊢
    have hC6 := txC_keeps _ _ _ _ HE.out hb6
    have hcall := txEncode_any t cs2 false w6 hC6
    have HW6 := Lib.hid (below_fut HWk.out hb6 (Nat.le_refl _))
    have HR6 := Lib.hid (HRk.out.sep (hashE_keeps _) (Stays.of_below hb6 (Nat.le_refl _) (fun _ => False)) (fun _ h => h.elim))
    clear hb6 hg6 hs6 hB6 l2 hbr hz hg hzs HWk HRk
    by_cases hcan : canTx t = true
    case neg =>
      have hcf : canTx t = false := by cases h : canTx t <;> simp_all
      have HP2 : Hid (P = 80) := Lib.hid (by rw [HP.out]; exact chkP_bad HX.out (by unfold fineTx; rw [hcf]; rfl))
      rw [show txP t false = ([], 1) from by unfold txP; rw [hcf]; rfl] at hcall
      unfold OutB at hcall
      simp only at hcall
      clear hcan hcf
      go_wp2_with (first
        | (with_reducible refine wpList_load_mid (op := ⟨some 32, _, _, _, _, _⟩) ?_ 26 (.tmp 5) ?_ (g) (0) ?_ (cs2) _ (l6) Tryd.underlying26 ?_ ?_ ?_
           · rfl
           · rfl
           · rfl
           · rfl
           · exact ((info_Tx H3.out)))
        | (with_reducible refine hcall.mono ?_; rintro e w7 ⟨v7, rfl, ho7, hb7⟩; have HB7 := Lib.hid (below_fut HW6.out hb7 (Nat.le_refl _)); clear ho7 hb7))
      go_ret
      exact ⟨by rw [HP2.out]; rfl, HB01.out.trans (HB7.out.mono HB01.out.size)⟩
    have hbl := txB_big hcan hC6 false
    rw [show txP t false = (txB t false, 0) from by unfold txP; rw [hcan]; rfl] at hcall
    unfold OutB at hcall
    simp only at hcall
    obtain ⟨X, hX⟩ : ∃ X : Bs, X = txB t false := ⟨_, rfl⟩
    rw [← hX] at hcall hbl
    have HXX := Lib.hid hX
    have HBL := Lib.hid hbl
    have HCAN := Lib.hid hcan
    clear hX hbl hcan hC6
    by_cases h64 : X.length = 64
    · have HP2 : Hid (P = 80) := Lib.hid (by rw [HP.out]; exact chkP_bad HX.out (by unfold fineTx; rw [HCAN.out, ← HXX.out, h64]; rfl))
      have H64 := Lib.hid h64
      clear h64
      go_wp2_with (first
        | (with_reducible refine wpList_load_mid (op := ⟨some 32, _, _, _, _, _⟩) ?_ 26 (.tmp 5) ?_ (g) (0) ?_ (cs2) _ (l6) Tryd.underlying26 ?_ ?_ ?_
           · rfl
           · rfl
           · rfl
           · rfl
           · exact ((info_Tx H3.out)))
        | (with_reducible refine hcall.mono ?_; rintro e w7 ⟨v7, rfl, ho7, hb7⟩; have HB7 := Lib.hid (below_fut HW6.out hb7 (Nat.le_refl _)); obtain ⟨p7, n7, c7, rfl, hn7, _⟩ := ho7.open; have e7 : n7 = 64 := hn7.out.symm.trans H64.out; subst e7; clear ho7 hb7))
      go_ret
      exact ⟨by rw [HP2.out]; rfl, HB01.out.trans (HB7.out.mono HB01.out.size)⟩
    have HFN : Hid (fineTx t = true) := Lib.hid (by unfold fineTx; rw [HCAN.out, ← HXX.out]; simp [h64])
    have H64 := Lib.hid h64
    clear h64
    go_upto_region 8 with (first
      | (with_reducible refine wpList_load_mid (op := ⟨some 32, _, _, _, _, _⟩) ?_ 26 (.tmp 5) ?_ (g) (0) ?_ (cs2) _ (l6) Tryd.underlying26 ?_ ?_ ?_
         · rfl
         · rfl
         · rfl
         · rfl
         · exact ((info_Tx H3.out)))
      | (with_reducible refine hcall.mono ?_; rintro e w7 ⟨v7, rfl, ho7, hb7⟩))
    obtain ⟨p7, n7, c7, rfl, hn7, hnc7, hcm7, hr7⟩ := ho7.open
    have i64n : ¬ (n7 : Int) = 64 := by have := hn7.out; have := H64.out; omega
    have HW7 := Lib.hid (below_fut HW6.out hb7 (Nat.le_refl _))
    have HR7 := Lib.hid (HR6.out.sep (hashE_keeps _) (Stays.of_below hb7 (Nat.le_refl _) (fun _ => False)) (fun _ h => h.elim))
    have hD := shaDouble_any p7 n7 c7 X w7 (HKL.out.below HW7.out HKs.out) hr7 hn7.out hnc7 hcm7 (by have := HBL.out; have := hn7.out; omega)
    obtain ⟨V, hV⟩ : ∃ V, V = sha (sha X) := ⟨_, rfl⟩
    rw [← hV] at hD
    have HVL : Hid (V.length = 32) := Lib.hid (by rw [hV]; exact sha_len _)
    have HVI : Hid ((idsB b.ts)[k]? = some V) := Lib.hid (by unfold idsB; rw [List.getElem?_map, HX.out, hV, HXX.out]; rfl)
    clear ho7 hb7 hV hcall l6 HW6 HR6 hr7
    go_upto_region 11 with (first
      | (with_reducible refine hD.mono ?_
         rintro e w8 ⟨rfl, hb8⟩
         have HW8 : Hid (Below w1.heap.size w1 w8) := Lib.hid (below_fut HW7.out hb8 (Nat.le_refl _))
         obtain ⟨css, hcl, hown, hcs⟩ := HR7.out.sep (hashE_keeps _) (Stays.of_below hb8 (Nat.le_refl _) (fun _ => False)) (fun _ h => h.elim)
         have HOWN := Lib.hid hown
         have HCSS := Lib.hid hcs
         have HCL := Lib.hid hcl
         have hBw8 : w1.heap.size ≤ w8.heap.size := HW8.out.size
         have HHS : Hid ((hCells V).length = 32) := Lib.hid (by simp [hCells, HVL.out])
         clear hown hcs hcl hb8)
      | (with_reducible refine wp_lit (o := ⟨some 46, _, _, _, _, _⟩) ?_ 47 29 1 #[(0, .tmp 45)] ?_ [.agg (hCells V).toArray] ?_ 32 32 _ Tryd.underlying47 hash_info ?_ ?_ ?_ ?_ ?_ ?_
         · rfl
         · rfl
         · rfl
         · omega
         · exact (fun v hv => by rw [List.mem_singleton.1 hv]; exact hCells_size HVL.out)
         · rfl
         · omega
         · omega
         simp only [List.flatMap_cons, List.flatMap_nil, List.append_nil, Value.cells])
      | (with_reducible refine wp_rowapp (o := ⟨some 47, _, _, _, _, _⟩) ?_ (.tmp 43) (.tmp 46) 47 29 ?_ _ 32 32 Tryd.underlying47 hash_info ?_ ?_ ?_ (w1.heap.size) _ (((idsB b.ts).take k).length) css.flatten ?_ (World.ownsRow.alloc HOWN.out _) w8.heap.size 1 1 (hCells V) ?_ (Blk.new w8 _ _) ?_ ?_ ?_ ?_ ?_
         · rfl
         · rfl
         · rfl
         · omega
         · omega
         · rfl
         · rfl
         · exact HHS.out
         · exact one_all (hCells_one V)
         · omega
         · rw [World.size_alloc]; omega
         intro vb wb hlb hgb hob))
    have hnew := below_new w8 (.cells (hCells V).toArray 29)
    have hst9 : Stays (fun _ => False) w8 (w8.alloc (.cells (hCells V).toArray 29)) := Stays.of_below hnew (Nat.le_refl _) _
    have hSb := Stays.of_grown (S := fun k => Value.ownBlock _ = some k) hgb (fun k h => h)
    have HROW : Hid (RowO HashE 29 32 w1.heap.size wb vb ((idsB b.ts).take (k + 1))) := Lib.hid (by
      rw [← take_snoc (idsB b.ts) k V HVI.out]
      exact RowO.app HCL.out (World.ownsRow.alloc HOWN.out _) (fun i y hy => by
        obtain ⟨cs', h6, h7, h8⟩ := HCSS.out i y hy
        exact ⟨cs', h6, h7, h8⟩) (hashE_keeps _) (by decide) ⟨rfl, HVL.out⟩ HHS.out hlb hgb)
    have HBB : Hid (Below w1.heap.size w1 wb) := Lib.hid ((HW8.out.trans (hnew.mono hBw8)).trans (hSb.below (by have := hnew.size; omega) fun k hk => (own_ge HOWN.out k hk).1))
    have HA9 : Hid (∀ j t, b.ts[j]? = some t → j < k + 1 → fineTx t = true) := Lib.hid fun j t' hj hlt => by
      rcases Nat.lt_or_ge j k with h | h
      · exact HAk.out j t' hj h
      · obtain rfl : j = k := by omega
        rw [HX.out] at hj
        injection hj with hj
        rw [← hj]
        exact HFN.out
    clear hnew hst9 hSb hlb hgb hob hD i64n
    go_wp2_with fail
    go_roundw
    case rel => exact ⟨k + 1, by omega, by go_num, HA9, HBB, HROW⟩
    case measure => simp [intOf]; omega
end Go.Proofs.YthglocpbdfcfnaaDoor
