/- sporranref07.Can, has: the walks. -/
import Derived.Test.YthglocpbdfcfnaaTxG
namespace Go.Proofs.Ythglocpbdfcfnaa
open Go Go.RowKit
set_option linter.unusedVariables false

theorem all_take {α : Type} (p : α → Bool) (xs : List α) (k : Nat) (x : α) (hx : xs[k]? = some x) (h0 : (xs.take k).all p = true) (h1 : p x = true) : (xs.take (k + 1)).all p = true := by
  rw [List.take_add_one, hx, List.all_append, h0]
  simp [h1]
theorem all_miss {α : Type} (p : α → Bool) (xs : List α) (k : Nat) (x : α) (hx : xs[k]? = some x) (h1 : p x = false) : xs.all p = false := by
  rw [List.all_eq_false]
  exact ⟨x, List.mem_of_getElem? hx, by simp [h1]⟩
theorem canTx_not {t : TTx} (h : t.is.all canIn = false) : canTx t = false := by unfold canTx; rw [h]; simp
theorem canTx_not2 {t : TTx} (h : t.os.all canOut = false) : canTx t = false := by unfold canTx; rw [h]; simp
/-- the k-th element of a slice, read in a later world -/
theorem ESl.at {α : Type} {E : World → α → List Value → Prop} {N : Nat} {w W : World} {p : Option Addr} {n c k : Nat} {xs : List α} (h : ESl E N w (.slice p n c) xs) (hb : Below w.heap.size w W) (hk : k < n) : ∃ b off cs x, p = some ⟨b, off, none⟩ ∧ xs[k]? = some x ∧ E w x cs ∧ W.rangeAt b (off + k * N) cs := by
  obtain ⟨p', n', c', e, h1, h2, h3, h4, h5⟩ := h
  injection e with e1 e2 e3
  subst e1 e2 e3
  have hx := List.getElem?_eq_getElem (l := xs) (i := k) (by omega)
  obtain ⟨b, off, rfl, hlt, hc⟩ := h4 (by intro e; subst e; simp at h1; omega)
  obtain ⟨cs, h6, h7⟩ := hc k _ hx
  exact ⟨b, off, cs, _, rfl, hx, h6, range_fut h7 hb hlt⟩
theorem ESl.slen {α : Type} {E : World → α → List Value → Prop} {N : Nat} {w : World} {p : Option Addr} {n c : Nat} {xs : List α} (h : ESl E N w (.slice p n c) xs) : xs.length = n ∧ n ≤ c ∧ c ≤ 9223372036854775807 := by
  obtain ⟨p', n', c', e, h1, h2, h3, h4, h5⟩ := h
  injection e with e1 e2 e3
  subst e1 e2 e3
  exact ⟨h1, h2, by unfold maxLen at h3; omega⟩
theorem ESl.opens {α : Type} {E : World → α → List Value → Prop} {N : Nat} {w : World} {v : Value} {xs : List α} (h : ESl E N w v xs) : ∃ p n c, v = .slice p n c := by
  obtain ⟨p', n', c', e, _⟩ := h
  exact ⟨_, _, _, e⟩
theorem Sl.slen {w : World} {p : Option Addr} {n c : Nat} {bs : Bs} (h : Sl w (.slice p n c) bs) : bs.length = n ∧ n ≤ c ∧ c ≤ 9223372036854775807 := by
  obtain ⟨p', n', c', e, h1, h2, h3, h4, h5⟩ := h
  injection e with e1 e2 e3
  subst e1 e2 e3
  exact ⟨h1, h2, by unfold maxLen at h3; omega⟩
theorem Sl.opens {w : World} {v : Value} {bs : Bs} (h : Sl w v bs) : ∃ p n c, v = .slice p n c := by
  obtain ⟨p', n', c', e, _⟩ := h
  exact ⟨_, _, _, e⟩
theorem zeroInZ (w : World) : ∃ Z : Array Value, Z.size = 36 ∧ (zeroValue 67).run Try.prog w = .ok (.agg Z) w := by obtain ⟨Z, h1, h2⟩ := zeroIn; exact ⟨Z, h1, h2 w⟩

set_option maxRecDepth 100000 in
set_option maxHeartbeats 16000000 in
theorem refCan_any (t : TTx) (cs : List Value) (w : World) (h : TxC w t cs) : Calls Try.prog 11 #[.agg cs.toArray] w fun e w' => e = .returned (.bool (canTx t)) ∧ Below w.heap.size w w' := by
  obtain ⟨iv, ov, rfl, hi, ho⟩ := h
  obtain ⟨r, hr⟩ : ∃ r, r = canTx t := ⟨_, rfl⟩
  rw [← hr]
  have HR := Lib.hid hr
  obtain ⟨pi, n, ci, rfl⟩ := hi.opens
  obtain ⟨po, m, co, rfl⟩ := ho.opens
  have HI := Lib.hid hi
  have HO := Lib.hid ho
  obtain ⟨hn, hnc, hcm⟩ := hi.slen
  obtain ⟨hm, hmc, hcm2⟩ := ho.slen
  obtain ⟨vv, hvv⟩ : ∃ v, v = u32 t.ve := ⟨_, rfl⟩
  obtain ⟨vl, hvl⟩ : ∃ v, v = u32 t.lo := ⟨_, rfl⟩
  rw [← hvv, ← hvl]
  have HN := Lib.hid hn
  have HM := Lib.hid hm
  have hb1 := below_new w (.cells #[vv, .slice pi n ci, .slice po m co, vl] 26)
  have HB1 := Lib.hid (Blk.new w 26 #[vv, .slice pi n ci, .slice po m co, vl])
  clear hr hi ho hn hm hvv hvl
  go_enter Try.func11, Try.ntmps11
  go_upto_region 1 with fail
  generalize w.alloc (.cells #[vv, .slice pi n ci, .slice po m co, vl] 26) = w1 at *
  have HW1 := Lib.hid hb1
  have c1 := HB1.out.cell 1
  have c2 := HB1.out.cell 2
  simp only [List.getElem?_toArray, List.getElem?_cons_zero, List.getElem?_cons_succ] at c1 c2
  by_cases h1 : n < 1
  · have hl : (n : Int) < 1 := by omega
    go_wp2_with fail
    go_ret
    exact ⟨by rw [HR.out]; unfold canTx; rw [HN.out]; simp; omega, HW1.out⟩
  have hl1 : ¬ (n : Int) < 1 := by omega
  by_cases h2 : 2000 < n
  · have hl2 : (2000 : Int) < (n : Int) := by omega
    go_wp2_with fail
    go_ret
    exact ⟨by rw [HR.out]; unfold canTx; rw [HN.out]; simp; omega, HW1.out⟩
  have hl2 : ¬ (2000 : Int) < (n : Int) := by omega
  by_cases h3 : 2000 < m
  · have hl3 : (2000 : Int) < (m : Int) := by omega
    go_wp2_with fail
    go_ret
    exact ⟨by rw [HR.out]; unfold canTx; rw [HN.out, HM.out]; simp; omega, HW1.out⟩
  have hl3 : ¬ (2000 : Int) < (m : Int) := by omega
  have h1' : 1 ≤ n := by omega
  have h2' : n ≤ 2000 := by omega
  have h3' : m ≤ 2000 := by omega
  go_upto_region 4 with fail
  clear hl1 hl2 hl3 h1 h2 h3 hb1
  go_loopw [28] (fun i wr => ∃ k : Nat, k ≤ n ∧ i = .int .i64 k ∧ Hid (Below w.heap.size w wr) ∧ Hid (Blk wr w.heap.size 26 #[vv, .slice pi n ci, .slice po m co, vl]) ∧ Hid ((t.is.take k).all canIn = true)) (fun i _ => n - (intOf i).toNat)
  case atStart => exact ⟨0, by omega, rfl, HW1, HB1, Lib.hid rfl⟩
  case round =>
    obtain ⟨k, hk, rfl, HWk, HBk, HAk⟩ := hrel
    by_cases hkn : k < n
    · have hlt : (k : Int) < (n : Int) := by omega
      obtain ⟨b, off, cs, x, rfl, hx, hE, l2⟩ := HI.out.at HWk.out hkn
      obtain ⟨sv, wv, k32, k33, k34, k35, hsv, hwv⟩ := hE.cell
      obtain ⟨ps, ns, cs', rfl⟩ := hsv.opens
      obtain ⟨pw, nw, cw, rfl⟩ := hwv.opens
      obtain ⟨hns, hnsc, hcsm⟩ := hsv.slen
      obtain ⟨hnw, hnwc, hcwm⟩ := hwv.slen
      have hcan : canIn x = (!decide (10000 < ns) && (!decide (100 < nw) && x.wi.all fun b => !decide (10000 < b.length))) := by unfold canIn; rw [hns, hnw]
      have HCAN := Lib.hid hcan
      have HX := Lib.hid hx
      have HWV := Lib.hid hwv
      have HNW := Lib.hid hnw
      have K33 := Lib.hid k33
      have K35 := Lib.hid k35
      have H3 := Lib.hid hE.len
      have H1 := Lib.hid hE.one
      obtain ⟨Z, hZl, hz⟩ := zeroIn
      have HZ := Lib.hid hZl
      have hbr := below_new wr (.cells Z 67)
      clear hx hE k32 k33 k34 k35 hsv hwv hns hnw hcan hZl
      go_upto_region 6 with (first
        | (with_reducible refine wpList_load_mid (op := ⟨some 31, _, _, _, _, _⟩) ?_ 67 (.tmp 30) ?_ (b) (off + k * 36) ?_ (cs) _ (l2) Try.underlying67 ?_ ?_ ?_
           · rfl
           · rfl
           · rfl
           · rfl
           · exact ((info_Ins H3.out)))
        | (with_reducible refine wp_store_blk (o := ⟨none, _, _, _, _, _⟩) ?_ 67 (.tmp 4) (.tmp 31) ?_ (wr.heap.size) 67 (Z) (cs.toArray) ?_ ?_ (Blk.new wr _ _) ?_ ?_ ?_ (wr.heap.size) (wr) ?_ ?_ ?_
           · rfl
           · rfl
           · rfl
           · rfl
           · exact (by rw [List.size_toArray]; exact info_Ins H3.out)
           · exact (HZ.out.trans (by rw [List.size_toArray]; exact H3.out.symm))
           · exact (H1.out)
           · exact (hbr)
           · exact (Nat.le_refl _)
           intro w6 hB6 hb6 hg6 hs6))
      have HW6 := Lib.hid (below_fut HWk.out hb6 (Nat.le_refl _))
      have HB6 := Lib.hid (HBk.out.fut hb6)
      have c33 := hB6.cell 33
      have c35 := hB6.cell 35
      rw [List.getElem?_toArray, K33.out] at c33
      rw [List.getElem?_toArray, K35.out] at c35
      clear hb6 hg6 hs6 l2 hz hbr HWk HBk
      by_cases hs : 10000 < ns
      · have hls : (10000 : Int) < (ns : Int) := by omega
        go_wp2_with fail
        go_ret
        exact ⟨by rw [HR.out, canTx_not (all_miss canIn t.is k x HX.out (by rw [HCAN.out]; simp [hs]))]; rfl, HW6.out⟩
      have hls : ¬ (10000 : Int) < (ns : Int) := by omega
      by_cases hw : 100 < nw
      · have hlw : (100 : Int) < (nw : Int) := by omega
        go_wp2_with fail
        go_ret
        exact ⟨by rw [HR.out, canTx_not (all_miss canIn t.is k x HX.out (by rw [HCAN.out]; simp [hw]))]; rfl, HW6.out⟩
      have hlw : ¬ (100 : Int) < (nw : Int) := by omega
      have hw' : nw ≤ 100 := by omega
      have hs' : ns ≤ 10000 := by omega
      go_upto_region 9 with fail
      clear hls hlw hs hw c33 c35
      go_loopw [45] (fun i wr => ∃ j : Nat, j ≤ nw ∧ i = .int .i64 j ∧ wr = w6 ∧ Hid ((x.wi.take j).all (fun b => !decide (10000 < b.length)) = true)) (fun i _ => nw - (intOf i).toNat)
      case atStart => exact ⟨0, by omega, rfl, rfl, Lib.hid rfl⟩
      case round =>
        obtain ⟨j, hj, rfl, hwr, HAj⟩ := hrel
        subst hwr
        by_cases hjn : j < nw
        · have hltj : (j : Int) < (nw : Int) := by omega
          obtain ⟨b2, off2, cs2, y, rfl, hy, ⟨vy, rfl, hsy⟩, l3⟩ := HWV.out.at HW6.out hjn
          obtain ⟨py, ny, cy, rfl⟩ := hsy.opens
          obtain ⟨hny, hnyc, hcym⟩ := hsy.slen
          have cy1 : wr.cell? ⟨b2, off2 + j, none⟩ = some (.slice py ny cy) := by
            have := l3 0 _ rfl
            rwa [Nat.mul_one, Nat.add_zero] at this
          have HY := Lib.hid hy
          have HNY := Lib.hid hny
          clear hy hsy l3 hny
          by_cases hl : 10000 < ny
          · have hll : (10000 : Int) < (ny : Int) := by omega
            go_wp2_with fail
            go_ret
            exact ⟨by rw [HR.out, canTx_not (all_miss canIn t.is k x HX.out (by rw [HCAN.out, all_miss _ x.wi j y HY.out (by rw [HNY.out]; simp [hl])]; simp))]; rfl, HW6.out⟩
          · have hll : ¬ (10000 : Int) < (ny : Int) := by omega
            have hAj := Lib.hid (all_take (fun b : Bs => !decide (10000 < b.length)) x.wi j y HY.out HAj.out (by rw [HNY.out]; simp [hl]))
            go_wp2_with fail
            go_roundw
            case rel => exact ⟨j + 1, by omega, by go_num, trivial, hAj⟩
            case measure => simp [intOf]; omega
        · obtain rfl : j = nw := by omega
          have hall := HAj.out
          rw [List.take_of_length_le (by have := HNW.out; omega)] at hall
          have hAk := Lib.hid (all_take canIn t.is k x HX.out HAk.out (by rw [HCAN.out, hall]; simp; omega))
          clear hall
          go_wp2_with fail
          go_roundw
          case rel => exact ⟨k + 1, by omega, by go_num, HW6, HB6, hAk⟩
          case measure => simp [intOf]; omega
    · obtain rfl : k = n := by omega
      have hall := HAk.out
      rw [List.take_of_length_le (by have := HN.out; omega)] at hall
      have HALL := Lib.hid hall
      have d2 := HBk.out.cell 2
      simp only [List.getElem?_toArray, List.getElem?_cons_zero, List.getElem?_cons_succ] at d2
      clear hall
      go_upto_region 16 with fail
      clear d2
      go_loopw [57] (fun i wr => ∃ k : Nat, k ≤ m ∧ i = .int .i64 k ∧ Hid (Below w.heap.size w wr) ∧ Hid ((t.os.take k).all canOut = true)) (fun i _ => m - (intOf i).toNat)
      case atStart => exact ⟨0, by omega, rfl, HWk, Lib.hid rfl⟩
      case round =>
        obtain ⟨j, hj, rfl, HWj, HAj⟩ := hrel
        by_cases hjm : j < m
        · have hlt : (j : Int) < (m : Int) := by omega
          obtain ⟨b, off, cs, x, rfl, hx, hE, l2⟩ := HO.out.at HWj.out hjm
          have H1 := Lib.hid hE.one
          obtain ⟨sv, rfl, hsv⟩ := hE
          obtain ⟨ps, ns, cs', rfl⟩ := hsv.opens
          obtain ⟨hns, hnsc, hcsm⟩ := hsv.slen
          have hcan : canOut x = (!decide (x.va.toInt < 0) && !decide (10000 < ns)) := by unfold canOut; rw [hns]
          obtain ⟨V, hV⟩ : ∃ V, V = x.va.toInt := ⟨_, rfl⟩
          rw [← hV] at hcan l2 H1
          have HCAN := Lib.hid hcan
          have HX := Lib.hid hx
          obtain ⟨Z, hZl, hz⟩ := zeroOut
          have HZ := Lib.hid hZl
          have hbr := below_new wr (.cells Z 61)
          obtain ⟨cs, hcs⟩ : ∃ cs : List Value, cs = [.int .i64 V, .slice ps ns cs'] := ⟨_, rfl⟩
          rw [← hcs] at l2 H1
          have H3 : Hid (cs.length = 2) := Lib.hid (by rw [hcs]; rfl)
          have HCS := Lib.hid hcs
          clear hx hns hcan hZl hV hcs hsv
          go_upto_region 18 with (first
            | (with_reducible refine wpList_load_mid (op := ⟨some 60, _, _, _, _, _⟩) ?_ 61 (.tmp 59) ?_ (b) (off + j * 2) ?_ (cs) _ (l2) Try.underlying61 ?_ ?_ ?_
               · rfl
               · rfl
               · rfl
               · rfl
               · exact ((info_Outs H3.out)))
            | (with_reducible refine wp_store_blk (o := ⟨none, _, _, _, _, _⟩) ?_ 61 (.tmp 8) (.tmp 60) ?_ (wr.heap.size) 61 (Z) (cs.toArray) ?_ ?_ (Blk.new wr _ _) ?_ ?_ ?_ (wr.heap.size) (wr) ?_ ?_ ?_
               · rfl
               · rfl
               · rfl
               · rfl
               · exact (by rw [List.size_toArray]; exact info_Outs H3.out)
               · exact (HZ.out.trans (by rw [List.size_toArray]; exact H3.out.symm))
               · exact (H1.out)
               · exact (hbr)
               · exact (Nat.le_refl _)
               intro w6 hB6 hb6 hg6 hs6))
          have HW6 := Lib.hid (below_fut HWj.out hb6 (Nat.le_refl _))
          have d0 := hB6.cell 0
          have d1 := hB6.cell 1
          rw [List.getElem?_toArray, HCS.out] at d0 d1
          simp only [List.getElem?_cons_zero, List.getElem?_cons_succ] at d0 d1
          clear hb6 hg6 hs6 l2 hz hbr HWj
          by_cases hs : V < 0
          · go_wp2_with fail
            go_ret
            exact ⟨by rw [HR.out, canTx_not2 (all_miss canOut t.os j x HX.out (by rw [HCAN.out]; simp [hs]))]; rfl, HW6.out⟩
          by_cases hw : 10000 < ns
          · have hlw : (10000 : Int) < (ns : Int) := by omega
            go_wp2_with fail
            go_ret
            exact ⟨by rw [HR.out, canTx_not2 (all_miss canOut t.os j x HX.out (by rw [HCAN.out]; simp [hw]))]; rfl, HW6.out⟩
          have hlw : ¬ (10000 : Int) < (ns : Int) := by omega
          have hAj := Lib.hid (all_take canOut t.os j x HX.out HAj.out (by rw [HCAN.out]; simp; omega))
          go_wp2_with fail
          go_roundw
          case rel => exact ⟨j + 1, by omega, by go_num, HW6, hAj⟩
          case measure => simp [intOf]; omega
        · obtain rfl : j = m := by omega
          have hall := HAj.out
          rw [List.take_of_length_le (by have := HM.out; omega)] at hall
          have HALL2 := Lib.hid hall
          clear hall
          go_wp2_with fail
          go_ret
          exact ⟨by rw [HR.out]; unfold canTx; rw [HALL.out, HALL2.out, HN.out, HM.out]; simp; omega, HWj.out⟩
end Go.Proofs.Ythglocpbdfcfnaa
