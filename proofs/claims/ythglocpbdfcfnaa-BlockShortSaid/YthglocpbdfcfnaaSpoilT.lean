/- sporranplain.SpoilBlock: the walk. -/
import Derived.Test.YthglocpbdfcfnaaSpoilM
import Derived.Test.YthglocpbdfcfnaaTxV
namespace Go.Proofs.Ythglocpbdfcfnaa
open Go Go.RowKit
set_option linter.unusedVariables false

set_option maxRecDepth 100000 in
set_option maxHeartbeats 16000000 in
theorem spoilBlock_any (S : Nat → Prop) (bc : List Value) (v : Value) (ts : List TTx) (w : World) (hS : ∀ k, S k → k < w.heap.size) (hb : bc[68]? = some v) (h : RowM S (TxM S) 4 w v ts) :
    Calls Try.prog 18 #[.agg bc.toArray] w fun e w' => e = .returned (.tuple #[]) ∧ Pok S w w' := by
  obtain ⟨p, n, c, rfl⟩ := h.opens
  obtain ⟨hn, hnc, hcm⟩ := h.slen
  have HB := Lib.hid hb
  have HR := Lib.hid h
  have HN := Lib.hid hn
  clear h hb hn
  have hb1 := below_new w (.cells bc.toArray 48)
  have HB1 := Lib.hid (Blk.new w 48 bc.toArray)
  go_enter Try.func18, Try.ntmps18
  go_upto_region 1 with fail
  generalize w.alloc (.cells bc.toArray 48) = w1 at *
  have HP1 : Hid (Pok S w w1) := Lib.hid (Pok.fut hb1)
  have c1 := HB1.out.cell 68
  rw [List.getElem?_toArray, HB.out] at c1
  have HR1 := Lib.hid (HR.out.pok (txM_keeps S) HP1.out)
  have HSz := Lib.hid hS
  clear hb1 HR HB HB1 hS
  go_upto_region 2 with fail
  clear c1
  go_loopw [11] (fun i wr => ∃ k : Nat, k ≤ n ∧ i = .int .i64 k ∧ Hid (Pok S w wr) ∧ Hid (RowM S (TxM S) 4 wr (.slice p n c) ts)) (fun i _ => n - (intOf i).toNat)
  case atStart => exact ⟨0, by omega, rfl, HP1, HR1⟩
  case round =>
    obtain ⟨k, hk, rfl, HPk, HRk⟩ := hrel
    by_cases hkn : k < n
    case neg =>
      have hge : ¬ (k : Int) < (n : Int) := by omega
      go_wp2_with fail
      refine bodyPost_end (results_none rfl _ _ _) rfl ?_
      exact ⟨rfl, HPk.out⟩
    have hlt : (k : Int) < (n : Int) := by omega
    have hk63 : (k : Int) + 1 ≤ 9223372036854775807 := by omega
    obtain ⟨b, off, cs, x, rfl, hx, hE, l2, hSb, hbl⟩ := HRk.out.at hkn
    have H3 := Lib.hid hE.len
    have H1 := Lib.hid hE.one
    obtain ⟨iv, ov, hcs, hi, ho⟩ := hE
    have HI := Lib.hid hi
    have HO := Lib.hid ho
    have HCS := Lib.hid hcs
    have hz := zTx
    have hbr := below_new wr (.cells ZTx.toArray 26)
    have hzs : ZTx.toArray.size = cs.toArray.size := by rw [List.size_toArray, List.size_toArray, H3.out]; rfl
    clear hx hi ho hcs hSb hbl HP1 HR1
    go_upto_region 4 with (first
      | (with_reducible refine wpList_load_mid (op := ⟨some 14, _, _, _, _, _⟩) ?_ 26 (.tmp 13) ?_ (b) (off + k * 4) ?_ (cs) _ (l2) Try.underlying26 ?_ ?_ ?_
         · rfl
         · rfl
         · rfl
         · rfl
         · exact ((info_Tx H3.out)))
      | (with_reducible refine wp_store_blk (o := ⟨none, _, _, _, _, _⟩) ?_ 26 (.tmp 3) (.tmp 14) ?_ (wr.heap.size) 26 (ZTx.toArray) (cs.toArray) ?_ ?_ (Blk.new wr _ _) ?_ ?_ ?_ (wr.heap.size) (wr) ?_ ?_ ?_
         · rfl
         · rfl
         · rfl
         · rfl
         · exact (by rw [List.size_toArray]; exact info_Tx H3.out)
         · exact (hzs)
         · exact (H1.out)
         · exact (hbr)
         · exact (Nat.le_refl _)
         intro w4 hB4 hb4 hg4 hs4))
    have hS4 : ¬ S wr.heap.size := fun h => by have := HSz.out _ h; have := HPk.out.st.size; omega
    have HSk := Lib.hid hS4
    obtain ⟨bt, hbt⟩ : ∃ z, z = wr.heap.size := ⟨_, rfl⟩
    have HB4 := Lib.hid hB4.out
    rw [← hbt] at HSk HB4 ⊢
    have hp4 : Pok S wr w4 := Pok.fut hb4
    have HP4 := Lib.hid (HPk.out.trans hp4)
    have HR4 := Lib.hid (HRk.out.pok (txM_keeps S) hp4)
    have HI4 := Lib.hid (HI.out.pok (inM_keeps S) hp4)
    have HO4 := Lib.hid (HO.out.pok (outM_keeps S) hp4)
    clear hb4 hg4 hs4 hB4 hp4 hS4 hbt HPk HRk HI HO l2 hbr hzs hz
    simp only [put_none]
    obtain ⟨pi, ni, ci, rfl⟩ := HI4.out.opens
    obtain ⟨hni, hnci, hcmi⟩ := HI4.out.slen
    obtain ⟨po, no, co, rfl⟩ := HO4.out.opens
    obtain ⟨hno, hnco, hcmo⟩ := HO4.out.slen
    have c1 := HB4.out.cell 1
    rw [List.getElem?_toArray, HCS.out] at c1
    simp only [List.getElem?_cons_zero, List.getElem?_cons_succ] at c1
    clear hni hno
    go_upto_region 5 with fail
    clear c1
    go_loopw [18] (fun i wr => ∃ j : Nat, j ≤ ni ∧ i = .int .i64 j ∧ Hid (Pok S w wr) ∧ Hid (RowM S (TxM S) 4 wr (.slice (some ⟨b, off, none⟩) n c) ts) ∧ Hid (RowM S (OutM S) 2 wr (.slice po no co) x.os) ∧ Hid (Blk wr bt 26 cs.toArray) ∧ Hid (RowM S (InM S) 36 wr (.slice pi ni ci) x.is)) (fun i _ => ni - (intOf i).toNat)
    case atStart => exact ⟨0, by omega, rfl, HP4, HR4, HO4, HB4, HI4⟩
    case round =>
      obtain ⟨j, hj, rfl, HPj, HRj, HOj, HBj, HIj⟩ := hrel
      clear HP4 HR4 HO4 HB4 HI4
      by_cases hjn : j < ni
      case neg =>
        have hge : ¬ (j : Int) < (ni : Int) := by omega
        have c2 := HBj.out.cell 2
        rw [List.getElem?_toArray, HCS.out] at c2
        simp only [List.getElem?_cons_zero, List.getElem?_cons_succ] at c2
        go_upto_region 11 with fail
        clear c2
        go_loopw [33] (fun i wr => ∃ j : Nat, j ≤ no ∧ i = .int .i64 j ∧ Hid (Pok S w wr) ∧ Hid (RowM S (TxM S) 4 wr (.slice (some ⟨b, off, none⟩) n c) ts) ∧ Hid (RowM S (OutM S) 2 wr (.slice po no co) x.os)) (fun i _ => no - (intOf i).toNat)
        case atStart => exact ⟨0, by omega, rfl, HPj, HRj, HOj⟩
        case round =>
          clear HPj HRj HOj HBj HIj
          obtain ⟨j, hj, rfl, HPj, HRj, HOj⟩ := hrel
          by_cases hjn : j < no
          case neg =>
            have hge : ¬ (j : Int) < (no : Int) := by omega
            go_wp2_with fail
            go_roundw
            case rel => exact ⟨k + 1, by omega, by go_num, HPj, HRj⟩
            case measure => simp [intOf]; omega
          have hlt2 : (j : Int) < (no : Int) := by omega
          have hj63 : (j : Int) + 1 ≤ 9223372036854775807 := by omega
          obtain ⟨b2, off2, cs2, y, rfl, hy, hE, l2, hSb, hbl⟩ := HOj.out.at hjn
          obtain ⟨sv, hcs2, hsv⟩ := hE
          have H32 : Hid (cs2.length = 2) := Lib.hid (by rw [hcs2]; rfl)
          have H12 : Hid (cs2.toArray.all (·.oneCell') = true) := Lib.hid (by rw [hcs2, List.all_toArray]; simp [Value.oneCell']; exact hsv.one)
          have HSV := Lib.hid hsv
          have K1 : Hid (cs2[1]? = some sv) := Lib.hid (by rw [hcs2]; rfl)
          obtain ⟨Z, hZl, hz⟩ := zeroOut
          have HZ := Lib.hid hZl
          have hbr := below_new wr (.cells Z 61)
          clear hy hsv hcs2 hZl hSb hbl
          go_upto_region 13 with (first
            | (with_reducible refine wpList_load_mid (op := ⟨some 36, _, _, _, _, _⟩) ?_ 61 (.tmp 35) ?_ (b2) (off2 + j * 2) ?_ (cs2) _ (l2) Try.underlying61 ?_ ?_ ?_
               · rfl
               · rfl
               · rfl
               · rfl
               · exact ((info_Outs H32.out)))
            | (with_reducible refine wp_store_blk (o := ⟨none, _, _, _, _, _⟩) ?_ 61 (.tmp 7) (.tmp 36) ?_ (wr.heap.size) 61 (Z) (cs2.toArray) ?_ ?_ (Blk.new wr _ _) ?_ ?_ ?_ (wr.heap.size) (wr) ?_ ?_ ?_
               · rfl
               · rfl
               · rfl
               · rfl
               · exact (by rw [List.size_toArray]; exact info_Outs H32.out)
               · exact (HZ.out.trans (by rw [List.size_toArray]; exact H32.out.symm))
               · exact (H12.out)
               · exact (hbr)
               · exact (Nat.le_refl _)
               intro w6 hB6 hb6 hg6 hs6))
          obtain ⟨bi, hbi⟩ : ∃ z, z = wr.heap.size := ⟨_, rfl⟩
          have HB6 := Lib.hid hB6.out
          rw [← hbi] at HB6 ⊢
          have hp6 : Pok S wr w6 := Pok.fut hb6
          have HP6 := Lib.hid (HPj.out.trans hp6)
          have HR6 := Lib.hid (HRj.out.pok (txM_keeps S) hp6)
          have HO6 := Lib.hid (HOj.out.pok (outM_keeps S) hp6)
          have HSV6 := textM_keeps S _ _ _ _ HSV.out hp6
          clear hb6 hg6 hs6 hB6 hp6 hbi HPj HRj HOj HSV l2 hbr hz HZ
          simp only [put_none]
          obtain ⟨q, m, d, hsvv, hmd, hdm, hmine⟩ := HSV6
          injection hsvv with hsvv
          subst hsvv
          have c33 := HB6.out.cell 1
          rw [List.getElem?_toArray, K1.out] at c33
          have hmr : MineRowsS (w6.alloc (.cells #[.slice q m d] 27)) S (some ⟨w6.heap.size, 0, none⟩) 1 :=
            TextM.lit hmine hmd hdm (Pok.fut (below_new w6 _)) (Blk.new w6 27 #[.slice q m d]) (fun h => by have := HSz.out _ h; have := HP6.out.st.size; omega)
          have HMR := Lib.hid hmr
          clear hmr hmine
          go_wp2_with fail
          have hp7 : Pok S w6 (w6.alloc (.cells #[.slice q m d] 27)) := Pok.fut (below_new w6 _)
          refine (spoilM_any S (some ⟨w6.heap.size, 0, none⟩) 1 1 _ (by omega) (by omega) HMR.out).mono ?_
          rintro e w7 ⟨rfl, hp7'⟩
          have hp67 := hp7.trans hp7'
          have HP7 := Lib.hid (HP6.out.trans hp67)
          have HR7 := Lib.hid (HR6.out.pok (txM_keeps S) hp67)
          have HO7 := Lib.hid (HO6.out.pok (outM_keeps S) hp67)
          clear hp67 hp7 hp7' HP6 HR6 HO6 HB6 HMR c33
          go_wp2_with fail
          go_roundw
          case rel => exact ⟨j + 1, by omega, by go_num, HP7, HR7, HO7⟩
          case measure => simp [intOf]; omega
      have hlt2 : (j : Int) < (ni : Int) := by omega
      have hj63 : (j : Int) + 1 ≤ 9223372036854775807 := by omega
      obtain ⟨b2, off2, cs2, y, rfl, hy, hE, l2, hSb, hbl⟩ := HIj.out.at hjn
      have H32 := Lib.hid hE.len
      have H12 := Lib.hid hE.one
      obtain ⟨sv, wv, k33, k35, hsv, hwv⟩ := hE.cell
      have HSV := Lib.hid hsv
      have HWV := Lib.hid hwv
      have K33 := Lib.hid k33
      have K35 := Lib.hid k35
      obtain ⟨Z, hZl, hz⟩ := zeroIn
      have HZ := Lib.hid hZl
      have hbr := below_new wr (.cells Z 67)
      clear hy hE hsv hwv k33 k35 hZl hSb hbl
      go_upto_region 7 with (first
        | (with_reducible refine wpList_load_mid (op := ⟨some 21, _, _, _, _, _⟩) ?_ 67 (.tmp 20) ?_ (b2) (off2 + j * 36) ?_ (cs2) _ (l2) Try.underlying67 ?_ ?_ ?_
           · rfl
           · rfl
           · rfl
           · rfl
           · exact ((info_Ins H32.out)))
        | (with_reducible refine wp_store_blk (o := ⟨none, _, _, _, _, _⟩) ?_ 67 (.tmp 5) (.tmp 21) ?_ (wr.heap.size) 67 (Z) (cs2.toArray) ?_ ?_ (Blk.new wr _ _) ?_ ?_ ?_ (wr.heap.size) (wr) ?_ ?_ ?_
           · rfl
           · rfl
           · rfl
           · rfl
           · exact (by rw [List.size_toArray]; exact info_Ins H32.out)
           · exact (HZ.out.trans (by rw [List.size_toArray]; exact H32.out.symm))
           · exact (H12.out)
           · exact (hbr)
           · exact (Nat.le_refl _)
           intro w6 hB6 hb6 hg6 hs6))
      have hS6 : ¬ S wr.heap.size := fun h => by have := HSz.out _ h; have := HPj.out.st.size; omega
      have HS6 := Lib.hid hS6
      obtain ⟨bi, hbi⟩ : ∃ z, z = wr.heap.size := ⟨_, rfl⟩
      have HB6 := Lib.hid hB6.out
      rw [← hbi] at HS6 HB6 ⊢
      have hp6 : Pok S wr w6 := Pok.fut hb6
      have HP6 := Lib.hid (HPj.out.trans hp6)
      have HR6 := Lib.hid (HRj.out.pok (txM_keeps S) hp6)
      have HO6 := Lib.hid (HOj.out.pok (outM_keeps S) hp6)
      have HI6 := Lib.hid (HIj.out.pok (inM_keeps S) hp6)
      have HT6 := Lib.hid (HBj.out.fut hb6)
      have HSV6 := textM_keeps S _ _ _ _ HSV.out hp6
      have HWV6 := Lib.hid (HWV.out.pok (textM_keeps S) hp6)
      clear hb6 hg6 hs6 hB6 hp6 hS6 hbi HPj HRj HOj HIj HBj HSV HWV l2 hbr hz HZ
      simp only [put_none]
      obtain ⟨q, m, d, hsvv, hmd, hdm, hmine⟩ := HSV6
      injection hsvv with hsvv
      subst hsvv
      obtain ⟨pw, nw, cw, rfl⟩ := HWV6.out.opens
      obtain ⟨_, hnwc, hcwm⟩ := HWV6.out.slen
      have c33 := HB6.out.cell 33
      rw [List.getElem?_toArray, K33.out] at c33
      have hmr : MineRowsS (w6.alloc (.cells #[.slice q m d] 27)) S (some ⟨w6.heap.size, 0, none⟩) 1 :=
        TextM.lit hmine hmd hdm (Pok.fut (below_new w6 _)) (Blk.new w6 27 #[.slice q m d]) (fun h => by have := HSz.out _ h; have := HP6.out.st.size; omega)
      have HMR := Lib.hid hmr
      clear hmr hmine
      go_wp2_with fail
      have hp7 : Pok S w6 (w6.alloc (.cells #[.slice q m d] 27)) := Pok.fut (below_new w6 _)
      refine (spoilM_any S (some ⟨w6.heap.size, 0, none⟩) 1 1 _ (by omega) (by omega) HMR.out).mono ?_
      rintro e w7 ⟨rfl, hp7'⟩
      have hp67 := hp7.trans hp7'
      have HP7 := Lib.hid (HP6.out.trans hp67)
      have HR7 := Lib.hid (HR6.out.pok (txM_keeps S) hp67)
      have HO7 := Lib.hid (HO6.out.pok (outM_keeps S) hp67)
      have HI7 := Lib.hid (HI6.out.pok (inM_keeps S) hp67)
      have HT7 := Lib.hid (HT6.out.stays hp67.st HSk.out)
      have HB7 := Lib.hid (HB6.out.stays hp67.st HS6.out)
      have HWV7 := Lib.hid (HWV6.out.pok (textM_keeps S) hp67)
      clear hp67 hp7 hp7' HP6 HR6 HO6 HI6 HT6 HB6 HWV6 HMR c33
      have c35 := HB7.out.cell 35
      rw [List.getElem?_toArray, K35.out] at c35
      go_wp2_with fail
      refine (spoilM_any S pw nw cw _ hnwc hcwm HWV7.out.mine).mono ?_
      rintro e w8 ⟨rfl, hp8⟩
      have HP8 := Lib.hid (HP7.out.trans hp8)
      have HR8 := Lib.hid (HR7.out.pok (txM_keeps S) hp8)
      have HO8 := Lib.hid (HO7.out.pok (outM_keeps S) hp8)
      have HI8 := Lib.hid (HI7.out.pok (inM_keeps S) hp8)
      have HT8 := Lib.hid (HT7.out.stays hp8.st HSk.out)
      clear hp8 HP7 HR7 HO7 HI7 HT7 HB7 HWV7 c35
      go_wp2_with fail
      go_roundw
      case rel => exact ⟨j + 1, by omega, by go_num, HP8, HR8, HO8, HT8, HI8⟩
      case measure => simp [intOf]; omega
end Go.Proofs.Ythglocpbdfcfnaa
