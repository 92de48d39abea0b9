/- sporranref10.reader.fields, by kinds: the walks.  -/
import Derived.Test.YtndobjlodpkknaaAMsgL
namespace Go.Proofs.Ytndobjlodpkknaa
open Go Go.RowKit
set_option linter.unusedVariables false
theorem one_none {s : Bs} {er : Int} (h : s.length = 0) : Step oneZ er s () er s := by
  have e : s = [] := List.eq_nil_of_length_eq_zero h
  subst e
  by_cases he : er = 0
  · rw [he]; exact Step.ok rfl
  · exact Step.bad he
set_option maxRecDepth 100000 in
set_option maxHeartbeats 8000000 in
theorem qfields_k1 (D B g z : Nat) (hD : D ≤ B ∧ D ≤ z) (hB : g < B ∧ z < B) (w : World) (s : Bs) (hr : MRd 70 D B g w 0 s) (hm : Blk w z 38 (msgZ 1).toArray) :
    Calls Try.prog 22 #[.pointer (some ⟨g, 0, none⟩), .pointer (some ⟨z, 0, none⟩)] w (FldP 70 D B g z w (fieldsZ 1) s) := by
  have HS0 : Hid (VSt 70 D B g z w w 0 s (msgCells (.int .i64 1) (u32 0#32) (u64 0#64) noHash noHash (.slice none 0 0) (.slice none 0 0) (.slice none 0 0) ZBlk)) := Lib.hid ⟨by decide, hr, hm, Stays.refl _ _⟩
  have cz : w.cell? ⟨z, 0, none⟩ = some (.int .i64 1) := by have := hm.cell 0; rw [List.getElem?_toArray] at this; exact this
  clear hr hm
  go_enter Try.func22, Try.ntmps22
  go_wp2_with fail
  clear cz
  refine (qNum4_any D B g w 0 s HS0.out.rd).mono ?_
  rintro e W1 ⟨vv1, a1, er1, r1, rfl, rfl, HR1, HT1a, HT1⟩
  have HS1 := Lib.hid (HS0.out.call HR1.out HT1a.out)
  clear HS0 HR1
  have MA := HS1.out.ms.msg noHash_len noHash_len
  have cz := MA.c1
  have fz := HS1.out.ms.frozen 1
  clear MA
  go_upto_region 3 with fail
  have hstz := Stays.set W1 z 1 (.int .u32 (iv32 (a1.setWidth 32)))
  have hsp : ∀ Ts, 38 ∉ Ts → Sep B Ts W1 (· = z) := fun Ts hT => sep_one HS1.out.ms hT
  have HS3 : Hid (VSt 70 D B g z w (W1.setCell ⟨z, 1, none⟩ (.int .u32 (iv32 (a1.setWidth 32)))) er1 r1 (msgCells (.int .i64 1) (.int .u32 (iv32 (a1.setWidth 32))) (u64 0#64) noHash noHash (.slice none 0 0) (.slice none 0 0) (.slice none 0 0) ZBlk)) := Lib.hid (HS1.out.put hD.2 (by have h := HS1.out.ms.set 1 (.int .u32 (iv32 (a1.setWidth 32))); rw [msg_set1 _ _ _ _ _ _ _ _ _] at h; exact h) hstz)
  clear HS1 cz fz hstz hsp
  generalize W1.setCell ⟨z, 1, none⟩ (.int .u32 (iv32 (a1.setWidth 32))) = W3 at *
  go_wp2_with fail
  refine (qTake_any D B g 68 (by omega) W3 er1 r1 HS3.out.rd).mono ?_
  rintro e W5 ⟨vv5, a5, er5, r5, rfl, ⟨hd5, hl5⟩, HR5, HT5a, HT5⟩
  have HS5 := Lib.hid (HS3.out.call HR5.out HT5a.out)
  clear HS3 HR5
  clear hd5 hl5
  go_wp2_with fail
  refine (qTake_any D B g 8 (by omega) W5 er5 r5 HS5.out.rd).mono ?_
  rintro e W7 ⟨vv7, a7, er7, r7, rfl, ⟨hd7, hl7⟩, HR7, HT7a, HT7⟩
  have HS7 := Lib.hid (HS5.out.call HR7.out HT7a.out)
  clear HS5 HR7
  obtain ⟨pn, mn, cn, rfl, hmn, _, _, hrn, _⟩ := hd7.open
  have hnum := number_any pn mn cn a7 W7 hrn hmn (by omega)
  obtain rfl : mn = 8 := by omega
  obtain ⟨no, hno⟩ : ∃ x, x = numTo a7 8 := ⟨_, rfl⟩
  rw [← hno] at hnum
  have HNO : Hid (Step (numZ 8) er5 r5 no er7 r7) := Lib.hid (by rw [hno]; exact HT7.out.bind (Step.ret _ _ _))
  clear hd7 hl7 hmn hrn hno HT7
  go_wp2_with fail
  refine hnum.mono ?_
  rintro e wq ⟨rfl, hw⟩
  replace hw := hw.symm
  subst hw
  clear hnum
  have MA := HS7.out.ms.msg noHash_len noHash_len
  have cz := MA.c2
  have fz := HS7.out.ms.frozen 2
  clear MA
  go_upto_region 5 with fail
  have hstz := Stays.set W7 z 2 (.int .u64 (iv64 no))
  have hsp : ∀ Ts, 38 ∉ Ts → Sep B Ts W7 (· = z) := fun Ts hT => sep_one HS7.out.ms hT
  have HS9 : Hid (VSt 70 D B g z w (W7.setCell ⟨z, 2, none⟩ (.int .u64 (iv64 no))) er7 r7 (msgCells (.int .i64 1) (.int .u32 (iv32 (a1.setWidth 32))) (.int .u64 (iv64 no)) noHash noHash (.slice none 0 0) (.slice none 0 0) (.slice none 0 0) ZBlk)) := Lib.hid (HS7.out.put hD.2 (by have h := HS7.out.ms.set 2 (.int .u64 (iv64 no)); rw [msg_set2 _ _ _ _ _ _ _ _ _] at h; exact h) hstz)
  clear HS7 cz fz hstz hsp
  generalize W7.setCell ⟨z, 2, none⟩ (.int .u64 (iv64 no)) = W9 at *
  go_wp2_with fail
  refine (qText_any D B g 256 (by omega) W9 er7 r7 HS9.out.rd).mono ?_
  rintro e W11 ⟨vv11, a11, er11, r11, rfl, ho11, HR11, HT11a, HT11⟩
  have HS11 := Lib.hid (HS9.out.call HR11.out HT11a.out)
  clear HS9 HR11
  clear ho11
  go_wp2_with fail
  refine (qTake_any D B g 4 (by omega) W11 er11 r11 HS11.out.rd).mono ?_
  rintro e W13 ⟨vv13, a13, er13, r13, rfl, ⟨hd13, hl13⟩, HR13, HT13a, HT13⟩
  have HS13 := Lib.hid (HS11.out.call HR13.out HT13a.out)
  clear HS11 HR13
  clear hd13 hl13
  go_upto_region 7 with fail
  obtain ⟨vr, x1, x2, x3, x4, x5⟩ := HS13.out.rd
  obtain ⟨pr, nr, cr, rfl, hnr, _⟩ := x2.open
  obtain ⟨d0, d1, f0, f1⟩ := cell2 x1
  have HNR := Lib.hid hnr
  clear x1 x2 x3 x4 x5 hnr
  by_cases hn0 : nr = 0
  · have hgt : ¬ (0 : Int) < (nr : Int) := by omega
    have HO : Hid (Step oneZ er13 r13 () er13 r13) := Lib.hid (one_none (by rw [HNR.out]; exact hn0))
    clear hn0
    go_wp2_with fail
    first | go_end0 | refine bodyPost_ret (results_none rfl _ _ _) rfl ?_
    exact ⟨rfl, { noMsg with k := 1, nu := a1.setWidth 32, no := no }, _, _, _, Lib.hid HS13.out.rd, Lib.hid HS13.out.ms, Lib.hid (⟨_, _, _, _, rfl, noHash_len, noHash_len, RowO.nil _ _ _ _ _, RowO.nil _ _ _ _ _, Own8.nil _ _, ⟨.slice none 0 0, rfl, noHdr_ok, RowO.nil _ _ _ _ _⟩⟩), Lib.hid HS13.out.st, Lib.hid (by rw [fz1]; exact (HT1.out).bind ((HT5.out).bind ((HNO.out).bind ((HT11.out).bind ((HT13.out).bind ((HO.out).bind (Step.ret _ _ _)))))))⟩
  · have hgt : (0 : Int) < (nr : Int) := by omega
    have HN1 := Lib.hid hn0
    clear hn0
    go_wp2_with fail
    refine (qTake_any D B g 1 (by omega) W13 er13 r13 HS13.out.rd).mono ?_
    rintro e W15 ⟨vv15, a15, er15, r15, rfl, ⟨hd15, hl15⟩, HR15, HT15a, HT15⟩
    have HS15 := Lib.hid (HS13.out.call HR15.out HT15a.out)
    clear HS13 HR15
    clear hd15 hl15
    have HO := Lib.hid (take_one (n := nr) HNR.out (a := a15) (by rw [show min nr 1 = 1 by have := HN1.out; omega]; exact HT15.out))
    clear HT15
    go_wp2_with fail
    first | go_end0 | refine bodyPost_ret (results_none rfl _ _ _) rfl ?_
    exact ⟨rfl, { noMsg with k := 1, nu := a1.setWidth 32, no := no }, _, _, _, Lib.hid HS15.out.rd, Lib.hid HS15.out.ms, Lib.hid (⟨_, _, _, _, rfl, noHash_len, noHash_len, RowO.nil _ _ _ _ _, RowO.nil _ _ _ _ _, Own8.nil _ _, ⟨.slice none 0 0, rfl, noHdr_ok, RowO.nil _ _ _ _ _⟩⟩), Lib.hid HS15.out.st, Lib.hid (by rw [fz1]; exact (HT1.out).bind ((HT5.out).bind ((HNO.out).bind ((HT11.out).bind ((HT13.out).bind ((HO.out).bind (Step.ret _ _ _)))))))⟩
set_option maxRecDepth 100000 in
set_option maxHeartbeats 8000000 in
theorem qfields_k2 (D B g z : Nat) (hD : D ≤ B ∧ D ≤ z) (hB : g < B ∧ z < B) (w : World) (s : Bs) (hr : MRd 70 D B g w 0 s) (hm : Blk w z 38 (msgZ 2).toArray) :
    Calls Try.prog 22 #[.pointer (some ⟨g, 0, none⟩), .pointer (some ⟨z, 0, none⟩)] w (FldP 70 D B g z w (fieldsZ 2) s) := by
  have HS0 : Hid (VSt 70 D B g z w w 0 s (msgCells (.int .i64 2) (u32 0#32) (u64 0#64) noHash noHash (.slice none 0 0) (.slice none 0 0) (.slice none 0 0) ZBlk)) := Lib.hid ⟨by decide, hr, hm, Stays.refl _ _⟩
  have cz : w.cell? ⟨z, 0, none⟩ = some (.int .i64 2) := by have := hm.cell 0; rw [List.getElem?_toArray] at this; exact this
  clear hr hm
  go_enter Try.func22, Try.ntmps22
  go_wp2_with fail
  first | go_end0 | refine bodyPost_ret (results_none rfl _ _ _) rfl ?_
  exact ⟨rfl, { noMsg with k := 2 }, _, _, _, Lib.hid HS0.out.rd, Lib.hid HS0.out.ms, Lib.hid (⟨_, _, _, _, rfl, noHash_len, noHash_len, RowO.nil _ _ _ _ _, RowO.nil _ _ _ _ _, Own8.nil _ _, ⟨.slice none 0 0, rfl, noHdr_ok, RowO.nil _ _ _ _ _⟩⟩), Lib.hid HS0.out.st, Lib.hid (by rw [show fieldsZ 2 = Pz.ret { noMsg with k := 2 } from rfl]; exact Step.ret _ _ _)⟩
set_option maxRecDepth 100000 in
set_option maxHeartbeats 8000000 in
theorem qfields_k3 (D B g z : Nat) (hD : D ≤ B ∧ D ≤ z) (hB : g < B ∧ z < B) (w : World) (s : Bs) (hr : MRd 70 D B g w 0 s) (hm : Blk w z 38 (msgZ 3).toArray) :
    Calls Try.prog 22 #[.pointer (some ⟨g, 0, none⟩), .pointer (some ⟨z, 0, none⟩)] w (FldP 70 D B g z w (fieldsZ 3) s) := by
  have HS0 : Hid (VSt 70 D B g z w w 0 s (msgCells (.int .i64 3) (u32 0#32) (u64 0#64) noHash noHash (.slice none 0 0) (.slice none 0 0) (.slice none 0 0) ZBlk)) := Lib.hid ⟨by decide, hr, hm, Stays.refl _ _⟩
  have cz : w.cell? ⟨z, 0, none⟩ = some (.int .i64 3) := by have := hm.cell 0; rw [List.getElem?_toArray] at this; exact this
  clear hr hm
  go_enter Try.func22, Try.ntmps22
  go_wp2_with fail
  clear cz
  refine (qTake_any D B g 8 (by omega) w 0 s HS0.out.rd).mono ?_
  rintro e W17 ⟨vv17, a17, er17, r17, rfl, ⟨hd17, hl17⟩, HR17, HT17a, HT17⟩
  have HS17 := Lib.hid (HS0.out.call HR17.out HT17a.out)
  clear HS0 HR17
  obtain ⟨pn, mn, cn, rfl, hmn, _, _, hrn, _⟩ := hd17.open
  have hnum := number_any pn mn cn a17 W17 hrn hmn (by omega)
  obtain rfl : mn = 8 := by omega
  obtain ⟨no, hno⟩ : ∃ x, x = numTo a17 8 := ⟨_, rfl⟩
  rw [← hno] at hnum
  have HNO : Hid (Step (numZ 8) 0 s no er17 r17) := Lib.hid (by rw [hno]; exact HT17.out.bind (Step.ret _ _ _))
  clear hd17 hl17 hmn hrn hno HT17
  go_wp2_with fail
  refine hnum.mono ?_
  rintro e wq ⟨rfl, hw⟩
  replace hw := hw.symm
  subst hw
  clear hnum
  have MA := HS17.out.ms.msg noHash_len noHash_len
  have cz := MA.c2
  have fz := HS17.out.ms.frozen 2
  clear MA
  go_wp2_with fail
  have hstz := Stays.set W17 z 2 (.int .u64 (iv64 no))
  have hsp : ∀ Ts, 38 ∉ Ts → Sep B Ts W17 (· = z) := fun Ts hT => sep_one HS17.out.ms hT
  have HS19 : Hid (VSt 70 D B g z w (W17.setCell ⟨z, 2, none⟩ (.int .u64 (iv64 no))) er17 r17 (msgCells (.int .i64 3) (u32 0#32) (.int .u64 (iv64 no)) noHash noHash (.slice none 0 0) (.slice none 0 0) (.slice none 0 0) ZBlk)) := Lib.hid (HS17.out.put hD.2 (by have h := HS17.out.ms.set 2 (.int .u64 (iv64 no)); rw [msg_set2 _ _ _ _ _ _ _ _ _] at h; exact h) hstz)
  clear HS17 cz fz hstz hsp
  generalize W17.setCell ⟨z, 2, none⟩ (.int .u64 (iv64 no)) = W19 at *
  first | go_end0 | refine bodyPost_ret (results_none rfl _ _ _) rfl ?_
  exact ⟨rfl, { noMsg with k := 3, no := no }, _, _, _, Lib.hid HS19.out.rd, Lib.hid HS19.out.ms, Lib.hid (⟨_, _, _, _, rfl, noHash_len, noHash_len, RowO.nil _ _ _ _ _, RowO.nil _ _ _ _ _, Own8.nil _ _, ⟨.slice none 0 0, rfl, noHdr_ok, RowO.nil _ _ _ _ _⟩⟩), Lib.hid HS19.out.st, Lib.hid (by rw [fz3]; exact (HNO.out).bind (Step.ret _ _ _))⟩
set_option maxRecDepth 100000 in
set_option maxHeartbeats 8000000 in
theorem qfields_k4 (D B g z : Nat) (hD : D ≤ B ∧ D ≤ z) (hB : g < B ∧ z < B) (w : World) (s : Bs) (hr : MRd 70 D B g w 0 s) (hm : Blk w z 38 (msgZ 4).toArray) :
    Calls Try.prog 22 #[.pointer (some ⟨g, 0, none⟩), .pointer (some ⟨z, 0, none⟩)] w (FldP 70 D B g z w (fieldsZ 4) s) := by
  have HS0 : Hid (VSt 70 D B g z w w 0 s (msgCells (.int .i64 4) (u32 0#32) (u64 0#64) noHash noHash (.slice none 0 0) (.slice none 0 0) (.slice none 0 0) ZBlk)) := Lib.hid ⟨by decide, hr, hm, Stays.refl _ _⟩
  have cz : w.cell? ⟨z, 0, none⟩ = some (.int .i64 4) := by have := hm.cell 0; rw [List.getElem?_toArray] at this; exact this
  clear hr hm
  go_enter Try.func22, Try.ntmps22
  go_wp2_with fail
  clear cz
  refine (qTake_any D B g 8 (by omega) w 0 s HS0.out.rd).mono ?_
  rintro e W21 ⟨vv21, a21, er21, r21, rfl, ⟨hd21, hl21⟩, HR21, HT21a, HT21⟩
  have HS21 := Lib.hid (HS0.out.call HR21.out HT21a.out)
  clear HS0 HR21
  obtain ⟨pn, mn, cn, rfl, hmn, _, _, hrn, _⟩ := hd21.open
  have hnum := number_any pn mn cn a21 W21 hrn hmn (by omega)
  obtain rfl : mn = 8 := by omega
  obtain ⟨no, hno⟩ : ∃ x, x = numTo a21 8 := ⟨_, rfl⟩
  rw [← hno] at hnum
  have HNO : Hid (Step (numZ 8) 0 s no er21 r21) := Lib.hid (by rw [hno]; exact HT21.out.bind (Step.ret _ _ _))
  clear hd21 hl21 hmn hrn hno HT21
  go_wp2_with fail
  refine hnum.mono ?_
  rintro e wq ⟨rfl, hw⟩
  replace hw := hw.symm
  subst hw
  clear hnum
  have MA := HS21.out.ms.msg noHash_len noHash_len
  have cz := MA.c2
  have fz := HS21.out.ms.frozen 2
  clear MA
  go_wp2_with fail
  have hstz := Stays.set W21 z 2 (.int .u64 (iv64 no))
  have hsp : ∀ Ts, 38 ∉ Ts → Sep B Ts W21 (· = z) := fun Ts hT => sep_one HS21.out.ms hT
  have HS23 : Hid (VSt 70 D B g z w (W21.setCell ⟨z, 2, none⟩ (.int .u64 (iv64 no))) er21 r21 (msgCells (.int .i64 4) (u32 0#32) (.int .u64 (iv64 no)) noHash noHash (.slice none 0 0) (.slice none 0 0) (.slice none 0 0) ZBlk)) := Lib.hid (HS21.out.put hD.2 (by have h := HS21.out.ms.set 2 (.int .u64 (iv64 no)); rw [msg_set2 _ _ _ _ _ _ _ _ _] at h; exact h) hstz)
  clear HS21 cz fz hstz hsp
  generalize W21.setCell ⟨z, 2, none⟩ (.int .u64 (iv64 no)) = W23 at *
  first | go_end0 | refine bodyPost_ret (results_none rfl _ _ _) rfl ?_
  exact ⟨rfl, { noMsg with k := 4, no := no }, _, _, _, Lib.hid HS23.out.rd, Lib.hid HS23.out.ms, Lib.hid (⟨_, _, _, _, rfl, noHash_len, noHash_len, RowO.nil _ _ _ _ _, RowO.nil _ _ _ _ _, Own8.nil _ _, ⟨.slice none 0 0, rfl, noHdr_ok, RowO.nil _ _ _ _ _⟩⟩), Lib.hid HS23.out.st, Lib.hid (by rw [fz4]; exact (HNO.out).bind (Step.ret _ _ _))⟩
set_option maxRecDepth 100000 in
set_option maxHeartbeats 8000000 in
theorem qfields_k5 (D B g z : Nat) (hD : D ≤ B ∧ D ≤ z) (hB : g < B ∧ z < B) (w : World) (s : Bs) (hr : MRd 70 D B g w 0 s) (hm : Blk w z 38 (msgZ 5).toArray) :
    Calls Try.prog 22 #[.pointer (some ⟨g, 0, none⟩), .pointer (some ⟨z, 0, none⟩)] w (FldP 70 D B g z w (fieldsZ 5) s) := by
  have HS0 : Hid (VSt 70 D B g z w w 0 s (msgCells (.int .i64 5) (u32 0#32) (u64 0#64) noHash noHash (.slice none 0 0) (.slice none 0 0) (.slice none 0 0) ZBlk)) := Lib.hid ⟨by decide, hr, hm, Stays.refl _ _⟩
  have cz : w.cell? ⟨z, 0, none⟩ = some (.int .i64 5) := by have := hm.cell 0; rw [List.getElem?_toArray] at this; exact this
  clear hr hm
  go_enter Try.func22, Try.ntmps22
  go_wp2_with fail
  clear cz
  refine (qNum4_any D B g w 0 s HS0.out.rd).mono ?_
  rintro e W25 ⟨vv25, a25, er25, r25, rfl, rfl, HR25, HT25a, HT25⟩
  have HS25 := Lib.hid (HS0.out.call HR25.out HT25a.out)
  clear HS0 HR25
  have MA := HS25.out.ms.msg noHash_len noHash_len
  have cz := MA.c1
  have fz := HS25.out.ms.frozen 1
  clear MA
  go_upto_region 14 with fail
  have hstz := Stays.set W25 z 1 (.int .u32 (iv32 (a25.setWidth 32)))
  have hsp : ∀ Ts, 38 ∉ Ts → Sep B Ts W25 (· = z) := fun Ts hT => sep_one HS25.out.ms hT
  have HS27 : Hid (VSt 70 D B g z w (W25.setCell ⟨z, 1, none⟩ (.int .u32 (iv32 (a25.setWidth 32)))) er25 r25 (msgCells (.int .i64 5) (.int .u32 (iv32 (a25.setWidth 32))) (u64 0#64) noHash noHash (.slice none 0 0) (.slice none 0 0) (.slice none 0 0) ZBlk)) := Lib.hid (HS25.out.put hD.2 (by have h := HS25.out.ms.set 1 (.int .u32 (iv32 (a25.setWidth 32))); rw [msg_set1 _ _ _ _ _ _ _ _ _] at h; exact h) hstz)
  clear HS25 cz fz hstz hsp
  generalize W25.setCell ⟨z, 1, none⟩ (.int .u32 (iv32 (a25.setWidth 32))) = W27 at *
  go_wp2_with fail
  refine (qList_any D B g 101 hD.1 (by omega) W27 er25 r25 none 0 0 [] HS27.out.rd (AheadB.nil _) rfl (by simp)).mono ?_
  rintro e W29 ⟨vv29, a29, er29, r29, rfl, hv29, HR29, HT29a, HT29⟩
  have HS29 := Lib.hid (HS27.out.call HR29.out HT29a.out)
  clear HS27 HR29
  have HV29 := Lib.hid hv29
  clear hv29
  obtain ⟨ph29, nh29, ch29, rfl⟩ := HV29.out.opens
  have MA := HS29.out.ms.msg noHash_len noHash_len
  have cz := MA.c67
  have fz := HS29.out.ms.frozen 67
  clear MA
  go_upto_region 15 with fail
  have hstz := Stays.set W29 z 67 (Value.slice ph29 nh29 ch29)
  have hsp : ∀ Ts, 38 ∉ Ts → Sep B Ts W29 (· = z) := fun Ts hT => sep_one HS29.out.ms hT
  have HS31 : Hid (VSt 70 D B g z w (W29.setCell ⟨z, 67, none⟩ (Value.slice ph29 nh29 ch29)) er29 r29 (msgCells (.int .i64 5) (.int .u32 (iv32 (a25.setWidth 32))) (u64 0#64) noHash noHash (Value.slice ph29 nh29 ch29) (.slice none 0 0) (.slice none 0 0) ZBlk)) := Lib.hid (HS29.out.put hD.2 (by have h := HS29.out.ms.set 67 (Value.slice ph29 nh29 ch29); rw [msg_set67 _ _ _ _ _ _ _ noHash_len noHash_len] at h; exact h) hstz)
  have HV29_32 := Lib.hid (HV29.out.sep (hashE_keeps _) hstz (hsp _ (by decide)))
  clear HV29
  clear HS29 cz fz hstz hsp
  generalize W29.setCell ⟨z, 67, none⟩ (Value.slice ph29 nh29 ch29) = W31 at *
  go_wp2_with fail
  refine (qHash_any D B g hD.1 W31 er29 r29 HS31.out.rd).mono ?_
  rintro e W33 ⟨vv33, a33, er33, r33, rfl, ⟨rfl, hl33⟩, HR33, HT33a, HT33⟩
  have HV29_34 := Lib.hid (HV29_32.out.sep (hashE_keeps _) HT33a.out (Sep.low fun k hk => by have : k = g := hk; omega))
  clear HV29_32
  have HS33 := Lib.hid (HS31.out.call HR33.out HT33a.out)
  clear HS31 HR33
  have HL33 := Lib.hid hl33
  clear hl33
  go_wp2_with ((with_reducible refine wp_store_in (op := ⟨none, _, _, _, _, _⟩) ?_ 29 (.tmp 60) (.tmp 58) ?_ (z) (35) (hCells a33) ?_ ?_ 38 ((msgCells (.int .i64 5) (.int .u32 (iv32 (a25.setWidth 32))) (u64 0#64) noHash noHash (Value.slice ph29 nh29 ch29) (.slice none 0 0) (.slice none 0 0) ZBlk).toArray) (HS33.out.ms) ?_ ?_ ?_ ?_
                · rfl
                · rfl
                · rfl
                · rfl
                · rw [msgCells_size _ _ _ _ _ _ noHash_len noHash_len rfl, hCells_len32 HL33.out]; omega
                · exact (hCells_info' HL33.out)
                · exact (hCells_one _)
                intro W35 hm35 hg35))
  try simp only [put_none]
  have hstz := Stays.of_grown (S := fun k => k = z) hg35.out (fun k h => by injection h with h; exact h.symm)
  have hsp : ∀ Ts, 38 ∉ Ts → Sep B Ts W33 (· = z) := fun Ts hT => sep_one HS33.out.ms hT
  have HS35 : Hid (VSt 70 D B g z w W35 er33 r33 (msgCells (.int .i64 5) (.int .u32 (iv32 (a25.setWidth 32))) (u64 0#64) noHash a33 (Value.slice ph29 nh29 ch29) (.slice none 0 0) (.slice none 0 0) ZBlk)) := Lib.hid (HS33.out.put hD.2 (by have h := hm35.out; rw [msg_set35 _ _ _ _ _ _ _ noHash_len noHash_len HL33.out] at h; exact h) hstz)
  have HV29_36 := Lib.hid (HV29_34.out.sep (hashE_keeps _) hstz (hsp _ (by decide)))
  clear HV29_34
  clear HS33 hstz hsp hm35 hg35
  first | go_end0 | refine bodyPost_ret (results_none rfl _ _ _) rfl ?_
  exact ⟨rfl, { noMsg with k := 5, nu := a25.setWidth 32, hs := a29, st := a33 }, _, _, _, Lib.hid HS35.out.rd, Lib.hid HS35.out.ms, Lib.hid (⟨_, _, _, _, rfl, noHash_len, HL33.out, HV29_36.out, RowO.nil _ _ _ _ _, Own8.nil _ _, ⟨.slice none 0 0, rfl, noHdr_ok, RowO.nil _ _ _ _ _⟩⟩), Lib.hid HS35.out.st, Lib.hid (by rw [fz5]; exact (HT25.out).bind ((HT29.out).bind ((HT33.out).bind (Step.ret _ _ _))))⟩
set_option maxRecDepth 100000 in
set_option maxHeartbeats 8000000 in
theorem qfields_k6 (D B g z : Nat) (hD : D ≤ B ∧ D ≤ z) (hB : g < B ∧ z < B) (w : World) (s : Bs) (hr : MRd 70 D B g w 0 s) (hm : Blk w z 38 (msgZ 6).toArray) :
    Calls Try.prog 22 #[.pointer (some ⟨g, 0, none⟩), .pointer (some ⟨z, 0, none⟩)] w (FldP 70 D B g z w (fieldsZ 6) s) := by
  have HS0 : Hid (VSt 70 D B g z w w 0 s (msgCells (.int .i64 6) (u32 0#32) (u64 0#64) noHash noHash (.slice none 0 0) (.slice none 0 0) (.slice none 0 0) ZBlk)) := Lib.hid ⟨by decide, hr, hm, Stays.refl _ _⟩
  have cz : w.cell? ⟨z, 0, none⟩ = some (.int .i64 6) := by have := hm.cell 0; rw [List.getElem?_toArray] at this; exact this
  clear hr hm
  go_enter Try.func22, Try.ntmps22
  go_wp2_with fail
  clear cz
  refine (qHdrs_any D B g hD.1 w 0 s HS0.out.rd).mono ?_
  rintro e W37 ⟨vv37, a37, er37, r37, rfl, hv37, HR37, HT37a, HT37⟩
  have HS37 := Lib.hid (HS0.out.call HR37.out HT37a.out)
  clear HS0 HR37
  have HV37 := Lib.hid hv37
  clear hv37
  obtain ⟨ph37, nh37, ch37, rfl⟩ := HV37.out.opens
  have MA := HS37.out.ms.msg noHash_len noHash_len
  have cz := MA.c68
  have fz := HS37.out.ms.frozen 68
  clear MA
  go_wp2_with fail
  have hstz := Stays.set W37 z 68 (Value.slice ph37 nh37 ch37)
  have hsp : ∀ Ts, 38 ∉ Ts → Sep B Ts W37 (· = z) := fun Ts hT => sep_one HS37.out.ms hT
  have HS39 : Hid (VSt 70 D B g z w (W37.setCell ⟨z, 68, none⟩ (Value.slice ph37 nh37 ch37)) er37 r37 (msgCells (.int .i64 6) (u32 0#32) (u64 0#64) noHash noHash (.slice none 0 0) (Value.slice ph37 nh37 ch37) (.slice none 0 0) ZBlk)) := Lib.hid (HS37.out.put hD.2 (by have h := HS37.out.ms.set 68 (Value.slice ph37 nh37 ch37); rw [msg_set68 _ _ _ _ _ _ _ noHash_len noHash_len] at h; exact h) hstz)
  have HV37_40 := Lib.hid (HV37.out.sep (hdrE_keeps _) hstz (hsp _ (by decide)))
  clear HV37
  clear HS37 cz fz hstz hsp
  generalize W37.setCell ⟨z, 68, none⟩ (Value.slice ph37 nh37 ch37) = W39 at *
  first | go_end0 | refine bodyPost_ret (results_none rfl _ _ _) rfl ?_
  exact ⟨rfl, { noMsg with k := 6, hd := a37 }, _, _, _, Lib.hid HS39.out.rd, Lib.hid HS39.out.ms, Lib.hid (⟨_, _, _, _, rfl, noHash_len, noHash_len, RowO.nil _ _ _ _ _, HV37_40.out, Own8.nil _ _, ⟨.slice none 0 0, rfl, noHdr_ok, RowO.nil _ _ _ _ _⟩⟩), Lib.hid HS39.out.st, Lib.hid (by rw [fz6]; exact (HT37.out).bind (Step.ret _ _ _))⟩
set_option maxRecDepth 100000 in
set_option maxHeartbeats 8000000 in
theorem qfields_k7 (D B g z : Nat) (hD : D ≤ B ∧ D ≤ z) (hB : g < B ∧ z < B) (w : World) (s : Bs) (hr : MRd 70 D B g w 0 s) (hm : Blk w z 38 (msgZ 7).toArray) :
    Calls Try.prog 22 #[.pointer (some ⟨g, 0, none⟩), .pointer (some ⟨z, 0, none⟩)] w (FldP 70 D B g z w (fieldsZ 7) s) := by
  have HS0 : Hid (VSt 70 D B g z w w 0 s (msgCells (.int .i64 7) (u32 0#32) (u64 0#64) noHash noHash (.slice none 0 0) (.slice none 0 0) (.slice none 0 0) ZBlk)) := Lib.hid ⟨by decide, hr, hm, Stays.refl _ _⟩
  have cz : w.cell? ⟨z, 0, none⟩ = some (.int .i64 7) := by have := hm.cell 0; rw [List.getElem?_toArray] at this; exact this
  clear hr hm
  go_enter Try.func22, Try.ntmps22
  have hnb := below_new w (.cells #[.int .u8 (iv8 0#8)] 5)
  have hrow := new_one w 0#8
  have hgl : g < w.heap.size := by have := HS0.out.rd.gB; omega
  have hstd : Stays (fun _ => False) w (w.alloc (.cells #[.int .u8 (iv8 0#8)] 5)) := Stays.of_below hnb (Nat.le_refl _) _
  have HS41 := Lib.hid (HS0.out.fut hnb)
  have hth := qMust_any D B g _ 0 s _ 1 1 [0#8] HS41.out.rd rfl (by omega) hrow (fun _ x hx e => by injection hx with hx; rw [← hx] at e; simp only at e; omega)
  clear HS0 hnb hrow hgl hstd
  go_wp2_with fail
  clear cz
  refine hth.mono ?_
  rintro e W43 ⟨rfl, er43, r43, HR43, HT43a, HT43⟩
  have HS43 := Lib.hid (HS41.out.call HR43.out HT43a.out)
  clear HS41 HR43 hth
  go_wp2_with fail
  refine (qNum4_any D B g W43 er43 r43 HS43.out.rd).mono ?_
  rintro e W45 ⟨vv45, a45, er45, r45, rfl, rfl, HR45, HT45a, HT45⟩
  have HS45 := Lib.hid (HS43.out.call HR45.out HT45a.out)
  clear HS43 HR45
  have MA := HS45.out.ms.msg noHash_len noHash_len
  have cz := MA.c1
  have fz := HS45.out.ms.frozen 1
  clear MA
  go_upto_region 22 with fail
  have hstz := Stays.set W45 z 1 (.int .u32 (iv32 (a45.setWidth 32)))
  have hsp : ∀ Ts, 38 ∉ Ts → Sep B Ts W45 (· = z) := fun Ts hT => sep_one HS45.out.ms hT
  have HS47 : Hid (VSt 70 D B g z w (W45.setCell ⟨z, 1, none⟩ (.int .u32 (iv32 (a45.setWidth 32)))) er45 r45 (msgCells (.int .i64 7) (.int .u32 (iv32 (a45.setWidth 32))) (u64 0#64) noHash noHash (.slice none 0 0) (.slice none 0 0) (.slice none 0 0) ZBlk)) := Lib.hid (HS45.out.put hD.2 (by have h := HS45.out.ms.set 1 (.int .u32 (iv32 (a45.setWidth 32))); rw [msg_set1 _ _ _ _ _ _ _ _ _] at h; exact h) hstz)
  clear HS45 cz fz hstz hsp
  generalize W45.setCell ⟨z, 1, none⟩ (.int .u32 (iv32 (a45.setWidth 32))) = W47 at *
  go_wp2_with fail
  refine (qHash_any D B g hD.1 W47 er45 r45 HS47.out.rd).mono ?_
  rintro e W49 ⟨vv49, a49, er49, r49, rfl, ⟨rfl, hl49⟩, HR49, HT49a, HT49⟩
  have HS49 := Lib.hid (HS47.out.call HR49.out HT49a.out)
  clear HS47 HR49
  have HL49 := Lib.hid hl49
  clear hl49
  go_wp2_with ((with_reducible refine wp_store_in (op := ⟨none, _, _, _, _, _⟩) ?_ 29 (.tmp 83) (.tmp 81) ?_ (z) (35) (hCells a49) ?_ ?_ 38 ((msgCells (.int .i64 7) (.int .u32 (iv32 (a45.setWidth 32))) (u64 0#64) noHash noHash (.slice none 0 0) (.slice none 0 0) (.slice none 0 0) ZBlk).toArray) (HS49.out.ms) ?_ ?_ ?_ ?_
                · rfl
                · rfl
                · rfl
                · rfl
                · rw [msgCells_size _ _ _ _ _ _ noHash_len noHash_len rfl, hCells_len32 HL49.out]; omega
                · exact (hCells_info' HL49.out)
                · exact (hCells_one _)
                intro W51 hm51 hg51))
  try simp only [put_none]
  have hstz := Stays.of_grown (S := fun k => k = z) hg51.out (fun k h => by injection h with h; exact h.symm)
  have hsp : ∀ Ts, 38 ∉ Ts → Sep B Ts W49 (· = z) := fun Ts hT => sep_one HS49.out.ms hT
  have HS51 : Hid (VSt 70 D B g z w W51 er49 r49 (msgCells (.int .i64 7) (.int .u32 (iv32 (a45.setWidth 32))) (u64 0#64) noHash a49 (.slice none 0 0) (.slice none 0 0) (.slice none 0 0) ZBlk)) := Lib.hid (HS49.out.put hD.2 (by have h := hm51.out; rw [msg_set35 _ _ _ _ _ _ _ noHash_len noHash_len HL49.out] at h; exact h) hstz)
  clear HS49 hstz hsp hm51 hg51
  first | go_end0 | refine bodyPost_ret (results_none rfl _ _ _) rfl ?_
  exact ⟨rfl, { noMsg with k := 7, nu := a45.setWidth 32, st := a49 }, _, _, _, Lib.hid HS51.out.rd, Lib.hid HS51.out.ms, Lib.hid (⟨_, _, _, _, rfl, noHash_len, HL49.out, RowO.nil _ _ _ _ _, RowO.nil _ _ _ _ _, Own8.nil _ _, ⟨.slice none 0 0, rfl, noHdr_ok, RowO.nil _ _ _ _ _⟩⟩), Lib.hid HS51.out.st, Lib.hid (by rw [fz7]; exact (HT43.out).bind ((HT45.out).bind ((HT49.out).bind (Step.ret _ _ _))))⟩
set_option maxRecDepth 100000 in
set_option maxHeartbeats 8000000 in
theorem qfields_k9 (D B g z : Nat) (hD : D ≤ B ∧ D ≤ z) (hB : g < B ∧ z < B) (w : World) (s : Bs) (hr : MRd 70 D B g w 0 s) (hm : Blk w z 38 (msgZ 9).toArray) :
    Calls Try.prog 22 #[.pointer (some ⟨g, 0, none⟩), .pointer (some ⟨z, 0, none⟩)] w (FldP 70 D B g z w (fieldsZ 9) s) := by
  have HS0 : Hid (VSt 70 D B g z w w 0 s (msgCells (.int .i64 9) (u32 0#32) (u64 0#64) noHash noHash (.slice none 0 0) (.slice none 0 0) (.slice none 0 0) ZBlk)) := Lib.hid ⟨by decide, hr, hm, Stays.refl _ _⟩
  have cz : w.cell? ⟨z, 0, none⟩ = some (.int .i64 9) := by have := hm.cell 0; rw [List.getElem?_toArray] at this; exact this
  clear hr hm
  go_enter Try.func22, Try.ntmps22
  have hnb := below_new w (.cells #[.int .u8 (iv8 0#8)] 5)
  have hrow := new_one w 0#8
  have hgl : g < w.heap.size := by have := HS0.out.rd.gB; omega
  have hstd : Stays (fun _ => False) w (w.alloc (.cells #[.int .u8 (iv8 0#8)] 5)) := Stays.of_below hnb (Nat.le_refl _) _
  have HS53 := Lib.hid (HS0.out.fut hnb)
  have hth := qMust_any D B g _ 0 s _ 1 1 [0#8] HS53.out.rd rfl (by omega) hrow (fun _ x hx e => by injection hx with hx; rw [← hx] at e; simp only at e; omega)
  clear HS0 hnb hrow hgl hstd
  go_wp2_with fail
  clear cz
  refine hth.mono ?_
  rintro e W55 ⟨rfl, er55, r55, HR55, HT55a, HT55⟩
  have HS55 := Lib.hid (HS53.out.call HR55.out HT55a.out)
  clear HS53 HR55 hth
  go_wp2_with fail
  refine (qNum4_any D B g W55 er55 r55 HS55.out.rd).mono ?_
  rintro e W57 ⟨vv57, a57, er57, r57, rfl, rfl, HR57, HT57a, HT57⟩
  have HS57 := Lib.hid (HS55.out.call HR57.out HT57a.out)
  clear HS55 HR57
  have MA := HS57.out.ms.msg noHash_len noHash_len
  have cz := MA.c1
  have fz := HS57.out.ms.frozen 1
  clear MA
  go_upto_region 22 with fail
  have hstz := Stays.set W57 z 1 (.int .u32 (iv32 (a57.setWidth 32)))
  have hsp : ∀ Ts, 38 ∉ Ts → Sep B Ts W57 (· = z) := fun Ts hT => sep_one HS57.out.ms hT
  have HS59 : Hid (VSt 70 D B g z w (W57.setCell ⟨z, 1, none⟩ (.int .u32 (iv32 (a57.setWidth 32)))) er57 r57 (msgCells (.int .i64 9) (.int .u32 (iv32 (a57.setWidth 32))) (u64 0#64) noHash noHash (.slice none 0 0) (.slice none 0 0) (.slice none 0 0) ZBlk)) := Lib.hid (HS57.out.put hD.2 (by have h := HS57.out.ms.set 1 (.int .u32 (iv32 (a57.setWidth 32))); rw [msg_set1 _ _ _ _ _ _ _ _ _] at h; exact h) hstz)
  clear HS57 cz fz hstz hsp
  generalize W57.setCell ⟨z, 1, none⟩ (.int .u32 (iv32 (a57.setWidth 32))) = W59 at *
  go_wp2_with fail
  refine (qHash_any D B g hD.1 W59 er57 r57 HS59.out.rd).mono ?_
  rintro e W61 ⟨vv61, a61, er61, r61, rfl, ⟨rfl, hl61⟩, HR61, HT61a, HT61⟩
  have HS61 := Lib.hid (HS59.out.call HR61.out HT61a.out)
  clear HS59 HR61
  have HL61 := Lib.hid hl61
  clear hl61
  go_wp2_with ((with_reducible refine wp_store_in (op := ⟨none, _, _, _, _, _⟩) ?_ 29 (.tmp 83) (.tmp 81) ?_ (z) (35) (hCells a61) ?_ ?_ 38 ((msgCells (.int .i64 9) (.int .u32 (iv32 (a57.setWidth 32))) (u64 0#64) noHash noHash (.slice none 0 0) (.slice none 0 0) (.slice none 0 0) ZBlk).toArray) (HS61.out.ms) ?_ ?_ ?_ ?_
                · rfl
                · rfl
                · rfl
                · rfl
                · rw [msgCells_size _ _ _ _ _ _ noHash_len noHash_len rfl, hCells_len32 HL61.out]; omega
                · exact (hCells_info' HL61.out)
                · exact (hCells_one _)
                intro W63 hm63 hg63))
  try simp only [put_none]
  have hstz := Stays.of_grown (S := fun k => k = z) hg63.out (fun k h => by injection h with h; exact h.symm)
  have hsp : ∀ Ts, 38 ∉ Ts → Sep B Ts W61 (· = z) := fun Ts hT => sep_one HS61.out.ms hT
  have HS63 : Hid (VSt 70 D B g z w W63 er61 r61 (msgCells (.int .i64 9) (.int .u32 (iv32 (a57.setWidth 32))) (u64 0#64) noHash a61 (.slice none 0 0) (.slice none 0 0) (.slice none 0 0) ZBlk)) := Lib.hid (HS61.out.put hD.2 (by have h := hm63.out; rw [msg_set35 _ _ _ _ _ _ _ noHash_len noHash_len HL61.out] at h; exact h) hstz)
  clear HS61 hstz hsp hm63 hg63
  first | go_end0 | refine bodyPost_ret (results_none rfl _ _ _) rfl ?_
  exact ⟨rfl, { noMsg with k := 9, nu := a57.setWidth 32, st := a61 }, _, _, _, Lib.hid HS63.out.rd, Lib.hid HS63.out.ms, Lib.hid (⟨_, _, _, _, rfl, noHash_len, HL61.out, RowO.nil _ _ _ _ _, RowO.nil _ _ _ _ _, Own8.nil _ _, ⟨.slice none 0 0, rfl, noHdr_ok, RowO.nil _ _ _ _ _⟩⟩), Lib.hid HS63.out.st, Lib.hid (by rw [fz9]; exact (HT55.out).bind ((HT57.out).bind ((HT61.out).bind (Step.ret _ _ _))))⟩
set_option maxRecDepth 100000 in
set_option maxHeartbeats 8000000 in
theorem qfields_k8 (D B g z : Nat) (hD : D ≤ B ∧ D ≤ z) (hB : g < B ∧ z < B) (w : World) (s : Bs) (hr : MRd 70 D B g w 0 s) (hm : Blk w z 38 (msgZ 8).toArray) :
    Calls Try.prog 22 #[.pointer (some ⟨g, 0, none⟩), .pointer (some ⟨z, 0, none⟩)] w (FldP 70 D B g z w (fieldsZ 8) s) := by
  have HS0 : Hid (VSt 70 D B g z w w 0 s (msgCells (.int .i64 8) (u32 0#32) (u64 0#64) noHash noHash (.slice none 0 0) (.slice none 0 0) (.slice none 0 0) ZBlk)) := Lib.hid ⟨by decide, hr, hm, Stays.refl _ _⟩
  have cz : w.cell? ⟨z, 0, none⟩ = some (.int .i64 8) := by have := hm.cell 0; rw [List.getElem?_toArray] at this; exact this
  clear hr hm
  go_enter Try.func22, Try.ntmps22
  have hnb := below_new w (.cells #[.int .u8 (iv8 0#8)] 5)
  have hrow := new_one w 0#8
  have hgl : g < w.heap.size := by have := HS0.out.rd.gB; omega
  have hstd : Stays (fun _ => False) w (w.alloc (.cells #[.int .u8 (iv8 0#8)] 5)) := Stays.of_below hnb (Nat.le_refl _) _
  have HS65 := Lib.hid (HS0.out.fut hnb)
  have hth := qMust_any D B g _ 0 s _ 1 1 [0#8] HS65.out.rd rfl (by omega) hrow (fun _ x hx e => by injection hx with hx; rw [← hx] at e; simp only at e; omega)
  clear HS0 hnb hrow hgl hstd
  go_wp2_with fail
  clear cz
  refine hth.mono ?_
  rintro e W67 ⟨rfl, er67, r67, HR67, HT67a, HT67⟩
  have HS67 := Lib.hid (HS65.out.call HR67.out HT67a.out)
  clear HS65 HR67 hth
  go_wp2_with fail
  refine (qHash_any D B g hD.1 W67 er67 r67 HS67.out.rd).mono ?_
  rintro e W69 ⟨vv69, a69, er69, r69, rfl, ⟨rfl, hl69⟩, HR69, HT69a, HT69⟩
  have HS69 := Lib.hid (HS67.out.call HR69.out HT69a.out)
  clear HS67 HR69
  have HL69 := Lib.hid hl69
  clear hl69
  go_upto_region 26 with ((with_reducible refine wp_store_in (op := ⟨none, _, _, _, _, _⟩) ?_ 29 (.tmp 93) (.tmp 91) ?_ (z) (35) (hCells a69) ?_ ?_ 38 ((msgCells (.int .i64 8) (u32 0#32) (u64 0#64) noHash noHash (.slice none 0 0) (.slice none 0 0) (.slice none 0 0) ZBlk).toArray) (HS69.out.ms) ?_ ?_ ?_ ?_
                           · rfl
                           · rfl
                           · rfl
                           · rfl
                           · rw [msgCells_size _ _ _ _ _ _ noHash_len noHash_len rfl, hCells_len32 HL69.out]; omega
                           · exact (hCells_info' HL69.out)
                           · exact (hCells_one _)
                           intro W71 hm71 hg71))
  try simp only [put_none]
  have hstz := Stays.of_grown (S := fun k => k = z) hg71.out (fun k h => by injection h with h; exact h.symm)
  have hsp : ∀ Ts, 38 ∉ Ts → Sep B Ts W69 (· = z) := fun Ts hT => sep_one HS69.out.ms hT
  have HS71 : Hid (VSt 70 D B g z w W71 er69 r69 (msgCells (.int .i64 8) (u32 0#32) (u64 0#64) noHash a69 (.slice none 0 0) (.slice none 0 0) (.slice none 0 0) ZBlk)) := Lib.hid (HS69.out.put hD.2 (by have h := hm71.out; rw [msg_set35 _ _ _ _ _ _ _ noHash_len noHash_len HL69.out] at h; exact h) hstz)
  clear HS69 hstz hsp hm71 hg71
  go_wp2_with fail
  refine (qHash_any D B g hD.1 W71 er69 r69 HS71.out.rd).mono ?_
  rintro e W73 ⟨vv73, a73, er73, r73, rfl, ⟨rfl, hl73⟩, HR73, HT73a, HT73⟩
  have HS73 := Lib.hid (HS71.out.call HR73.out HT73a.out)
  clear HS71 HR73
  have HL73 := Lib.hid hl73
  clear hl73
  go_upto_region 27 with ((with_reducible refine wp_store_in (op := ⟨none, _, _, _, _, _⟩) ?_ 29 (.tmp 98) (.tmp 96) ?_ (z) (3) (hCells a73) ?_ ?_ 38 ((msgCells (.int .i64 8) (u32 0#32) (u64 0#64) noHash a69 (.slice none 0 0) (.slice none 0 0) (.slice none 0 0) ZBlk).toArray) (HS73.out.ms) ?_ ?_ ?_ ?_
                           · rfl
                           · rfl
                           · rfl
                           · rfl
                           · rw [msgCells_size _ _ _ _ _ _ noHash_len HL69.out rfl, hCells_len32 HL73.out]; omega
                           · exact (hCells_info' HL73.out)
                           · exact (hCells_one _)
                           intro W75 hm75 hg75))
  try simp only [put_none]
  have hstz := Stays.of_grown (S := fun k => k = z) hg75.out (fun k h => by injection h with h; exact h.symm)
  have hsp : ∀ Ts, 38 ∉ Ts → Sep B Ts W73 (· = z) := fun Ts hT => sep_one HS73.out.ms hT
  have HS75 : Hid (VSt 70 D B g z w W75 er73 r73 (msgCells (.int .i64 8) (u32 0#32) (u64 0#64) a73 a69 (.slice none 0 0) (.slice none 0 0) (.slice none 0 0) ZBlk)) := Lib.hid (HS73.out.put hD.2 (by have h := hm75.out; rw [msg_set3 _ _ _ _ _ _ _ _ noHash_len HL73.out] at h; exact h) hstz)
  clear HS73 hstz hsp hm75 hg75
  go_wp2_with fail
  refine (qList_any D B g 2000 hD.1 (by omega) W75 er73 r73 none 0 0 [] HS75.out.rd (AheadB.nil _) rfl (by simp)).mono ?_
  rintro e W77 ⟨vv77, a77, er77, r77, rfl, hv77, HR77, HT77a, HT77⟩
  have HS77 := Lib.hid (HS75.out.call HR77.out HT77a.out)
  clear HS75 HR77
  have HV77 := Lib.hid hv77
  clear hv77
  obtain ⟨ph77, nh77, ch77, rfl⟩ := HV77.out.opens
  have MA := HS77.out.ms.msg HL73.out HL69.out
  have cz := MA.c67
  have fz := HS77.out.ms.frozen 67
  clear MA
  go_wp2_with fail
  have hstz := Stays.set W77 z 67 (Value.slice ph77 nh77 ch77)
  have hsp : ∀ Ts, 38 ∉ Ts → Sep B Ts W77 (· = z) := fun Ts hT => sep_one HS77.out.ms hT
  have HS79 : Hid (VSt 70 D B g z w (W77.setCell ⟨z, 67, none⟩ (Value.slice ph77 nh77 ch77)) er77 r77 (msgCells (.int .i64 8) (u32 0#32) (u64 0#64) a73 a69 (Value.slice ph77 nh77 ch77) (.slice none 0 0) (.slice none 0 0) ZBlk)) := Lib.hid (HS77.out.put hD.2 (by have h := HS77.out.ms.set 67 (Value.slice ph77 nh77 ch77); rw [msg_set67 _ _ _ _ _ _ _ HL73.out HL69.out] at h; exact h) hstz)
  have HV77_80 := Lib.hid (HV77.out.sep (hashE_keeps _) hstz (hsp _ (by decide)))
  clear HV77
  clear HS77 cz fz hstz hsp
  generalize W77.setCell ⟨z, 67, none⟩ (Value.slice ph77 nh77 ch77) = W79 at *
  first | go_end0 | refine bodyPost_ret (results_none rfl _ _ _) rfl ?_
  exact ⟨rfl, { noMsg with k := 8, st := a69, pv := a73, hs := a77 }, _, _, _, Lib.hid HS79.out.rd, Lib.hid HS79.out.ms, Lib.hid (⟨_, _, _, _, rfl, HL73.out, HL69.out, HV77_80.out, RowO.nil _ _ _ _ _, Own8.nil _ _, ⟨.slice none 0 0, rfl, noHdr_ok, RowO.nil _ _ _ _ _⟩⟩), Lib.hid HS79.out.st, Lib.hid (by rw [fz8]; exact (HT67.out).bind ((HT69.out).bind ((HT73.out).bind ((HT77.out).bind (Step.ret _ _ _)))))⟩
set_option maxRecDepth 100000 in
set_option maxHeartbeats 8000000 in
theorem qfields_k10 (D B g z : Nat) (hD : D ≤ B ∧ D ≤ z) (hB : g < B ∧ z < B) (w : World) (s : Bs) (hr : MRd 70 D B g w 0 s) (hm : Blk w z 38 (msgZ 10).toArray) :
    Calls Try.prog 22 #[.pointer (some ⟨g, 0, none⟩), .pointer (some ⟨z, 0, none⟩)] w (FldP 70 D B g z w (fieldsZ 10) s) := by
  have HS0 : Hid (VSt 70 D B g z w w 0 s (msgCells (.int .i64 10) (u32 0#32) (u64 0#64) noHash noHash (.slice none 0 0) (.slice none 0 0) (.slice none 0 0) ZBlk)) := Lib.hid ⟨by decide, hr, hm, Stays.refl _ _⟩
  have cz : w.cell? ⟨z, 0, none⟩ = some (.int .i64 10) := by have := hm.cell 0; rw [List.getElem?_toArray] at this; exact this
  clear hr hm
  go_enter Try.func22, Try.ntmps22
  have hnb := below_new w (.cells #[.int .u8 (iv8 0#8)] 5)
  have hrow := new_one w 0#8
  have hgl : g < w.heap.size := by have := HS0.out.rd.gB; omega
  have hstd : Stays (fun _ => False) w (w.alloc (.cells #[.int .u8 (iv8 0#8)] 5)) := Stays.of_below hnb (Nat.le_refl _) _
  have HS81 := Lib.hid (HS0.out.fut hnb)
  have hth := qMust_any D B g _ 0 s _ 1 1 [0#8] HS81.out.rd rfl (by omega) hrow (fun _ x hx e => by injection hx with hx; rw [← hx] at e; simp only at e; omega)
  clear HS0 hnb hrow hgl hstd
  go_wp2_with fail
  clear cz
  refine hth.mono ?_
  rintro e W83 ⟨rfl, er83, r83, HR83, HT83a, HT83⟩
  have HS83 := Lib.hid (HS81.out.call HR83.out HT83a.out)
  clear HS81 HR83 hth
  go_wp2_with fail
  refine (qHash_any D B g hD.1 W83 er83 r83 HS83.out.rd).mono ?_
  rintro e W85 ⟨vv85, a85, er85, r85, rfl, ⟨rfl, hl85⟩, HR85, HT85a, HT85⟩
  have HS85 := Lib.hid (HS83.out.call HR85.out HT85a.out)
  clear HS83 HR85
  have HL85 := Lib.hid hl85
  clear hl85
  go_upto_region 31 with ((with_reducible refine wp_store_in (op := ⟨none, _, _, _, _, _⟩) ?_ 29 (.tmp 113) (.tmp 111) ?_ (z) (35) (hCells a85) ?_ ?_ 38 ((msgCells (.int .i64 10) (u32 0#32) (u64 0#64) noHash noHash (.slice none 0 0) (.slice none 0 0) (.slice none 0 0) ZBlk).toArray) (HS85.out.ms) ?_ ?_ ?_ ?_
                           · rfl
                           · rfl
                           · rfl
                           · rfl
                           · rw [msgCells_size _ _ _ _ _ _ noHash_len noHash_len rfl, hCells_len32 HL85.out]; omega
                           · exact (hCells_info' HL85.out)
                           · exact (hCells_one _)
                           intro W87 hm87 hg87))
  try simp only [put_none]
  have hstz := Stays.of_grown (S := fun k => k = z) hg87.out (fun k h => by injection h with h; exact h.symm)
  have hsp : ∀ Ts, 38 ∉ Ts → Sep B Ts W85 (· = z) := fun Ts hT => sep_one HS85.out.ms hT
  have HS87 : Hid (VSt 70 D B g z w W87 er85 r85 (msgCells (.int .i64 10) (u32 0#32) (u64 0#64) noHash a85 (.slice none 0 0) (.slice none 0 0) (.slice none 0 0) ZBlk)) := Lib.hid (HS85.out.put hD.2 (by have h := hm87.out; rw [msg_set35 _ _ _ _ _ _ _ noHash_len noHash_len HL85.out] at h; exact h) hstz)
  clear HS85 hstz hsp hm87 hg87
  go_wp2_with fail
  refine (qText_any D B g 199950 (by omega) W87 er85 r85 HS87.out.rd).mono ?_
  rintro e W89 ⟨vv89, a89, er89, r89, rfl, hv89, HR89, HT89a, HT89⟩
  have HS89 := Lib.hid (HS87.out.call HR89.out HT89a.out)
  clear HS87 HR89
  have HX89 := Lib.hid hv89
  clear hv89
  obtain ⟨ph89, nh89, ch89, rfl, _⟩ := HX89.out.open
  have MA := HS89.out.ms.msg noHash_len HL85.out
  have cz := MA.c69
  have fz := HS89.out.ms.frozen 69
  clear MA
  go_wp2_with fail
  have hstz := Stays.set W89 z 69 (Value.slice ph89 nh89 ch89)
  have hsp : ∀ Ts, 38 ∉ Ts → Sep B Ts W89 (· = z) := fun Ts hT => sep_one HS89.out.ms hT
  have HS91 : Hid (VSt 70 D B g z w (W89.setCell ⟨z, 69, none⟩ (Value.slice ph89 nh89 ch89)) er89 r89 (msgCells (.int .i64 10) (u32 0#32) (u64 0#64) noHash a85 (.slice none 0 0) (.slice none 0 0) (Value.slice ph89 nh89 ch89) ZBlk)) := Lib.hid (HS89.out.put hD.2 (by have h := HS89.out.ms.set 69 (Value.slice ph89 nh89 ch89); rw [msg_set69 _ _ _ _ _ _ _ noHash_len HL85.out] at h; exact h) hstz)
  have HX89_92 := Lib.hid (HX89.out.sep hstz (hsp _ (by decide)))
  clear HX89
  clear HS89 cz fz hstz hsp
  generalize W89.setCell ⟨z, 69, none⟩ (Value.slice ph89 nh89 ch89) = W91 at *
  first | go_end0 | refine bodyPost_ret (results_none rfl _ _ _) rfl ?_
  exact ⟨rfl, { noMsg with k := 10, st := a85, tx := a89 }, _, _, _, Lib.hid HS91.out.rd, Lib.hid HS91.out.ms, Lib.hid (⟨_, _, _, _, rfl, noHash_len, HL85.out, RowO.nil _ _ _ _ _, RowO.nil _ _ _ _ _, HX89_92.out, ⟨.slice none 0 0, rfl, noHdr_ok, RowO.nil _ _ _ _ _⟩⟩), Lib.hid HS91.out.st, Lib.hid (by rw [fz10]; exact (HT83.out).bind ((HT85.out).bind ((HT89.out).bind (Step.ret _ _ _))))⟩
set_option maxRecDepth 100000 in
set_option maxHeartbeats 8000000 in
theorem qfields_k11 (D B g z : Nat) (hD : D ≤ B ∧ D ≤ z) (hB : g < B ∧ z < B) (w : World) (s : Bs) (hr : MRd 70 D B g w 0 s) (hm : Blk w z 38 (msgZ 11).toArray) :
    Calls Try.prog 22 #[.pointer (some ⟨g, 0, none⟩), .pointer (some ⟨z, 0, none⟩)] w (FldP 70 D B g z w (fieldsZ 11) s) := by
  have HS0 : Hid (VSt 70 D B g z w w 0 s (msgCells (.int .i64 11) (u32 0#32) (u64 0#64) noHash noHash (.slice none 0 0) (.slice none 0 0) (.slice none 0 0) ZBlk)) := Lib.hid ⟨by decide, hr, hm, Stays.refl _ _⟩
  have cz : w.cell? ⟨z, 0, none⟩ = some (.int .i64 11) := by have := hm.cell 0; rw [List.getElem?_toArray] at this; exact this
  clear hr hm
  go_enter Try.func22, Try.ntmps22
  have hol := own_lit w w.heap.size 4 wantB (Nat.le_refl _) rfl (by unfold maxLen; omega)
  have hnb := below_new w (.cells (wantB.map u8).toArray 5)
  have HAW := Lib.hid (AheadB.own hol)
  have HS1w := Lib.hid (HS0.out.fut hnb)
  obtain ⟨Ww, hWw⟩ : ∃ W, W = w.alloc (.cells (wantB.map u8).toArray 5) := ⟨_, rfl⟩
  rw [← hWw] at HAW HS1w
  have hWw2 : w.alloc (.cells #[.int .u8 2, .int .u8 0, .int .u8 0, .int .u8 64] 5) = Ww := hWw.symm
  clear hol hnb HS0 hWw
  go_wp2_with fail
  clear hWw2
  clear cz
  refine (qList_any D B g 1000 hD.1 (by omega) Ww 0 s _ 4 4 wantB HS1w.out.rd HAW.out rfl (by decide)).mono ?_
  rintro e W93 ⟨vv93, a93, er93, r93, rfl, hv93, HR93, HT93a, HT93⟩
  have HS93 := Lib.hid (HS1w.out.call HR93.out HT93a.out)
  clear HS1w HR93
  have HV93 := Lib.hid hv93
  clear hv93
  obtain ⟨ph93, nh93, ch93, rfl⟩ := HV93.out.opens
  have MA := HS93.out.ms.msg noHash_len noHash_len
  have cz := MA.c67
  have fz := HS93.out.ms.frozen 67
  clear MA
  go_wp2_with fail
  have hstz := Stays.set W93 z 67 (Value.slice ph93 nh93 ch93)
  have hsp : ∀ Ts, 38 ∉ Ts → Sep B Ts W93 (· = z) := fun Ts hT => sep_one HS93.out.ms hT
  have HS95 : Hid (VSt 70 D B g z w (W93.setCell ⟨z, 67, none⟩ (Value.slice ph93 nh93 ch93)) er93 r93 (msgCells (.int .i64 11) (u32 0#32) (u64 0#64) noHash noHash (Value.slice ph93 nh93 ch93) (.slice none 0 0) (.slice none 0 0) ZBlk)) := Lib.hid (HS93.out.put hD.2 (by have h := HS93.out.ms.set 67 (Value.slice ph93 nh93 ch93); rw [msg_set67 _ _ _ _ _ _ _ noHash_len noHash_len] at h; exact h) hstz)
  have HV93_96 := Lib.hid (HV93.out.sep (hashE_keeps _) hstz (hsp _ (by decide)))
  clear HV93
  clear HS93 cz fz hstz hsp
  generalize W93.setCell ⟨z, 67, none⟩ (Value.slice ph93 nh93 ch93) = W95 at *
  first | go_end0 | refine bodyPost_ret (results_none rfl _ _ _) rfl ?_
  exact ⟨rfl, { noMsg with k := 11, hs := a93 }, _, _, _, Lib.hid HS95.out.rd, Lib.hid HS95.out.ms, Lib.hid (⟨_, _, _, _, rfl, noHash_len, noHash_len, HV93_96.out, RowO.nil _ _ _ _ _, Own8.nil _ _, ⟨.slice none 0 0, rfl, noHdr_ok, RowO.nil _ _ _ _ _⟩⟩), Lib.hid HS95.out.st, Lib.hid (by rw [fz11]; exact (HT93.out).bind (Step.ret _ _ _))⟩
set_option maxRecDepth 100000 in
set_option maxHeartbeats 8000000 in
theorem qfields_k13 (D B g z : Nat) (hD : D ≤ B ∧ D ≤ z) (hB : g < B ∧ z < B) (w : World) (s : Bs) (hr : MRd 70 D B g w 0 s) (hm : Blk w z 38 (msgZ 13).toArray) :
    Calls Try.prog 22 #[.pointer (some ⟨g, 0, none⟩), .pointer (some ⟨z, 0, none⟩)] w (FldP 70 D B g z w (fieldsZ 13) s) := by
  have HS0 : Hid (VSt 70 D B g z w w 0 s (msgCells (.int .i64 13) (u32 0#32) (u64 0#64) noHash noHash (.slice none 0 0) (.slice none 0 0) (.slice none 0 0) ZBlk)) := Lib.hid ⟨by decide, hr, hm, Stays.refl _ _⟩
  have cz : w.cell? ⟨z, 0, none⟩ = some (.int .i64 13) := by have := hm.cell 0; rw [List.getElem?_toArray] at this; exact this
  clear hr hm
  go_enter Try.func22, Try.ntmps22
  have hol := own_lit w w.heap.size 4 wantB (Nat.le_refl _) rfl (by unfold maxLen; omega)
  have hnb := below_new w (.cells (wantB.map u8).toArray 5)
  have HAW := Lib.hid (AheadB.own hol)
  have HS1w := Lib.hid (HS0.out.fut hnb)
  obtain ⟨Ww, hWw⟩ : ∃ W, W = w.alloc (.cells (wantB.map u8).toArray 5) := ⟨_, rfl⟩
  rw [← hWw] at HAW HS1w
  have hWw2 : w.alloc (.cells #[.int .u8 2, .int .u8 0, .int .u8 0, .int .u8 64] 5) = Ww := hWw.symm
  clear hol hnb HS0 hWw
  go_wp2_with fail
  clear hWw2
  clear cz
  refine (qList_any D B g 1000 hD.1 (by omega) Ww 0 s _ 4 4 wantB HS1w.out.rd HAW.out rfl (by decide)).mono ?_
  rintro e W97 ⟨vv97, a97, er97, r97, rfl, hv97, HR97, HT97a, HT97⟩
  have HS97 := Lib.hid (HS1w.out.call HR97.out HT97a.out)
  clear HS1w HR97
  have HV97 := Lib.hid hv97
  clear hv97
  obtain ⟨ph97, nh97, ch97, rfl⟩ := HV97.out.opens
  have MA := HS97.out.ms.msg noHash_len noHash_len
  have cz := MA.c67
  have fz := HS97.out.ms.frozen 67
  clear MA
  go_wp2_with fail
  have hstz := Stays.set W97 z 67 (Value.slice ph97 nh97 ch97)
  have hsp : ∀ Ts, 38 ∉ Ts → Sep B Ts W97 (· = z) := fun Ts hT => sep_one HS97.out.ms hT
  have HS99 : Hid (VSt 70 D B g z w (W97.setCell ⟨z, 67, none⟩ (Value.slice ph97 nh97 ch97)) er97 r97 (msgCells (.int .i64 13) (u32 0#32) (u64 0#64) noHash noHash (Value.slice ph97 nh97 ch97) (.slice none 0 0) (.slice none 0 0) ZBlk)) := Lib.hid (HS97.out.put hD.2 (by have h := HS97.out.ms.set 67 (Value.slice ph97 nh97 ch97); rw [msg_set67 _ _ _ _ _ _ _ noHash_len noHash_len] at h; exact h) hstz)
  have HV97_100 := Lib.hid (HV97.out.sep (hashE_keeps _) hstz (hsp _ (by decide)))
  clear HV97
  clear HS97 cz fz hstz hsp
  generalize W97.setCell ⟨z, 67, none⟩ (Value.slice ph97 nh97 ch97) = W99 at *
  first | go_end0 | refine bodyPost_ret (results_none rfl _ _ _) rfl ?_
  exact ⟨rfl, { noMsg with k := 13, hs := a97 }, _, _, _, Lib.hid HS99.out.rd, Lib.hid HS99.out.ms, Lib.hid (⟨_, _, _, _, rfl, noHash_len, noHash_len, HV97_100.out, RowO.nil _ _ _ _ _, Own8.nil _ _, ⟨.slice none 0 0, rfl, noHdr_ok, RowO.nil _ _ _ _ _⟩⟩), Lib.hid HS99.out.st, Lib.hid (by rw [fz13]; exact (HT97.out).bind (Step.ret _ _ _))⟩
end Go.Proofs.Ytndobjlodpkknaa
