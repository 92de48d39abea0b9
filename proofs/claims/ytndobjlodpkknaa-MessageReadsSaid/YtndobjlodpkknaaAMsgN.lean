/- sporranref10.Decode: the walk.  -/
import Derived.Test.YtndobjlodpkknaaAMsgM
import Derived.Test.YtndobjlodpkknaaAMsgD
import Derived.Test.YtndobjlodpkknaaAGK
namespace Go.Proofs.Ytndobjlodpkknaa
open Go Go.RowKit
set_option linter.unusedVariables false
theorem qfields_any (D B g z K : Nat) (hK : 1 ≤ K ∧ K ≤ 13 ∧ K ≠ 12) (hD : D ≤ B ∧ D ≤ z) (hB : g < B ∧ z < B) (w : World) (s : Bs) (hr : MRd 70 D B g w 0 s) (hm : Blk w z 38 (msgZ K).toArray) :
    Calls Try.prog 22 #[.pointer (some ⟨g, 0, none⟩), .pointer (some ⟨z, 0, none⟩)] w (FldP 70 D B g z w (fieldsZ K) s) := by
  have : K = 1 ∨ K = 2 ∨ K = 3 ∨ K = 4 ∨ K = 5 ∨ K = 6 ∨ K = 7 ∨ K = 8 ∨ K = 9 ∨ K = 10 ∨ K = 11 ∨ K = 13 := by omega
  rcases this with rfl | rfl | rfl | rfl | rfl | rfl | rfl | rfl | rfl | rfl | rfl | rfl
  · exact qfields_k1 D B g z hD hB w s hr hm
  · exact qfields_k2 D B g z hD hB w s hr hm
  · exact qfields_k3 D B g z hD hB w s hr hm
  · exact qfields_k4 D B g z hD hB w s hr hm
  · exact qfields_k5 D B g z hD hB w s hr hm
  · exact qfields_k6 D B g z hD hB w s hr hm
  · exact qfields_k7 D B g z hD hB w s hr hm
  · exact qfields_k8 D B g z hD hB w s hr hm
  · exact qfields_k9 D B g z hD hB w s hr hm
  · exact qfields_k10 D B g z hD hB w s hr hm
  · exact qfields_k11 D B g z hD hB w s hr hm
  · exact qfields_k13 D B g z hD hB w s hr hm
def cmdVals13 : List Value := (List.range 13).map fun i => .string (strB (cmdN (i + 1)))
theorem cmdVals13_at (k : Nat) (h : k < 13) : cmdVals13[k]? = some (.string (strB (cmdN (k + 1)))) := by
  unfold cmdVals13
  rw [List.getElem?_map, List.getElem?_range h]
  rfl
theorem commands_any (w : World) : Calls Try.prog 20 #[] w fun e w' => ∃ b, e = .returned (.slice (some ⟨b, 0, none⟩) 13 13) ∧ w.heap.size ≤ b ∧ Blk w' b 9 cmdVals13.toArray ∧ Below w.heap.size w w' := by
  go_enter Try.func20, Try.ntmps20
  go_wp2_with fail
  have hb := below_new w (.cells cmdVals13.toArray 9)
  have hB : Blk (w.alloc (.cells cmdVals13.toArray 9)) w.heap.size 9 cmdVals13.toArray := Blk.new w _ _
  go_ret
  exact ⟨_, rfl, Nat.le_refl _, hB, hb⟩
theorem kindR_succ (s : List (BitVec 8)) (k : Nat) : kindR s (k + 1) = if s = cmdN (k + 1) then k + 1 else kindR s k := rfl
set_option maxRecDepth 100000 in
set_option maxHeartbeats 8000000 in
theorem refMsgDecode_any (cmd : List (BitVec 8)) (p : Option Addr) (n c : Nat) (s : Bs) (w : World) (hS : Sl w (.slice p n c) s) (hbig : n ≤ 140737488355328) :
    Calls Try.prog 9 #[.agg #[.string (strB cmd), .slice p n c]] w (MsgDec w (msgDecP cmd s)) := by
  obtain ⟨Y0, hY0⟩ : ∃ Y, Y = (msgZ 0).toArray := ⟨_, rfl⟩
  have hz := zMsg
  have hbt := built_msg0
  rw [← hY0] at hz hbt
  have HYS : Hid (Y0.size = 139) := Lib.hid (by rw [hY0]; exact msgZ_size 0)
  have HY1 : Hid (Y0.all (·.oneCell') = true) := Lib.hid (by rw [hY0]; exact msgZ_one)
  have HY0 := Lib.hid hY0
  have hlen : s.length = n ∧ n ≤ c ∧ c ≤ 9223372036854775807 ∧ Row8 w p s := by obtain ⟨p', n', c', e, h1, h2, h3, h4, _⟩ := hS; injection e with e1 e2 e3; rw [e1, e2, e3]; unfold maxLen at h3; exact ⟨h1, h2, by omega, h4⟩
  have HLN := Lib.hid hlen
  have HSL := Lib.hid hS
  obtain ⟨fr, hfr⟩ : ∃ z, z = w.heap.size := ⟨_, rfl⟩
  obtain ⟨W1, hW1⟩ : ∃ W, W = w.alloc (.cells #[.string (strB cmd), .slice p n c] 24) := ⟨_, rfl⟩
  obtain ⟨W2, hW2⟩ : ∃ W, W = W1.alloc (.cells Y0 38) := ⟨_, rfl⟩
  have z1 : W1.heap.size = fr + 1 := by rw [hW1, World.size_alloc, hfr]
  have z2 : W2.heap.size = fr + 2 := by rw [hW2, World.size_alloc, z1]
  have k1 : Below w.heap.size w W1 := by rw [hW1]; exact below_new w _
  have k2 : Below W1.heap.size W1 W2 := by rw [hW2]; exact below_new W1 _
  have k02 := below_fut k1 k2 (Nat.le_refl _)
  have B0 : Blk W2 fr 24 #[.string (strB cmd), .slice p n c] := (show Blk W1 fr _ _ by rw [hW1, hfr]; exact Blk.new w _ _).fut k2
  obtain ⟨y, hyy⟩ : ∃ z, z = fr + 1 := ⟨_, rfl⟩
  have B1 : Blk W2 y 38 Y0 := by rw [hW2, hyy, ← z1]; exact Blk.new W1 _ _
  have HB0 := Lib.hid B0
  have HB1 := Lib.hid B1
  have HK02 := Lib.hid k02
  obtain ⟨z, hzz⟩ : ∃ z, z = W2.heap.size := ⟨_, rfl⟩
  have HFR : Hid (fr = w.heap.size ∧ y = fr + 1 ∧ z = fr + 2) := Lib.hid ⟨hfr, hyy, by omega⟩
  have hbn := below_new W2 (.cells Y0 38)
  clear k1 k2 k02 z1 z2 B0 B1 hS hlen hY0
  go_enter Try.func9, Try.ntmps9
  go_upto_region 1 with fail
  rw [← hW1, ← hW2, ← hfr, ← hyy]
  clear hW1 hW2 hfr hyy
  go_upto_region 2 with (first
    | (with_reducible refine wp_build (o := ⟨some 11, _, _, _, _, _⟩) ?_ 38 #[] ?_ [] ?_ Y0 hbt ?_
       · rfl
       · rfl
       · rfl)
    | (with_reducible refine wp_store_blk (o := ⟨none, _, _, _, _, _⟩) ?_ 38 (.tmp 5) (.tmp 11) ?_ (W2.heap.size) 38 (Y0) (Y0) ?_ ?_ (Blk.new W2 _ _) ?_ ?_ ?_ (W2.heap.size) (W2) ?_ ?_ ?_
       · rfl
       · rfl
       · rfl
       · rfl
       · exact (by rw [HYS.out]; kernel_rfl)
       · exact (rfl)
       · exact (HY1.out)
       · exact (hbn)
       · exact (Nat.le_refl _)
       intro w3 hB3 hb3 hg3 hs3))
  try simp only [put_none]
  rw [← hzz]
  have HM3 : Hid (Blk w3 z 38 (msgZ (kindR cmd 0)).toArray) := Lib.hid (by have := hB3.out; rw [← hzz, HY0.out] at this; exact this)
  have HF3 := Lib.hid (HB0.out.fut hb3)
  have HY3 := Lib.hid (HB1.out.fut hb3)
  have HB3 := Lib.hid (below_fut HK02.out hb3 (Nat.le_refl _))
  clear hz hbn hzz hB3 hb3 hg3 hs3 HB0 HB1 HK02
  go_wp2_with fail
  refine (commands_any w3).mono ?_
  rintro e w4 ⟨cb, rfl, hcb, hC4, hb4⟩
  have HM4 := Lib.hid (HM3.out.fut hb4)
  have HF4 := Lib.hid (HF3.out.fut hb4)
  have HY4 := Lib.hid (HY3.out.fut hb4)
  have HB4 := Lib.hid (below_fut HB3.out hb4 (Nat.le_refl _))
  have HC4 := Lib.hid hC4
  have HCZ : Hid (cb ≠ z) := Lib.hid (by have := HM3.out.lt; omega)
  clear hcb hC4 hb4 HM3 HF3 HY3 HB3
  go_wp2_with fail
  go_loopw [14] (fun i wr => ∃ k K : Nat, k ≤ 13 ∧ i = .int .i64 k ∧ Hid (K = kindR cmd k) ∧ Hid (Blk wr z 38 (msgZ K).toArray) ∧ Hid (Stays (· = z) w4 wr)) (fun i _ => 13 - (intOf i).toNat)
  case atStart => exact ⟨0, _, by omega, rfl, Lib.hid rfl, HM4, Lib.hid (Stays.refl _ _)⟩
  case round =>
    obtain ⟨k, K, hk, rfl, HKk, HMk, HSk⟩ := hrel
    clear HM4
    by_cases hkm : k < 13
    · have hlt : (k : Int) < 13 := by omega
      have hcc := HC4.out.stays HSk.out HCZ.out
      have hc : wr.cell? ⟨cb, k, none⟩ = some (.string (strB (cmdN (k + 1)))) := by rw [hcc.cell, List.getElem?_toArray]; exact cmdVals13_at k hkm
      have hff := HF4.out.stays HSk.out (by have := HFR.out; omega)
      have hf0 : wr.cell? ⟨fr, 0, none⟩ = some (.string (strB cmd)) := by have := hff.cell 0; simpa using this
      have cz : wr.cell? ⟨z, 0, none⟩ = some (.int .i64 (K : Int)) := by have := HMk.out.cell 0; rw [List.getElem?_toArray] at this; exact this
      have fz := HMk.out.frozen 0
      clear hcc hff
      by_cases he : cmdN (k + 1) = cmd
      · have heq : ((strB (cmdN (k + 1))).toList == (strB cmd).toList) = true := by rw [strB_eq]; exact decide_eq_true he
        have HE : Hid (k + 1 = kindR cmd (k + 1)) := Lib.hid (by rw [kindR_succ, if_pos he.symm])
        clear he
        go_wp2_with fail
        go_roundw
        case rel => exact ⟨k + 1, k + 1, by omega, by go_num, HE, Lib.hid (by have h := HMk.out.set 0 (.int .i64 ((k : Int) + 1)); exact h), Lib.hid (HSk.out.trans (Stays.set wr z 0 _) fun _ _ h => h)⟩
        case measure => simp [intOf]; omega
      · have heq : ((strB (cmdN (k + 1))).toList == (strB cmd).toList) = false := by rw [strB_eq]; exact decide_eq_false he
        have HE : Hid (K = kindR cmd (k + 1)) := Lib.hid (by rw [kindR_succ, if_neg (fun h => he h.symm)]; exact HKk.out)
        clear he
        go_wp2_with fail
        go_roundw
        case rel => exact ⟨k + 1, K, by omega, by go_num, HE, HMk, HSk⟩
        case measure => simp [intOf]; omega
    obtain rfl : k = 13 := by omega
    have hge : ¬ ((13 : Nat) : Int) < 13 := by omega
    have HK : Hid (K = kindP cmd) := HKk
    have HK13 : Hid (K ≤ 13) := Lib.hid (by rw [HK.out]; exact kindP_le cmd)
    have HF5 := Lib.hid (HF4.out.stays HSk.out (by have := HFR.out; omega))
    have HY5 := Lib.hid (HY4.out.stays HSk.out (by have := HFR.out; omega))
    have HB5 : Hid (Below w.heap.size w wr) := Lib.hid (HB4.out.trans (HSk.out.below HB4.out.size (fun k hk => by have := HFR.out; omega)))
    have cz : wr.cell? ⟨z, 0, none⟩ = some (.int .i64 (K : Int)) := by have := HMk.out.cell 0; rw [List.getElem?_toArray] at this; exact this
    clear hk hkm HKk HSk HF4 HY4 HB4 HC4 HCZ
    have hyb : w.heap.size ≤ y := by have := HFR.out; omega
    have hzb : w.heap.size ≤ z := by have := HFR.out; omega
    have hzy : z ≠ y := by have := HFR.out; omega
    by_cases h0 : K = 0
    · have hb0 : ((K : Int) == 0) = true := by rw [h0]; rfl
      have HX : Hid (msgDecP cmd s = (noMsg, false, 0)) := Lib.hid (by unfold msgDecP; rw [← HK.out, if_pos h0])
      have hbr := Below.refl w.heap.size wr
      clear h0
      go_wp2_with (first
        | (with_reducible refine wp_build (o := ⟨some 30, _, _, _, _, _⟩) ?_ 38 #[] ?_ [] ?_ Y0 hbt ?_
           · rfl
           · rfl
           · rfl)
        | (with_reducible refine wp_store_blk (o := ⟨none, _, _, _, _, _⟩) ?_ 38 (.tmp 2) (.tmp 30) ?_ (y) 38 (Y0) (Y0) ?_ ?_ (HY5.out) ?_ ?_ ?_ (w.heap.size) (wr) ?_ ?_ ?_
           · rfl
           · rfl
           · rfl
           · rfl
           · exact (by rw [HYS.out]; kernel_rfl)
           · exact (rfl)
           · exact (HY1.out)
           · exact (hbr)
           · exact (hyb)
           intro w6 hB6 hb6 hg6 hs6))
      have hb6z : Blk w6 y 38 (msgZ 0).toArray := by have := hB6.out; rwa [HY0.out] at this
      refine bodyPost_ret (results_cell3 rfl _ _ _ y _ (msgZ 0) _ rfl hb6z Try.underlying38 rfl (info_Msg (msgZ_len 0))) rfl ?_
      rw [HX.out]
      exact ⟨msgZ 0, rfl, noMsg_o _ _, HB5.out.trans hb6⟩
    have hb0 : ((K : Int) == 0) = false := by rw [beq_eq_false_iff_ne]; omega
    have HK0 := Lib.hid h0
    have HX : Hid (msgDecP cmd s = endM (fieldsZ K s)) := Lib.hid (by unfold msgDecP; rw [← HK.out, if_neg h0])
    have c1 : wr.cell? ⟨fr, 1, none⟩ = some (.slice p n c) := by have := HF5.out.cell 1; simpa using this
    clear h0
    by_cases h12 : K = 12
    · subst h12
      have hb12 : (((12 : Nat) : Int) == 12) = true := rfl
      have hdec := refBlkDecode_any p n c s wr (HLN.out.2.2.2.below HB5.out (Nat.le_refl _)) HLN.out.1 HLN.out.2.1 HLN.out.2.2.1
      obtain ⟨x, hx⟩ : ∃ x, x = blkDecP s := ⟨_, rfl⟩
      rw [← hx] at hdec
      obtain ⟨bl, kd⟩ := x
      unfold BlkDec at hdec
      simp only at hdec
      have hfz : fieldsZ 12 s = if kd = 0 then .ok ({ noMsg with k := 12, bl := bl }, []) else .error kd := by
        rw [fz12]
        unfold Pz.bind bodyBlk
        rw [← hx]
        by_cases hk : kd = 0
        · rw [if_pos hk, if_pos hk]; rfl
        · rw [if_neg hk, if_neg hk]
      have HFZ := Lib.hid hfz
      have hzb2 : ∀ w, (zeroValue 36).run Try.prog w = .ok (.agg ZBlk.toArray) w := zero_ofM (by kernel_rfl)
      have hbz : ZBlk.toArray.size = 69 := rfl
      clear hfz hx
      go_wp2_with fail
      refine hdec.mono ?_
      rintro e w6 ⟨bc, rfl, hbo, hb6⟩
      have HBO6 := Lib.hid (hbo.mono HB5.out.size)
      have HBL := Lib.hid hbo.c.len
      have HB1 := Lib.hid hbo.c.one
      have HM6 : Hid (Blk w6 z 38 (msgZ 12).toArray) := Lib.hid (HMk.out.fut hb6)
      have HY6 := Lib.hid (HY5.out.fut hb6)
      have HB6 := Lib.hid (below_fut HB5.out hb6 (Nat.le_refl _))
      have hbn := below_new w6 (.cells ZBlk.toArray 36)
      have hbs : ZBlk.toArray.size = bc.toArray.size := by rw [List.size_toArray, List.size_toArray, HBL.out]; rfl
      clear hdec hbo hb6 HMk HY5 HB5 c1 cz
      go_upto_region 12 with ((with_reducible refine wp_store_blk (o := ⟨none, _, _, _, _, _⟩) ?_ 36 (.tmp 8) (.tmp 38) ?_ (w6.heap.size) 36 (ZBlk.toArray) (bc.toArray) ?_ ?_ (Blk.new w6 _ _) ?_ ?_ ?_ (w6.heap.size) (w6) ?_ ?_ ?_
                               · rfl
                               · rfl
                               · rfl
                               · rfl
                               · exact (by rw [List.size_toArray]; exact info_Blk HBL.out)
                               · exact (hbs)
                               · exact (HB1.out)
                               · exact (hbn)
                               · exact (Nat.le_refl _)
                               intro w7 hB7 hb7 hg7 hs7))
      try simp only [put_none]
      have HM7 := Lib.hid (HM6.out.fut hb7)
      have HY7 := Lib.hid (HY6.out.fut hb7)
      have HBW7 := Lib.hid (below_fut HB6.out hb7 (Nat.le_refl _))
      have HBO7 := Lib.hid (blkO_keeps _ _ _ _ _ _ HBO6.out (Stays.of_below hb7 (Nat.le_refl _) (fun _ => False)) (fun _ h => h.elim))
      have HBK7 := Lib.hid hB7.out
      obtain ⟨z8, hz8⟩ : ∃ z, z = w6.heap.size := ⟨_, rfl⟩
      rw [← hz8] at HBK7 ⊢
      clear hz8 hbn hbs hzb2 hbz hB7 hb7 hg7 hs7 HM6 HY6 HB6 HBO6
      by_cases hk0 : kd = 0
      case neg =>
        have hb1 : (kd == 0) = false := by rw [beq_eq_false_iff_ne]; exact hk0
        have HE2 : Hid (msgDecP cmd s = (noMsg, true, kd)) := Lib.hid (by rw [HX.out, HFZ.out, if_neg hk0]; rfl)
        have hbr := Below.refl w.heap.size w7
        clear hk0
        go_wp2_with (first
          | (with_reducible refine wp_build (o := ⟨some 42, _, _, _, _, _⟩) ?_ 38 #[] ?_ [] ?_ Y0 hbt ?_
             · rfl
             · rfl
             · rfl)
          | (with_reducible refine wp_store_blk (o := ⟨none, _, _, _, _, _⟩) ?_ 38 (.tmp 2) (.tmp 42) ?_ (y) 38 (Y0) (Y0) ?_ ?_ (HY7.out) ?_ ?_ ?_ (w.heap.size) (w7) ?_ ?_ ?_
             · rfl
             · rfl
             · rfl
             · rfl
             · exact (by rw [HYS.out]; kernel_rfl)
             · exact (rfl)
             · exact (HY1.out)
             · exact (hbr)
             · exact (hyb)
             intro w8 hB8 hb8 hg8 hs8))
        have hb8z : Blk w8 y 38 (msgZ 0).toArray := by have := hB8.out; rwa [HY0.out] at this
        refine bodyPost_ret (results_cell3 rfl _ _ _ y _ (msgZ 0) _ rfl hb8z Try.underlying38 rfl (info_Msg (msgZ_len 0))) rfl ?_
        rw [HE2.out]
        exact ⟨msgZ 0, rfl, noMsg_o _ _, HBW7.out.trans hb8⟩
      subst hk0
      have HE2 : Hid (msgDecP cmd s = ({ noMsg with k := 12, bl := bl }, true, 0)) := Lib.hid (by rw [HX.out, HFZ.out, if_pos rfl]; exact endM_ok rfl)
      have l8 := blk_range HBK7.out
      obtain ⟨cs, hcs⟩ : ∃ cs, cs = msgCells (.int .i64 12) (u32 0#32) (u64 0#64) noHash noHash (.slice none 0 0) (.slice none 0 0) (.slice none 0 0) bc := ⟨_, rfl⟩
      have hcl : cs.length = 139 := by rw [hcs]; exact msgCells_len _ _ _ _ _ _ noHash_len noHash_len HBL.out
      have HCL := Lib.hid hcl
      have HCS := Lib.hid hcs
      clear hcl hcs
      go_upto_region 15 with (first
        | (with_reducible refine wpList_load_mid (op := ⟨some 44, _, _, _, _, _⟩) ?_ 36 (.tmp 8) ?_ (z8) (0) ?_ (bc) _ (l8) Try.underlying36 ?_ ?_ ?_
           · rfl
           · rfl
           · rfl
           · rfl
           · exact (info_Blk HBL.out))
        | (with_reducible refine wp_store_in (op := ⟨none, _, _, _, _, _⟩) ?_ 36 (.tmp 45) (.tmp 44) ?_ (z) (70) (bc) ?_ ?_ 38 ((msgZ 12).toArray) (HM7.out) ?_ ?_ ?_ ?_
           · rfl
           · rfl
           · rfl
           · rfl
           · rw [msgZ_size, HBL.out]; omega
           · exact ((by rw [List.size_toArray]; exact info_Blk HBL.out))
           · exact (HB1.out)
           intro w8 hm8 hg8))
      try simp only [put_none]
      have hM8 : Blk w8 z 38 cs.toArray := by
        have h := hm8.out
        rw [msgZ, msg_set70 _ _ _ _ _ _ _ _ noHash_len noHash_len ZBlk_len HBL.out] at h
        rw [HCS.out]
        exact h
      have hst8 := Stays.of_grown (S := fun k => k = z) hg8.out (fun k h => by injection h with h; exact h.symm)
      have HM8 := Lib.hid hM8
      have HY8 := Lib.hid (HY7.out.stays hst8 (fun e => hzy e.symm))
      have HB8 : Hid (Below w.heap.size w w8) := Lib.hid (HBW7.out.trans (hst8.below HBW7.out.size (fun k hk => by omega)))
      have HBO8 := Lib.hid (blkO_keeps _ _ _ _ _ _ HBO7.out hst8 (sep_one HM7.out (by decide)))
      have HMO : Hid (MsgO w.heap.size w8 { noMsg with k := 12, bl := bl } cs) := Lib.hid ⟨_, _, _, _, HCS.out, noHash_len, noHash_len, RowO.nil _ _ _ _ _, RowO.nil _ _ _ _ _, Own8.nil _ _, HBO8.out⟩
      have HC1 := Lib.hid HMO.out.c.one
      have hsz : Y0.size = cs.toArray.size := by rw [HYS.out, List.size_toArray, HCL.out]
      have hbr := Below.refl w.heap.size w8
      have l2 := HM8.out.range
      clear hM8 hst8 hm8 hg8 HM7 HY7 HBW7 HBO7 HBO8 HBK7 l8
      go_wp2_with (first
        | (with_reducible refine wpList_load_mid (op := ⟨some 46, _, _, _, _, _⟩) ?_ 38 (.tmp 5) ?_ (z) (0) ?_ (cs) _ (l2) Try.underlying38 ?_ ?_ ?_
           · rfl
           · rfl
           · rfl
           · rfl
           · exact ((info_Msg HCL.out)))
        | (with_reducible refine wp_store_blk (o := ⟨none, _, _, _, _, _⟩) ?_ 38 (.tmp 2) (.tmp 46) ?_ (y) 38 (Y0) (cs.toArray) ?_ ?_ (HY8.out) ?_ ?_ ?_ (w.heap.size) (w8) ?_ ?_ ?_
           · rfl
           · rfl
           · rfl
           · rfl
           · exact ((info_MsgS HCL.out))
           · exact (hsz)
           · exact (HC1.out)
           · exact (hbr)
           · exact (hyb)
           intro w9 hB9 hb9 hg9 hs9))
      refine bodyPost_ret (results_cell3 rfl _ _ _ y _ cs _ rfl hB9.out Try.underlying38 rfl (info_Msg HCL.out)) rfl ?_
      rw [HE2.out]
      have hst := Stays.of_grown (S := fun k => k = y) hg9.out (fun k h => by injection h with h; exact h.symm)
      exact ⟨cs, rfl, msgO_keeps _ _ _ _ _ _ HMO.out hst (sep_one HY8.out (by decide)), HB8.out.trans hb9⟩
    have hb12 : ((K : Int) == 12) = false := by rw [beq_eq_false_iff_ne]; omega
    have HK12 := Lib.hid h12
    have hbt1 : Try.prog.built 70 [(0, .slice p n c)] = some #[.slice p n c, .int .i64 0] := by kernel_rfl
    clear h12
    go_upto_region 17 with ((with_reducible refine wp_build (o := ⟨some 49, _, _, _, _, _⟩) ?_ 70 #[(0, .tmp 48)] ?_ [(0, .slice p n c)] ?_ #[.slice p n c, .int .i64 0] hbt1 ?_
                             · rfl
                             · rfl
                             · rfl))
    try simp only [put_none]
    obtain ⟨g, hg⟩ : ∃ g, g = wr.heap.size := ⟨_, rfl⟩
    have hnb := below_new wr (.cells #[.slice p n c, .int .i64 0] 70)
    obtain ⟨w5, hw5⟩ : ∃ W, W = wr.alloc (.cells #[.slice p n c, .int .i64 0] 70) := ⟨_, rfl⟩
    have hz5 : w5.heap.size = g + 1 := by rw [hw5, World.size_alloc, hg]
    have HGZ : Hid (w.heap.size ≤ z ∧ z < g ∧ w.heap.size ≤ g ∧ y < g) := Lib.hid (by have h1 := HFR.out; have h2 := HMk.out.lt; have h3 := HB5.out.size; omega)
    rw [← hw5] at hnb
    have HB6 : Hid (Below w.heap.size w w5) := Lib.hid (below_fut HB5.out hnb (Nat.le_refl _))
    have HM6 := Lib.hid (HMk.out.fut hnb)
    have HY6 := Lib.hid (HY5.out.fut hnb)
    have HR6 : Hid (MRd 70 w.heap.size (g + 1) g w5 0 s) := Lib.hid ⟨.slice p n c, by rw [hw5, hg]; exact Blk.new wr _ _, Dat.old HSL.out HB6.out HGZ.out.2.2.1, by rw [HLN.out.1]; exact hbig, by omega, by omega⟩
    have hcall := qfields_any w.heap.size (g + 1) g z K ⟨by have := HK0.out; omega, HK13.out, HK12.out⟩ ⟨by have := HGZ.out; omega, HGZ.out.1⟩ ⟨by omega, by have := HGZ.out; omega⟩ w5 s HR6.out HM6.out
    rw [← hw5, ← hg]
    clear hw5 hg hnb hz5 HMk HY5 HF5 HB5 c1 cz hbt1 HR6 HM6
    go_wp2_with fail
    refine hcall.mono ?_
    rintro e w6 ⟨rfl, m, cs, er, r, HR, HM, HMO, HST, HT⟩
    have HE := Lib.hid (endM_step HT.out)
    have HB7 : Hid (Below w.heap.size w w6) := Lib.hid (HB6.out.trans ((HST.out.below HB6.out.size (fun k hk => by have := HGZ.out; omega))))
    have HMO' : Hid (MsgO w.heap.size w6 m cs) := Lib.hid (HMO.out.mono (by have := HGZ.out; omega))
    have HY7 := Lib.hid (HY6.out.stays HST.out (fun hk => by have := HGZ.out; omega))
    have hcl := HMO.out.c.len
    have HCL := Lib.hid hcl
    have HC1 := Lib.hid HMO.out.c.one
    obtain ⟨vr, x1, x2, x3, x4, x5⟩ := HR.out
    obtain ⟨pr, nr, cr, rfl, hnr, _, _, _, _⟩ := x2.open
    obtain ⟨d0, d1, f0, f1⟩ := cell2 x1
    have HX1 := Lib.hid x1
    have HNR := Lib.hid hnr
    have hzg : z ≠ g := by have := HGZ.out; omega
    have hyg : y ≠ g := by have := HGZ.out; omega
    have hsz : Y0.size = cs.toArray.size := by rw [HYS.out, List.size_toArray, hcl]
    clear x1 x2 x3 x5 hnr hcall HST HT HR HB6 hcl HY6
    by_cases he : er = 0
    case neg =>
      have hb1 : (er == 0) = false := by rw [beq_eq_false_iff_ne]; exact he
      have HE2 : Hid (msgDecP cmd s = (noMsg, true, er)) := Lib.hid (by rw [HX.out, HE.out, if_neg he])
      clear he
      go_upto_region 21 with fail
      clear d0 d1 f0 f1
      refine region_plan [qq 0, qq 1, qq 2, qq 3, qq 4, oo 5, qq 6, qq 7] (fun W => Blk W g 70 #[.slice pr nr cr, .int .i64 er]) (by kernel_rfl) (by kernel_rfl) (HX1.out.fut (below_draws w6 1)) ?_
      refine' plan_quiet (s := 80) (A1 := _) [0, 1, 2, 3, 4] [_, _, _, _, _] _ rfl rfl rfl (fun W hW => ?hqan) _ (HX1.out.fut (below_draws w6 1)) (fun _ => ?hran)
      case hqan =>
        have e2 : ∀ k, (W.drewN k).cell? ⟨g, 1, none⟩ = some (.int .i64 er) := fun k => by have := hW.cell 1; simpa using this
        simp only [List.getElem_toArray, List.getElem_cons_zero, List.getElem_cons_succ]
        refine quiet_build rfl 38 #[] rfl Y0 (by rw [List.map_toArray]; exact hbt) ?_
        simp only [put_some, List.setIfInBounds_toArray, List.set_cons_succ, List.set_cons_zero]
        iterate 4 (go_big_quiet_step (fail))
        refine wpQuiet_nil ?_
        rfl
      case hran =>
      refine plan_one rfl fun k1 => ?_
      have hdr : Below w6.heap.size w6 (w6.drew.drewN k1) := below_drewN (Below.refl _ _).drew k1
      have HGa := Lib.hid (HX1.out.fut hdr)
      have HYa := Lib.hid (HY7.out.fut hdr)
      have HBa := Lib.hid (below_fut HB7.out hdr (Nat.le_refl _))
      clear hdr
      generalize w6.drew.drewN k1 = wa at *
      have hbr := Below.refl w.heap.size wa
      refine wp_store_blk (o := ⟨none, _, _, _, _, _⟩) rfl 38 (.tmp 2) (.tmp 74) rfl y 38 Y0 Y0 rfl rfl HYa.out (by rw [HYS.out]; kernel_rfl) rfl HY1.out w.heap.size wa hbr hyb ?_
      intro wb hBb hbb hgb hsb
      have hst := Stays.of_grown (S := fun k => k = y) hgb.out (fun k h => by injection h with h; exact h.symm)
      have HGb := Lib.hid (HGa.out.stays hst (fun e => hyg e.symm))
      go_wp2_with fail
      refine planQ_normal (And.intro HGb.out ?_)
      refine' plan_quiet (s := 80) (A1 := _) (r := []) [6, 7] [_, _] _ rfl rfl rfl (fun W hW => ?hqbn) _ HGb.out (fun _ => ?hrbn)
      case hqbn =>
        simp only [List.getElem_toArray, List.getElem_cons_zero, List.getElem_cons_succ]
        iterate 2 (go_big_quiet_step (fail))
        refine wpQuiet_nil ?_
        rfl
      case hrbn =>
      refine plan_end fun k2 => NoPanic.normal ?_
      have hdr := below_draws wb k2
      have HBc := Lib.hid (below_fut (HBa.out.trans hbb) hdr (Nat.le_refl _))
      have hbz : Blk (wb.drewN k2) y 38 (msgZ 0).toArray := by have := hBb.out.fut hdr; rwa [HY0.out] at this
      clear hdr hgb hsb hbb hst HGb HGa HYa HBa
      generalize wb.drewN k2 = wc at *
      go_wp2_with fail
      refine bodyPost_ret (results_cell3 rfl _ _ _ y _ (msgZ 0) _ rfl hbz Try.underlying38 rfl (info_Msg (msgZ_len 0))) rfl ?_
      rw [HE2.out]
      exact ⟨msgZ 0, rfl, noMsg_o _ _, HBc.out⟩
    subst he
    by_cases hr0 : nr = 0
    · have hgt : ¬ (0 : Int) < (nr : Int) := by omega
      have HE2 : Hid (msgDecP cmd s = (m, true, 0)) := Lib.hid (by rw [HX.out, HE.out, if_pos rfl, if_pos (List.eq_nil_of_length_eq_zero (by rw [HNR.out]; exact hr0))])
      have hbr := Below.refl w.heap.size w6
      have l2 := HM.out.range
      clear hr0
      go_wp2_with (first
        | (with_reducible refine wpList_load_mid (op := ⟨some 79, _, _, _, _, _⟩) ?_ 38 (.tmp 5) ?_ (z) (0) ?_ (cs) _ (l2) Try.underlying38 ?_ ?_ ?_
           · rfl
           · rfl
           · rfl
           · rfl
           · exact ((info_Msg HCL.out)))
        | (with_reducible refine wp_store_blk (o := ⟨none, _, _, _, _, _⟩) ?_ 38 (.tmp 2) (.tmp 79) ?_ (y) 38 (Y0) (cs.toArray) ?_ ?_ (HY7.out) ?_ ?_ ?_ (w.heap.size) (w6) ?_ ?_ ?_
           · rfl
           · rfl
           · rfl
           · rfl
           · exact ((info_MsgS HCL.out))
           · exact (hsz)
           · exact (HC1.out)
           · exact (hbr)
           · exact (hyb)
           intro w7 hB7 hb7 hg7 hs7))
      refine bodyPost_ret (results_cell3 rfl _ _ _ y _ cs _ rfl hB7.out Try.underlying38 rfl (info_Msg HCL.out)) rfl ?_
      rw [HE2.out]
      have hst := Stays.of_grown (S := fun k => k = y) hg7.out (fun k h => by injection h with h; exact h.symm)
      exact ⟨cs, rfl, msgO_keeps _ _ _ _ _ _ HMO'.out hst (sep_one HY7.out (by decide)), HB7.out.trans hb7⟩
    · have hgt : (0 : Int) < (nr : Int) := by omega
      have HE2 : Hid (msgDecP cmd s = (noMsg, true, 70)) := Lib.hid (by rw [HX.out, HE.out, if_pos rfl, if_neg (fun e => hr0 (by rw [← HNR.out, e]; rfl))])
      have hst := Stays.set w6 g 1 (.int .i64 70)
      have HY8 := Lib.hid (HY7.out.stays hst hyg)
      have HB8 : Hid (Below w.heap.size w (w6.setCell ⟨g, 1, none⟩ (.int .i64 70))) := Lib.hid (HB7.out.setCell (show w.heap.size ≤ g from HGZ.out.2.2.1) _)
      have HX8 : Hid (Blk (w6.setCell ⟨g, 1, none⟩ (.int .i64 70)) g 70 #[.slice pr nr cr, .int .i64 70]) := Lib.hid (by simpa using HX1.out.set 1 (.int .i64 70))
      have d1' := (cell2 HX8.out).2.1
      clear hr0 hst
      go_upto_region 20 with fail
      generalize w6.setCell ⟨g, 1, none⟩ (.int .i64 70) = w7 at *
      go_upto_region 21 with fail
      clear d0 d1 f0 f1 d1'
      refine region_plan [qq 0, qq 1, qq 2, qq 3, qq 4, oo 5, qq 6, qq 7] (fun W => Blk W g 70 #[.slice pr nr cr, .int .i64 70]) (by kernel_rfl) (by kernel_rfl) (HX8.out.fut (below_draws w7 1)) ?_
      refine' plan_quiet (s := 80) (A1 := _) [0, 1, 2, 3, 4] [_, _, _, _, _] _ rfl rfl rfl (fun W hW => ?hqar) _ (HX8.out.fut (below_draws w7 1)) (fun _ => ?hrar)
      case hqar =>
        have e2 : ∀ k, (W.drewN k).cell? ⟨g, 1, none⟩ = some (.int .i64 70) := fun k => by have := hW.cell 1; simpa using this
        simp only [List.getElem_toArray, List.getElem_cons_zero, List.getElem_cons_succ]
        refine quiet_build rfl 38 #[] rfl Y0 (by rw [List.map_toArray]; exact hbt) ?_
        simp only [put_some, List.setIfInBounds_toArray, List.set_cons_succ, List.set_cons_zero]
        iterate 4 (go_big_quiet_step (fail))
        refine wpQuiet_nil ?_
        rfl
      case hrar =>
      refine plan_one rfl fun k1 => ?_
      have hdr : Below w7.heap.size w7 (w7.drew.drewN k1) := below_drewN (Below.refl _ _).drew k1
      have HGa := Lib.hid (HX8.out.fut hdr)
      have HYa := Lib.hid (HY8.out.fut hdr)
      have HBa := Lib.hid (below_fut HB8.out hdr (Nat.le_refl _))
      clear hdr
      generalize w7.drew.drewN k1 = wa at *
      have hbr := Below.refl w.heap.size wa
      refine wp_store_blk (o := ⟨none, _, _, _, _, _⟩) rfl 38 (.tmp 2) (.tmp 74) rfl y 38 Y0 Y0 rfl rfl HYa.out (by rw [HYS.out]; kernel_rfl) rfl HY1.out w.heap.size wa hbr hyb ?_
      intro wb hBb hbb hgb hsb
      have hst := Stays.of_grown (S := fun k => k = y) hgb.out (fun k h => by injection h with h; exact h.symm)
      have HGb := Lib.hid (HGa.out.stays hst (fun e => hyg e.symm))
      go_wp2_with fail
      refine planQ_normal (And.intro HGb.out ?_)
      refine' plan_quiet (s := 80) (A1 := _) (r := []) [6, 7] [_, _] _ rfl rfl rfl (fun W hW => ?hqbr) _ HGb.out (fun _ => ?hrbr)
      case hqbr =>
        simp only [List.getElem_toArray, List.getElem_cons_zero, List.getElem_cons_succ]
        iterate 2 (go_big_quiet_step (fail))
        refine wpQuiet_nil ?_
        rfl
      case hrbr =>
      refine plan_end fun k2 => NoPanic.normal ?_
      have hdr := below_draws wb k2
      have HBc := Lib.hid (below_fut (HBa.out.trans hbb) hdr (Nat.le_refl _))
      have hbz : Blk (wb.drewN k2) y 38 (msgZ 0).toArray := by have := hBb.out.fut hdr; rwa [HY0.out] at this
      clear hdr hgb hsb hbb hst HGb HGa HYa HBa
      generalize wb.drewN k2 = wc at *
      go_wp2_with fail
      refine bodyPost_ret (results_cell3 rfl _ _ _ y _ (msgZ 0) _ rfl hbz Try.underlying38 rfl (info_Msg (msgZ_len 0))) rfl ?_
      rw [HE2.out]
      exact ⟨msgZ 0, rfl, noMsg_o _ _, HBc.out⟩
end Go.Proofs.Ytndobjlodpkknaa
