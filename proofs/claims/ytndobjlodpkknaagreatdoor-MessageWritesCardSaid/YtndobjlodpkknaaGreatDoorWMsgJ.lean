/- MessageWrites: a message's bytes on the wire, the program's and the reference's; the walk.  -/
import Derived.Test.YtndobjlodpkknaaGreatDoorWMsgX
import Derived.Test.YtndobjlodpkknaaGreatDoorWMsgY
import Derived.Test.YtndobjlodpkknaaGreatDoorWMsgI
import Derived.Test.YtndobjlodpkknaaGreatDoorWMsgB
import Derived.Test.YtndobjlodpkknaaGreatDoorWFrmR
namespace Go.Proofs.YtndobjlodpkknaaGreatDoor
open Go Go.RowKit
set_option linter.unusedVariables false
def bytesP (m : TMsg) : Bs × Int := if (msgP m).2.2 = 0 then frmP (msgP m).1 (msgP m).2.1 else ([], (msgP m).2.2)
theorem msg_cmd_len (m : TMsg) : (msgP m).1.length ≤ 12 := by
  unfold msgP
  by_cases h : (payP m).2 = 0
  · rw [if_pos h]
    show (cmdB m.k).length ≤ 12
    unfold cmdB
    by_cases h2 : m.k < 0
    · rw [if_pos h2]; exact Nat.zero_le _
    · rw [if_neg h2]; exact cmdN_len _
  · rw [if_neg h]; exact Nat.zero_le _
set_option maxRecDepth 100000 in
set_option maxHeartbeats 8000000 in
theorem msgBytes_any (cs : List Value) (m : TMsg) (W : World) (hK : Laid W) (hm : MsgC W m cs) :
    Calls Tryz.prog 6 #[.agg cs.toArray] W (OutPost W (bytesP m)) := by
  have HM := Lib.hid hm
  have HK := Lib.hid hK
  have hKs := hK.size
  have HCL := Lib.hid hm.len
  have hzf := yFrm
  obtain ⟨zm, hzm⟩ : ∃ z, z = W.heap.size := ⟨_, rfl⟩
  obtain ⟨W1, hW1⟩ : ∃ V, V = W.alloc (.cells cs.toArray 35) := ⟨_, rfl⟩
  have hb1 : Below W.heap.size W W1 := by rw [hW1]; exact below_new W _
  have hB1 : Blk W1 zm 35 cs.toArray := by rw [hW1, hzm]; exact Blk.new W _ _
  have HW1 := Lib.hid hb1
  have l1 := blk_range hB1
  have he1 := msgEncode_any m cs W1 (msgC_keeps _ _ _ _ hm hb1)
  have hc12 := msg_cmd_len m
  obtain ⟨x, hx⟩ : ∃ x, x = msgP m := ⟨_, rfl⟩
  rw [← hx] at he1 hc12
  obtain ⟨cmd, by_, er⟩ := x
  have HC : Hid (cmd.length ≤ 12) := Lib.hid hc12
  have HBP : Hid (bytesP m = if er = 0 then frmP cmd by_ else ([], er)) := Lib.hid (by unfold bytesP; rw [← hx])
  unfold MsgEnc at he1
  simp only at he1
  clear hb1 hB1 hm hx hc12 hK
  go_enter Tryz.func6, Tryz.ntmps6
  go_upto_region 1 with fail
  rw [← hW1, ← hzm]
  clear hW1 hzm
  go_wp2_with ((with_reducible refine wpList_load_mid (op := ⟨some 7, _, _, _, _, _⟩) ?_ 35 (.tmp 1) ?_ (zm) (0) ?_ (cs) _ (l1) Tryz.underlying35 ?_ ?_ ?_
                · rfl
                · rfl
                · rfl
                · rfl
                · exact ((info_Msg HCL.out))))
  refine he1.mono ?_
  rintro e w2 ⟨v2, rfl, ho2, hb2⟩
  obtain ⟨q2, m2, c2, rfl, _⟩ := ho2.open
  have HO2 := Lib.hid (Own8.mono' ho2 HW1.out.size)
  have HW2 := Lib.hid (below_fut HW1.out hb2 (Nat.le_refl _))
  have hbn := below_new w2 (.cells YFrm.toArray 37)
  clear he1 ho2 hb2 l1 HW1
  go_upto_region 2 with ((with_reducible refine wp_store_blk (o := ⟨none, _, _, _, _, _⟩) ?_ 37 (.tmp 4) (.tmp 9) ?_ (w2.heap.size) 37 (YFrm.toArray) (#[.string (strB cmd), .slice q2 m2 c2]) ?_ ?_ (Blk.new w2 _ _) ?_ ?_ ?_ (w2.heap.size) (w2) ?_ ?_ ?_
                          · rfl
                          · rfl
                          · rfl
                          · rfl
                          · exact ((by kernel_rfl))
                          · exact (rfl)
                          · exact (all_frm)
                          · exact (hbn)
                          · exact (Nat.le_refl _)
                          intro w3 hB3 hb3 hg3 hs3))
  try simp only [put_none]
  obtain ⟨z3, hz3⟩ : ∃ z, z = w2.heap.size := ⟨_, rfl⟩
  rw [← hz3] at hB3 ⊢
  have HF3 := Lib.hid hB3.out
  have HO3 := Lib.hid (HO2.out.fut hb3)
  have HW3 := Lib.hid (below_fut HW2.out hb3 (Nat.le_refl _))
  have l3 := blk_range (cs := [.string (strB cmd), .slice q2 m2 c2]) HF3.out
  clear hbn hz3 hB3 hb3 hg3 hs3 HO2 HW2
  by_cases he : er = 0
  case neg =>
    have hb1 : (er == 0) = false := by rw [beq_eq_false_iff_ne]; exact he
    have HE : Hid (bytesP m = ([], er)) := Lib.hid (by rw [HBP.out, if_neg he])
    clear he l3
    go_wp2_with fail
    go_ret2
    exact OutPost.of HE (own_none _ _) HW3.out
  subst he
  obtain ⟨Y, hY⟩ : ∃ Y, Y = frmP cmd by_ := ⟨_, rfl⟩
  have HE : Hid (bytesP m = Y) := Lib.hid (by rw [HBP.out, if_pos rfl, hY])
  obtain ⟨p3, n3, c3, e3, hn3, hl3, hm3, hr3, hp3⟩ := HO3.out.sl
  obtain ⟨rfl, rfl, rfl⟩ : q2 = p3 ∧ m2 = n3 ∧ c2 = c3 := by injection e3 with a1 a2 a3; exact ⟨a1, a2, a3⟩
  have hfe := frmEncode_any cmd by_ q2 m2 c2 w3 (HK.out.below HW3.out hKs) (by have := HC.out; omega) hr3 hn3 hl3 (by unfold maxLen at hm3; omega) hp3
  rw [← hY] at hfe
  obtain ⟨o, k⟩ := Y
  clear hY e3 hn3 hl3 hm3 hr3 hp3
  go_wp2_with ((with_reducible refine wpList_load_mid (op := ⟨some 14, _, _, _, _, _⟩) ?_ 37 (.tmp 4) ?_ (z3) (0) ?_ ([.string (strB cmd), .slice q2 m2 c2]) _ (l3) Tryz.underlying37 ?_ ?_ ?_
                · rfl
                · rfl
                · rfl
                · rfl
                · exact ((by kernel_rfl))))
  refine hfe.mono ?_
  rintro e w4 ⟨v4, rfl, ho4, hb4⟩
  have HO4 := Lib.hid (Own8.mono' ho4 HW3.out.size)
  have HB4 := Lib.hid (below_fut HW3.out hb4 (Nat.le_refl _))
  clear hfe ho4 hb4 l3
  go_wp2_with fail
  go_ret2
  rw [HE.out]
  exact ⟨v4, rfl, HO4.out, HB4.out⟩
set_option maxRecDepth 100000 in
set_option maxHeartbeats 8000000 in
theorem refMsgBytes_any (cs : List Value) (m : TMsg) (W : World) (hm : MsgC W m cs) :
    Calls Tryz.prog 7 #[.agg cs.toArray] W (OutRow W (bytesP m)) := by
  have HM := Lib.hid hm
  have HCL := Lib.hid hm.len
  have hzf := yFrm
  obtain ⟨zm, hzm⟩ : ∃ z, z = W.heap.size := ⟨_, rfl⟩
  obtain ⟨W1, hW1⟩ : ∃ V, V = W.alloc (.cells cs.toArray 35) := ⟨_, rfl⟩
  have hb1 : Below W.heap.size W W1 := by rw [hW1]; exact below_new W _
  have hB1 : Blk W1 zm 35 cs.toArray := by rw [hW1, hzm]; exact Blk.new W _ _
  have HW1 := Lib.hid hb1
  have l1 := blk_range hB1
  have he1 := refMsgEncode_any m cs W1 (msgC_keeps _ _ _ _ hm hb1)
  have hc12 := msg_cmd_len m
  obtain ⟨x, hx⟩ : ∃ x, x = msgP m := ⟨_, rfl⟩
  rw [← hx] at he1 hc12
  obtain ⟨cmd, by_, er⟩ := x
  have HC : Hid (cmd.length ≤ 12) := Lib.hid hc12
  have HBP : Hid (bytesP m = if er = 0 then frmP cmd by_ else ([], er)) := Lib.hid (by unfold bytesP; rw [← hx])
  unfold MsgEnc at he1
  simp only at he1
  clear hb1 hB1 hm hx hc12
  go_enter Tryz.func7, Tryz.ntmps7
  go_upto_region 1 with fail
  rw [← hW1, ← hzm]
  clear hW1 hzm
  go_wp2_with ((with_reducible refine wpList_load_mid (op := ⟨some 7, _, _, _, _, _⟩) ?_ 35 (.tmp 1) ?_ (zm) (0) ?_ (cs) _ (l1) Tryz.underlying35 ?_ ?_ ?_
                · rfl
                · rfl
                · rfl
                · rfl
                · exact ((info_Msg HCL.out))))
  refine he1.mono ?_
  rintro e w2 ⟨v2, rfl, ho2, hb2⟩
  obtain ⟨q2, m2, c2, rfl, _⟩ := ho2.open
  have HO2 := Lib.hid (Own8.mono' ho2 HW1.out.size)
  have HW2 := Lib.hid (below_fut HW1.out hb2 (Nat.le_refl _))
  have hbn := below_new w2 (.cells YFrm.toArray 37)
  clear he1 ho2 hb2 l1 HW1
  go_upto_region 2 with ((with_reducible refine wp_store_blk (o := ⟨none, _, _, _, _, _⟩) ?_ 37 (.tmp 4) (.tmp 9) ?_ (w2.heap.size) 37 (YFrm.toArray) (#[.string (strB cmd), .slice q2 m2 c2]) ?_ ?_ (Blk.new w2 _ _) ?_ ?_ ?_ (w2.heap.size) (w2) ?_ ?_ ?_
                          · rfl
                          · rfl
                          · rfl
                          · rfl
                          · exact ((by kernel_rfl))
                          · exact (rfl)
                          · exact (all_frm)
                          · exact (hbn)
                          · exact (Nat.le_refl _)
                          intro w3 hB3 hb3 hg3 hs3))
  try simp only [put_none]
  obtain ⟨z3, hz3⟩ : ∃ z, z = w2.heap.size := ⟨_, rfl⟩
  rw [← hz3] at hB3 ⊢
  have HF3 := Lib.hid hB3.out
  have HO3 := Lib.hid (HO2.out.fut hb3)
  have HW3 := Lib.hid (below_fut HW2.out hb3 (Nat.le_refl _))
  have l3 := blk_range (cs := [.string (strB cmd), .slice q2 m2 c2]) HF3.out
  clear hbn hz3 hB3 hb3 hg3 hs3 HO2 HW2
  by_cases he : er = 0
  case neg =>
    have hb1 : (er == 0) = false := by rw [beq_eq_false_iff_ne]; exact he
    have HE : Hid (bytesP m = ([], er)) := Lib.hid (by rw [HBP.out, if_neg he])
    clear he l3
    go_wp2_with fail
    go_ret2
    exact OutRow.nil HE HW3.out
  subst he
  obtain ⟨Y, hY⟩ : ∃ Y, Y = frmP cmd by_ := ⟨_, rfl⟩
  have HE : Hid (bytesP m = Y) := Lib.hid (by rw [HBP.out, if_pos rfl, hY])
  obtain ⟨p3, n3, c3, e3, hn3, hl3, hm3, hr3, hp3⟩ := HO3.out.sl
  obtain ⟨rfl, rfl, rfl⟩ : q2 = p3 ∧ m2 = n3 ∧ c2 = c3 := by injection e3 with a1 a2 a3; exact ⟨a1, a2, a3⟩
  have hfe := refFrm_any cmd by_ q2 m2 c2 w3 (by have := HC.out; omega) hr3 hn3
  rw [← hY] at hfe
  obtain ⟨o, k⟩ := Y
  clear hY e3 hn3 hl3 hm3 hr3 hp3
  go_wp2_with ((with_reducible refine wpList_load_mid (op := ⟨some 14, _, _, _, _, _⟩) ?_ 37 (.tmp 4) ?_ (z3) (0) ?_ ([.string (strB cmd), .slice q2 m2 c2]) _ (l3) Tryz.underlying37 ?_ ?_ ?_
                · rfl
                · rfl
                · rfl
                · rfl
                · exact ((by kernel_rfl))))
  refine hfe.mono ?_
  rintro e w4 ⟨p4, n4, c4, rfl, hn4, hl4, hm4, hr4, hb4⟩
  have HO4 := Lib.hid (And.intro hn4.out (And.intro hl4 (And.intro hm4 hr4)))
  have HB4 := Lib.hid (below_fut HW3.out hb4 (Nat.le_refl _))
  clear hfe hn4 hl4 hm4 hr4 hb4 l3
  go_wp2_with fail
  go_ret2
  rw [HE.out]
  exact ⟨p4, n4, c4, rfl, Lib.hid HO4.out.1, HO4.out.2.1, HO4.out.2.2.1, HO4.out.2.2.2, HB4.out⟩
set_option maxRecDepth 100000 in
set_option maxHeartbeats 8000000 in
theorem messageWrites_walk (cs : List Value) (m : TMsg) (W : World) (hK : Laid W) (hm : MsgC W m cs) :
    Calls Tryz.prog 3 #[.agg cs.toArray] W fun e w' => e = .returned (.bool true) ∧ Below W.heap.size W w' := by
  have HM := Lib.hid hm
  have HK := Lib.hid hK
  have hKs := hK.size
  have HCL := Lib.hid hm.len
  have hzf := yFrm
  obtain ⟨zm, hzm⟩ : ∃ z, z = W.heap.size := ⟨_, rfl⟩
  obtain ⟨W1, hW1⟩ : ∃ V, V = W.alloc (.cells cs.toArray 35) := ⟨_, rfl⟩
  have hb1 : Below W.heap.size W W1 := by rw [hW1]; exact below_new W _
  have hB1 : Blk W1 zm 35 cs.toArray := by rw [hW1, hzm]; exact Blk.new W _ _
  have HB1 := Lib.hid hB1
  have HW1 := Lib.hid hb1
  have l1 := blk_range hB1
  have he1 := msgEncode_any m cs W1 (msgC_keeps _ _ _ _ hm hb1)
  have hB1' := msgBytes_any cs m
  have hB2' := refMsgBytes_any cs m
  obtain ⟨y, hy⟩ : ∃ y, y = bytesP m := ⟨_, rfl⟩
  rw [← hy] at hB1' hB2'
  obtain ⟨oo, ek⟩ := y
  have HB1' := Lib.hid hB1'
  have HB2' := Lib.hid hB2'
  obtain ⟨x, hx⟩ : ∃ x, x = msgP m := ⟨_, rfl⟩
  rw [← hx] at he1
  obtain ⟨cmd, by_, er⟩ := x
  have HX := Lib.hid hx.symm
  unfold MsgEnc at he1
  simp only at he1
  clear hb1 hB1 hm hx hy hB1' hB2' hK
  go_enter Tryz.func3, Tryz.ntmps3
  go_upto_region 1 with fail
  rw [← hW1, ← hzm]
  clear hW1 hzm
  go_wp2_with ((with_reducible refine wpList_load_mid (op := ⟨some 12, _, _, _, _, _⟩) ?_ 35 (.tmp 1) ?_ (zm) (0) ?_ (cs) _ (l1) Tryz.underlying35 ?_ ?_ ?_
                · rfl
                · rfl
                · rfl
                · rfl
                · exact ((info_Msg HCL.out))))
  refine he1.mono ?_
  rintro e w2 ⟨v2, rfl, ho2, hb2⟩
  obtain ⟨q2, m2, c2, rfl, _⟩ := ho2.open
  have HO2 := Lib.hid (Own8.mono' ho2 HW1.out.size)
  have HB2 := Lib.hid (HB1.out.fut hb2)
  have HW2 := Lib.hid (below_fut HW1.out hb2 (Nat.le_refl _))
  have hbn := below_new w2 (.cells YFrm.toArray 37)
  clear he1 ho2 hb2 l1 HB1 HW1
  go_upto_region 2 with ((with_reducible refine wp_store_blk (o := ⟨none, _, _, _, _, _⟩) ?_ 37 (.tmp 3) (.tmp 14) ?_ (w2.heap.size) 37 (YFrm.toArray) (#[.string (strB cmd), .slice q2 m2 c2]) ?_ ?_ (Blk.new w2 _ _) ?_ ?_ ?_ (w2.heap.size) (w2) ?_ ?_ ?_
                          · rfl
                          · rfl
                          · rfl
                          · rfl
                          · exact ((by kernel_rfl))
                          · exact (rfl)
                          · exact (all_frm)
                          · exact (hbn)
                          · exact (Nat.le_refl _)
                          intro w3 hB3 hb3 hg3 hs3))
  try simp only [put_none]
  obtain ⟨z3, hz3⟩ : ∃ z, z = w2.heap.size := ⟨_, rfl⟩
  rw [← hz3] at hB3 ⊢
  have HF3 := Lib.hid hB3.out
  have HB3 := Lib.hid (HB2.out.fut hb3)
  have HO3 := Lib.hid (HO2.out.fut hb3)
  have hw3 := below_fut HW2.out hb3 (Nat.le_refl _)
  have HW3 := Lib.hid hw3
  have l1 := blk_range HB3.out
  have he2 := refMsgEncode_any m cs w3 (msgC_keeps _ _ _ _ HM.out hw3)
  rw [HX.out] at he2
  unfold MsgEnc at he2
  simp only at he2
  clear hbn hz3 hB3 hb3 hg3 hs3 hw3 HB2 HO2 HW2
  go_wp2_with ((with_reducible refine wpList_load_mid (op := ⟨some 17, _, _, _, _, _⟩) ?_ 35 (.tmp 1) ?_ (zm) (0) ?_ (cs) _ (l1) Tryz.underlying35 ?_ ?_ ?_
                · rfl
                · rfl
                · rfl
                · rfl
                · exact ((info_Msg HCL.out))))
  refine he2.mono ?_
  rintro e w4 ⟨v4, rfl, ho4, hb4⟩
  obtain ⟨q4, m4, c4, rfl, _⟩ := ho4.open
  have HP4 := Lib.hid (Own8.mono' ho4 HW3.out.size)
  have HB4 := Lib.hid (HB3.out.fut hb4)
  have HF4 := Lib.hid (HF3.out.fut hb4)
  have HO4 := Lib.hid (HO3.out.fut hb4)
  have HW4 := Lib.hid (below_fut HW3.out hb4 (Nat.le_refl _))
  have hbn := below_new w4 (.cells YFrm.toArray 37)
  clear he2 ho4 hb4 l1 HB3 HF3 HO3 HW3
  go_upto_region 3 with ((with_reducible refine wp_store_blk (o := ⟨none, _, _, _, _, _⟩) ?_ 37 (.tmp 5) (.tmp 19) ?_ (w4.heap.size) 37 (YFrm.toArray) (#[.string (strB cmd), .slice q4 m4 c4]) ?_ ?_ (Blk.new w4 _ _) ?_ ?_ ?_ (w4.heap.size) (w4) ?_ ?_ ?_
                          · rfl
                          · rfl
                          · rfl
                          · rfl
                          · exact ((by kernel_rfl))
                          · exact (rfl)
                          · exact (all_frm)
                          · exact (hbn)
                          · exact (Nat.le_refl _)
                          intro w5 hB5 hb5 hg5 hs5))
  try simp only [put_none]
  obtain ⟨z5, hz5⟩ : ∃ z, z = w4.heap.size := ⟨_, rfl⟩
  rw [← hz5] at hB5 ⊢
  have HG5 := Lib.hid hB5.out
  have HB5 := Lib.hid (HB4.out.fut hb5)
  have HF5 := Lib.hid (HF4.out.fut hb5)
  have HO5 := Lib.hid (HO4.out.fut hb5)
  have HP5 := Lib.hid (HP4.out.fut hb5)
  have HW5 := Lib.hid (below_fut HW4.out hb5 (Nat.le_refl _))
  have l1 := blk_range HB5.out
  have he3 := HB1'.out w5 (HK.out.below HW5.out hKs) (msgC_keeps _ _ _ _ HM.out HW5.out)
  clear hbn hz5 hB5 hb5 hg5 hs5 HB4 HF4 HO4 HP4 HW4
  go_wp2_with ((with_reducible refine wpList_load_mid (op := ⟨some 22, _, _, _, _, _⟩) ?_ 35 (.tmp 1) ?_ (zm) (0) ?_ (cs) _ (l1) Tryz.underlying35 ?_ ?_ ?_
                · rfl
                · rfl
                · rfl
                · rfl
                · exact ((info_Msg HCL.out))))
  refine he3.mono ?_
  rintro e w6 ⟨v6, rfl, ho6, hb6⟩
  have HQ6 := Lib.hid ho6
  have HB6 := Lib.hid (HB5.out.fut hb6)
  have HF6 := Lib.hid (HF5.out.fut hb6)
  have HG6 := Lib.hid (HG5.out.fut hb6)
  have HO6 := Lib.hid (HO5.out.fut hb6)
  have HP6 := Lib.hid (HP5.out.fut hb6)
  have HW6 := Lib.hid (below_fut HW5.out hb6 (Nat.le_refl _))
  have l1' := blk_range HB6.out
  have he4 := HB2'.out w6 (msgC_keeps _ _ _ _ HM.out HW6.out)
  clear he3 ho6 hb6 l1 HB5 HF5 HG5 HO5 HP5 HW5
  go_wp2_with ((with_reducible refine wpList_load_mid (op := ⟨some 27, _, _, _, _, _⟩) ?_ 35 (.tmp 1) ?_ (zm) (0) ?_ (cs) _ (l1') Tryz.underlying35 ?_ ?_ ?_
                · rfl
                · rfl
                · rfl
                · rfl
                · exact ((info_Msg HCL.out))))
  refine he4.mono ?_
  rintro e w7 ⟨p7, n7, c7, rfl, hn7, hl7, hm7, hr7, hb7⟩
  obtain ⟨p6, n6, c6, rfl, hn6, hl6, hm6, hr6⟩ := (HQ6.out.fut hb7).open
  have HR := Lib.hid (And.intro hn6.out (And.intro hr6 (And.intro hn7.out hr7)))
  have HW7 := Lib.hid (below_fut HW6.out hb7 (Nat.le_refl _))
  have cf0 : w7.cell? ⟨z3, 0, none⟩ = some (.string (strB cmd)) := by have := (HF6.out.fut hb7).cell 0; simpa using this
  have cg0 : w7.cell? ⟨z5, 0, none⟩ = some (.string (strB cmd)) := by have := (HG6.out.fut hb7).cell 0; simpa using this
  have cf : w7.cell? ⟨z3, 1, none⟩ = some (.slice q2 m2 c2) := by have := (HF6.out.fut hb7).cell 1; simpa using this
  have cg : w7.cell? ⟨z5, 1, none⟩ = some (.slice q4 m4 c4) := by have := (HG6.out.fut hb7).cell 1; simpa using this
  have heq := bEqual_any _ _ by_ w7 (HO6.out.fut hb7).sl (HP6.out.fut hb7).sl
  have hse : ((strB cmd).toList == (strB cmd).toList) = true := by simp
  have hkk : (er == er) = true := by simp
  have hkl : (ek == ek) = true := by simp
  clear he4 hn7 hl7 hm7 hr7 hb7 hn6 hl6 hm6 hr6 l1' HB6 HF6 HG6 HO6 HP6 HQ6 HW6
  go_wp2_with fail
  refine heq.mono ?_
  rintro e w8 ⟨rfl, hw8⟩
  replace hw8 := hw8.symm
  subst hw8
  go_wp2_with fail
  refine (equal_same _ _ _ _ _ _ oo _ HR.out.2.1 HR.out.2.2.2 HR.out.1 HR.out.2.2.1).mono ?_
  rintro e w9 ⟨rfl, hw9⟩
  replace hw9 := hw9.symm
  subst hw9
  clear cf cg cf0 cg0 heq
  go_wp2_with fail
  refine (awakeM_any w7).mono ?_
  rintro e wa ⟨rfl, hba⟩
  go_wp2_with fail
  go_ret
  exact ⟨rfl, below_fut HW7.out hba (Nat.le_refl _)⟩
end Go.Proofs.YtndobjlodpkknaaGreatDoor
