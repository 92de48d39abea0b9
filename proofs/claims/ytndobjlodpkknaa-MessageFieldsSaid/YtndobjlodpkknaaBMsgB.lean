/- MessageBack: the walk.  -/
import Derived.Test.YtndobjlodpkknaaBMsgY
import Derived.Test.YtndobjlodpkknaaBMsgX
import Derived.Test.YtndobjlodpkknaaBMsgI
namespace Go.Proofs.Ytndobjlodpkknaa
open Go Go.RowKit
set_option linter.unusedVariables false
theorem hdsB_le {l : List Hdr} (hk : ∀ x ∈ l, Hdr.ok x) : (hdsB l).length ≤ 9 + l.length * 81 := by
  unfold hdsB
  have h1 := cntB_len l.length
  have h2 := flat_le (fun h : Hdr => h.bytes ++ [0#8]) 81 l fun x hx => by rw [List.length_append, Hdr.bytes_len (hk x hx)]; decide
  rw [List.length_append]
  omega
theorem text_le9 (b : Bs) : (text b).length ≤ 9 + b.length := by
  have h1 : (enc (BitVec.ofNat 64 b.length)).length ≤ 9 := cntB_len b.length
  unfold text
  rw [List.length_append]
  omega
theorem pay_len (m : TMsg) (hk : okMsg m) (h : (payP m).2 = 0) : (payP m).1.length ≤ 10000000 := by
  obtain ⟨h1, h13⟩ := kind_le h
  obtain ⟨hpv, hst, hhs, hhd, hbh, hbt⟩ := hk
  obtain ⟨k, nu, no, pv, st, hs, hd, tx, bl⟩ := m
  simp only at h1 h13 hpv hst hhs hhd hbh hbt
  have : k = 1 ∨ k = 2 ∨ k = 3 ∨ k = 4 ∨ k = 5 ∨ k = 6 ∨ k = 7 ∨ k = 8 ∨ k = 9 ∨ k = 10 ∨ k = 11 ∨ k = 12 ∨ k = 13 := by omega
  rcases this with rfl | rfl | rfl | rfl | rfl | rfl | rfl | rfl | rfl | rfl | rfl | rfl | rfl
  · show (le32 nu ++ (nulls 68 ++ (low no 8 ++ nulls 5))).length ≤ _
    rw [List.length_append, List.length_append, List.length_append, le32_len, low_len, nulls_len, nulls_len]; omega
  · show ([] : Bs).length ≤ _
    exact Nat.zero_le _
  · show (low no 8).length ≤ _
    rw [low_len]; omega
  · show (low no 8).length ≤ _
    rw [low_len]; omega
  · by_cases hl : 101 < hs.length
    · exact absurd h (by rw [show payP ⟨5, nu, no, pv, st, hs, hd, tx, bl⟩ = ([], 1) from if_pos hl]; decide)
    rw [show payP ⟨5, nu, no, pv, st, hs, hd, tx, bl⟩ = (le32 nu ++ (hshB [] hs ++ st), 0) from if_neg hl]
    have b1 := hshB_le (a := []) hhs (by decide)
    show (le32 nu ++ (hshB [] hs ++ st)).length ≤ _
    rw [List.length_append, List.length_append, le32_len]; omega
  · by_cases hl : 100 < hd.length
    · exact absurd h (by rw [show payP ⟨6, nu, no, pv, st, hs, hd, tx, bl⟩ = ([], 1) from if_pos hl]; decide)
    rw [show payP ⟨6, nu, no, pv, st, hs, hd, tx, bl⟩ = (hdsB hd, 0) from if_neg hl]
    have b1 := hdsB_le hhd
    show (hdsB hd).length ≤ _
    omega
  · show (0#8 :: (le32 nu ++ st)).length ≤ _
    rw [List.length_cons, List.length_append, le32_len]; omega
  · by_cases hl : 2000 < hs.length
    · exact absurd h (by rw [show payP ⟨8, nu, no, pv, st, hs, hd, tx, bl⟩ = ([], 1) from if_pos hl]; decide)
    rw [show payP ⟨8, nu, no, pv, st, hs, hd, tx, bl⟩ = ([0#8] ++ (st ++ (pv ++ hshB [] hs)), 0) from if_neg hl]
    have b1 := hshB_le (a := []) hhs (by decide)
    show (0#8 :: (st ++ (pv ++ hshB [] hs))).length ≤ _
    rw [List.length_cons, List.length_append, List.length_append]; omega
  · show (0#8 :: (le32 nu ++ st)).length ≤ _
    rw [List.length_cons, List.length_append, le32_len]; omega
  · by_cases hl : 199950 < tx.length
    · exact absurd h (by rw [show payP ⟨10, nu, no, pv, st, hs, hd, tx, bl⟩ = ([], 1) from if_pos hl]; decide)
    rw [show payP ⟨10, nu, no, pv, st, hs, hd, tx, bl⟩ = ([0#8] ++ (st ++ text tx), 0) from if_neg hl]
    have b1 := text_le9 tx
    show (0#8 :: (st ++ text tx)).length ≤ _
    rw [List.length_cons, List.length_append]; omega
  · by_cases hl : 1000 < hs.length
    · exact absurd h (by rw [show payP ⟨11, nu, no, pv, st, hs, hd, tx, bl⟩ = ([], 1) from if_pos hl]; decide)
    rw [show payP ⟨11, nu, no, pv, st, hs, hd, tx, bl⟩ = (hshB wantB hs, 0) from if_neg hl]
    have b1 := hshB_le (a := wantB) hhs (by decide)
    show (hshB wantB hs).length ≤ _
    omega
  · show (blkP bl).1.length ≤ _
    rcases blkP_cases bl with ⟨k, hk, e⟩ | ⟨e, hn, hc, hl⟩
    · rw [e]; exact Nat.zero_le _
    · rw [e]; show (blkB bl).length ≤ _; omega
  · by_cases hl : 1000 < hs.length
    · exact absurd h (by rw [show payP ⟨13, nu, no, pv, st, hs, hd, tx, bl⟩ = ([], 1) from if_pos hl]; decide)
    rw [show payP ⟨13, nu, no, pv, st, hs, hd, tx, bl⟩ = (hshB wantB hs, 0) from if_neg hl]
    have b1 := hshB_le (a := wantB) hhs (by decide)
    show (hshB wantB hs).length ≤ _
    omega
theorem msgP_bad {m : TMsg} (h : (payP m).2 ≠ 0) : msgP m = ([], [], (payP m).2) := by unfold msgP; rw [if_neg h]
theorem all_frm {s : ByteArray} {p : Option Addr} {n c : Nat} : (#[Value.string s, Value.slice p n c] : Array Value).all (·.oneCell') = true := by rw [List.all_toArray]; rfl
theorem norm_twice (m : TMsg) (h : (payP m).2 = 0) : msgP (normP m) = (cmdB m.k, (payP m).1, 0) := by
  have h1 := norm_pay m h
  rw [msgP_ok (normP m) (by rw [h1]; exact h), h1, norm_k]
set_option maxRecDepth 100000 in
set_option maxHeartbeats 8000000 in
theorem messageBack_walk (cs : List Value) (m : TMsg) (W : World) (hm : MsgC W m cs) :
    Calls Try.prog 5 #[.agg cs.toArray] W fun e w' => e = .returned (.bool true) ∧ Below W.heap.size W w' := by
  have HM := Lib.hid hm
  have HCL := Lib.hid hm.len
  have hzf := yFrm
  obtain ⟨zm, hzm⟩ : ∃ z, z = W.heap.size := ⟨_, rfl⟩
  obtain ⟨W1, hW1⟩ : ∃ V, V = W.alloc (.cells cs.toArray 38) := ⟨_, rfl⟩
  have hb1 : Below W.heap.size W W1 := by rw [hW1]; exact below_new W _
  have hB1 : Blk W1 zm 38 cs.toArray := by rw [hW1, hzm]; exact Blk.new W _ _
  have HB1 := Lib.hid hB1
  have HW1 := Lib.hid hb1
  have l1 := blk_range hB1
  have he1 := msgEncode_any m cs W1 (msgC_keeps _ _ _ _ hm hb1)
  obtain ⟨x, hx⟩ : ∃ x, x = msgP m := ⟨_, rfl⟩
  rw [← hx] at he1
  obtain ⟨cmd, by_, er⟩ := x
  have HX := Lib.hid hx.symm
  unfold MsgEnc at he1
  simp only at he1
  clear hb1 hB1 hm hx
  go_enter Try.func5, Try.ntmps5
  go_upto_region 1 with fail
  rw [← hW1, ← hzm]
  clear hW1 hzm
  go_wp2_with ((with_reducible refine wpList_load_mid (op := ⟨some 14, _, _, _, _, _⟩) ?_ 38 (.tmp 1) ?_ (zm) (0) ?_ (cs) _ (l1) Try.underlying38 ?_ ?_ ?_
                · rfl
                · rfl
                · rfl
                · rfl
                · exact ((info_Msg HCL.out))))
  refine he1.mono ?_
  rintro e w2 ⟨v2, rfl, ho2, hb2⟩
  obtain ⟨q2, m2, c2, rfl, _⟩ := ho2.open
  have HO2 := Lib.hid (Own8.mono' ho2 HW1.out.size)
  have HB2 := Lib.hid (HB1.out.fut hb2)
  have HW2 := Lib.hid (below_fut HW1.out hb2 (Nat.le_refl _))
  have hbn := below_new w2 (.cells YFrm.toArray 24)
  clear he1 ho2 hb2 l1 HB1 HW1
  go_upto_region 2 with ((with_reducible refine wp_store_blk (o := ⟨none, _, _, _, _, _⟩) ?_ 24 (.tmp 3) (.tmp 16) ?_ (w2.heap.size) 24 (YFrm.toArray) (#[.string (strB cmd), .slice q2 m2 c2]) ?_ ?_ (Blk.new w2 _ _) ?_ ?_ ?_ (w2.heap.size) (w2) ?_ ?_ ?_
                          · rfl
                          · rfl
                          · rfl
                          · rfl
                          · exact ((by kernel_rfl))
                          · exact (rfl)
                          · exact (all_frm)
                          · exact (hbn)
                          · exact (Nat.le_refl _)
                          intro w3 hB3 hb3 hg3 hs3))
  try simp only [put_none]
  obtain ⟨z3, hz3⟩ : ∃ z, z = w2.heap.size := ⟨_, rfl⟩
  rw [← hz3] at hB3 ⊢
  have HF3 := Lib.hid hB3.out
  have HB3 := Lib.hid (HB2.out.fut hb3)
  have HO3 := Lib.hid (HO2.out.fut hb3)
  have hw3 := below_fut HW2.out hb3 (Nat.le_refl _)
  have HW3 := Lib.hid hw3
  have l1 := blk_range HB3.out
  have he2 := refMsgEncode_any m cs w3 (msgC_keeps _ _ _ _ HM.out hw3)
  rw [HX.out] at he2
  unfold MsgEnc at he2
  simp only at he2
  clear hbn hz3 hB3 hb3 hg3 hs3 hw3 HB2 HO2 HW2
  go_wp2_with ((with_reducible refine wpList_load_mid (op := ⟨some 19, _, _, _, _, _⟩) ?_ 38 (.tmp 1) ?_ (zm) (0) ?_ (cs) _ (l1) Try.underlying38 ?_ ?_ ?_
                · rfl
                · rfl
                · rfl
                · rfl
                · exact ((info_Msg HCL.out))))
  refine he2.mono ?_
  rintro e w4 ⟨v4, rfl, ho4, hb4⟩
  obtain ⟨q4, m4, c4, rfl, _⟩ := ho4.open
  have HB4 := Lib.hid (HB3.out.fut hb4)
  have HF4 := Lib.hid (HF3.out.fut hb4)
  have HO4 := Lib.hid (HO3.out.fut hb4)
  have HW4 := Lib.hid (below_fut HW3.out hb4 (Nat.le_refl _))
  have hbn := below_new w4 (.cells YFrm.toArray 24)
  clear he2 ho4 hb4 l1 HB3 HF3 HO3 HW3
  go_upto_region 3 with ((with_reducible refine wp_store_blk (o := ⟨none, _, _, _, _, _⟩) ?_ 24 (.tmp 5) (.tmp 21) ?_ (w4.heap.size) 24 (YFrm.toArray) (#[.string (strB cmd), .slice q4 m4 c4]) ?_ ?_ (Blk.new w4 _ _) ?_ ?_ ?_ (w4.heap.size) (w4) ?_ ?_ ?_
                          · rfl
                          · rfl
                          · rfl
                          · rfl
                          · exact ((by kernel_rfl))
                          · exact (rfl)
                          · exact (all_frm)
                          · exact (hbn)
                          · exact (Nat.le_refl _)
                          intro w5 hB5 hb5 hg5 hs5))
  try simp only [put_none]
  have HB5 := Lib.hid (HB4.out.fut hb5)
  have HF5 := Lib.hid (HF4.out.fut hb5)
  have HO5 := Lib.hid (HO4.out.fut hb5)
  have HW5 := Lib.hid (below_fut HW4.out hb5 (Nat.le_refl _))
  have hkk : (er == er) = true := by simp
  clear hbn hB5 hb5 hg5 hs5 HB4 HF4 HO4 HW4
  by_cases he : er = 0
  case neg =>
    have hb1 : (er == 0) = false := by rw [beq_eq_false_iff_ne]; exact he
    have hce : cmd = [] := by
      by_cases hp : (payP m).2 = 0
      · have h3 := congrArg (fun x => x.2.2) ((msgP_ok m hp).symm.trans HX.out); exact absurd h3.symm he
      · exact (congrArg (fun x => x.1) ((msgP_bad hp).symm.trans HX.out)).symm
    have heq : (strB cmd).toList.isEmpty = true := by rw [hce]; unfold strB; rw [Lib.strOfNums_toList]; rfl
    have c3 : w5.cell? ⟨z3, 0, none⟩ = some (.string (strB cmd)) := by have := HF5.out.cell 0; simpa using this
    clear he hce
    go_wp2_with fail
    refine (awakeM_any w5).mono ?_
    rintro e w6 ⟨rfl, hb6⟩
    go_wp2_with fail
    go_ret
    exact ⟨rfl, below_fut HW5.out hb6 (Nat.le_refl _)⟩
  subst he
  have hp : (payP m).2 = 0 := by
    by_cases hp : (payP m).2 = 0
    · exact hp
    · have h3 := congrArg (fun x => x.2.2) ((msgP_bad hp).symm.trans HX.out); exact absurd h3 hp
  have hxe : cmd = cmdB m.k ∧ by_ = (payP m).1 := by
    have h0 := (msgP_ok m hp).symm.trans HX.out; exact ⟨(congrArg (fun x => x.1) h0).symm, (congrArg (fun x => x.2.1) h0).symm⟩
  have HXE := Lib.hid hxe
  have HPB := Lib.hid hp
  have HOK := Lib.hid HM.out.okMsg
  have hdb := dec_back m HOK.out hp
  rw [← hxe.1, ← hxe.2] at hdb
  have HDB := Lib.hid hdb
  have HLP : Hid (by_.length ≤ 10000000) := Lib.hid (by rw [hxe.2]; exact pay_len m HOK.out hp)
  obtain ⟨n, hn⟩ : ∃ n, n = normP m := ⟨_, rfl⟩
  have HNK : Hid (n.k = m.k) := Lib.hid (by rw [hn]; exact norm_k m)
  have HNP : Hid (msgP n = (cmd, by_, 0)) := Lib.hid (by rw [hn, norm_twice m hp, hxe.1, hxe.2])
  have HDB : Hid (msgDecP cmd by_ = (n, true, 0)) := Lib.hid (by rw [hn]; exact hdb)
  have hsl := HO5.out.sl
  have hm2 : m2 ≤ 140737488355328 := by obtain ⟨_, _, _, e, h1, _⟩ := hsl; injection e with _ e2; rw [e2, ← h1]; have := HLP.out; omega
  have hd1 := msgDecode_any cmd q2 m2 c2 by_ w5 hsl hm2
  rw [HDB.out] at hd1
  unfold MsgDec at hd1
  simp only at hd1
  have l3 := blk_range (cs := [.string (strB cmd), .slice q2 m2 c2]) HF5.out
  have hzm := zMsg
  obtain ⟨Y0, hY0⟩ : ∃ Y, Y = (msgZ 0).toArray := ⟨_, rfl⟩
  rw [← hY0] at hzm
  have HYS : Hid (Y0.size = 139) := Lib.hid (by rw [hY0]; exact msgZ_size 0)
  clear hp hxe hdb hn hsl hm2 hY0 hkk
  go_wp2_with ((with_reducible refine wpList_load_mid (op := ⟨some 35, _, _, _, _, _⟩) ?_ 24 (.tmp 3) ?_ (z3) (0) ?_ ([.string (strB cmd), .slice q2 m2 c2]) _ (l3) Try.underlying24 ?_ ?_ ?_
                · rfl
                · rfl
                · rfl
                · rfl
                · exact ((by kernel_rfl))))
  refine hd1.mono ?_
  rintro e w6 ⟨cs6, rfl, ho6, hb6⟩
  have HB6 := Lib.hid (HB5.out.fut hb6)
  have HF6 := Lib.hid (HF5.out.fut hb6)
  have HO6 := Lib.hid (HO5.out.fut hb6)
  have HW6 := Lib.hid (below_fut HW5.out hb6 (Nat.le_refl _))
  have HC6 := Lib.hid ho6.c
  have HCL6 := Lib.hid ho6.c.len
  have hone := ho6.c.one
  have hzsz := ho6.c.size HYS.out
  have hbn := below_new w6 (.cells Y0 38)
  clear hd1 hb6 ho6 l3 HB5 HF5 HO5 HW5
  go_upto_region 8 with ((with_reducible refine wp_store_blk (o := ⟨none, _, _, _, _, _⟩) ?_ 38 (.tmp 7) (.tmp 37) ?_ (w6.heap.size) 38 (Y0) (cs6.toArray) ?_ ?_ (Blk.new w6 _ _) ?_ ?_ ?_ (w6.heap.size) (w6) ?_ ?_ ?_
                          · rfl
                          · rfl
                          · rfl
                          · rfl
                          · exact (info_MsgS HCL6.out)
                          · exact (hzsz)
                          · exact (hone)
                          · exact (hbn)
                          · exact (Nat.le_refl _)
                          intro w7 hB7 hb7 hg7 hs7))
  try simp only [put_none]
  have HB7 := Lib.hid (HB6.out.fut hb7)
  have HF7 := Lib.hid (HF6.out.fut hb7)
  have HO7 := Lib.hid (HO6.out.fut hb7)
  have HW7 := Lib.hid (below_fut HW6.out hb7 (Nat.le_refl _))
  have HC7 := Lib.hid (msgC_keeps _ _ _ _ HC6.out hb7)
  obtain ⟨z7, hz7⟩ : ∃ z, z = w6.heap.size := ⟨_, rfl⟩
  rw [← hz7] at hB7 ⊢
  have HX7 := Lib.hid hB7.out
  have k7 : w7.cell? ⟨z7, 0, none⟩ = some (.int .i64 m.k) := by
    obtain ⟨hv, dv, bv, bc, hcs, _⟩ := HC6.out
    have := HX7.out.cell 0
    rw [List.getElem?_toArray, hcs, HNK.out] at this
    exact this
  have k1 : w7.cell? ⟨zm, 0, none⟩ = some (.int .i64 m.k) := by
    obtain ⟨hv, dv, bv, bc, hcs, _⟩ := HM.out
    have := HB7.out.cell 0
    rw [List.getElem?_toArray, hcs] at this
    exact this
  obtain ⟨kk, hkk⟩ : ∃ k, k = m.k := ⟨_, rfl⟩
  rw [← hkk] at k7 k1
  have l7 := blk_range HX7.out
  have he3 := msgEncode_any n cs6 w7 HC7.out
  rw [HNP.out] at he3
  unfold MsgEnc at he3
  simp only at he3
  clear hkk hz7 hbn hone hzsz hB7 hb7 hg7 hs7 HB6 HF6 HO6 HW6 HC6
  go_wp2_with ((with_reducible refine wpList_load_mid (op := ⟨some 54, _, _, _, _, _⟩) ?_ 38 (.tmp 7) ?_ (z7) (0) ?_ (cs6) _ (l7) Try.underlying38 ?_ ?_ ?_
                · rfl
                · rfl
                · rfl
                · rfl
                · exact ((info_Msg HCL6.out))))
  refine he3.mono ?_
  rintro e w8 ⟨v8, rfl, ho8, hb8⟩
  obtain ⟨q8, m8, c8, rfl, _⟩ := ho8.open
  have HO8 := Lib.hid (Own8.mono' ho8 HW7.out.size)
  have HF8 := Lib.hid (HF7.out.fut hb8)
  have HP8 := Lib.hid (HO7.out.fut hb8)
  have HX8 := Lib.hid (HX7.out.fut hb8)
  have HC8 := Lib.hid (msgC_keeps _ _ _ _ HC7.out hb8)
  have HW8 := Lib.hid (below_fut HW7.out hb8 (Nat.le_refl _))
  have hbn := below_new w8 (.cells YFrm.toArray 24)
  clear he3 ho8 hb8 l7 HB7 HF7 HO7 HX7 HC7 HW7 k7 k1
  go_upto_region 11 with ((with_reducible refine wp_store_blk (o := ⟨none, _, _, _, _, _⟩) ?_ 24 (.tmp 9) (.tmp 56) ?_ (w8.heap.size) 24 (YFrm.toArray) (#[.string (strB cmd), .slice q8 m8 c8]) ?_ ?_ (Blk.new w8 _ _) ?_ ?_ ?_ (w8.heap.size) (w8) ?_ ?_ ?_
                           · rfl
                           · rfl
                           · rfl
                           · rfl
                           · exact ((by kernel_rfl))
                           · exact (rfl)
                           · exact (all_frm)
                           · exact (hbn)
                           · exact (Nat.le_refl _)
                           intro w9 hB9 hb9 hg9 hs9))
  try simp only [put_none]
  obtain ⟨z9, hz9⟩ : ∃ z, z = w8.heap.size := ⟨_, rfl⟩
  rw [← hz9] at hB9 ⊢
  have HG9 := Lib.hid hB9.out
  have HO9 := Lib.hid (HO8.out.fut hb9)
  have HF9 := Lib.hid (HF8.out.fut hb9)
  have HP9 := Lib.hid (HP8.out.fut hb9)
  have HX9 := Lib.hid (HX8.out.fut hb9)
  have HC9 := Lib.hid (msgC_keeps _ _ _ _ HC8.out hb9)
  have HW9 := Lib.hid (below_fut HW8.out hb9 (Nat.le_refl _))
  have hsl := HO9.out.sl
  have hm8 : m8 ≤ 140737488355328 := by obtain ⟨_, _, _, e, h1, _⟩ := hsl; injection e with _ e2; rw [e2, ← h1]; have := HLP.out; omega
  have hd2 := msgDecode_any cmd q8 m8 c8 by_ w9 hsl hm8
  rw [HDB.out] at hd2
  unfold MsgDec at hd2
  simp only at hd2
  have l9 := blk_range (cs := [.string (strB cmd), .slice q8 m8 c8]) HG9.out
  clear hz9 hbn hB9 hb9 hg9 hs9 HO8 HF8 HP8 HX8 HC8 HW8 hsl hm8
  go_wp2_with ((with_reducible refine wpList_load_mid (op := ⟨some 59, _, _, _, _, _⟩) ?_ 24 (.tmp 9) ?_ (z9) (0) ?_ ([.string (strB cmd), .slice q8 m8 c8]) _ (l9) Try.underlying24 ?_ ?_ ?_
                · rfl
                · rfl
                · rfl
                · rfl
                · exact ((by kernel_rfl))))
  refine hd2.mono ?_
  rintro e wa ⟨csa, rfl, hoa, hba⟩
  have HGa := Lib.hid (HG9.out.fut hba)
  have HOa := Lib.hid (HO9.out.fut hba)
  have HFa := Lib.hid (HF9.out.fut hba)
  have HPa := Lib.hid (HP9.out.fut hba)
  have HXa := Lib.hid (HX9.out.fut hba)
  have HCa := Lib.hid (msgC_keeps _ _ _ _ HC9.out hba)
  have HWa := Lib.hid (below_fut HW9.out hba (Nat.le_refl _))
  have HDa := Lib.hid hoa.c
  have HCLa := Lib.hid hoa.c.len
  have hone := hoa.c.one
  have hzsz := hoa.c.size HYS.out
  have hbn := below_new wa (.cells Y0 38)
  clear hd2 hba hoa l9 HG9 HO9 HF9 HP9 HX9 HC9 HW9
  go_upto_region 12 with ((with_reducible refine wp_store_blk (o := ⟨none, _, _, _, _, _⟩) ?_ 38 (.tmp 10) (.tmp 61) ?_ (wa.heap.size) 38 (Y0) (csa.toArray) ?_ ?_ (Blk.new wa _ _) ?_ ?_ ?_ (wa.heap.size) (wa) ?_ ?_ ?_
                           · rfl
                           · rfl
                           · rfl
                           · rfl
                           · exact (info_MsgS HCLa.out)
                           · exact (hzsz)
                           · exact (hone)
                           · exact (hbn)
                           · exact (Nat.le_refl _)
                           intro wb hBb hbb hgb hsb))
  try simp only [put_none]
  obtain ⟨zb, hzb⟩ : ∃ z, z = wa.heap.size := ⟨_, rfl⟩
  rw [← hzb] at hBb ⊢
  have HY := Lib.hid hBb.out
  have HGb := Lib.hid (HGa.out.fut hbb)
  have HOb := Lib.hid (HOa.out.fut hbb)
  have HFb := Lib.hid (HFa.out.fut hbb)
  have HPb := Lib.hid (HPa.out.fut hbb)
  have HXb := Lib.hid (HXa.out.fut hbb)
  have hsame := sameMsg_any n cs6 csa wb (msgC_keeps _ _ _ _ HCa.out hbb) (msgC_keeps _ _ _ _ HDa.out hbb)
  have HWb := Lib.hid (below_fut HWa.out hbb (Nat.le_refl _))
  have l7 := blk_range HXb.out
  have lb := blk_range HY.out
  clear hzb hbn hone hzsz hBb hbb hgb hsb HGa HOa HFa HPa HXa HCa HDa HWa
  go_wp2_with (first
    | (with_reducible refine wpList_load_midG (op := ⟨some 71, _, _, _, _, _⟩) ?_ 38 (.tmp 7) ?_ (z7) (0) ?_ (cs6) _ (l7) Try.underlying38 ?_ ?_ ?_
       · rfl
       · rfl
       · rfl
       · rfl
       · exact ((info_Msg HCL6.out)))
    | (with_reducible refine wpList_load_midG (op := ⟨some 72, _, _, _, _, _⟩) ?_ 38 (.tmp 10) ?_ (zb) (0) ?_ (csa) _ (lb) Try.underlying38 ?_ ?_ ?_
       · rfl
       · rfl
       · rfl
       · rfl
       · exact ((info_Msg HCLa.out))))
  refine hsame.mono ?_
  rintro e wc ⟨rfl, hbc⟩
  have cf : wc.cell? ⟨z3, 1, none⟩ = some (.slice q2 m2 c2) := by have := (HFb.out.fut hbc).cell 1; simpa using this
  have cg : wc.cell? ⟨z9, 1, none⟩ = some (.slice q8 m8 c8) := by have := (HGb.out.fut hbc).cell 1; simpa using this
  have heq := bEqual_any _ _ by_ wc (HPb.out.fut hbc).sl (HOb.out.fut hbc).sl
  have HWc := Lib.hid (below_fut HWb.out hbc (Nat.le_refl _))
  clear hsame hbc l7 lb HGb HOb HFb HPb HXb HY HWb
  go_wp2_with fail
  refine heq.mono ?_
  rintro e wd ⟨rfl, hwd⟩
  replace hwd := hwd.symm
  subst hwd
  go_wp2_with fail
  go_ret
  exact ⟨rfl, HWc.out⟩
end Go.Proofs.Ytndobjlodpkknaa
