/- MessageBlocks: the walk. -/
import Derived.Test.YtndobjlodpkknaaBMsgB
namespace Go.Proofs.Ytndobjlodpkknaa
open Go Go.RowKit
set_option linter.unusedVariables false

theorem built_msgb {h : Hdr} (hk : h.ok) (p : Option Addr) (n c : Nat) : Try.prog.built 38 [(0, .int .i64 12), (8, .agg (h.cells ++ [Value.slice p n c]).toArray)] = some (msgCells (.int .i64 12) (u32 0#32) (u64 0#64) noHash noHash (.slice none 0 0) (.slice none 0 0) (.slice none 0 0) (h.cells ++ [Value.slice p n c])).toArray := by
  obtain ⟨v, pp, m, t, b, nn⟩ := h
  obtain ⟨x, rfl⟩ := of_fn pp 32 hk.1
  obtain ⟨y, rfl⟩ := of_fn m 32 hk.2
  kernel_rfl
theorem blk_msgC {w : World} {b : TBlk} {bc : List Value} (h : BlkC w b bc) : MsgC w { noMsg with k := 12, bl := b } (msgCells (.int .i64 12) (u32 0#32) (u64 0#64) noHash noHash (.slice none 0 0) (.slice none 0 0) (.slice none 0 0) bc) :=
  ⟨_, _, _, _, rfl, noHash_len, noHash_len, (RowO.nil HashE 29 32 0 w).e (fun _ _ h => h), (RowO.nil HdrE 33 68 0 w).e (fun _ _ h => h), (Own8.nil w 0).sl, h⟩
theorem msgP_blk (b : TBlk) : msgP { noMsg with k := 12, bl := b } = if (blkP b).2 = 0 then (cmdN 12, (blkP b).1, 0) else ([], [], (blkP b).2) := msgP_12 _ _ _ _ _ _ _ b

set_option maxRecDepth 100000 in
set_option maxHeartbeats 8000000 in
theorem messageBlocks_walk (bc : List Value) (b : TBlk) (W : World) (hb : BlkC W b bc) :
    Calls Try.prog 4 #[.agg bc.toArray] W fun e w' => e = .returned (.bool true) ∧ Below W.heap.size W w' := by
  have HB := Lib.hid hb
  have HBL := Lib.hid hb.len
  have hzf := yFrm
  obtain ⟨v, hbc, hok, hrow⟩ := hb
  obtain ⟨p, n, c, rfl⟩ := hrow.opens
  have hbt := built_msgb hok p n c
  rw [← hbc] at hbt
  obtain ⟨mc, hmc⟩ : ∃ mc, mc = msgCells (.int .i64 12) (u32 0#32) (u64 0#64) noHash noHash (.slice none 0 0) (.slice none 0 0) (.slice none 0 0) bc := ⟨_, rfl⟩
  rw [← hmc] at hbt
  obtain ⟨zm, hzm⟩ : ∃ z, z = W.heap.size := ⟨_, rfl⟩
  obtain ⟨W1, hW1⟩ : ∃ V, V = W.alloc (.cells bc.toArray 36) := ⟨_, rfl⟩
  have hb1 : Below W.heap.size W W1 := by rw [hW1]; exact below_new W _
  have hB1 : Blk W1 zm 36 bc.toArray := by rw [hW1, hzm]; exact Blk.new W _ _
  have HB1 := Lib.hid hB1
  have HW1 := Lib.hid hb1
  have l1 := blk_range hB1
  have hmC : MsgC W1 { noMsg with k := 12, bl := b } mc := by rw [hmc]; exact blk_msgC (blkC_keeps _ _ _ _ HB.out hb1)
  have he1 := msgEncode_any _ mc W1 hmC
  obtain ⟨x, hx⟩ : ∃ x, x = msgP { noMsg with k := 12, bl := b } := ⟨_, rfl⟩
  rw [← hx] at he1
  obtain ⟨cmd, by_, er⟩ := x
  have HX : Hid ((cmd, by_, er) = if (blkP b).2 = 0 then (cmdN 12, (blkP b).1, 0) else ([], [], (blkP b).2)) := Lib.hid (hx.trans (msgP_blk b))
  unfold MsgEnc at he1
  simp only at he1
  clear hb1 hB1 hx hbc hok hrow hmc hmC
  go_enter Try.func4, Try.ntmps4
  go_upto_region 1 with fail
  rw [← hW1, ← hzm]
  clear hW1 hzm
  go_wp2_with (first
    | (with_reducible refine wpList_load_mid (op := ⟨some 8, _, _, _, _, _⟩) ?_ 36 (.tmp 1) ?_ (zm) (0) ?_ (bc) _ (l1) Try.underlying36 ?_ ?_ ?_
       · rfl
       · rfl
       · rfl
       · rfl
       · exact ((info_Blk HBL.out)))
    | (with_reducible refine wp_build (o := ⟨some 9, _, _, _, _, _⟩) ?_ 38 #[(0, .const (.int .i64 12)), (8, .tmp 8)] ?_ [(0, .int .i64 12), (8, .agg bc.toArray)] ?_ mc.toArray hbt ?_
       · rfl
       · rfl
       · rfl))
  refine he1.mono ?_
  rintro e w2 ⟨v2, rfl, ho2, hb2⟩
  obtain ⟨q2, m2, c2, rfl, _⟩ := ho2.open
  have HO2 := Lib.hid (Own8.mono' ho2 HW1.out.size)
  have HB2 := Lib.hid (HB1.out.fut hb2)
  have HW2 := Lib.hid (below_fut HW1.out hb2 (Nat.le_refl _))
  have hbn := below_new w2 (.cells YFrm.toArray 24)
  clear he1 ho2 hb2 l1 HB1 HW1 hbt
  go_upto_region 2 with ((with_reducible refine wp_store_blk (o := ⟨none, _, _, _, _, _⟩) ?_ 24 (.tmp 3) (.tmp 11) ?_ (w2.heap.size) 24 (YFrm.toArray) (#[.string (strB cmd), .slice q2 m2 c2]) ?_ ?_ (Blk.new w2 _ _) ?_ ?_ ?_ (w2.heap.size) (w2) ?_ ?_ ?_
                          · rfl
                          · rfl
                          · rfl
                          · rfl
                          · exact ((by kernel_rfl))
                          · exact (rfl)
                          · exact (all_frm)
                          · exact (hbn)
                          · exact (Nat.le_refl _)
                          intro w3 hB3 hb3 hg3 hs3))
  try simp only [put_none]
  obtain ⟨z3, hz3⟩ : ∃ z, z = w2.heap.size := ⟨_, rfl⟩
  rw [← hz3] at hB3 ⊢
  have HF3 := Lib.hid hB3.out
  have HO3 := Lib.hid (HO2.out.fut hb3)
  have l1 := blk_range (HB2.out.fut hb3)
  have hw3 := below_fut HW2.out hb3 (Nat.le_refl _)
  have HW3 := Lib.hid hw3
  have he2 := refBlkEncode_any b bc w3 (blkC_keeps _ _ _ _ HB.out hw3)
  obtain ⟨x, hx⟩ : ∃ x, x = blkP b := ⟨_, rfl⟩
  rw [← hx] at he2
  obtain ⟨bb, eb⟩ := x
  have HBP := Lib.hid hx.symm
  unfold OutB at he2
  simp only at he2
  have hXX := HX.out
  rw [← hx] at hXX
  simp only at hXX
  have HXX := Lib.hid hXX
  clear hXX hx hbn hz3 hB3 hb3 hg3 hs3 hw3 HB2 HO2 HW2
  go_wp2_with ((with_reducible refine wpList_load_mid (op := ⟨some 14, _, _, _, _, _⟩) ?_ 36 (.tmp 1) ?_ (zm) (0) ?_ (bc) _ (l1) Try.underlying36 ?_ ?_ ?_
                · rfl
                · rfl
                · rfl
                · rfl
                · exact ((info_Blk HBL.out))))
  refine he2.mono ?_
  rintro e w4 ⟨v4, rfl, ho4, hb4⟩
  obtain ⟨q4, m4, c4, rfl, _⟩ := ho4.open
  have HQ4 := Lib.hid (Own8.mono' ho4 HW3.out.size)
  have HF4 := Lib.hid (HF3.out.fut hb4)
  have HO4 := Lib.hid (HO3.out.fut hb4)
  have HW4 := Lib.hid (below_fut HW3.out hb4 (Nat.le_refl _))
  clear he2 ho4 hb4 l1 HF3 HO3 HW3
  have c30 : w4.cell? ⟨z3, 0, none⟩ = some (.string (strB cmd)) := by have := HF4.out.cell 0; simpa using this
  have c31 : w4.cell? ⟨z3, 1, none⟩ = some (.slice q2 m2 c2) := by have := HF4.out.cell 1; simpa using this
  by_cases he : eb = 0
  · subst he
    have h0 := HXX.out
    rw [if_pos rfl] at h0
    have e1 : cmd = cmdN 12 := congrArg (fun x => x.1) h0
    have e2 : by_ = bb := congrArg (fun x => x.2.1) h0
    have e3 : er = 0 := congrArg (fun x => x.2.2) h0
    subst e1 e2 e3
    have heq := bEqual_any _ _ _ w4 HO4.out.sl HQ4.out.sl
    have hst : (strB (cmdN 12)).toList = [98, 108, 111, 99, 107] := by unfold strB; rw [Lib.strOfNums_toList]; rfl
    clear h0
    go_wp2_with fail
    refine heq.mono ?_
    rintro e wd ⟨rfl, hwd⟩
    replace hwd := hwd.symm
    subst hwd
    go_wp2_with fail
    refine (awakeM_any w4).mono ?_
    rintro e w6 ⟨rfl, hb6⟩
    go_wp2_with fail
    go_ret
    exact ⟨rfl, below_fut HW4.out hb6 (Nat.le_refl _)⟩
  · have h0 := HXX.out
    rw [if_neg he] at h0
    have e2 : by_ = [] := congrArg (fun x => x.2.1) h0
    have e3 : er = eb := congrArg (fun x => x.2.2) h0
    have hbb : bb = [] := by
      rcases blkP_cases b with ⟨k, _, e⟩ | ⟨e, _⟩
      · exact congrArg (fun x => x.1) (HBP.out.symm.trans e)
      · exact absurd (congrArg (fun x => x.2) (HBP.out.symm.trans e)) he
    subst e2 e3 hbb
    have hkk : (er == er) = true := by simp
    have hb1 : (er == 0) = false := by rw [beq_eq_false_iff_ne]; exact he
    have heq := bEqual_any _ _ _ w4 HO4.out.sl HQ4.out.sl
    clear h0
    go_wp2_with fail
    refine heq.mono ?_
    rintro e wd ⟨rfl, hwd⟩
    replace hwd := hwd.symm
    subst hwd
    go_wp2_with fail
    refine (awakeM_any w4).mono ?_
    rintro e w6 ⟨rfl, hb6⟩
    go_wp2_with fail
    go_ret
    exact ⟨rfl, below_fut HW4.out hb6 (Nat.le_refl _)⟩
theorem open_block {H : Type} {enc : TypeId × Value → H} {W : World} {cs : Array Value} {d0 : DataW H} {p : List MemPlace} (h0 : DataW.Trod enc Try.prog W 0 (fun _ => true) true 36 (.agg cs) d0 p) : ∃ b, BlkC W b cs.toList := by
  obtain ⟨fuel, hf⟩ := h0
  exact (blk_cells hf).2
end Go.Proofs.Ytndobjlodpkknaa
