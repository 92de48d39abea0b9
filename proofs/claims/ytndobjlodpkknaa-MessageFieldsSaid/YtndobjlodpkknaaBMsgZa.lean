/- MessageFields: the walk. -/
import Derived.Test.YtndobjlodpkknaaBMsgZ
namespace Go.Proofs.Ytndobjlodpkknaa
open Go Go.RowKit
set_option linter.unusedVariables false

theorem msg_row : (Try.prog.info? 38).map (fun i => (i.zero, i.size, i.bytes)) = some (some (.agg (msgZ 0).toArray), 139, 264) := by kernel_rfl
theorem slice_h8q (w : World) (p : Option Addr) (m c k : Nat) (h2 : k ≤ c) :
    (Instr.sliceAt 22 (.slice p m c) none (some (.int .i64 (k : Int))) none).run Try.prog w = .ok (.slice p k c) w := by
  have hu : Try.prog.underlying 22 = some (.slice (Try.prog.elem 22)) := by kernel_rfl
  have hs : (sizeOf (Try.prog.elem 22)).run Try.prog w = .ok 1 w := by kernel_rfl
  rw [run_sliceAt_slice w _ _ _ _ _ hu, run_slice_h w _ _ _ _ hu _ _ (by omega) (by omega)]
  rw [hs]
  have e : p.map (fun x => x.add 0) = p := by
    cases p with
    | none => rfl
    | some a => rw [Option.map_some, addr_add0]
  simp [Result.andThen, sliced, e]
theorem slice_hH (w : World) (p : Option Addr) (m c k : Nat) (h2 : k ≤ c) :
    (Instr.sliceAt 30 (.slice p m c) none (some (.int .i64 (k : Int))) none).run Try.prog w = .ok (.slice p k c) w := by
  have hu : Try.prog.underlying 30 = some (.slice (Try.prog.elem 30)) := by kernel_rfl
  have hs : (sizeOf (Try.prog.elem 30)).run Try.prog w = .ok 32 w := by kernel_rfl
  rw [run_sliceAt_slice w _ _ _ _ _ hu, run_slice_h w _ _ _ _ hu _ _ (by omega) (by omega)]
  rw [hs]
  have e : p.map (fun x => x.add 0) = p := by
    cases p with
    | none => rfl
    | some a => rw [Option.map_some, addr_add0]
  simp [Result.andThen, sliced, e]
theorem ESl.take {α : Type} {E : World → α → List Value → Prop} {N : Nat} {w : World} {p : Option Addr} {n c : Nat} {xs : List α} (h : ESl E N w (.slice p n c) xs) (k : Nat) (hk : k ≤ n) : ESl E N w (.slice p k c) (xs.take k) := by
  obtain ⟨p', n', c', e, h1, h2, h3, h4, h5⟩ := h
  injection e with e1 e2 e3
  subst e1 e2 e3
  refine ⟨p, k, c, rfl, by rw [List.length_take]; omega, by omega, h3, fun h0 => ?_, h5⟩
  obtain ⟨b, off, hp, hlt, hc⟩ := h4 (fun e => h0 (by rw [e, List.take_nil]))
  exact ⟨b, off, hp, hlt, fun i x hx => hc i x (by rw [List.getElem?_take] at hx; split at hx; exact hx; cases hx)⟩
theorem Sl.take {w : World} {p : Option Addr} {n c : Nat} {bs : Bs} (h : Sl w (.slice p n c) bs) (k : Nat) (hk : k ≤ n) : Sl w (.slice p k c) (bs.take k) := by
  obtain ⟨p', n', c', e, h1, h2, h3, h4, h5⟩ := h
  injection e with e1 e2 e3
  subst e1 e2 e3
  exact ⟨p, k, c, rfl, by rw [List.length_take]; omega, by omega, h3, h4.take k, h5⟩
/-- the literal of the seven -/
theorem lit_row {w : World} {nu : BitVec 32} {no : BitVec 64} {st : Bs} {hs : List Bs} {tx : Bs} {hv bv : Value} (hst : st.length = 32) (hh : ESl HashE 32 w hv hs) (hb : Sl w bv tx) :
    ESl MsgC 139 (w.alloc (.cells (fcs nu no st hv bv).flatten.toArray 38)) (.slice (some ⟨w.heap.size, 0, none⟩) 7 7) (fms nu no st hs tx) := by
  have hnb := below_new w (.cells (fcs nu no st hv bv).flatten.toArray 38)
  have hB := Blk.new w 38 (fcs nu no st hv bv).flatten.toArray
  refine ⟨_, _, _, rfl, rfl, Nat.le_refl _, by unfold maxLen; omega, fun _ => ⟨w.heap.size, 0, rfl, by rw [World.size_alloc]; exact Nat.lt_succ_self _, fun i x hx => ?_⟩, fun h => by cases h⟩
  obtain ⟨cs, h1, h2, h3⟩ := fcs_c hst hh hb i x hx
  refine ⟨cs, msgC_keeps _ _ _ _ h2 hnb, fun j u hu => ?_⟩
  have hj : j < 139 := by have := (List.getElem?_eq_some_iff.1 hu).1; omega
  have hall : ∀ l ∈ fcs nu no st hv bv, l.length = 139 := fun l hl => by
    obtain ⟨k, hk⟩ := List.mem_iff_getElem?.1 hl
    have hk7 : k < 7 := (List.getElem?_eq_some_iff.1 hk).1
    obtain ⟨y, hy⟩ : ∃ y, (fms nu no st hs tx)[k]? = some y := ⟨_, List.getElem?_eq_getElem (show k < (fms nu no st hs tx).length from hk7)⟩
    obtain ⟨l', e1, _, e2⟩ := fcs_c hst hh hb k y hy
    rw [hk] at e1
    injection e1 with e1
    rw [e1]; exact e2
  have := flat_at 139 (fcs nu no st hv bv) hall i cs h1 j hj
  rw [Nat.zero_add, hB.cell, List.getElem?_toArray, this]
  exact hu

theorem fcs_len {nu : BitVec 32} {no : BitVec 64} {st : Bs} {hv bv : Value} (hst : st.length = 32) : ∀ l ∈ fcs nu no st hv bv, l.length = 139 := by
  intro l hl
  unfold fcs at hl
  simp only [List.mem_cons, List.not_mem_nil, or_false] at hl
  rcases hl with rfl | rfl | rfl | rfl | rfl | rfl | rfl <;> exact msgCells_len _ _ _ _ _ _ (by first | exact noHash_len | exact hst) (by first | exact noHash_len | exact hst) ZBlk_len
theorem fcs_size {nu : BitVec 32} {no : BitVec 64} {st : Bs} {hv bv : Value} (hst : st.length = 32) : ∀ v ∈ (fcs nu no st hv bv).map (fun l => Value.agg l.toArray), v.cells.size = 139 := by
  intro v hv
  obtain ⟨l, hl, rfl⟩ := List.mem_map.1 hv
  show l.toArray.size = 139
  rw [List.size_toArray]
  exact fcs_len hst l hl
theorem fcs_flat (ls : List (List Value)) : ((ls.map fun l => Value.agg l.toArray).flatMap fun v => v.cells.toList) = ls.flatten := by
  induction ls with
  | nil => rfl
  | cons a r ih => rw [List.map_cons, List.flatMap_cons, ih, List.flatten_cons]; rfl
set_option maxRecDepth 100000 in
set_option maxHeartbeats 8000000 in
theorem messageFields_walk (nu : BitVec 32) (no : BitVec 64) (st : Bs) (p : Option Addr) (n c : Nat) (hs : List Bs) (q : Option Addr) (m d : Nat) (tx : Bs) (W : World) (hst : st.length = 32) (hh : ESl HashE 32 W (.slice p n c) hs) (hb : Sl W (.slice q m d) tx) :
    Calls Try.prog 6 #[.int .u32 (iv32 nu), .int .u64 (iv64 no), .agg (hCells st).toArray, .slice p n c, .slice q m d] W fun e w' => e = .returned (.bool true) ∧ Below W.heap.size W w' := by
  have hzf := yFrm
  have hzm := zMsg
  obtain ⟨Y0, hY0⟩ : ∃ Y, Y = (msgZ 0).toArray := ⟨_, rfl⟩
  rw [← hY0] at hzm
  have HYS : Hid (Y0.size = 139) := Lib.hid (by rw [hY0]; exact msgZ_size 0)
  obtain ⟨hln, hnc, hcm⟩ := hh.slen
  have hlm : tx.length = m ∧ m ≤ d := by obtain ⟨_, _, _, e, h1, h2, _⟩ := hb; injection e with _ e2 e3; rw [e2, e3]; exact ⟨h1, h2⟩
  obtain ⟨k1, hk1⟩ : ∃ k, k = min n 100 := ⟨_, rfl⟩
  obtain ⟨k2, hk2⟩ : ∃ k, k = min m 300 := ⟨_, rfl⟩
  have e1 : min (n : Int) 100 = (k1 : Int) := by omega
  have e2 : min (m : Int) 300 = (k2 : Int) := by omega
  have s1 := slice_hH W p n c k1 (by omega)
  have hh2 := hh.take k1 (by omega)
  have hb2 := hb.take k2 (by omega)
  have HG : Hid (∀ x ∈ fms nu no st (hs.take k1) (tx.take k2), (payP x).2 = 0 ∧ normP x = x) := Lib.hid (fms_good _ _ _ _ _ (by rw [List.length_take]; omega) (by rw [List.length_take]; omega))
  obtain ⟨zs, hzs⟩ : ∃ z, z = W.heap.size := ⟨_, rfl⟩
  obtain ⟨W1, hW1⟩ : ∃ V, V = W.alloc (.cells (hCells st).toArray 29) := ⟨_, rfl⟩
  have hb1 : Below W.heap.size W W1 := by rw [hW1]; exact below_new W _
  have hB1 : Blk W1 zs 29 (hCells st).toArray := by rw [hW1, hzs]; exact Blk.new W _ _
  have s1 := slice_hH W1 p n c k1 (by omega)
  have s2 := slice_h8q W1 q m d k2 (by omega)
  have HH := Lib.hid (hh2.fut hashE_c hb1)
  have HBT := Lib.hid (hb2.below hb1 (Nat.le_refl _))
  have HST := Lib.hid hst
  have HB1 := Lib.hid hB1
  have HW1 := Lib.hid hb1
  have l1 := blk_range hB1
  clear hh hb hh2 hb2 hln hcm hlm hb1 hB1 hY0 hst
  go_enter Try.func6, Try.ntmps6
  go_upto_region 1 with fail
  rw [← hW1, ← hzs]
  clear hW1 hzs hk1 hk2
  go_upto_region 3 with fail
  have b1 := built_f1 nu no
  have b2 := built_f2 no
  have b3 := built_f3 nu p k1 c HST.out
  have b4 := built_f4 p k1 c HST.out
  have b5 := built_f5 q k2 d HST.out
  have b6 := built_f6 p k1 c
  have b7 := built_f7 nu HST.out
  have HLR := Lib.hid (lit_row (nu := nu) (no := no) HST.out HH.out HBT.out)
  have hnb := below_new W1 (.cells (fcs nu no st (.slice p k1 c) (.slice q k2 d)).flatten.toArray 38)
  go_wp2_with (first
    | (with_reducible refine wpList_load_mid (op := ⟨some 35, _, _, _, _, _⟩) ?_ 29 (.tmp 7) ?_ (zs) (0) ?_ ((hCells (st))) _ (l1) Try.underlying29 ?_ ?_ ?_
       · rfl
       · rfl
       · rfl
       · rfl
       · exact (hCells_info (HST.out)))
    | (with_reducible refine wpList_load_mid (op := ⟨some 37, _, _, _, _, _⟩) ?_ 29 (.tmp 7) ?_ (zs) (0) ?_ ((hCells (st))) _ (l1) Try.underlying29 ?_ ?_ ?_
       · rfl
       · rfl
       · rfl
       · rfl
       · exact (hCells_info (HST.out)))
    | (with_reducible refine wpList_load_mid (op := ⟨some 38, _, _, _, _, _⟩) ?_ 29 (.tmp 7) ?_ (zs) (0) ?_ ((hCells (st))) _ (l1) Try.underlying29 ?_ ?_ ?_
       · rfl
       · rfl
       · rfl
       · rfl
       · exact (hCells_info (HST.out)))
    | (with_reducible refine wpList_load_mid (op := ⟨some 41, _, _, _, _, _⟩) ?_ 29 (.tmp 7) ?_ (zs) (0) ?_ ((hCells (st))) _ (l1) Try.underlying29 ?_ ?_ ?_
       · rfl
       · rfl
       · rfl
       · rfl
       · exact (hCells_info (HST.out)))
    | (with_reducible refine wpList_load_mid (op := ⟨some 47, _, _, _, _, _⟩) ?_ 29 (.tmp 7) ?_ (zs) (0) ?_ ((hCells (st))) _ (l1) Try.underlying29 ?_ ?_ ?_
       · rfl
       · rfl
       · rfl
       · rfl
       · exact (hCells_info (HST.out)))
    | (with_reducible refine wp_build (o := ⟨some 30, _, _, _, _, _⟩) ?_ 38 #[(0, .const (.int .i64 1)), (1, .tmp 28), (2, .tmp 29)] ?_ [(0, .int .i64 1), (1, u32 nu), (2, u64 no)] ?_ (msgCells (.int .i64 1) (u32 nu) (u64 no) noHash noHash (.slice none 0 0) (.slice none 0 0) (.slice none 0 0) ZBlk).toArray b1 ?_
       · rfl
       · rfl
       · rfl)
    | (with_reducible refine wp_build (o := ⟨some 32, _, _, _, _, _⟩) ?_ 38 #[(0, .const (.int .i64 3)), (2, .tmp 31)] ?_ [(0, .int .i64 3), (2, u64 no)] ?_ (msgCells (.int .i64 3) (u32 0#32) (u64 no) noHash noHash (.slice none 0 0) (.slice none 0 0) (.slice none 0 0) ZBlk).toArray b2 ?_
       · rfl
       · rfl
       · rfl)
    | (with_reducible refine wp_build (o := ⟨some 36, _, _, _, _, _⟩) ?_ 38 #[(0, .const (.int .i64 5)), (1, .tmp 33), (5, .tmp 34), (4, .tmp 35)] ?_ [(0, .int .i64 5), (1, u32 nu), (5, .slice p k1 c), (4, .agg (hCells st).toArray)] ?_ (msgCells (.int .i64 5) (u32 nu) (u64 0#64) noHash st (.slice p k1 c) (.slice none 0 0) (.slice none 0 0) ZBlk).toArray b3 ?_
       · rfl
       · rfl
       · rfl)
    | (with_reducible refine wp_build (o := ⟨some 40, _, _, _, _, _⟩) ?_ 38 #[(0, .const (.int .i64 8)), (4, .tmp 37), (3, .tmp 38), (5, .tmp 39)] ?_ [(0, .int .i64 8), (4, .agg (hCells st).toArray), (3, .agg (hCells st).toArray), (5, .slice p k1 c)] ?_ (msgCells (.int .i64 8) (u32 0#32) (u64 0#64) st st (.slice p k1 c) (.slice none 0 0) (.slice none 0 0) ZBlk).toArray b4 ?_
       · rfl
       · rfl
       · rfl)
    | (with_reducible refine wp_build (o := ⟨some 43, _, _, _, _, _⟩) ?_ 38 #[(0, .const (.int .i64 10)), (4, .tmp 41), (7, .tmp 42)] ?_ [(0, .int .i64 10), (4, .agg (hCells st).toArray), (7, .slice q k2 d)] ?_ (msgCells (.int .i64 10) (u32 0#32) (u64 0#64) noHash st (.slice none 0 0) (.slice none 0 0) (.slice q k2 d) ZBlk).toArray b5 ?_
       · rfl
       · rfl
       · rfl)
    | (with_reducible refine wp_build (o := ⟨some 45, _, _, _, _, _⟩) ?_ 38 #[(0, .const (.int .i64 11)), (5, .tmp 44)] ?_ [(0, .int .i64 11), (5, .slice p k1 c)] ?_ (msgCells (.int .i64 11) (u32 0#32) (u64 0#64) noHash noHash (.slice p k1 c) (.slice none 0 0) (.slice none 0 0) ZBlk).toArray b6 ?_
       · rfl
       · rfl
       · rfl)
    | (with_reducible refine wp_build (o := ⟨some 48, _, _, _, _, _⟩) ?_ 38 #[(0, .const (.int .i64 9)), (1, .tmp 46), (4, .tmp 47)] ?_ [(0, .int .i64 9), (1, u32 nu), (4, .agg (hCells st).toArray)] ?_ (msgCells (.int .i64 9) (u32 nu) (u64 0#64) noHash st (.slice none 0 0) (.slice none 0 0) (.slice none 0 0) ZBlk).toArray b7 ?_
       · rfl
       · rfl
       · rfl)
    | (refine wp_lit (o := ⟨some 49, _, _, _, _, _⟩) ?_ 54 38 7 #[(0, .tmp 30), (1, .tmp 32), (2, .tmp 36), (3, .tmp 40), (4, .tmp 43), (5, .tmp 45), (6, .tmp 48)] ?_ ((fcs nu no st (.slice p k1 c) (.slice q k2 d)).map fun l => .agg l.toArray) ?_ 139 264 _ Try.underlying54 msg_row ?_ ?_ ?_ ?_ ?_ ?_
       · rfl
       · rfl
       · rfl
       · omega
       · exact fcs_size HST.out
       · rfl
       · omega
       · omega
       rw [fcs_flat]))
  obtain ⟨w2, hw2⟩ : ∃ V, V = W1.alloc (.cells (fcs nu no st (.slice p k1 c) (.slice q k2 d)).flatten.toArray 38) := ⟨_, rfl⟩
  obtain ⟨gb, hgb⟩ : ∃ V, V = W1.heap.size := ⟨_, rfl⟩
  rw [← hw2, ← hgb]
  have HL2 : Hid (ESl MsgC 139 w2 (.slice (some ⟨gb, 0, none⟩) 7 7) (fms nu no st (hs.take k1) (tx.take k2))) := Lib.hid (by rw [hw2, hgb]; exact HLR.out)
  have HW2 : Hid (Below W.heap.size W w2) := Lib.hid (below_fut HW1.out (by rw [hw2]; exact hnb) (Nat.le_refl _))
  clear b1 b2 b3 b4 b5 b6 b7 hnb hw2 hgb HLR s1 s2 l1 HB1 HH HBT e1 e2
  go_loopw [51] (fun i wr => ∃ k : Nat, k ≤ 7 ∧ i = .int .i64 k ∧ Hid (Below w2.heap.size w2 wr)) (fun i _ => 7 - (intOf i).toNat)
  case atStart => exact ⟨0, by omega, rfl, Lib.hid (Below.refl _ _)⟩
  case round =>
    obtain ⟨k, hk, rfl, HBk⟩ := hrel
    by_cases hkm : k < 7
    · have hlt : (k : Int) < 7 := by omega
      obtain ⟨b, off, cs, x, hbo, hx, hE, l2⟩ := HL2.out.at HBk.out hkm
      injection hbo with hbo
      injection hbo with hbo1 hbo2 _
      subst hbo1 hbo2
      rw [Nat.zero_add] at l2
      obtain ⟨hpx, hnx⟩ := HG.out x (List.mem_of_getElem? hx)
      have HE := Lib.hid hE
      have HCL := Lib.hid hE.len
      have hone := hE.one
      have hzsz := hE.size HYS.out
      have HPX := Lib.hid hpx
      obtain ⟨cmd, hcmd⟩ : ∃ c, c = cmdB x.k := ⟨_, rfl⟩
      obtain ⟨by_, hby⟩ : ∃ c, c = (payP x).1 := ⟨_, rfl⟩
      have HMP : Hid (msgP x = (cmd, by_, 0)) := Lib.hid (by rw [hcmd, hby]; exact msgP_ok x hpx)
      have HDB : Hid (msgDecP cmd by_ = (x, true, 0)) := Lib.hid (by have := dec_back x hE.okMsg hpx; rw [hnx] at this; rw [hcmd, hby]; exact this)
      have HLP : Hid (by_.length ≤ 10000000) := Lib.hid (by rw [hby]; exact pay_len x hE.okMsg hpx)
      have hbr := below_new wr (.cells Y0 38)
      clear hx hE hpx hnx hcmd hby
      go_upto_region 6 with (first
        | (with_reducible refine wpList_load_mid (op := ⟨some 54, _, _, _, _, _⟩) ?_ 38 (.tmp 53) ?_ (gb) (k * 139) ?_ (cs) _ (l2) Try.underlying38 ?_ ?_ ?_
           · rfl
           · rfl
           · rfl
           · rfl
           · exact ((info_Msg HCL.out)))
        | (with_reducible refine wp_store_blk (o := ⟨none, _, _, _, _, _⟩) ?_ 38 (.tmp 12) (.tmp 54) ?_ (wr.heap.size) 38 (Y0) (cs.toArray) ?_ ?_ (Blk.new wr _ _) ?_ ?_ ?_ (wr.heap.size) (wr) ?_ ?_ ?_
           · rfl
           · rfl
           · rfl
           · rfl
           · exact (info_MsgS HCL.out)
           · exact (hzsz)
           · exact (hone)
           · exact (hbr)
           · exact (Nat.le_refl _)
           intro w3 hB3 hb3 hg3 hs3))
      try simp only [put_none]
      obtain ⟨z3, hz3⟩ : ∃ z, z = wr.heap.size := ⟨_, rfl⟩
      rw [← hz3] at hB3 ⊢
      have HX3 := Lib.hid hB3.out
      have HW3 := Lib.hid (below_fut HBk.out hb3 (Nat.le_refl _))
      have HE3 := Lib.hid (msgC_keeps _ _ _ _ HE.out HW3.out)
      have l3 := blk_range hB3.out
      have he3 := msgEncode_any x cs w3 HE3.out
      rw [HMP.out] at he3
      unfold MsgEnc at he3
      simp only at he3
      clear hz3 hbr hone hzsz hB3 hb3 hg3 hs3 l2 HE HBk
      go_wp2_with ((with_reducible refine wpList_load_mid (op := ⟨some 56, _, _, _, _, _⟩) ?_ 38 (.tmp 12) ?_ (z3) (0) ?_ (cs) _ (l3) Try.underlying38 ?_ ?_ ?_
                    · rfl
                    · rfl
                    · rfl
                    · rfl
                    · exact ((info_Msg HCL.out))))
      refine he3.mono ?_
      rintro e w4 ⟨v4, rfl, ho4, hb4⟩
      obtain ⟨q4, m4, c4, rfl, _⟩ := ho4.open
      have HO4 := Lib.hid ho4.sl
      have HX4 := Lib.hid (HX3.out.fut hb4)
      have HE4 := Lib.hid (msgC_keeps _ _ _ _ HE3.out hb4)
      have HW4 := Lib.hid (below_fut HW3.out hb4 (Nat.le_refl _))
      have hbn := below_new w4 (.cells YFrm.toArray 24)
      clear he3 ho4 hb4 l3 HX3 HE3 HW3
      go_upto_region 7 with ((with_reducible refine wp_store_blk (o := ⟨none, _, _, _, _, _⟩) ?_ 24 (.tmp 13) (.tmp 58) ?_ (w4.heap.size) 24 (YFrm.toArray) (#[.string (strB cmd), .slice q4 m4 c4]) ?_ ?_ (Blk.new w4 _ _) ?_ ?_ ?_ (w4.heap.size) (w4) ?_ ?_ ?_
                              · rfl
                              · rfl
                              · rfl
                              · rfl
                              · exact ((by kernel_rfl))
                              · exact (rfl)
                              · exact (all_frm)
                              · exact (hbn)
                              · exact (Nat.le_refl _)
                              intro w5 hB5 hb5 hg5 hs5))
      try simp only [put_none]
      obtain ⟨z5, hz5⟩ : ∃ z, z = w4.heap.size := ⟨_, rfl⟩
      rw [← hz5] at hB5 ⊢
      have HO5 := Lib.hid (HO4.out.below hb5 (Nat.le_refl _))
      have HX5 := Lib.hid (HX4.out.fut hb5)
      have HE5 := Lib.hid (msgC_keeps _ _ _ _ HE4.out hb5)
      have HW5 := Lib.hid (below_fut HW4.out hb5 (Nat.le_refl _))
      have l5 := blk_range (cs := [.string (strB cmd), .slice q4 m4 c4]) hB5.out
      have hm4 : m4 ≤ 140737488355328 := by obtain ⟨_, _, _, e, h1, _⟩ := HO5.out; injection e with _ e2; rw [e2, ← h1]; have := HLP.out; omega
      have hd5 := msgDecode_any cmd q4 m4 c4 by_ w5 HO5.out hm4
      rw [HDB.out] at hd5
      unfold MsgDec at hd5
      simp only at hd5
      clear hz5 hbn hB5 hb5 hg5 hs5 hm4 HO4 HX4 HE4 HW4
      go_wp2_with ((with_reducible refine wpList_load_mid (op := ⟨some 61, _, _, _, _, _⟩) ?_ 24 (.tmp 13) ?_ (z5) (0) ?_ ([.string (strB cmd), .slice q4 m4 c4]) _ (l5) Try.underlying24 ?_ ?_ ?_
                    · rfl
                    · rfl
                    · rfl
                    · rfl
                    · exact ((by kernel_rfl))))
      refine hd5.mono ?_
      rintro e w6 ⟨cs6, rfl, ho6, hb6⟩
      have HX6 := Lib.hid (HX5.out.fut hb6)
      have HE6 := Lib.hid (msgC_keeps _ _ _ _ HE5.out hb6)
      have HW6 := Lib.hid (below_fut HW5.out hb6 (Nat.le_refl _))
      have HC6 := Lib.hid ho6.c
      have HCL6 := Lib.hid ho6.c.len
      have hone := ho6.c.one
      have hzsz := ho6.c.size HYS.out
      have hbn := below_new w6 (.cells Y0 38)
      clear hd5 hb6 ho6 l5 HX5 HE5 HW5 HO5
      go_upto_region 8 with ((with_reducible refine wp_store_blk (o := ⟨none, _, _, _, _, _⟩) ?_ 38 (.tmp 15) (.tmp 63) ?_ (w6.heap.size) 38 (Y0) (cs6.toArray) ?_ ?_ (Blk.new w6 _ _) ?_ ?_ ?_ (w6.heap.size) (w6) ?_ ?_ ?_
                              · rfl
                              · rfl
                              · rfl
                              · rfl
                              · exact (info_MsgS HCL6.out)
                              · exact (hzsz)
                              · exact (hone)
                              · exact (hbn)
                              · exact (Nat.le_refl _)
                              intro w7 hB7 hb7 hg7 hs7))
      try simp only [put_none]
      obtain ⟨z7, hz7⟩ : ∃ z, z = w6.heap.size := ⟨_, rfl⟩
      rw [← hz7] at hB7 ⊢
      have l7 := blk_range hB7.out
      have l3 := blk_range (HX6.out.fut hb7)
      have HW7 := Lib.hid (below_fut HW6.out hb7 (Nat.le_refl _))
      have hsame := sameMsg_any x cs6 cs w7 (msgC_keeps _ _ _ _ HC6.out hb7) (msgC_keeps _ _ _ _ HE6.out hb7)
      clear hz7 hbn hone hzsz hB7 hb7 hg7 hs7 HX6 HE6 HW6 HC6
      go_wp2_with (first
        | (with_reducible refine wpList_load_midG (op := ⟨some 77, _, _, _, _, _⟩) ?_ 38 (.tmp 15) ?_ (z7) (0) ?_ (cs6) _ (l7) Try.underlying38 ?_ ?_ ?_
           · rfl
           · rfl
           · rfl
           · rfl
           · exact ((info_Msg HCL6.out)))
        | (with_reducible refine wpList_load_midG (op := ⟨some 78, _, _, _, _, _⟩) ?_ 38 (.tmp 12) ?_ (z3) (0) ?_ (cs) _ (l3) Try.underlying38 ?_ ?_ ?_
           · rfl
           · rfl
           · rfl
           · rfl
           · exact ((info_Msg HCL.out))))
      refine hsame.mono ?_
      rintro e w8 ⟨rfl, hb8⟩
      have HW8 := Lib.hid (below_fut HW7.out hb8 (Nat.le_refl _))
      clear hsame hb8 l7 l3 HW7
      go_wp2_with fail
      go_roundw
      case rel => exact ⟨k + 1, by omega, by go_num, HW8⟩
      case measure => simp [intOf]; omega
    · obtain rfl : k = 7 := by omega
      have hge : ¬ ((7 : Nat) : Int) < 7 := by omega
      go_wp2_with fail
      go_ret
      exact ⟨rfl, below_fut HW2.out HBk.out (Nat.le_refl _)⟩
end Go.Proofs.Ytndobjlodpkknaa
