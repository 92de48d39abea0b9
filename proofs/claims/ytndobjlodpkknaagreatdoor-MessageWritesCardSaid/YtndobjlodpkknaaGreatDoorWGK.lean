/- Blocks, plain: their bytes, and what bytes say; their cells. · block.Encode: the walk. · sporranref08.Encode: the walk. · block.Decode: the walk. · sporranref08.Decode: the walk. · sporranplain.Spoil: what may be written stays bytes; sporranplain.SpoilBlock: the walk. · sporranplain.SpoilBlock: the walk. · sporranlaw07.TxReads: the walk. · sporranplain.SameBlock: the walk (what says the same is the same). · sporranlaw08.awake, BlockReads: the walks. · A block read as data (a row's argument).  -/
import Derived.Test.YtndobjlodpkknaaGreatDoorWGH
import Derived.Test.YtndobjlodpkknaaGreatDoorWGE
import Derived.Test.YtndobjlodpkknaaGreatDoorWTxRe
import Derived.Test.YtndobjlodpkknaaGreatDoorWGT
import Derived.Test.YtndobjlodpkknaaGreatDoorWGB
import Derived.Test.YtndobjlodpkknaaGreatDoorWGD
namespace Go.Proofs.YtndobjlodpkknaaGreatDoor
open Go Go.RowKit
set_option linter.unusedVariables false
structure TBlk where
  h : Hdr
  ts : List TTx
def txsB (ts : List TTx) : Bs := (ts.map fun t => txB t (hasWs t.is)).flatten
def blkB (b : TBlk) : Bs := b.h.bytes ++ (cntB b.ts.length ++ txsB b.ts)
def blkP (b : TBlk) : Bs × Int := if 2000 < b.ts.length then ([], 1) else if b.ts.all canTx then (if 200000 < (blkB b).length then ([], 91) else (blkB b, 0)) else ([], 1)
def noBlk : TBlk := ⟨noHdr, []⟩
def hdrZ : Pz Hdr := fun s => if s.length < 80 then .error 50 else .ok (hdrOf s, s.drop 80)
def blkZ : Pz TBlk := hdrZ.bind fun h => (cntZ 2000).bind fun n => (manyZ txZ n).bind fun ts => Pz.ret ⟨h, ts⟩
def endB (x : Except Int (TBlk × Bs)) : TBlk × Int := match x with
  | .error k => (noBlk, k)
  | .ok (b, r) => if r = [] then (b, 0) else (noBlk, 70)
def blkDecP (s : Bs) : TBlk × Int := if 200000 < s.length then (noBlk, 91) else endB (blkZ s)
def BlkC (w : World) (b : TBlk) (cs : List Value) : Prop := ∃ v, cs = b.h.cells ++ [v] ∧ b.h.ok ∧ ESl TxC 4 w v b.ts
def BlkO (B : Nat) (w : World) (b : TBlk) (cs : List Value) : Prop := ∃ v, cs = b.h.cells ++ [v] ∧ b.h.ok ∧ RowO (TxO B) 69 4 B w v b.ts
theorem blkC_keeps : Keeps BlkC := fun w w' x cs ⟨v, h1, h2, h3⟩ hb => ⟨v, h1, h2, h3.fut txC_keeps hb⟩
theorem blkO_keeps (B : Nat) : KeepsO B [69, 5, 28, 97, 91] (BlkO B) := fun w w' S x cs ⟨v, h1, h2, h3⟩ hs hp => ⟨v, h1, h2, h3.sep (txO_keeps B) hs hp⟩
theorem BlkO.c {B : Nat} {w : World} {b : TBlk} {cs : List Value} (h : BlkO B w b cs) : BlkC w b cs := by
  obtain ⟨v, h1, h2, h3⟩ := h
  exact ⟨v, h1, h2, h3.e fun _ _ h => h.c⟩
theorem BlkC.len {w : World} {b : TBlk} {cs : List Value} (h : BlkC w b cs) : cs.length = 69 := by
  obtain ⟨v, rfl, hk, _⟩ := h
  rw [List.length_append, Hdr.cells_len hk]
  rfl
theorem BlkC.at {w : World} {b : TBlk} {cs : List Value} (h : BlkC w b cs) : ∃ v, cs[68]? = some v ∧ ESl TxC 4 w v b.ts := by
  obtain ⟨v, rfl, hk, hv⟩ := h
  exact ⟨v, by rw [List.getElem?_append_right (by rw [Hdr.cells_len hk]; exact Nat.le_refl _), Hdr.cells_len hk]; rfl, hv⟩
theorem BlkC.one {w : World} {b : TBlk} {cs : List Value} (h : BlkC w b cs) : cs.toArray.all (·.oneCell') = true := by
  obtain ⟨v, rfl, hk, hv⟩ := h
  have := Hdr.cells_one b.h
  rw [List.all_toArray] at this ⊢
  rw [List.all_append, this]
  simp only [List.all_cons, List.all_nil, Bool.and_true, Bool.true_and]
  exact hv.one
theorem BlkC.ok {w : World} {b : TBlk} {cs : List Value} (h : BlkC w b cs) : ∀ t ∈ b.ts, okTx t := fun t ht => by
  obtain ⟨v, _, _, hv⟩ := h
  obtain ⟨cs, hc⟩ := hv.mem ht
  exact hc.ok
theorem info_Blk {cs : List Value} (h : cs.length = 69) : (Tryz.prog.info? 33).map (·.size) = some cs.length := by rw [h]; kernel_rfl
theorem Blk.hdr {w : World} {g : Nat} {t : TypeId} {h : Hdr} {v : Value} (hb : Blk w g t (h.cells ++ [v]).toArray) : w.rangeAt g 0 h.cells := fun j u hj => by
  rw [Nat.zero_add, hb.cell, List.getElem?_toArray, List.getElem?_append_left]
  · exact hj
  · exact (List.getElem?_eq_some_iff.1 hj).1
theorem txB_le {t : TTx} (h : canTx t = true) {w : World} {cs : List Value} (hc : TxC w t cs) : (txB t (hasWs t.is)).length ≤ 10000000000 := txB_big h hc _
theorem BlkC.hok {w : World} {b : TBlk} {cs : List Value} (h : BlkC w b cs) : b.h.ok := by obtain ⟨_, _, h, _⟩ := h; exact h
def HashE (w : World) (x : Bs) (cs : List Value) : Prop := cs = hCells x ∧ x.length = 32
theorem hashE_keeps (B : Nat) : KeepsO B [] HashE := fun _ _ _ _ _ h _ _ => h
end Go.Proofs.YtndobjlodpkknaaGreatDoor
namespace Go.Proofs.YtndobjlodpkknaaGreatDoor
open Go Go.RowKit
set_option linter.unusedVariables false
theorem count_any (n : Nat) (hn : n < 18446744073709551616) (W : World) : Calls Tryz.prog 14 #[.int .u64 (n : Int)] W (GivesOwn W (cntB n)) := by
  have := encode_any (BitVec.ofNat 64 n) W
  rw [iv64_nat n hn] at this
  exact this
theorem cntB_pos (n : Nat) : cntB n ≠ [] := by
  unfold cntB enc
  split
  · simp
  · split
    · simp
    · split <;> simp
theorem blkP_many {b : TBlk} (h : 2000 < b.ts.length) : blkP b = ([], 1) := by unfold blkP; rw [if_pos h]
theorem blkP_bad {b : TBlk} (h : ¬ 2000 < b.ts.length) {k : Nat} {t : TTx} (ht : b.ts[k]? = some t) (hc : canTx t = false) : blkP b = ([], 1) := by
  unfold blkP
  rw [if_neg h, if_neg]
  rw [all_miss canTx b.ts k t ht hc]
  simp
theorem blkP_long {b : TBlk} (h : ¬ 2000 < b.ts.length) (hc : b.ts.all canTx = true) (hl : 200000 < (blkB b).length) : blkP b = ([], 91) := by
  unfold blkP
  rw [if_neg h, if_pos hc, if_pos hl]
theorem blkP_fine {b : TBlk} (h : ¬ 2000 < b.ts.length) (hc : b.ts.all canTx = true) (hl : ¬ 200000 < (blkB b).length) : blkP b = (blkB b, 0) := by
  unfold blkP
  rw [if_neg h, if_pos hc, if_neg hl]
set_option maxRecDepth 100000 in
set_option maxHeartbeats 16000000 in
theorem blkEncode_any (b : TBlk) (cs : List Value) (w : World) (hc : BlkC w b cs) : Calls Tryz.prog 18 #[.agg cs.toArray] w (OutB w (blkP b)) := by
  obtain ⟨P, hP⟩ : ∃ P, P = blkP b := ⟨_, rfl⟩
  rw [← hP]
  have HP := Lib.hid hP
  have hlen := hc.len
  obtain ⟨v, hcs, hk, hv⟩ := hc
  obtain ⟨pt, n, ct, rfl⟩ := hv.opens
  obtain ⟨hn, hnc, hcm⟩ := hv.slen
  have HCS := Lib.hid hcs
  have HK := Lib.hid hk
  have HV := Lib.hid hv
  have HN := Lib.hid hn
  have HLEN := Lib.hid hlen
  have hb1 := below_new w (.cells cs.toArray 33)
  have HB := Lib.hid (Blk.new w 33 cs.toArray)
  clear hP hcs hk hv hn hlen
  go_enter Tryz.func18, Tryz.ntmps18
  go_upto_region 1 with fail
  generalize w.alloc (.cells cs.toArray 33) = w1 at *
  have HB01 := Lib.hid hb1
  obtain ⟨z, hz⟩ : ∃ z, z = w.heap.size := ⟨_, rfl⟩
  rw [← hz] at HB ⊢
  have hlt := HB.out.lt
  have HLT := Lib.hid hlt
  have HAT : Hid (cs.toArray[68]? = some (.slice pt n ct)) := Lib.hid (by
    rw [HCS.out, List.getElem?_toArray, List.getElem?_append_right (by rw [Hdr.cells_len HK.out]; exact Nat.le_refl _), Hdr.cells_len HK.out]
    rfl)
  clear hz hb1 hlt
  have c68 : w1.cell? ⟨z, 68, none⟩ = some (.slice pt n ct) := by rw [HB.out.cell]; exact HAT.out
  by_cases h2 : 2000 < n
  · have hl : (2000 : Int) < (n : Int) := by omega
    have HP2 : Hid (P = ([], 1)) := Lib.hid (by rw [HP.out]; exact blkP_many (by have := HN.out; omega))
    go_wp2_with fail
    go_ret2
    exact OutB.of HP2 ⟨rfl, .inl ⟨rfl, rfl⟩⟩ HB01.out
  have hl : ¬ (2000 : Int) < (n : Int) := by omega
  have hn2 : n ≤ 2000 := by omega
  have HN2 : Hid (¬ 2000 < b.ts.length) := Lib.hid (by have := HN.out; omega)
  go_upto_region 3 with fail
  clear hl h2 c68
  have hiv := iv64_nat n (by omega)
  refine region_plan [qq 0, qq 1, qq 3, qq 4, qq 5, qq 6, oo 2, oo 7, oo 8, qq 9] (fun W => Blk W z 33 cs.toArray) (by kernel_rfl) (by kernel_rfl) (HB.out.fut (below_draws w1 1)) ?_
  refine' plan_quiet (s := 45) (A1 := _) [0, 1, 3, 4, 5, 6] [_, _, _, _, _, _] _ rfl rfl rfl (fun W hW => ?hq1) _ (HB.out.fut (below_draws w1 1)) (fun _ => ?hr1)
  case hq1 =>
    have c68 : ∀ k, (W.drewN k).cell? ⟨z, 68, none⟩ = some (.slice pt n ct) := fun k => by have := hW.cell 68; rw [HAT.out] at this; exact this
    try simp only [List.getElem_toArray, List.getElem_cons_zero, List.getElem_cons_succ]
    iterate 1 (go_big_quiet_step (fail))
    refine quiet_load_mid rfl 30 (.tmp 13) rfl z 0 rfl b.h.cells _ (fun w hw => ?_) Tryz.underlying30 rfl (hdr_size HK.out) ?_
    · obtain ⟨k, rfl⟩ := hw
      exact Blk.hdr (h := b.h) (v := .slice pt n ct) (HCS.out ▸ hW.drewN k)
    simp only [put_some, List.setIfInBounds_toArray, List.set_cons_succ, List.set_cons_zero]
    iterate 4 (go_big_quiet_step (fail))
    refine wpQuiet_nil ?_
    rfl
  case hr1 =>
  refine plan_one rfl fun k1 => ?_
  have hdr : Below w1.heap.size w1 (w1.drew.drewN k1) := below_drewN (Below.refl _ _).drew k1
  have HWa := Lib.hid hdr
  have hFa := HB.out.fut hdr
  clear hdr
  generalize w1.drew.drewN k1 = Wa at *
  go_wp2_with fail
  refine (hdrEncode_any b.h HK.out Wa).mono ?_
  rintro e Wb ⟨gh, rfl, hgh, hgw, hbb⟩
  have HH : Hid (Blk Wb gh 64 (b.h.bytes.map u8).toArray) := hgh
  have HWb : Hid (Below w1.heap.size w1 Wb) := Lib.hid (below_fut HWa.out hbb (Nat.le_refl _))
  have hFb := hFa.fut hbb
  clear hgh hgw hbb hFa HWa
  go_wp2_with fail
  refine planQ_normal (And.intro hFb ?_)
  refine plan_one rfl fun k2 => ?_
  have hdr := below_draws Wb k2
  have HHn := Lib.hid (HH.out.fut hdr)
  have HH2 := HHn
  have HWc : Hid (Below w1.heap.size w1 (Wb.drewN k2)) := Lib.hid (below_fut HWb.out hdr (Nat.le_refl _))
  have hFc := hFb.fut hdr
  clear HH HHn HWb hFb hdr
  generalize Wb.drewN k2 = Wc at *
  go_wp2_with fail
  refine (count_any n (by omega) Wc).mono ?_
  rintro e W3 ⟨vn, rfl, hon, hb3⟩
  replace hon : Own8 W3 Wc.heap.size vn (cntB n) := hon
  obtain ⟨pn, nn, cn, rfl, hnn, hnnc, hcmn, hrn⟩ := hon.open
  have HH3 := Lib.hid (HH2.out.fut hb3)
  have HW3 : Hid (Below w1.heap.size w1 W3) := Lib.hid (below_fut HWc.out hb3 (Nat.le_refl _))
  have hF3 := hFc.fut hb3
  clear hon hb3 HH2 HWc hFc
  go_wp2_with fail
  refine planQ_normal (And.intro hF3 ?_)
  refine plan_one rfl fun k3 => ?_
  have hdr := below_draws W3 k3
  have HH3n := Lib.hid (HH3.out.fut hdr)
  have HH4 := HH3n
  have HWd : Hid (Below w1.heap.size w1 (W3.drewN k3)) := Lib.hid (below_fut HW3.out hdr (Nat.le_refl _))
  have hFd := hF3.fut hdr
  have hrn4 := hrn.fut hdr
  clear HH3 HH3n HW3 hF3 hrn hdr
  generalize W3.drewN k3 = Wd at *
  refine wp_append_own (o := ⟨some 21, _, _, _, _, _⟩) rfl (.tmp 15) (.tmp 20) rfl gh 64 b.h.bytes 80 rfl (Hdr.bytes_len HK.out) HH4.out pn nn cn (cntB n) rfl hnn.out (cntB_pos n) hrn4 (by have := cntB_len n; have := hnn.out; omega) ?_
  intro v5 We ho5 hb5
  have HW5 : Hid (Wr w1 We v5 (b.h.bytes ++ cntB n)) := Lib.hid ⟨below_fut HWd.out hb5 (Nat.le_refl _), ownsRow_mono ho5 HWd.out.size⟩
  have hFe := hFd.fut hb5
  clear ho5 hb5
  clear HH4 HWd hFd hrn4
  go_wp2_with fail
  refine planQ_normal (And.intro hFe ?_)
  refine' plan_quiet (s := 45) (A1 := _) (r := []) [9] [_] _ rfl rfl rfl (fun W hW => ?hq2) _ hFe (fun _ => ?hr2)
  case hq2 =>
    try simp only [List.getElem_toArray, List.getElem_cons_zero, List.getElem_cons_succ]
    iterate 1 (go_big_quiet_step (fail))
    refine wpQuiet_nil ?_
    rfl
  case hr2 =>
  refine plan_end fun k4 => NoPanic.normal ?_
  have HW6 := Lib.hid (HW5.out.fut (below_draws We k4))
  have hF6 := hFe.fut (below_draws We k4)
  clear HW5 hFe
  generalize We.drewN k4 = W6 at *
  have c68 : W6.cell? ⟨z, 68, none⟩ = some (.slice pt n ct) := by rw [hF6.cell]; exact HAT.out
  go_upto_region 5 with fail
  clear c68 hF6 hiv
  obtain ⟨Y, hY⟩ : ∃ Y : Bs, Y = b.h.bytes ++ cntB n := ⟨_, rfl⟩
  rw [← hY] at HW6
  have HYL : Hid (Y.length ≤ 100) := Lib.hid (by rw [hY, List.length_append, Hdr.bytes_len HK.out]; have := cntB_len n; omega)
  have HY := Lib.hid hY
  clear hY
  have HAL : Hid (∀ k, (∀ j t, b.ts[j]? = some t → j < k → canTx t = true) → (preB (fun t => txB t (hasWs t.is)) b.ts k).length ≤ 2000 * 10000000000) := Lib.hid fun k hk => by
    have hx : ∀ t ∈ b.ts.take k, (txB t (hasWs t.is)).length ≤ 10000000000 := fun t ht => by
      obtain ⟨j, hj, e⟩ := List.mem_take_iff_getElem.1 ht
      have hm : b.ts[j]? = some t := by rw [List.getElem?_eq_getElem (by omega), e]
      obtain ⟨cs, hE⟩ := HV.out.mem (List.mem_of_getElem? hm)
      exact txB_le (hk j t hm (by omega)) hE
    have h1 := flat_le (fun t : TTx => txB t (hasWs t.is)) 10000000000 (b.ts.take k) hx
    have h2 : (b.ts.take k).length ≤ 2000 := by rw [List.length_take]; have := HN.out; omega
    exact Nat.le_trans h1 (Nat.mul_le_mul h2 (Nat.le_refl _))
  go_loopw [4, 25] (fun v i wr => ∃ k : Nat, k ≤ n ∧ i = .int .i64 k ∧ Hid (∀ j t, b.ts[j]? = some t → j < k → canTx t = true) ∧ Hid (Wr w1 wr v (Y ++ preB (fun t => txB t (hasWs t.is)) b.ts k))) (fun _ i _ => n - (intOf i).toNat)
  case atStart => exact ⟨0, by omega, rfl, Lib.hid (by intro j t _ hj; omega), Lib.hid (by rw [preB_zero, List.append_nil]; exact HW6.out)⟩
  case round =>
    clear HW6
    obtain ⟨k, hk, rfl, HAk, HWk⟩ := hrel
    by_cases hkn : k < n
    case neg =>
      obtain rfl : k = n := by omega
      have hall : b.ts.all canTx = true := by
        rw [List.all_eq_true]
        intro t ht
        obtain ⟨j, hj⟩ := List.getElem?_of_mem ht
        exact HAk.out j t hj (by have := (List.getElem?_eq_some_iff.1 hj).1; have := HN.out; omega)
      have hbb : blkB b = Y ++ preB (fun t => txB t (hasWs t.is)) b.ts k := by
        rw [preB_all _ _ _ (by have := HN.out; omega), HY.out]
        unfold blkB txsB
        rw [HN.out, List.append_assoc]
      have hge : ¬ (k : Int) < (k : Int) := by omega
      rw [← hbb] at HWk
      obtain ⟨B, hB⟩ : ∃ B : Bs, B = blkB b := ⟨_, rfl⟩
      rw [← hB] at HWk
      have hlong := blkP_long (b := b) HN2.out hall
      have hfine := blkP_fine (b := b) HN2.out hall
      rw [← HP.out, ← hB] at hlong hfine
      obtain ⟨q5, m5, d5, rfl, hm5, _⟩ := HWk.out.own.open
      have HLO := Lib.hid hlong
      have HFI := Lib.hid hfine
      have HM5 := Lib.hid hm5.out
      clear hall hbb hB hlong hfine hm5
      by_cases hlong : 200000 < m5
      · have hli : (200000 : Int) < (m5 : Int) := by omega
        have HP2 : Hid (P = ([], 91)) := Lib.hid (HLO.out (by have := HM5.out; omega))
        have HW := Lib.hid HWk.out.below
        clear HWk
        go_wp2_with fail
        go_ret2
        exact OutB.of HP2 ⟨rfl, .inl ⟨rfl, rfl⟩⟩ (HB01.out.trans (HW.out.mono HB01.out.size))
      · have hli : ¬ (200000 : Int) < (m5 : Int) := by omega
        have HP2 : Hid (P = (B, 0)) := Lib.hid (HFI.out (by have := HM5.out; omega))
        go_wp2_with fail
        go_ret2
        exact OutB.of HP2 (ownsRow_mono HWk.out.own HB01.out.size) (HB01.out.trans (HWk.out.below.mono HB01.out.size))
    have hlt : (k : Int) < (n : Int) := by omega
    obtain ⟨bb, off, cs2, t, rfl, hx, hE, l2⟩ := HV.out.at (below_fut HB01.out HWk.out.below (Nat.le_refl _)) hkn
    have hl4 : cs2.length = 4 := by obtain ⟨_, _, rfl, _⟩ := hE; rfl
    have H3 := Lib.hid hl4
    have H1 := Lib.hid hE.one
    have HX := Lib.hid hx
    have HE := Lib.hid hE
    have hz := zTx
    have hbr := below_new wr (.cells ZTx.toArray 69)
    have hzs : ZTx.toArray.size = cs2.toArray.size := by rw [List.size_toArray, List.size_toArray, hl4]; rfl
    obtain ⟨qk, mk, dk, rfl⟩ := HWk.out.opens
    clear hx hl4 hE
    go_upto_region 7 with (first
      | (with_reducible refine wpList_load_mid (op := ⟨some 28, _, _, _, _, _⟩) ?_ 69 (.tmp 27) ?_ (bb) (off + k * 4) ?_ (cs2) _ (l2) Tryz.underlying69 ?_ ?_ ?_
         · rfl
         · rfl
         · rfl
         · rfl
         · exact ((info_Tx H3.out)))
      | (with_reducible refine wp_store_blk (o := ⟨none, _, _, _, _, _⟩) ?_ 69 (.tmp 6) (.tmp 28) ?_ (wr.heap.size) 69 (ZTx.toArray) (cs2.toArray) ?_ ?_ (Blk.new wr _ _) ?_ ?_ ?_ (wr.heap.size) (wr) ?_ ?_ ?_
         · rfl
         · rfl
         · rfl
         · rfl
         · exact (by rw [List.size_toArray]; exact info_Tx H3.out)
         · exact (hzs)
         · exact (H1.out)
         · exact (hbr)
         · exact (Nat.le_refl _)
         intro w6 hB6 hb6 hg6 hs6))
    have HW6 := Lib.hid (HWk.out.fut hb6)
    have l6 := blk_range hB6.out
    have hC6 := txC_keeps _ _ _ _ HE.out (below_fut HB01.out HW6.out.below (Nat.le_refl _))
    have hcall := txEncode_any t cs2 true w6 hC6
    obtain ⟨g, hg⟩ : ∃ g, g = wr.heap.size := ⟨_, rfl⟩
    rw [← hg] at l6 ⊢
    have hPt : txP t true = (if canTx t then (txB t (hasWs t.is), 0) else ([], 1)) := by unfold txP; simp
    clear hb6 hg6 hs6 hB6 l2 hbr hz hg HWk hzs
    try simp only [put_none]
    by_cases hcan : canTx t = true
    case neg =>
      have hcf : canTx t = false := by cases h : canTx t <;> simp_all
      rw [hPt, if_neg hcan] at hcall
      unfold OutB at hcall
      simp only at hcall
      have HP2 : Hid (P = ([], 1)) := Lib.hid (by rw [HP.out]; exact blkP_bad HN2.out HX.out hcf)
      clear hcan hcf hPt
      go_wp2_with (first
        | (with_reducible refine wpList_load_mid (op := ⟨some 30, _, _, _, _, _⟩) ?_ 69 (.tmp 6) ?_ (g) (0) ?_ (cs2) _ (l6) Tryz.underlying69 ?_ ?_ ?_
           · rfl
           · rfl
           · rfl
           · rfl
           · exact ((info_Tx H3.out)))
        | (with_reducible refine hcall.mono ?_; rintro e w7 ⟨v7, rfl, ho7, hb7⟩))
      have HB7 := Lib.hid (HW6.out.fut hb7).below
      clear ho7 hb7
      go_ret2
      exact OutB.of HP2 ⟨rfl, .inl ⟨rfl, rfl⟩⟩ (HB01.out.trans (HB7.out.mono HB01.out.size))
    rw [hPt, if_pos hcan] at hcall
    unfold OutB at hcall
    simp only at hcall
    have hbl := txB_le hcan hC6
    obtain ⟨X, hX⟩ : ∃ X : Bs, X = txB t (hasWs t.is) := ⟨_, rfl⟩
    rw [← hX] at hcall hbl
    have HXX := Lib.hid hX
    have HBL := Lib.hid hbl
    have HCAN := Lib.hid hcan
    clear hPt hX hbl hcan hC6
    go_upto_region 10 with (first
      | (with_reducible refine wpList_load_mid (op := ⟨some 30, _, _, _, _, _⟩) ?_ 69 (.tmp 6) ?_ (g) (0) ?_ (cs2) _ (l6) Tryz.underlying69 ?_ ?_ ?_
         · rfl
         · rfl
         · rfl
         · rfl
         · exact ((info_Tx H3.out)))
      | (with_reducible refine hcall.mono ?_; rintro e w7 ⟨v7, rfl, ho7, hb7⟩))
    obtain ⟨p7, n7, c7, rfl, hn7, hnc7, hcm7, hr7⟩ := ho7.open
    have HW7 := Lib.hid (HW6.out.fut hb7)
    have hlk := HAL.out k HAk.out
    have hL : (Y ++ preB (fun t => txB t (hasWs t.is)) b.ts k).length ≤ 30000000000000 := by rw [List.length_append]; have := HYL.out; omega
    have HL := Lib.hid hL
    have ho8 := HW7.out.own
    have hb8 := HW7.out.below
    have hs8 := hb8.size
    clear ho7 hb7 hlk hL hcall l6 HW6
    go_upto_region 11 with ((with_reducible refine wp_append8 (o := ⟨some 39, _, _, _, _, _⟩) ?_ (.tmp 37) (.tmp 38) ?_ (w1.heap.size) _ (_) ?_ (ho8) (p7) (n7) (c7) (X) ?_ (hn7.out) (hr7) ?_ (hs8) (w1.heap.size) (w1) (hb8) ?_ ?_
                             · rfl
                             · rfl
                             · rfl
                             · rfl
                             · have := HL.out; have := HBL.out; omega
                             · exact Nat.le_refl _
                             intro v9 w9 ho9 hb9 hg9 hk9))
    have HW9 : Hid (Wr w1 w9 v9 (Y ++ preB (fun t => txB t (hasWs t.is)) b.ts (k + 1))) := Lib.hid (by
      have := HW7.out.grew ho9 (Grew.of_app hg9 hk9)
      rw [HXX.out, List.append_assoc] at this
      rw [preB_succ (fun t : TTx => txB t (hasWs t.is)) b.ts k t HX.out]
      exact this)
    have HA9 : Hid (∀ j t, b.ts[j]? = some t → j < k + 1 → canTx t = true) := Lib.hid fun j t' hj hlt => by
      rcases Nat.lt_or_ge j k with h | h
      · exact HAk.out j t' hj h
      · obtain rfl : j = k := by omega
        rw [HX.out] at hj
        injection hj with hj
        rw [← hj]
        exact HCAN.out
    clear ho9 hb9 hg9 hk9 ho8 hb8 hs8 hr7 HW7
    go_wp2_with fail
    go_roundw
    case rel => exact ⟨k + 1, by omega, by go_num, HA9, HW9⟩
    case measure => simp [intOf]; omega
end Go.Proofs.YtndobjlodpkknaaGreatDoor
namespace Go.Proofs.YtndobjlodpkknaaGreatDoor
open Go Go.RowKit
set_option linter.unusedVariables false
set_option maxRecDepth 100000 in
set_option maxHeartbeats 16000000 in
theorem refBlkEncode_any (b : TBlk) (cs : List Value) (w : World) (hc : BlkC w b cs) : Calls Tryz.prog 32 #[.agg cs.toArray] w (OutB w (blkP b)) := by
  obtain ⟨P, hP⟩ : ∃ P, P = blkP b := ⟨_, rfl⟩
  rw [← hP]
  have HP := Lib.hid hP
  have hlen := hc.len
  obtain ⟨v, hcs, hk, hv⟩ := hc
  obtain ⟨pt, n, ct, rfl⟩ := hv.opens
  obtain ⟨hn, hnc, hcm⟩ := hv.slen
  have HCS := Lib.hid hcs
  have HK := Lib.hid hk
  have HV := Lib.hid hv
  have HN := Lib.hid hn
  have HLEN := Lib.hid hlen
  have hb1 := below_new w (.cells cs.toArray 33)
  have HB := Lib.hid (Blk.new w 33 cs.toArray)
  clear hP hcs hk hv hn hlen
  go_enter Tryz.func32, Tryz.ntmps32
  go_upto_region 1 with fail
  generalize w.alloc (.cells cs.toArray 33) = w1 at *
  have HB01 := Lib.hid hb1
  obtain ⟨z, hz⟩ : ∃ z, z = w.heap.size := ⟨_, rfl⟩
  rw [← hz] at HB ⊢
  have hlt := HB.out.lt
  have HLT := Lib.hid hlt
  have HAT : Hid (cs.toArray[68]? = some (.slice pt n ct)) := Lib.hid (by
    rw [HCS.out, List.getElem?_toArray, List.getElem?_append_right (by rw [Hdr.cells_len HK.out]; exact Nat.le_refl _), Hdr.cells_len HK.out]
    rfl)
  clear hz hb1 hlt
  have c68 : w1.cell? ⟨z, 68, none⟩ = some (.slice pt n ct) := by rw [HB.out.cell]; exact HAT.out
  by_cases h2 : 2000 < n
  · have hl : (2000 : Int) < (n : Int) := by omega
    have HP2 : Hid (P = ([], 1)) := Lib.hid (by rw [HP.out]; exact blkP_many (by have := HN.out; omega))
    go_wp2_with fail
    go_ret2
    exact OutB.of HP2 ⟨rfl, .inl ⟨rfl, rfl⟩⟩ HB01.out
  have hl : ¬ (2000 : Int) < (n : Int) := by omega
  have hn2 : n ≤ 2000 := by omega
  have HN2 : Hid (¬ 2000 < b.ts.length) := Lib.hid (by have := HN.out; omega)
  go_upto_region 3 with fail
  clear hl h2 c68
  have hiv := iv64_nat n (by omega)
  refine region_plan [qq 0, qq 1, qq 3, qq 4, qq 5, qq 6, oo 2, oo 7, oo 8, qq 9] (fun W => Blk W z 33 cs.toArray) (by kernel_rfl) (by kernel_rfl) (HB.out.fut (below_draws w1 1)) ?_
  refine' plan_quiet (s := 45) (A1 := _) [0, 1, 3, 4, 5, 6] [_, _, _, _, _, _] _ rfl rfl rfl (fun W hW => ?hq1) _ (HB.out.fut (below_draws w1 1)) (fun _ => ?hr1)
  case hq1 =>
    have c68 : ∀ k, (W.drewN k).cell? ⟨z, 68, none⟩ = some (.slice pt n ct) := fun k => by have := hW.cell 68; rw [HAT.out] at this; exact this
    try simp only [List.getElem_toArray, List.getElem_cons_zero, List.getElem_cons_succ]
    iterate 1 (go_big_quiet_step (fail))
    refine quiet_load_mid rfl 30 (.tmp 13) rfl z 0 rfl b.h.cells _ (fun w hw => ?_) Tryz.underlying30 rfl (hdr_size HK.out) ?_
    · obtain ⟨k, rfl⟩ := hw
      exact Blk.hdr (h := b.h) (v := .slice pt n ct) (HCS.out ▸ hW.drewN k)
    simp only [put_some, List.setIfInBounds_toArray, List.set_cons_succ, List.set_cons_zero]
    iterate 4 (go_big_quiet_step (fail))
    refine wpQuiet_nil ?_
    rfl
  case hr1 =>
  refine plan_one rfl fun k1 => ?_
  have hdr : Below w1.heap.size w1 (w1.drew.drewN k1) := below_drewN (Below.refl _ _).drew k1
  have HWa := Lib.hid hdr
  have hFa := HB.out.fut hdr
  clear hdr
  generalize w1.drew.drewN k1 = Wa at *
  go_wp2_with fail
  refine (refHdrEncode_any b.h HK.out Wa).mono ?_
  rintro e Wb ⟨vh, rfl, hoh, hbb⟩
  replace hoh : Own8 Wb Wa.heap.size vh b.h.bytes := hoh
  have HH := Lib.hid (ownsRow_mono hoh HWa.out.size : Own8 Wb w1.heap.size vh b.h.bytes)
  have HWb : Hid (Below w1.heap.size w1 Wb) := Lib.hid (below_fut HWa.out hbb (Nat.le_refl _))
  have hFb := hFa.fut hbb
  clear hoh hbb hFa HWa
  go_wp2_with fail
  refine planQ_normal (And.intro hFb ?_)
  refine plan_one rfl fun k2 => ?_
  have hdr := below_draws Wb k2
  have HHn := Lib.hid (Own8.fut HH.out hdr)
  have HH2 := HHn
  have HWc : Hid (Below w1.heap.size w1 (Wb.drewN k2)) := Lib.hid (below_fut HWb.out hdr (Nat.le_refl _))
  have hFc := hFb.fut hdr
  clear HH HHn HWb hFb hdr
  generalize Wb.drewN k2 = Wc at *
  go_wp2_with fail
  refine (refCount_any n (by omega) Wc).mono ?_
  rintro e W3 ⟨vn, rfl, hon, hb3⟩
  replace hon : Own8 W3 Wc.heap.size vn (cntB n) := hon
  obtain ⟨pn, nn, cn, rfl, hnn, hnnc, hcmn, hrn⟩ := hon.open
  have HH3 := Lib.hid (Own8.fut HH2.out hb3)
  have HW3 : Hid (Below w1.heap.size w1 W3) := Lib.hid (below_fut HWc.out hb3 (Nat.le_refl _))
  have hF3 := hFc.fut hb3
  clear hon hb3 HH2 HWc hFc
  go_wp2_with fail
  refine planQ_normal (And.intro hF3 ?_)
  refine plan_one rfl fun k3 => ?_
  have hdr := below_draws W3 k3
  have HH3n := Lib.hid (Own8.fut HH3.out hdr)
  have HH4 := HH3n
  have HWd : Hid (Below w1.heap.size w1 (W3.drewN k3)) := Lib.hid (below_fut HW3.out hdr (Nat.le_refl _))
  have hFd := hF3.fut hdr
  have hrn4 := hrn.fut hdr
  clear HH3 HH3n HW3 hF3 hrn hdr
  generalize W3.drewN k3 = Wd at *
  refine wp_append8 (o := ⟨some 21, _, _, _, _, _⟩) rfl (.tmp 15) (.tmp 20) rfl w1.heap.size vh b.h.bytes rfl HH4.out pn nn cn (cntB n) rfl hnn.out hrn4 (by rw [Hdr.bytes_len HK.out]; have := cntB_len n; omega) HWd.out.size w1.heap.size w1 HWd.out (Nat.le_refl _) ?_
  intro v5 We ho5 hb5 hg5 _
  have HW5 : Hid (Wr w1 We v5 (b.h.bytes ++ cntB n)) := Lib.hid ⟨hb5, ho5⟩
  have hFe := hFd.stays (Stays.of_grown (S := fun k => vh.ownBlock = some k) hg5 fun k h => h) ((Sfx8.of HH4.out).apart hFd (by decide))
  clear ho5 hb5 hg5
  clear HH4 HWd hFd hrn4
  go_wp2_with fail
  refine planQ_normal (And.intro hFe ?_)
  refine' plan_quiet (s := 45) (A1 := _) (r := []) [9] [_] _ rfl rfl rfl (fun W hW => ?hq2) _ hFe (fun _ => ?hr2)
  case hq2 =>
    try simp only [List.getElem_toArray, List.getElem_cons_zero, List.getElem_cons_succ]
    iterate 1 (go_big_quiet_step (fail))
    refine wpQuiet_nil ?_
    rfl
  case hr2 =>
  refine plan_end fun k4 => NoPanic.normal ?_
  have HW6 := Lib.hid (HW5.out.fut (below_draws We k4))
  have hF6 := hFe.fut (below_draws We k4)
  clear HW5 hFe
  generalize We.drewN k4 = W6 at *
  have c68 : W6.cell? ⟨z, 68, none⟩ = some (.slice pt n ct) := by rw [hF6.cell]; exact HAT.out
  go_upto_region 5 with fail
  clear c68 hF6 hiv
  obtain ⟨Y, hY⟩ : ∃ Y : Bs, Y = b.h.bytes ++ cntB n := ⟨_, rfl⟩
  rw [← hY] at HW6
  have HYL : Hid (Y.length ≤ 100) := Lib.hid (by rw [hY, List.length_append, Hdr.bytes_len HK.out]; have := cntB_len n; omega)
  have HY := Lib.hid hY
  clear hY
  have HAL : Hid (∀ k, (∀ j t, b.ts[j]? = some t → j < k → canTx t = true) → (preB (fun t => txB t (hasWs t.is)) b.ts k).length ≤ 2000 * 10000000000) := Lib.hid fun k hk => by
    have hx : ∀ t ∈ b.ts.take k, (txB t (hasWs t.is)).length ≤ 10000000000 := fun t ht => by
      obtain ⟨j, hj, e⟩ := List.mem_take_iff_getElem.1 ht
      have hm : b.ts[j]? = some t := by rw [List.getElem?_eq_getElem (by omega), e]
      obtain ⟨cs, hE⟩ := HV.out.mem (List.mem_of_getElem? hm)
      exact txB_le (hk j t hm (by omega)) hE
    have h1 := flat_le (fun t : TTx => txB t (hasWs t.is)) 10000000000 (b.ts.take k) hx
    have h2 : (b.ts.take k).length ≤ 2000 := by rw [List.length_take]; have := HN.out; omega
    exact Nat.le_trans h1 (Nat.mul_le_mul h2 (Nat.le_refl _))
  go_loopw [4, 25] (fun v i wr => ∃ k : Nat, k ≤ n ∧ i = .int .i64 k ∧ Hid (∀ j t, b.ts[j]? = some t → j < k → canTx t = true) ∧ Hid (Wr w1 wr v (Y ++ preB (fun t => txB t (hasWs t.is)) b.ts k))) (fun _ i _ => n - (intOf i).toNat)
  case atStart => exact ⟨0, by omega, rfl, Lib.hid (by intro j t _ hj; omega), Lib.hid (by rw [preB_zero, List.append_nil]; exact HW6.out)⟩
  case round =>
    clear HW6
    obtain ⟨k, hk, rfl, HAk, HWk⟩ := hrel
    by_cases hkn : k < n
    case neg =>
      obtain rfl : k = n := by omega
      have hall : b.ts.all canTx = true := by
        rw [List.all_eq_true]
        intro t ht
        obtain ⟨j, hj⟩ := List.getElem?_of_mem ht
        exact HAk.out j t hj (by have := (List.getElem?_eq_some_iff.1 hj).1; have := HN.out; omega)
      have hbb : blkB b = Y ++ preB (fun t => txB t (hasWs t.is)) b.ts k := by
        rw [preB_all _ _ _ (by have := HN.out; omega), HY.out]
        unfold blkB txsB
        rw [HN.out, List.append_assoc]
      have hge : ¬ (k : Int) < (k : Int) := by omega
      rw [← hbb] at HWk
      obtain ⟨B, hB⟩ : ∃ B : Bs, B = blkB b := ⟨_, rfl⟩
      rw [← hB] at HWk
      have hlong := blkP_long (b := b) HN2.out hall
      have hfine := blkP_fine (b := b) HN2.out hall
      rw [← HP.out, ← hB] at hlong hfine
      obtain ⟨q5, m5, d5, rfl, hm5, _⟩ := HWk.out.own.open
      have HLO := Lib.hid hlong
      have HFI := Lib.hid hfine
      have HM5 := Lib.hid hm5.out
      clear hall hbb hB hlong hfine hm5
      by_cases hlong : 200000 < m5
      · have hli : (200000 : Int) < (m5 : Int) := by omega
        have HP2 : Hid (P = ([], 91)) := Lib.hid (HLO.out (by have := HM5.out; omega))
        have HW := Lib.hid HWk.out.below
        clear HWk
        go_wp2_with fail
        go_ret2
        exact OutB.of HP2 ⟨rfl, .inl ⟨rfl, rfl⟩⟩ (HB01.out.trans (HW.out.mono HB01.out.size))
      · have hli : ¬ (200000 : Int) < (m5 : Int) := by omega
        have HP2 : Hid (P = (B, 0)) := Lib.hid (HFI.out (by have := HM5.out; omega))
        go_wp2_with fail
        go_ret2
        exact OutB.of HP2 (ownsRow_mono HWk.out.own HB01.out.size) (HB01.out.trans (HWk.out.below.mono HB01.out.size))
    have hlt : (k : Int) < (n : Int) := by omega
    obtain ⟨bb, off, cs2, t, rfl, hx, hE, l2⟩ := HV.out.at (below_fut HB01.out HWk.out.below (Nat.le_refl _)) hkn
    have hl4 : cs2.length = 4 := by obtain ⟨_, _, rfl, _⟩ := hE; rfl
    have H3 := Lib.hid hl4
    have H1 := Lib.hid hE.one
    have HX := Lib.hid hx
    have HE := Lib.hid hE
    have hz := zTx
    have hbr := below_new wr (.cells ZTx.toArray 69)
    have hzs : ZTx.toArray.size = cs2.toArray.size := by rw [List.size_toArray, List.size_toArray, hl4]; rfl
    obtain ⟨qk, mk, dk, rfl⟩ := HWk.out.opens
    clear hx hl4 hE
    go_upto_region 7 with (first
      | (with_reducible refine wpList_load_mid (op := ⟨some 28, _, _, _, _, _⟩) ?_ 69 (.tmp 27) ?_ (bb) (off + k * 4) ?_ (cs2) _ (l2) Tryz.underlying69 ?_ ?_ ?_
         · rfl
         · rfl
         · rfl
         · rfl
         · exact ((info_Tx H3.out)))
      | (with_reducible refine wp_store_blk (o := ⟨none, _, _, _, _, _⟩) ?_ 69 (.tmp 6) (.tmp 28) ?_ (wr.heap.size) 69 (ZTx.toArray) (cs2.toArray) ?_ ?_ (Blk.new wr _ _) ?_ ?_ ?_ (wr.heap.size) (wr) ?_ ?_ ?_
         · rfl
         · rfl
         · rfl
         · rfl
         · exact (by rw [List.size_toArray]; exact info_Tx H3.out)
         · exact (hzs)
         · exact (H1.out)
         · exact (hbr)
         · exact (Nat.le_refl _)
         intro w6 hB6 hb6 hg6 hs6))
    have HW6 := Lib.hid (HWk.out.fut hb6)
    have l6 := blk_range hB6.out
    have hC6 := txC_keeps _ _ _ _ HE.out (below_fut HB01.out HW6.out.below (Nat.le_refl _))
    have hcall := refTxEncode_any t cs2 true w6 hC6
    obtain ⟨g, hg⟩ : ∃ g, g = wr.heap.size := ⟨_, rfl⟩
    rw [← hg] at l6 ⊢
    have hPt : txP t true = (if canTx t then (txB t (hasWs t.is), 0) else ([], 1)) := by unfold txP; simp
    clear hb6 hg6 hs6 hB6 l2 hbr hz hg HWk hzs
    try simp only [put_none]
    by_cases hcan : canTx t = true
    case neg =>
      have hcf : canTx t = false := by cases h : canTx t <;> simp_all
      rw [hPt, if_neg hcan] at hcall
      unfold OutB at hcall
      simp only at hcall
      have HP2 : Hid (P = ([], 1)) := Lib.hid (by rw [HP.out]; exact blkP_bad HN2.out HX.out hcf)
      clear hcan hcf hPt
      go_wp2_with (first
        | (with_reducible refine wpList_load_mid (op := ⟨some 30, _, _, _, _, _⟩) ?_ 69 (.tmp 6) ?_ (g) (0) ?_ (cs2) _ (l6) Tryz.underlying69 ?_ ?_ ?_
           · rfl
           · rfl
           · rfl
           · rfl
           · exact ((info_Tx H3.out)))
        | (with_reducible refine hcall.mono ?_; rintro e w7 ⟨v7, rfl, ho7, hb7⟩))
      have HB7 := Lib.hid (HW6.out.fut hb7).below
      clear ho7 hb7
      go_ret2
      exact OutB.of HP2 ⟨rfl, .inl ⟨rfl, rfl⟩⟩ (HB01.out.trans (HB7.out.mono HB01.out.size))
    rw [hPt, if_pos hcan] at hcall
    unfold OutB at hcall
    simp only at hcall
    have hbl := txB_le hcan hC6
    obtain ⟨X, hX⟩ : ∃ X : Bs, X = txB t (hasWs t.is) := ⟨_, rfl⟩
    rw [← hX] at hcall hbl
    have HXX := Lib.hid hX
    have HBL := Lib.hid hbl
    have HCAN := Lib.hid hcan
    clear hPt hX hbl hcan hC6
    go_upto_region 10 with (first
      | (with_reducible refine wpList_load_mid (op := ⟨some 30, _, _, _, _, _⟩) ?_ 69 (.tmp 6) ?_ (g) (0) ?_ (cs2) _ (l6) Tryz.underlying69 ?_ ?_ ?_
         · rfl
         · rfl
         · rfl
         · rfl
         · exact ((info_Tx H3.out)))
      | (with_reducible refine hcall.mono ?_; rintro e w7 ⟨v7, rfl, ho7, hb7⟩))
    obtain ⟨p7, n7, c7, rfl, hn7, hnc7, hcm7, hr7⟩ := ho7.open
    have HW7 := Lib.hid (HW6.out.fut hb7)
    have hlk := HAL.out k HAk.out
    have hL : (Y ++ preB (fun t => txB t (hasWs t.is)) b.ts k).length ≤ 30000000000000 := by rw [List.length_append]; have := HYL.out; omega
    have HL := Lib.hid hL
    have ho8 := HW7.out.own
    have hb8 := HW7.out.below
    have hs8 := hb8.size
    clear ho7 hb7 hlk hL hcall l6 HW6
    go_upto_region 11 with ((with_reducible refine wp_append8 (o := ⟨some 39, _, _, _, _, _⟩) ?_ (.tmp 37) (.tmp 38) ?_ (w1.heap.size) _ (_) ?_ (ho8) (p7) (n7) (c7) (X) ?_ (hn7.out) (hr7) ?_ (hs8) (w1.heap.size) (w1) (hb8) ?_ ?_
                             · rfl
                             · rfl
                             · rfl
                             · rfl
                             · have := HL.out; have := HBL.out; omega
                             · exact Nat.le_refl _
                             intro v9 w9 ho9 hb9 hg9 hk9))
    have HW9 : Hid (Wr w1 w9 v9 (Y ++ preB (fun t => txB t (hasWs t.is)) b.ts (k + 1))) := Lib.hid (by
      have := HW7.out.grew ho9 (Grew.of_app hg9 hk9)
      rw [HXX.out, List.append_assoc] at this
      rw [preB_succ (fun t : TTx => txB t (hasWs t.is)) b.ts k t HX.out]
      exact this)
    have HA9 : Hid (∀ j t, b.ts[j]? = some t → j < k + 1 → canTx t = true) := Lib.hid fun j t' hj hlt => by
      rcases Nat.lt_or_ge j k with h | h
      · exact HAk.out j t' hj h
      · obtain rfl : j = k := by omega
        rw [HX.out] at hj
        injection hj with hj
        rw [← hj]
        exact HCAN.out
    clear ho9 hb9 hg9 hk9 ho8 hb8 hs8 hr7 HW7
    go_wp2_with fail
    go_roundw
    case rel => exact ⟨k + 1, by omega, by go_num, HA9, HW9⟩
    case measure => simp [intOf]; omega
end Go.Proofs.YtndobjlodpkknaaGreatDoor
namespace Go.Proofs.YtndobjlodpkknaaGreatDoor
open Go Go.RowKit
set_option linter.unusedVariables false
def ZBlk : List Value := noHdr.cells ++ [.slice none 0 0]
theorem TxO.len {B : Nat} {w : World} {t : TTx} {cs : List Value} (h : TxO B w t cs) : cs.length = 4 := by obtain ⟨_, _, rfl, _⟩ := h; rfl
end Go.Proofs.YtndobjlodpkknaaGreatDoor
namespace Go.Proofs.YtndobjlodpkknaaGreatDoor
open Go Go.RowKit
set_option linter.unusedVariables false
structure Pok (S : Nat → Prop) (w w' : World) : Prop where
  st : Stays S w w'
  mi : ∀ q m, MineS w S q m → MineS w' S q m
theorem Pok.refl (S : Nat → Prop) (w : World) : Pok S w w := ⟨Stays.refl _ _, fun _ _ h => h⟩
theorem Pok.trans {S : Nat → Prop} {w w1 w2 : World} (h : Pok S w w1) (h2 : Pok S w1 w2) : Pok S w w2 := ⟨h.st.trans h2.st fun _ _ h => h, fun q m hm => h2.mi q m (h.mi q m hm)⟩
theorem Pok.poke {S : Nat → Prop} {w wr : World} {g j : Nat} {cs : Array Value} (h : Pok S w wr) (hk : Blk wr g 5 cs) (hg : S g) (b : BitVec 8) : Pok S w (wr.setCell ⟨g, j, none⟩ (u8 b)) :=
  ⟨h.st.setCell (fun _ => hg) _, fun q m hm => (h.mi q m hm).poke hk b⟩
theorem Pok.fut {S : Nat → Prop} {w w' : World} (hb : Below w.heap.size w w') : Pok S w w' := ⟨Stays.of_below hb (Nat.le_refl _) _, fun q m hm => by
  rcases hm with h | ⟨g, o, cs, rfl, h2, h3, h4⟩
  · exact .inl h
  · exact .inr ⟨g, o, cs, rfl, h2, h3.fut hb, h4⟩⟩
def TextM (S : Nat → Prop) (w : World) (x : Bs) (cs : List Value) : Prop := ∃ q m c, cs = [.slice q m c] ∧ m ≤ c ∧ c ≤ 9223372036854775807 ∧ MineS w S q m
def RowM {α : Type} (S : Nat → Prop) (E : World → α → List Value → Prop) (N : Nat) (w : World) (v : Value) (xs : List α) : Prop := ESl E N w v xs ∧ ∀ k, v.ownBlock = some k → ¬ S k
def InM (S : Nat → Prop) (w : World) (x : TIn) (cs : List Value) : Prop := ∃ sv wv, cs = hCells x.id ++ [u32 x.ix, sv, u32 x.sq, wv] ∧ x.id.length = 32 ∧ TextM S w x.sc [sv] ∧ RowM S (TextM S) 1 w wv x.wi
def OutM (S : Nat → Prop) (w : World) (x : TOut) (cs : List Value) : Prop := ∃ sv, cs = [.int .i64 x.va.toInt, sv] ∧ TextM S w x.sc [sv]
def TxM (S : Nat → Prop) (w : World) (t : TTx) (cs : List Value) : Prop := ∃ iv ov, cs = [u32 t.ve, iv, ov, u32 t.lo] ∧ RowM S (InM S) 36 w iv t.is ∧ RowM S (OutM S) 2 w ov t.os
def KeepsM {α : Type} (S : Nat → Prop) (E : World → α → List Value → Prop) : Prop := ∀ w w' x cs, E w x cs → Pok S w w' → E w' x cs
theorem range_stays {S : Nat → Prop} {w w' : World} {b o : Nat} {cs : List Value} (h : w.rangeAt b o cs) (hs : Stays S w w') (hb : b < w.heap.size) (hn : ¬ S b) : w'.rangeAt b o cs := fun j v hj =>
  (World.cell?_of_block (a := ⟨b, o + j, none⟩) (hs.block b hb hn)).trans (h j v hj)
theorem textM_keeps (S : Nat → Prop) : KeepsM S (TextM S) := fun w w' x cs ⟨q, m, c, h1, h2, h3, h4⟩ hp => ⟨q, m, c, h1, h2, h3, hp.mi q m h4⟩
theorem RowM.pok {α : Type} {S : Nat → Prop} {E : World → α → List Value → Prop} {N : Nat} {w w' : World} {v : Value} {xs : List α} (h : RowM S E N w v xs) (hE : KeepsM S E) (hp : Pok S w w') : RowM S E N w' v xs := by
  obtain ⟨⟨p, n, c, rfl, h2, h3, h4, h5, h6⟩, hS⟩ := h
  refine ⟨⟨p, n, c, rfl, h2, h3, h4, fun hn => ?_, h6⟩, hS⟩
  obtain ⟨b, off, rfl, hlt, hc⟩ := h5 hn
  have hb : ¬ S b := hS b rfl
  refine ⟨b, off, rfl, Nat.lt_of_lt_of_le hlt hp.st.size, fun i x hi => ?_⟩
  obtain ⟨cs, h1, h2⟩ := hc i x hi
  exact ⟨cs, hE _ _ _ _ h1 hp, range_stays h2 hp.st hlt hb⟩
theorem inM_keeps (S : Nat → Prop) : KeepsM S (InM S) := fun w w' x cs ⟨sv, wv, h1, h2, h3, h4⟩ hp => ⟨sv, wv, h1, h2, textM_keeps S _ _ _ _ h3 hp, h4.pok (textM_keeps S) hp⟩
theorem outM_keeps (S : Nat → Prop) : KeepsM S (OutM S) := fun w w' x cs ⟨sv, h1, h2⟩ hp => ⟨sv, h1, textM_keeps S _ _ _ _ h2 hp⟩
theorem txM_keeps (S : Nat → Prop) : KeepsM S (TxM S) := fun w w' x cs ⟨iv, ov, h1, h2, h3⟩ hp => ⟨iv, ov, h1, h2.pok (inM_keeps S) hp, h3.pok (outM_keeps S) hp⟩
theorem RowM.at {α : Type} {S : Nat → Prop} {E : World → α → List Value → Prop} {N : Nat} {w : World} {p : Option Addr} {n c k : Nat} {xs : List α} (h : RowM S E N w (.slice p n c) xs) (hk : k < n) : ∃ b off cs x, p = some ⟨b, off, none⟩ ∧ xs[k]? = some x ∧ E w x cs ∧ w.rangeAt b (off + k * N) cs ∧ ¬ S b ∧ b < w.heap.size := by
  obtain ⟨⟨p', n', c', e, h1, h2, h3, h4, h5⟩, hS⟩ := h
  injection e with e1 e2 e3
  subst e1 e2 e3
  have hx := List.getElem?_eq_getElem (l := xs) (i := k) (by omega)
  obtain ⟨b, off, rfl, hlt, hc⟩ := h4 (by intro e; subst e; simp at h1; omega)
  obtain ⟨cs, h6, h7⟩ := hc k _ hx
  exact ⟨b, off, cs, _, rfl, hx, h6, h7, hS b rfl, hlt⟩
theorem TextM.lit {S : Nat → Prop} {w w' : World} {b : Nat} {q : Option Addr} {m c : Nat} {t : TypeId} (h : MineS w S q m) (h2 : m ≤ c) (h3 : c ≤ 9223372036854775807) (hp : Pok S w w') (hb : Blk w' b t #[.slice q m c]) (hn : ¬ S b) : MineRowsS w' S (some ⟨b, 0, none⟩) 1 := by
  refine .inr ⟨b, 0, rfl, hb.lt, fun i hi => ?_⟩
  obtain rfl : i = 0 := by omega
  refine ⟨q, m, c, ?_, h2, h3, hp.mi q m h, fun hm a ha e => ?_⟩
  · rw [hb.cell]; rfl
  · rcases h with h0 | ⟨g, o, cs, h1, h2, _⟩
    · exact hm h0
    · rw [h1] at ha
      injection ha with ha
      subst ha
      have e' : g = b := e
      exact hn (e' ▸ h2)
theorem RowM.slen {α : Type} {S : Nat → Prop} {E : World → α → List Value → Prop} {N : Nat} {w : World} {p : Option Addr} {n c : Nat} {xs : List α} (h : RowM S E N w (.slice p n c) xs) : xs.length = n ∧ n ≤ c ∧ c ≤ 9223372036854775807 := h.1.slen
theorem RowM.opens {α : Type} {S : Nat → Prop} {E : World → α → List Value → Prop} {N : Nat} {w : World} {v : Value} {xs : List α} (h : RowM S E N w v xs) : ∃ p n c, v = .slice p n c := h.1.opens
theorem TextM.one {S : Nat → Prop} {w : World} {x : Bs} {v : Value} (h : TextM S w x [v]) : v.oneCell' = true := by
  obtain ⟨q, m, c, e, _⟩ := h
  injection e with e
  rw [e]
  rfl
theorem RowM.one {α : Type} {S : Nat → Prop} {E : World → α → List Value → Prop} {N : Nat} {w : World} {v : Value} {xs : List α} (h : RowM S E N w v xs) : v.oneCell' = true := h.1.one
theorem InM.len {S : Nat → Prop} {w : World} {x : TIn} {cs : List Value} (h : InM S w x cs) : cs.length = 36 := by
  obtain ⟨sv, wv, rfl, hl, _⟩ := h
  simp [hCells, hl]
theorem InM.one {S : Nat → Prop} {w : World} {x : TIn} {cs : List Value} (h : InM S w x cs) : cs.toArray.all (·.oneCell') = true := by
  obtain ⟨sv, wv, rfl, hl, h1, h2⟩ := h
  have := hCells_one x.id
  rw [List.all_toArray] at this ⊢
  rw [List.all_append, this]
  simp [Value.oneCell']
  exact ⟨h1.one, h2.one⟩
theorem InM.cell {S : Nat → Prop} {w : World} {x : TIn} {cs : List Value} (h : InM S w x cs) : ∃ sv wv, cs[33]? = some sv ∧ cs[35]? = some wv ∧ TextM S w x.sc [sv] ∧ RowM S (TextM S) 1 w wv x.wi := by
  obtain ⟨sv, wv, rfl, hl, h1, h2⟩ := h
  have hc : (hCells x.id).length = 32 := by simp [hCells, hl]
  exact ⟨sv, wv, by rw [List.getElem?_append_right (by omega), hc]; rfl, by rw [List.getElem?_append_right (by omega), hc]; rfl, h1, h2⟩
theorem TxM.len {S : Nat → Prop} {w : World} {t : TTx} {cs : List Value} (h : TxM S w t cs) : cs.length = 4 := by obtain ⟨_, _, rfl, _⟩ := h; rfl
theorem TxM.one {S : Nat → Prop} {w : World} {t : TTx} {cs : List Value} (h : TxM S w t cs) : cs.toArray.all (·.oneCell') = true := by
  obtain ⟨iv, ov, rfl, hi, ho⟩ := h
  rw [List.all_toArray]
  simp [Value.oneCell']
  exact ⟨hi.one, ho.one⟩
end Go.Proofs.YtndobjlodpkknaaGreatDoor
namespace Go.Proofs.YtndobjlodpkknaaGreatDoor
open Go Go.RowKit
set_option linter.unusedVariables false
def SBy (B : Nat) (w : World) (k : Nat) : Prop := B ≤ k ∧ ∃ cs, Blk w k 5 cs
theorem SBy.lt {B : Nat} {w : World} {k : Nat} (h : SBy B w k) : k < w.heap.size := by obtain ⟨_, cs, h⟩ := h; exact h.lt
theorem Own8.mineS {B : Nat} {w : World} {v : Value} {bs : Bs} (h : Own8 w B v bs) : ∃ q c, v = .slice q bs.length c ∧ bs.length ≤ c ∧ c ≤ 9223372036854775807 ∧ MineS w (SBy B w) q bs.length := by
  obtain ⟨p, c, rfl, h1, h2, _, h4⟩ := Mine.of h
  refine ⟨p, c, rfl, h1, by unfold maxLen at h2; omega, ?_⟩
  rcases h4 with h | ⟨g, o, cs, h1, h2, h3, h4⟩
  · exact .inl h
  · exact .inr ⟨g, o, cs, h1, ⟨h2, cs, h3⟩, h3, h4⟩
theorem TextO.m {B : Nat} {w : World} {x : Bs} {cs : List Value} (h : TextO B w x cs) : TextM (SBy B w) w x cs := by
  obtain ⟨v, rfl, h⟩ := h
  obtain ⟨q, c, rfl, h1, h2, h3⟩ := h.mineS
  exact ⟨q, _, c, rfl, h1, h2, h3⟩
theorem RowO.m {α : Type} {E E' : World → α → List Value → Prop} {T N B : Nat} {w : World} {v : Value} {xs : List α} (h : RowO E T N B w v xs) (hT : T ≠ 5) (hE : ∀ x cs, E w x cs → E' w x cs) : RowM (SBy B w) E' N w v xs := by
  refine ⟨h.e hE, fun k hk hS => ?_⟩
  obtain ⟨css, _, h2, _⟩ := h
  obtain ⟨_, cs, hc⟩ := hS
  rcases h2.2 with ⟨rfl, _⟩ | ⟨q, cap, cur, rfl, hB, hh, _⟩
  · cases hk
  · injection hk with hk
    subst hk
    exact hT (Blk.inj (show Blk w q T cur from hh) hc).1
theorem InO.m {B : Nat} {w : World} {x : TIn} {cs : List Value} (h : InO B w x cs) : InM (SBy B w) w x cs := by
  obtain ⟨sv, wv, h1, h2, h3, h4⟩ := h
  exact ⟨sv, wv, h1, h2, (show TextO B w x.sc [sv] from ⟨sv, rfl, h3⟩).m, h4.m (by decide) fun _ _ h => h.m⟩
theorem OutO.m {B : Nat} {w : World} {x : TOut} {cs : List Value} (h : OutO B w x cs) : OutM (SBy B w) w x cs := by
  obtain ⟨sv, h1, h3⟩ := h
  exact ⟨sv, h1, (show TextO B w x.sc [sv] from ⟨sv, rfl, h3⟩).m⟩
theorem TxO.m {B : Nat} {w : World} {t : TTx} {cs : List Value} (h : TxO B w t cs) : TxM (SBy B w) w t cs := by
  obtain ⟨iv, ov, h1, h2, h3⟩ := h
  exact ⟨iv, ov, h1, h2.m (by decide) fun _ _ h => h.m, h3.m (by decide) fun _ _ h => h.m⟩
theorem TxM.lit {S : Nat → Prop} {w w' : World} {t : TTx} {cs : List Value} {b : Nat} {T : TypeId} (h : TxM S w t cs) (hp : Pok S w w') (hb : Blk w' b T cs.toArray) (hn : ¬ S b) : RowM S (TxM S) 4 w' (.slice (some ⟨b, 0, none⟩) 1 1) [t] := by
  refine ⟨⟨_, _, _, rfl, rfl, Nat.le_refl _, by unfold maxLen; omega, fun _ => ⟨b, 0, rfl, hb.lt, fun i x hi => ?_⟩, fun e => by cases e⟩, fun k hk => ?_⟩
  · cases i with
    | zero =>
      injection hi with hi
      subst hi
      exact ⟨cs, txM_keeps S _ _ _ _ h hp, by rw [Nat.zero_mul]; exact blk_range hb⟩
    | succ i => cases hi
  · injection hk with hk
    subst hk
    exact hn
end Go.Proofs.YtndobjlodpkknaaGreatDoor
namespace Go.Proofs.YtndobjlodpkknaaGreatDoor
open Go Go.RowKit
set_option linter.unusedVariables false
theorem TxC.len {w : World} {t : TTx} {cs : List Value} (h : TxC w t cs) : cs.length = 4 := by obtain ⟨_, _, rfl, _⟩ := h; rfl
end Go.Proofs.YtndobjlodpkknaaGreatDoor
namespace Go.Proofs.YtndobjlodpkknaaGreatDoor
open Go Go.RowKit
set_option linter.unusedVariables false
theorem BlkO.m {B : Nat} {w : World} {b : TBlk} {cs : List Value} (h : BlkO B w b cs) : ∃ v, cs[68]? = some v ∧ RowM (SBy B w) (TxM (SBy B w)) 4 w v b.ts := by
  obtain ⟨v, rfl, hk, hv⟩ := h
  exact ⟨v, by rw [List.getElem?_append_right (by rw [Hdr.cells_len hk]; exact Nat.le_refl _), Hdr.cells_len hk]; rfl, hv.m (by decide) fun _ _ h => h.m⟩
theorem BlkC.size {w : World} {b : TBlk} {cs : List Value} (h : BlkC w b cs) : ZBlk.toArray.size = cs.toArray.size := by rw [List.size_toArray, List.size_toArray, h.len]; rfl
end Go.Proofs.YtndobjlodpkknaaGreatDoor
namespace Go.Proofs.YtndobjlodpkknaaGreatDoor
open Go Go.ChangeShapes Go.WideShapes Go.ChangeAt Go.RowKit
set_option linter.unusedVariables false
theorem blk_cells {H : Type} {enc : TypeId × Value → H} {W : World} {fuel : Nat} {cs : List Value} {x : DataW H × List MemPlace} (h : DataW.trod enc Tryz.prog W 0 (fun _ => true) true fuel 33 cs = some x) : cs.length = 69 ∧ ∃ b, BlkC W b cs := by
  have hl : cs.length = 69 := by rw [trod_len Tryz.underlying33 h]; kernel_rfl
  obtain ⟨n0, y0, h0⟩ := trod_fieldH Tryz.underlying33 h 0 _ rfl 68 (by kernel_rfl)
  obtain ⟨n1, y1, h1⟩ := trod_fieldH Tryz.underlying33 h 1 _ rfl 1 (by kernel_rfl)
  obtain ⟨hd, hk, e0⟩ := header_cells h0
  obtain ⟨a1, l1, c1, e1⟩ := slice_cell Tryz.underlying31 h1
  have e1' : (cs.drop 68).take 1 = [.slice a1 l1 c1] := e1
  have h1' : DataW.trod enc Tryz.prog W 0 (fun _ => true) true n1 31 ((cs.drop 68).take 1) = some y1 := h1
  rw [e1'] at h1'
  obtain ⟨ts, ht⟩ := open_rowsE (enc := enc) (W := W) (d0 := y1.1) (p := y1.2) TxC (by omega) Tryz.underlying31 (by kernel_rfl) (fun fuel cs x h => tx_cells h) ⟨n1, h1'⟩
  refine ⟨hl, ⟨hd, ts⟩, _, ?_, hk, ht⟩
  have q1 := parts2 cs 68 1 (by omega)
  have a0 : (cs.drop 0).take 68 = hd.cells := e0
  rw [a0, e1'] at q1
  exact q1
end Go.Proofs.YtndobjlodpkknaaGreatDoor
