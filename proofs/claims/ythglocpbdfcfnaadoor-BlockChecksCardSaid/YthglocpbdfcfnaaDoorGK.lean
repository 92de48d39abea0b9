/- Blocks, plain: their bytes, and what bytes say; their cells. · block.Encode: the walk. · sporranref08.Encode: the walk. · block.Decode: the walk. · sporranref08.Decode: the walk. · sporranplain.Spoil: what may be written stays bytes; sporranplain.SpoilBlock: the walk. · sporranplain.SpoilBlock: the walk. · sporranlaw07.TxReads: the walk. · sporranplain.SameBlock: the walk (what says the same is the same). · sporranlaw08.awake, BlockReads: the walks. · A block read as data (a row's argument). -/
import Derived.Test.YthglocpbdfcfnaaDoorGH
import Derived.Test.YthglocpbdfcfnaaDoorGD
import Derived.Test.YthglocpbdfcfnaaDoorTxRe
import Derived.Test.YthglocpbdfcfnaaDoorGT
import Derived.Test.YthglocpbdfcfnaaDoorGB
namespace Go.Proofs.YthglocpbdfcfnaaDoor
open Go Go.RowKit
set_option linter.unusedVariables false

structure TBlk where
  h : Hdr
  ts : List TTx
def txsB (ts : List TTx) : Bs := (ts.map fun t => txB t (hasWs t.is)).flatten
def blkB (b : TBlk) : Bs := b.h.bytes ++ (cntB b.ts.length ++ txsB b.ts)
/-- a block's bytes, or the error -/
def blkP (b : TBlk) : Bs × Int := if 2000 < b.ts.length then ([], 1) else if b.ts.all canTx then (if 200000 < (blkB b).length then ([], 91) else (blkB b, 0)) else ([], 1)
def noBlk : TBlk := ⟨noHdr, []⟩
def hdrZ : Pz Hdr := fun s => if s.length < 80 then .error 50 else .ok (hdrOf s, s.drop 80)
def blkZ : Pz TBlk := hdrZ.bind fun h => (cntZ 2000).bind fun n => (manyZ txZ n).bind fun ts => Pz.ret ⟨h, ts⟩
def endB (x : Except Int (TBlk × Bs)) : TBlk × Int := match x with
  | .error k => (noBlk, k)
  | .ok (b, r) => if r = [] then (b, 0) else (noBlk, 70)
/-- the block of bytes, or the error -/
def blkDecP (s : Bs) : TBlk × Int := if 200000 < s.length then (noBlk, 91) else endB (blkZ s)

theorem cuts_hdr : Cuts hdrZ := fun s h r hs => by
  unfold hdrZ at hs
  split at hs
  · cases hs
  · rename_i hl
    injection hs with hs
    injection hs with h1 h2
    subst h1 h2
    refine ⟨s.take 80, (List.take_append_drop 80 s).symm, fun t => ?_, fun a' c e hc => ?_⟩
    · have hlen : (s.take 80).length = 80 := by rw [List.length_take]; omega
      have h1 : (hdrOf s).bytes = s.take 80 := by
        have h2 := hdrOf_back s (by omega)
        have h3 := congrArg (List.take 80) h2
        rwa [List.take_left' (Hdr.bytes_len (hdrOf_ok s (by omega)))] at h3
      have h4 := hdrP_bytes (hdrOf s) (hdrOf_ok s (by omega)) t
      rw [h1] at h4
      unfold hdrP at h4
      rw [if_neg (by rw [List.length_append, hlen]; omega)] at h4
      injection h4 with h5 h6
      injection h6 with h6
      unfold hdrZ
      rw [if_neg (by rw [List.length_append, hlen]; omega), h5, h6]
    · unfold hdrZ
      rw [if_pos]
      have := congrArg List.length e
      rw [List.length_take, List.length_append] at this
      have : 0 < c.length := by
        cases c with
        | nil => exact absurd rfl hc
        | cons _ _ => simp
      omega
theorem cuts_blk : Cuts blkZ := cuts_hdr.bind fun h => (cuts_cnt 2000 (by omega)).bind fun n => (cuts_many cuts_tx n).bind fun ts => Cuts.ret _
theorem nz_hdr : NZ hdrZ := fun s k h => by
  unfold hdrZ at h
  split at h
  · injection h with h; rw [← h]; decide
  · cases h
theorem nz_blk : NZ blkZ := nz_hdr.bind fun h => (nz_cnt 2000).bind fun n => (nz_many nz_tx n).bind fun ts => NZ.ret _
theorem reads_hdr (h : Hdr) (hk : h.ok) : Reads hdrZ h h.bytes := fun r => by
  have h4 := hdrP_bytes h hk r
  unfold hdrP at h4
  rw [if_neg (by rw [List.length_append, Hdr.bytes_len hk]; omega)] at h4
  injection h4 with h5 h6
  injection h6 with h6
  unfold hdrZ
  rw [if_neg (by rw [List.length_append, Hdr.bytes_len hk]; omega), h5, h6]
theorem reads_blk (b : TBlk) (hk : b.h.ok) (hn : b.ts.length ≤ 2000) (hc : ∀ t ∈ b.ts, canTx t = true) (ho : ∀ t ∈ b.ts, okTx t) : Reads blkZ b (blkB b) := by
  unfold blkZ blkB
  refine (reads_hdr b.h hk).bind ((reads_cnt b.ts.length 2000 hn (by omega)).bind (Reads.last (reads_many txZ (fun t => txB t (hasWs t.is)) b.ts fun t ht => reads_tx t (hc t ht) (ho t ht)) (Reads.ret _)))
theorem blk_dec (b : TBlk) (hk : b.h.ok) (hn : b.ts.length ≤ 2000) (hc : ∀ t ∈ b.ts, canTx t = true) (ho : ∀ t ∈ b.ts, okTx t) (r : Bs) : blkZ (blkB b ++ r) = .ok (b, r) := reads_blk b hk hn hc ho r
theorem blk_cut (b : TBlk) (hk : b.h.ok) (hn : b.ts.length ≤ 2000) (hc : ∀ t ∈ b.ts, canTx t = true) (ho : ∀ t ∈ b.ts, okTx t) (n : Nat) (hlt : n < (blkB b).length) : blkZ ((blkB b).take n) = .error 50 := by
  obtain ⟨a, h1, _, h3⟩ := cuts_blk (blkB b ++ []) b [] (blk_dec b hk hn hc ho [])
  rw [List.append_nil, List.append_nil] at h1
  subst h1
  exact h3 _ _ (List.take_append_drop n (blkB b)).symm (by intro e; have := congrArg List.length e; rw [List.length_drop] at this; simp at this; omega)

/-! ### cells -/
def BlkC (w : World) (b : TBlk) (cs : List Value) : Prop := ∃ v, cs = b.h.cells ++ [v] ∧ b.h.ok ∧ ESl TxC 4 w v b.ts
def BlkO (B : Nat) (w : World) (b : TBlk) (cs : List Value) : Prop := ∃ v, cs = b.h.cells ++ [v] ∧ b.h.ok ∧ RowO (TxO B) 26 4 B w v b.ts
theorem blkC_keeps : Keeps BlkC := fun w w' x cs ⟨v, h1, h2, h3⟩ hb => ⟨v, h1, h2, h3.fut txC_keeps hb⟩
theorem blkO_keeps (B : Nat) : KeepsO B [26, 5, 38, 40, 62] (BlkO B) := fun w w' S x cs ⟨v, h1, h2, h3⟩ hs hp => ⟨v, h1, h2, h3.sep (txO_keeps B) hs hp⟩
theorem BlkO.c {B : Nat} {w : World} {b : TBlk} {cs : List Value} (h : BlkO B w b cs) : BlkC w b cs := by
  obtain ⟨v, h1, h2, h3⟩ := h
  exact ⟨v, h1, h2, h3.e fun _ _ h => h.c⟩
theorem BlkC.len {w : World} {b : TBlk} {cs : List Value} (h : BlkC w b cs) : cs.length = 69 := by
  obtain ⟨v, rfl, hk, _⟩ := h
  rw [List.length_append, Hdr.cells_len hk]
  rfl
theorem BlkC.at {w : World} {b : TBlk} {cs : List Value} (h : BlkC w b cs) : ∃ v, cs[68]? = some v ∧ ESl TxC 4 w v b.ts := by
  obtain ⟨v, rfl, hk, hv⟩ := h
  exact ⟨v, by rw [List.getElem?_append_right (by rw [Hdr.cells_len hk]; exact Nat.le_refl _), Hdr.cells_len hk]; rfl, hv⟩
theorem BlkC.one {w : World} {b : TBlk} {cs : List Value} (h : BlkC w b cs) : cs.toArray.all (·.oneCell') = true := by
  obtain ⟨v, rfl, hk, hv⟩ := h
  have := Hdr.cells_one b.h
  rw [List.all_toArray] at this ⊢
  rw [List.all_append, this]
  simp only [List.all_cons, List.all_nil, Bool.and_true, Bool.true_and]
  exact hv.one
theorem BlkC.ok {w : World} {b : TBlk} {cs : List Value} (h : BlkC w b cs) : ∀ t ∈ b.ts, okTx t := fun t ht => by
  obtain ⟨v, _, _, hv⟩ := h
  obtain ⟨cs, hc⟩ := hv.mem ht
  exact hc.ok
theorem info_Blk {cs : List Value} (h : cs.length = 69) : (Tryd.prog.info? 52).map (·.size) = some cs.length := by rw [h]; kernel_rfl
/-- a block's header, read out of its cells -/
theorem Blk.hdr {w : World} {g : Nat} {t : TypeId} {h : Hdr} {v : Value} (hb : Blk w g t (h.cells ++ [v]).toArray) : w.rangeAt g 0 h.cells := fun j u hj => by
  rw [Nat.zero_add, hb.cell, List.getElem?_toArray, List.getElem?_append_left]
  · exact hj
  · exact (List.getElem?_eq_some_iff.1 hj).1
theorem txB_le {t : TTx} (h : canTx t = true) {w : World} {cs : List Value} (hc : TxC w t cs) : (txB t (hasWs t.is)).length ≤ 10000000000 := txB_big h hc _
end Go.Proofs.YthglocpbdfcfnaaDoor
namespace Go.Proofs.YthglocpbdfcfnaaDoor
open Go Go.RowKit
set_option linter.unusedVariables false

theorem count_any (n : Nat) (hn : n < 18446744073709551616) (W : World) : Calls Tryd.prog 52 #[.int .u64 (n : Int)] W (GivesOwn W (cntB n)) := by
  have := encode_any (BitVec.ofNat 64 n) W
  rw [iv64_nat n hn] at this
  exact this
theorem cntB_pos (n : Nat) : cntB n ≠ [] := by
  unfold cntB enc
  split
  · simp
  · split
    · simp
    · split <;> simp
theorem blkP_many {b : TBlk} (h : 2000 < b.ts.length) : blkP b = ([], 1) := by unfold blkP; rw [if_pos h]
theorem blkP_bad {b : TBlk} (h : ¬ 2000 < b.ts.length) {k : Nat} {t : TTx} (ht : b.ts[k]? = some t) (hc : canTx t = false) : blkP b = ([], 1) := by
  unfold blkP
  rw [if_neg h, if_neg]
  rw [all_miss canTx b.ts k t ht hc]
  simp
theorem blkP_long {b : TBlk} (h : ¬ 2000 < b.ts.length) (hc : b.ts.all canTx = true) (hl : 200000 < (blkB b).length) : blkP b = ([], 91) := by
  unfold blkP
  rw [if_neg h, if_pos hc, if_pos hl]
theorem blkP_fine {b : TBlk} (h : ¬ 2000 < b.ts.length) (hc : b.ts.all canTx = true) (hl : ¬ 200000 < (blkB b).length) : blkP b = (blkB b, 0) := by
  unfold blkP
  rw [if_neg h, if_pos hc, if_neg hl]

set_option maxRecDepth 100000 in
set_option maxHeartbeats 16000000 in
theorem blkEncode_any (b : TBlk) (cs : List Value) (w : World) (hc : BlkC w b cs) : Calls Tryd.prog 22 #[.agg cs.toArray] w (OutB w (blkP b)) := by
  obtain ⟨P, hP⟩ : ∃ P, P = blkP b := ⟨_, rfl⟩
  rw [← hP]
  have HP := Lib.hid hP
  have hlen := hc.len
  obtain ⟨v, hcs, hk, hv⟩ := hc
  obtain ⟨pt, n, ct, rfl⟩ := hv.opens
  obtain ⟨hn, hnc, hcm⟩ := hv.slen
  have HCS := Lib.hid hcs
  have HK := Lib.hid hk
  have HV := Lib.hid hv
  have HN := Lib.hid hn
  have HLEN := Lib.hid hlen
  have hb1 := below_new w (.cells cs.toArray 52)
  have HB := Lib.hid (Blk.new w 52 cs.toArray)
  clear hP hcs hk hv hn hlen
  go_enter Tryd.func22, Tryd.ntmps22
  go_upto_region 1 with fail
  generalize w.alloc (.cells cs.toArray 52) = w1 at *
  have HB01 := Lib.hid hb1
  obtain ⟨z, hz⟩ : ∃ z, z = w.heap.size := ⟨_, rfl⟩
  rw [← hz] at HB ⊢
  have hlt := HB.out.lt
  have HLT := Lib.hid hlt
  have HAT : Hid (cs.toArray[68]? = some (.slice pt n ct)) := Lib.hid (by
    rw [HCS.out, List.getElem?_toArray, List.getElem?_append_right (by rw [Hdr.cells_len HK.out]; exact Nat.le_refl _), Hdr.cells_len HK.out]
    rfl)
  clear hz hb1 hlt
  have c68 : w1.cell? ⟨z, 68, none⟩ = some (.slice pt n ct) := by rw [HB.out.cell]; exact HAT.out
  by_cases h2 : 2000 < n
  · have hl : (2000 : Int) < (n : Int) := by omega
    have HP2 : Hid (P = ([], 1)) := Lib.hid (by rw [HP.out]; exact blkP_many (by have := HN.out; omega))
    go_wp2_with fail
    go_ret2
    exact OutB.of HP2 ⟨rfl, .inl ⟨rfl, rfl⟩⟩ HB01.out
  have hl : ¬ (2000 : Int) < (n : Int) := by omega
  have hn2 : n ≤ 2000 := by omega
  have HN2 : Hid (¬ 2000 < b.ts.length) := Lib.hid (by have := HN.out; omega)
  go_upto_region 3 with fail
  clear hl h2 c68
  have hiv := iv64_nat n (by omega)
  refine region_plan [qq 0, qq 1, qq 3, qq 4, qq 5, qq 6, oo 2, oo 7, oo 8, qq 9] (fun W => Blk W z 52 cs.toArray) (by kernel_rfl) (by kernel_rfl) (HB.out.fut (below_draws w1 1)) ?_
  refine' plan_quiet (s := 45) (A1 := _) [0, 1, 3, 4, 5, 6] [_, _, _, _, _, _] _ rfl rfl rfl (fun W hW => ?hq1) _ (HB.out.fut (below_draws w1 1)) (fun _ => ?hr1)
  case hq1 =>
    have c68 : ∀ k, (W.drewN k).cell? ⟨z, 68, none⟩ = some (.slice pt n ct) := fun k => by have := hW.cell 68; rw [HAT.out] at this; exact this
    try simp only [List.getElem_toArray, List.getElem_cons_zero, List.getElem_cons_succ]
    iterate 1 (go_big_quiet_step (fail))
    refine quiet_load_mid rfl 50 (.tmp 13) rfl z 0 rfl b.h.cells _ (fun w hw => ?_) Tryd.underlying50 rfl (hdr_size HK.out) ?_
    · obtain ⟨k, rfl⟩ := hw
      exact Blk.hdr (h := b.h) (v := .slice pt n ct) (HCS.out ▸ hW.drewN k)
    simp only [put_some, List.setIfInBounds_toArray, List.set_cons_succ, List.set_cons_zero]
    iterate 4 (go_big_quiet_step (fail))
    refine wpQuiet_nil ?_
    rfl
  case hr1 =>
  refine plan_one rfl fun k1 => ?_
  have hdr : Below w1.heap.size w1 (w1.drew.drewN k1) := below_drewN (Below.refl _ _).drew k1
  have HWa := Lib.hid hdr
  have hFa := HB.out.fut hdr
  clear hdr
  generalize w1.drew.drewN k1 = Wa at *
  go_wp2_with fail
  refine (hdrEncode_any b.h HK.out Wa).mono ?_
  rintro e Wb ⟨gh, rfl, hgh, hgw, hbb⟩
  have HH : Hid (Blk Wb gh 92 (b.h.bytes.map u8).toArray) := hgh
  have HWb : Hid (Below w1.heap.size w1 Wb) := Lib.hid (below_fut HWa.out hbb (Nat.le_refl _))
  have hFb := hFa.fut hbb
  clear hgh hgw hbb hFa HWa
  go_wp2_with fail
  refine planQ_normal (And.intro hFb ?_)
  refine plan_one rfl fun k2 => ?_
  have hdr := below_draws Wb k2
  have HHn := Lib.hid (HH.out.fut hdr)
  have HH2 := HHn
  have HWc : Hid (Below w1.heap.size w1 (Wb.drewN k2)) := Lib.hid (below_fut HWb.out hdr (Nat.le_refl _))
  have hFc := hFb.fut hdr
  clear HH HHn HWb hFb hdr
  generalize Wb.drewN k2 = Wc at *
  go_wp2_with fail
  refine (count_any n (by omega) Wc).mono ?_
  rintro e W3 ⟨vn, rfl, hon, hb3⟩
  replace hon : Own8 W3 Wc.heap.size vn (cntB n) := hon
  obtain ⟨pn, nn, cn, rfl, hnn, hnnc, hcmn, hrn⟩ := hon.open
  have HH3 := Lib.hid (HH2.out.fut hb3)
  have HW3 : Hid (Below w1.heap.size w1 W3) := Lib.hid (below_fut HWc.out hb3 (Nat.le_refl _))
  have hF3 := hFc.fut hb3
  clear hon hb3 HH2 HWc hFc
  go_wp2_with fail
  refine planQ_normal (And.intro hF3 ?_)
  refine plan_one rfl fun k3 => ?_
  have hdr := below_draws W3 k3
  have HH3n := Lib.hid (HH3.out.fut hdr)
  have HH4 := HH3n
  have HWd : Hid (Below w1.heap.size w1 (W3.drewN k3)) := Lib.hid (below_fut HW3.out hdr (Nat.le_refl _))
  have hFd := hF3.fut hdr
  have hrn4 := hrn.fut hdr
  clear HH3 HH3n HW3 hF3 hrn hdr
  generalize W3.drewN k3 = Wd at *
  refine wp_append_own (o := ⟨some 21, _, _, _, _, _⟩) rfl (.tmp 15) (.tmp 20) rfl gh 92 b.h.bytes 80 rfl (Hdr.bytes_len HK.out) HH4.out pn nn cn (cntB n) rfl hnn.out (cntB_pos n) hrn4 (by have := cntB_len n; have := hnn.out; omega) ?_
  intro v5 We ho5 hb5
  have HW5 : Hid (Wr w1 We v5 (b.h.bytes ++ cntB n)) := Lib.hid ⟨below_fut HWd.out hb5 (Nat.le_refl _), ownsRow_mono ho5 HWd.out.size⟩
  have hFe := hFd.fut hb5
  clear ho5 hb5
  clear HH4 HWd hFd hrn4
  go_wp2_with fail
  refine planQ_normal (And.intro hFe ?_)
  refine' plan_quiet (s := 45) (A1 := _) (r := []) [9] [_] _ rfl rfl rfl (fun W hW => ?hq2) _ hFe (fun _ => ?hr2)
  case hq2 =>
    try simp only [List.getElem_toArray, List.getElem_cons_zero, List.getElem_cons_succ]
    iterate 1 (go_big_quiet_step (fail))
    refine wpQuiet_nil ?_
    rfl
  case hr2 =>
  refine plan_end fun k4 => NoPanic.normal ?_
  have HW6 := Lib.hid (HW5.out.fut (below_draws We k4))
  have hF6 := hFe.fut (below_draws We k4)
  clear HW5 hFe
  generalize We.drewN k4 = W6 at *
  have c68 : W6.cell? ⟨z, 68, none⟩ = some (.slice pt n ct) := by rw [hF6.cell]; exact HAT.out
  go_upto_region 5 with fail
  clear c68 hF6 hiv
  obtain ⟨Y, hY⟩ : ∃ Y : Bs, Y = b.h.bytes ++ cntB n := ⟨_, rfl⟩
  rw [← hY] at HW6
  have HYL : Hid (Y.length ≤ 100) := Lib.hid (by rw [hY, List.length_append, Hdr.bytes_len HK.out]; have := cntB_len n; omega)
  have HY := Lib.hid hY
  clear hY
  have HAL : Hid (∀ k, (∀ j t, b.ts[j]? = some t → j < k → canTx t = true) → (preB (fun t => txB t (hasWs t.is)) b.ts k).length ≤ 2000 * 10000000000) := Lib.hid fun k hk => by
    have hx : ∀ t ∈ b.ts.take k, (txB t (hasWs t.is)).length ≤ 10000000000 := fun t ht => by
      obtain ⟨j, hj, e⟩ := List.mem_take_iff_getElem.1 ht
      have hm : b.ts[j]? = some t := by rw [List.getElem?_eq_getElem (by omega), e]
      obtain ⟨cs, hE⟩ := HV.out.mem (List.mem_of_getElem? hm)
      exact txB_le (hk j t hm (by omega)) hE
    have h1 := flat_le (fun t : TTx => txB t (hasWs t.is)) 10000000000 (b.ts.take k) hx
    have h2 : (b.ts.take k).length ≤ 2000 := by rw [List.length_take]; have := HN.out; omega
    exact Nat.le_trans h1 (Nat.mul_le_mul h2 (Nat.le_refl _))
  go_loopw [4, 25] (fun v i wr => ∃ k : Nat, k ≤ n ∧ i = .int .i64 k ∧ Hid (∀ j t, b.ts[j]? = some t → j < k → canTx t = true) ∧ Hid (Wr w1 wr v (Y ++ preB (fun t => txB t (hasWs t.is)) b.ts k))) (fun _ i _ => n - (intOf i).toNat)
  case atStart => exact ⟨0, by omega, rfl, Lib.hid (by intro j t _ hj; omega), Lib.hid (by rw [preB_zero, List.append_nil]; exact HW6.out)⟩
  case round =>
    clear HW6
    obtain ⟨k, hk, rfl, HAk, HWk⟩ := hrel
    by_cases hkn : k < n
    case neg =>
      obtain rfl : k = n := by omega
      have hall : b.ts.all canTx = true := by
        rw [List.all_eq_true]
        intro t ht
        obtain ⟨j, hj⟩ := List.getElem?_of_mem ht
        exact HAk.out j t hj (by have := (List.getElem?_eq_some_iff.1 hj).1; have := HN.out; omega)
      have hbb : blkB b = Y ++ preB (fun t => txB t (hasWs t.is)) b.ts k := by
        rw [preB_all _ _ _ (by have := HN.out; omega), HY.out]
        unfold blkB txsB
        rw [HN.out, List.append_assoc]
      have hge : ¬ (k : Int) < (k : Int) := by omega
      rw [← hbb] at HWk
      obtain ⟨B, hB⟩ : ∃ B : Bs, B = blkB b := ⟨_, rfl⟩
      rw [← hB] at HWk
      have hlong := blkP_long (b := b) HN2.out hall
      have hfine := blkP_fine (b := b) HN2.out hall
      rw [← HP.out, ← hB] at hlong hfine
      obtain ⟨q5, m5, d5, rfl, hm5, _⟩ := HWk.out.own.open
      have HLO := Lib.hid hlong
      have HFI := Lib.hid hfine
      have HM5 := Lib.hid hm5.out
      clear hall hbb hB hlong hfine hm5
      by_cases hlong : 200000 < m5
      · have hli : (200000 : Int) < (m5 : Int) := by omega
        have HP2 : Hid (P = ([], 91)) := Lib.hid (HLO.out (by have := HM5.out; omega))
        have HW := Lib.hid HWk.out.below
        clear HWk
        go_wp2_with fail
        go_ret2
        exact OutB.of HP2 ⟨rfl, .inl ⟨rfl, rfl⟩⟩ (HB01.out.trans (HW.out.mono HB01.out.size))
      · have hli : ¬ (200000 : Int) < (m5 : Int) := by omega
        have HP2 : Hid (P = (B, 0)) := Lib.hid (HFI.out (by have := HM5.out; omega))
        go_wp2_with fail
        go_ret2
        exact OutB.of HP2 (ownsRow_mono HWk.out.own HB01.out.size) (HB01.out.trans (HWk.out.below.mono HB01.out.size))
    have hlt : (k : Int) < (n : Int) := by omega
    obtain ⟨bb, off, cs2, t, rfl, hx, hE, l2⟩ := HV.out.at (below_fut HB01.out HWk.out.below (Nat.le_refl _)) hkn
    have hl4 : cs2.length = 4 := by obtain ⟨_, _, rfl, _⟩ := hE; rfl
    have H3 := Lib.hid hl4
    have H1 := Lib.hid hE.one
    have HX := Lib.hid hx
    have HE := Lib.hid hE
    have hz := zTx
    have hbr := below_new wr (.cells ZTx.toArray 26)
    have hzs : ZTx.toArray.size = cs2.toArray.size := by rw [List.size_toArray, List.size_toArray, hl4]; rfl
    obtain ⟨qk, mk, dk, rfl⟩ := HWk.out.opens
    clear hx hl4 hE
    go_upto_region 7 with (first
      | (with_reducible refine wpList_load_mid (op := ⟨some 28, _, _, _, _, _⟩) ?_ 26 (.tmp 27) ?_ (bb) (off + k * 4) ?_ (cs2) _ (l2) Tryd.underlying26 ?_ ?_ ?_
         · rfl
         · rfl
         · rfl
         · rfl
         · exact ((info_Tx H3.out)))
      | (with_reducible refine wp_store_blk (o := ⟨none, _, _, _, _, _⟩) ?_ 26 (.tmp 6) (.tmp 28) ?_ (wr.heap.size) 26 (ZTx.toArray) (cs2.toArray) ?_ ?_ (Blk.new wr _ _) ?_ ?_ ?_ (wr.heap.size) (wr) ?_ ?_ ?_
         · rfl
         · rfl
         · rfl
         · rfl
         · exact (by rw [List.size_toArray]; exact info_Tx H3.out)
         · exact (hzs)
         · exact (H1.out)
         · exact (hbr)
         · exact (Nat.le_refl _)
         intro w6 hB6 hb6 hg6 hs6))
    have HW6 := Lib.hid (HWk.out.fut hb6)
    have l6 := blk_range hB6.out
    have hC6 := txC_keeps _ _ _ _ HE.out (below_fut HB01.out HW6.out.below (Nat.le_refl _))
    have hcall := txEncode_any t cs2 true w6 hC6
    obtain ⟨g, hg⟩ : ∃ g, g = wr.heap.size := ⟨_, rfl⟩
    rw [← hg] at l6 ⊢
    have hPt : txP t true = (if canTx t then (txB t (hasWs t.is), 0) else ([], 1)) := by unfold txP; simp
    clear hb6 hg6 hs6 hB6 l2 hbr hz hg HWk hzs
    try simp only [put_none]
    by_cases hcan : canTx t = true
    case neg =>
      have hcf : canTx t = false := by cases h : canTx t <;> simp_all
      rw [hPt, if_neg hcan] at hcall
      unfold OutB at hcall
      simp only at hcall
      have HP2 : Hid (P = ([], 1)) := Lib.hid (by rw [HP.out]; exact blkP_bad HN2.out HX.out hcf)
      clear hcan hcf hPt
      go_wp2_with (first
        | (with_reducible refine wpList_load_mid (op := ⟨some 30, _, _, _, _, _⟩) ?_ 26 (.tmp 6) ?_ (g) (0) ?_ (cs2) _ (l6) Tryd.underlying26 ?_ ?_ ?_
           · rfl
           · rfl
           · rfl
           · rfl
           · exact ((info_Tx H3.out)))
        | (with_reducible refine hcall.mono ?_; rintro e w7 ⟨v7, rfl, ho7, hb7⟩))
      have HB7 := Lib.hid (HW6.out.fut hb7).below
      clear ho7 hb7
      go_ret2
      exact OutB.of HP2 ⟨rfl, .inl ⟨rfl, rfl⟩⟩ (HB01.out.trans (HB7.out.mono HB01.out.size))
    rw [hPt, if_pos hcan] at hcall
    unfold OutB at hcall
    simp only at hcall
    have hbl := txB_le hcan hC6
    obtain ⟨X, hX⟩ : ∃ X : Bs, X = txB t (hasWs t.is) := ⟨_, rfl⟩
    rw [← hX] at hcall hbl
    have HXX := Lib.hid hX
    have HBL := Lib.hid hbl
    have HCAN := Lib.hid hcan
    clear hPt hX hbl hcan hC6
    go_upto_region 10 with (first
      | (with_reducible refine wpList_load_mid (op := ⟨some 30, _, _, _, _, _⟩) ?_ 26 (.tmp 6) ?_ (g) (0) ?_ (cs2) _ (l6) Tryd.underlying26 ?_ ?_ ?_
         · rfl
         · rfl
         · rfl
         · rfl
         · exact ((info_Tx H3.out)))
      | (with_reducible refine hcall.mono ?_; rintro e w7 ⟨v7, rfl, ho7, hb7⟩))
    obtain ⟨p7, n7, c7, rfl, hn7, hnc7, hcm7, hr7⟩ := ho7.open
    have HW7 := Lib.hid (HW6.out.fut hb7)
    have hlk := HAL.out k HAk.out
    have hL : (Y ++ preB (fun t => txB t (hasWs t.is)) b.ts k).length ≤ 30000000000000 := by rw [List.length_append]; have := HYL.out; omega
    have HL := Lib.hid hL
    have ho8 := HW7.out.own
    have hb8 := HW7.out.below
    have hs8 := hb8.size
    clear ho7 hb7 hlk hL hcall l6 HW6
    go_upto_region 11 with ((with_reducible refine wp_append8 (o := ⟨some 39, _, _, _, _, _⟩) ?_ (.tmp 37) (.tmp 38) ?_ (w1.heap.size) _ (_) ?_ (ho8) (p7) (n7) (c7) (X) ?_ (hn7.out) (hr7) ?_ (hs8) (w1.heap.size) (w1) (hb8) ?_ ?_
                             · rfl
                             · rfl
                             · rfl
                             · rfl
                             · have := HL.out; have := HBL.out; omega
                             · exact Nat.le_refl _
                             intro v9 w9 ho9 hb9 hg9 hk9))
    have HW9 : Hid (Wr w1 w9 v9 (Y ++ preB (fun t => txB t (hasWs t.is)) b.ts (k + 1))) := Lib.hid (by
      have := HW7.out.grew ho9 (Grew.of_app hg9 hk9)
      rw [HXX.out, List.append_assoc] at this
      rw [preB_succ (fun t : TTx => txB t (hasWs t.is)) b.ts k t HX.out]
      exact this)
    have HA9 : Hid (∀ j t, b.ts[j]? = some t → j < k + 1 → canTx t = true) := Lib.hid fun j t' hj hlt => by
      rcases Nat.lt_or_ge j k with h | h
      · exact HAk.out j t' hj h
      · obtain rfl : j = k := by omega
        rw [HX.out] at hj
        injection hj with hj
        rw [← hj]
        exact HCAN.out
    clear ho9 hb9 hg9 hk9 ho8 hb8 hs8 hr7 HW7
    go_wp2_with fail
    go_roundw
    case rel => exact ⟨k + 1, by omega, by go_num, HA9, HW9⟩
    case measure => simp [intOf]; omega
end Go.Proofs.YthglocpbdfcfnaaDoor
namespace Go.Proofs.YthglocpbdfcfnaaDoor
open Go Go.RowKit
set_option linter.unusedVariables false

set_option maxRecDepth 100000 in
set_option maxHeartbeats 16000000 in
theorem refBlkEncode_any (b : TBlk) (cs : List Value) (w : World) (hc : BlkC w b cs) : Calls Tryd.prog 23 #[.agg cs.toArray] w (OutB w (blkP b)) := by
  obtain ⟨P, hP⟩ : ∃ P, P = blkP b := ⟨_, rfl⟩
  rw [← hP]
  have HP := Lib.hid hP
  have hlen := hc.len
  obtain ⟨v, hcs, hk, hv⟩ := hc
  obtain ⟨pt, n, ct, rfl⟩ := hv.opens
  obtain ⟨hn, hnc, hcm⟩ := hv.slen
  have HCS := Lib.hid hcs
  have HK := Lib.hid hk
  have HV := Lib.hid hv
  have HN := Lib.hid hn
  have HLEN := Lib.hid hlen
  have hb1 := below_new w (.cells cs.toArray 52)
  have HB := Lib.hid (Blk.new w 52 cs.toArray)
  clear hP hcs hk hv hn hlen
  go_enter Tryd.func23, Tryd.ntmps23
  go_upto_region 1 with fail
  generalize w.alloc (.cells cs.toArray 52) = w1 at *
  have HB01 := Lib.hid hb1
  obtain ⟨z, hz⟩ : ∃ z, z = w.heap.size := ⟨_, rfl⟩
  rw [← hz] at HB ⊢
  have hlt := HB.out.lt
  have HLT := Lib.hid hlt
  have HAT : Hid (cs.toArray[68]? = some (.slice pt n ct)) := Lib.hid (by
    rw [HCS.out, List.getElem?_toArray, List.getElem?_append_right (by rw [Hdr.cells_len HK.out]; exact Nat.le_refl _), Hdr.cells_len HK.out]
    rfl)
  clear hz hb1 hlt
  have c68 : w1.cell? ⟨z, 68, none⟩ = some (.slice pt n ct) := by rw [HB.out.cell]; exact HAT.out
  by_cases h2 : 2000 < n
  · have hl : (2000 : Int) < (n : Int) := by omega
    have HP2 : Hid (P = ([], 1)) := Lib.hid (by rw [HP.out]; exact blkP_many (by have := HN.out; omega))
    go_wp2_with fail
    go_ret2
    exact OutB.of HP2 ⟨rfl, .inl ⟨rfl, rfl⟩⟩ HB01.out
  have hl : ¬ (2000 : Int) < (n : Int) := by omega
  have hn2 : n ≤ 2000 := by omega
  have HN2 : Hid (¬ 2000 < b.ts.length) := Lib.hid (by have := HN.out; omega)
  go_upto_region 3 with fail
  clear hl h2 c68
  have hiv := iv64_nat n (by omega)
  refine region_plan [qq 0, qq 1, qq 3, qq 4, qq 5, qq 6, oo 2, oo 7, oo 8, qq 9] (fun W => Blk W z 52 cs.toArray) (by kernel_rfl) (by kernel_rfl) (HB.out.fut (below_draws w1 1)) ?_
  refine' plan_quiet (s := 45) (A1 := _) [0, 1, 3, 4, 5, 6] [_, _, _, _, _, _] _ rfl rfl rfl (fun W hW => ?hq1) _ (HB.out.fut (below_draws w1 1)) (fun _ => ?hr1)
  case hq1 =>
    have c68 : ∀ k, (W.drewN k).cell? ⟨z, 68, none⟩ = some (.slice pt n ct) := fun k => by have := hW.cell 68; rw [HAT.out] at this; exact this
    try simp only [List.getElem_toArray, List.getElem_cons_zero, List.getElem_cons_succ]
    iterate 1 (go_big_quiet_step (fail))
    refine quiet_load_mid rfl 50 (.tmp 13) rfl z 0 rfl b.h.cells _ (fun w hw => ?_) Tryd.underlying50 rfl (hdr_size HK.out) ?_
    · obtain ⟨k, rfl⟩ := hw
      exact Blk.hdr (h := b.h) (v := .slice pt n ct) (HCS.out ▸ hW.drewN k)
    simp only [put_some, List.setIfInBounds_toArray, List.set_cons_succ, List.set_cons_zero]
    iterate 4 (go_big_quiet_step (fail))
    refine wpQuiet_nil ?_
    rfl
  case hr1 =>
  refine plan_one rfl fun k1 => ?_
  have hdr : Below w1.heap.size w1 (w1.drew.drewN k1) := below_drewN (Below.refl _ _).drew k1
  have HWa := Lib.hid hdr
  have hFa := HB.out.fut hdr
  clear hdr
  generalize w1.drew.drewN k1 = Wa at *
  go_wp2_with fail
  refine (refHdrEncode_any b.h HK.out Wa).mono ?_
  rintro e Wb ⟨vh, rfl, hoh, hbb⟩
  replace hoh : Own8 Wb Wa.heap.size vh b.h.bytes := hoh
  have HH := Lib.hid (ownsRow_mono hoh HWa.out.size : Own8 Wb w1.heap.size vh b.h.bytes)
  have HWb : Hid (Below w1.heap.size w1 Wb) := Lib.hid (below_fut HWa.out hbb (Nat.le_refl _))
  have hFb := hFa.fut hbb
  clear hoh hbb hFa HWa
  go_wp2_with fail
  refine planQ_normal (And.intro hFb ?_)
  refine plan_one rfl fun k2 => ?_
  have hdr := below_draws Wb k2
  have HHn := Lib.hid (Own8.fut HH.out hdr)
  have HH2 := HHn
  have HWc : Hid (Below w1.heap.size w1 (Wb.drewN k2)) := Lib.hid (below_fut HWb.out hdr (Nat.le_refl _))
  have hFc := hFb.fut hdr
  clear HH HHn HWb hFb hdr
  generalize Wb.drewN k2 = Wc at *
  go_wp2_with fail
  refine (refCount_any n (by omega) Wc).mono ?_
  rintro e W3 ⟨vn, rfl, hon, hb3⟩
  replace hon : Own8 W3 Wc.heap.size vn (cntB n) := hon
  obtain ⟨pn, nn, cn, rfl, hnn, hnnc, hcmn, hrn⟩ := hon.open
  have HH3 := Lib.hid (Own8.fut HH2.out hb3)
  have HW3 : Hid (Below w1.heap.size w1 W3) := Lib.hid (below_fut HWc.out hb3 (Nat.le_refl _))
  have hF3 := hFc.fut hb3
  clear hon hb3 HH2 HWc hFc
  go_wp2_with fail
  refine planQ_normal (And.intro hF3 ?_)
  refine plan_one rfl fun k3 => ?_
  have hdr := below_draws W3 k3
  have HH3n := Lib.hid (Own8.fut HH3.out hdr)
  have HH4 := HH3n
  have HWd : Hid (Below w1.heap.size w1 (W3.drewN k3)) := Lib.hid (below_fut HW3.out hdr (Nat.le_refl _))
  have hFd := hF3.fut hdr
  have hrn4 := hrn.fut hdr
  clear HH3 HH3n HW3 hF3 hrn hdr
  generalize W3.drewN k3 = Wd at *
  refine wp_append8 (o := ⟨some 21, _, _, _, _, _⟩) rfl (.tmp 15) (.tmp 20) rfl w1.heap.size vh b.h.bytes rfl HH4.out pn nn cn (cntB n) rfl hnn.out hrn4 (by rw [Hdr.bytes_len HK.out]; have := cntB_len n; omega) HWd.out.size w1.heap.size w1 HWd.out (Nat.le_refl _) ?_
  intro v5 We ho5 hb5 hg5 _
  have HW5 : Hid (Wr w1 We v5 (b.h.bytes ++ cntB n)) := Lib.hid ⟨hb5, ho5⟩
  have hFe := hFd.stays (Stays.of_grown (S := fun k => vh.ownBlock = some k) hg5 fun k h => h) ((Sfx8.of HH4.out).apart hFd (by decide))
  clear ho5 hb5 hg5
  clear HH4 HWd hFd hrn4
  go_wp2_with fail
  refine planQ_normal (And.intro hFe ?_)
  refine' plan_quiet (s := 45) (A1 := _) (r := []) [9] [_] _ rfl rfl rfl (fun W hW => ?hq2) _ hFe (fun _ => ?hr2)
  case hq2 =>
    try simp only [List.getElem_toArray, List.getElem_cons_zero, List.getElem_cons_succ]
    iterate 1 (go_big_quiet_step (fail))
    refine wpQuiet_nil ?_
    rfl
  case hr2 =>
  refine plan_end fun k4 => NoPanic.normal ?_
  have HW6 := Lib.hid (HW5.out.fut (below_draws We k4))
  have hF6 := hFe.fut (below_draws We k4)
  clear HW5 hFe
  generalize We.drewN k4 = W6 at *
  have c68 : W6.cell? ⟨z, 68, none⟩ = some (.slice pt n ct) := by rw [hF6.cell]; exact HAT.out
  go_upto_region 5 with fail
  clear c68 hF6 hiv
  obtain ⟨Y, hY⟩ : ∃ Y : Bs, Y = b.h.bytes ++ cntB n := ⟨_, rfl⟩
  rw [← hY] at HW6
  have HYL : Hid (Y.length ≤ 100) := Lib.hid (by rw [hY, List.length_append, Hdr.bytes_len HK.out]; have := cntB_len n; omega)
  have HY := Lib.hid hY
  clear hY
  have HAL : Hid (∀ k, (∀ j t, b.ts[j]? = some t → j < k → canTx t = true) → (preB (fun t => txB t (hasWs t.is)) b.ts k).length ≤ 2000 * 10000000000) := Lib.hid fun k hk => by
    have hx : ∀ t ∈ b.ts.take k, (txB t (hasWs t.is)).length ≤ 10000000000 := fun t ht => by
      obtain ⟨j, hj, e⟩ := List.mem_take_iff_getElem.1 ht
      have hm : b.ts[j]? = some t := by rw [List.getElem?_eq_getElem (by omega), e]
      obtain ⟨cs, hE⟩ := HV.out.mem (List.mem_of_getElem? hm)
      exact txB_le (hk j t hm (by omega)) hE
    have h1 := flat_le (fun t : TTx => txB t (hasWs t.is)) 10000000000 (b.ts.take k) hx
    have h2 : (b.ts.take k).length ≤ 2000 := by rw [List.length_take]; have := HN.out; omega
    exact Nat.le_trans h1 (Nat.mul_le_mul h2 (Nat.le_refl _))
  go_loopw [4, 25] (fun v i wr => ∃ k : Nat, k ≤ n ∧ i = .int .i64 k ∧ Hid (∀ j t, b.ts[j]? = some t → j < k → canTx t = true) ∧ Hid (Wr w1 wr v (Y ++ preB (fun t => txB t (hasWs t.is)) b.ts k))) (fun _ i _ => n - (intOf i).toNat)
  case atStart => exact ⟨0, by omega, rfl, Lib.hid (by intro j t _ hj; omega), Lib.hid (by rw [preB_zero, List.append_nil]; exact HW6.out)⟩
  case round =>
    clear HW6
    obtain ⟨k, hk, rfl, HAk, HWk⟩ := hrel
    by_cases hkn : k < n
    case neg =>
      obtain rfl : k = n := by omega
      have hall : b.ts.all canTx = true := by
        rw [List.all_eq_true]
        intro t ht
        obtain ⟨j, hj⟩ := List.getElem?_of_mem ht
        exact HAk.out j t hj (by have := (List.getElem?_eq_some_iff.1 hj).1; have := HN.out; omega)
      have hbb : blkB b = Y ++ preB (fun t => txB t (hasWs t.is)) b.ts k := by
        rw [preB_all _ _ _ (by have := HN.out; omega), HY.out]
        unfold blkB txsB
        rw [HN.out, List.append_assoc]
      have hge : ¬ (k : Int) < (k : Int) := by omega
      rw [← hbb] at HWk
      obtain ⟨B, hB⟩ : ∃ B : Bs, B = blkB b := ⟨_, rfl⟩
      rw [← hB] at HWk
      have hlong := blkP_long (b := b) HN2.out hall
      have hfine := blkP_fine (b := b) HN2.out hall
      rw [← HP.out, ← hB] at hlong hfine
      obtain ⟨q5, m5, d5, rfl, hm5, _⟩ := HWk.out.own.open
      have HLO := Lib.hid hlong
      have HFI := Lib.hid hfine
      have HM5 := Lib.hid hm5.out
      clear hall hbb hB hlong hfine hm5
      by_cases hlong : 200000 < m5
      · have hli : (200000 : Int) < (m5 : Int) := by omega
        have HP2 : Hid (P = ([], 91)) := Lib.hid (HLO.out (by have := HM5.out; omega))
        have HW := Lib.hid HWk.out.below
        clear HWk
        go_wp2_with fail
        go_ret2
        exact OutB.of HP2 ⟨rfl, .inl ⟨rfl, rfl⟩⟩ (HB01.out.trans (HW.out.mono HB01.out.size))
      · have hli : ¬ (200000 : Int) < (m5 : Int) := by omega
        have HP2 : Hid (P = (B, 0)) := Lib.hid (HFI.out (by have := HM5.out; omega))
        go_wp2_with fail
        go_ret2
        exact OutB.of HP2 (ownsRow_mono HWk.out.own HB01.out.size) (HB01.out.trans (HWk.out.below.mono HB01.out.size))
    have hlt : (k : Int) < (n : Int) := by omega
    obtain ⟨bb, off, cs2, t, rfl, hx, hE, l2⟩ := HV.out.at (below_fut HB01.out HWk.out.below (Nat.le_refl _)) hkn
    have hl4 : cs2.length = 4 := by obtain ⟨_, _, rfl, _⟩ := hE; rfl
    have H3 := Lib.hid hl4
    have H1 := Lib.hid hE.one
    have HX := Lib.hid hx
    have HE := Lib.hid hE
    have hz := zTx
    have hbr := below_new wr (.cells ZTx.toArray 26)
    have hzs : ZTx.toArray.size = cs2.toArray.size := by rw [List.size_toArray, List.size_toArray, hl4]; rfl
    obtain ⟨qk, mk, dk, rfl⟩ := HWk.out.opens
    clear hx hl4 hE
    go_upto_region 7 with (first
      | (with_reducible refine wpList_load_mid (op := ⟨some 28, _, _, _, _, _⟩) ?_ 26 (.tmp 27) ?_ (bb) (off + k * 4) ?_ (cs2) _ (l2) Tryd.underlying26 ?_ ?_ ?_
         · rfl
         · rfl
         · rfl
         · rfl
         · exact ((info_Tx H3.out)))
      | (with_reducible refine wp_store_blk (o := ⟨none, _, _, _, _, _⟩) ?_ 26 (.tmp 6) (.tmp 28) ?_ (wr.heap.size) 26 (ZTx.toArray) (cs2.toArray) ?_ ?_ (Blk.new wr _ _) ?_ ?_ ?_ (wr.heap.size) (wr) ?_ ?_ ?_
         · rfl
         · rfl
         · rfl
         · rfl
         · exact (by rw [List.size_toArray]; exact info_Tx H3.out)
         · exact (hzs)
         · exact (H1.out)
         · exact (hbr)
         · exact (Nat.le_refl _)
         intro w6 hB6 hb6 hg6 hs6))
    have HW6 := Lib.hid (HWk.out.fut hb6)
    have l6 := blk_range hB6.out
    have hC6 := txC_keeps _ _ _ _ HE.out (below_fut HB01.out HW6.out.below (Nat.le_refl _))
    have hcall := refTxEncode_any t cs2 true w6 hC6
    obtain ⟨g, hg⟩ : ∃ g, g = wr.heap.size := ⟨_, rfl⟩
    rw [← hg] at l6 ⊢
    have hPt : txP t true = (if canTx t then (txB t (hasWs t.is), 0) else ([], 1)) := by unfold txP; simp
    clear hb6 hg6 hs6 hB6 l2 hbr hz hg HWk hzs
    try simp only [put_none]
    by_cases hcan : canTx t = true
    case neg =>
      have hcf : canTx t = false := by cases h : canTx t <;> simp_all
      rw [hPt, if_neg hcan] at hcall
      unfold OutB at hcall
      simp only at hcall
      have HP2 : Hid (P = ([], 1)) := Lib.hid (by rw [HP.out]; exact blkP_bad HN2.out HX.out hcf)
      clear hcan hcf hPt
      go_wp2_with (first
        | (with_reducible refine wpList_load_mid (op := ⟨some 30, _, _, _, _, _⟩) ?_ 26 (.tmp 6) ?_ (g) (0) ?_ (cs2) _ (l6) Tryd.underlying26 ?_ ?_ ?_
           · rfl
           · rfl
           · rfl
           · rfl
           · exact ((info_Tx H3.out)))
        | (with_reducible refine hcall.mono ?_; rintro e w7 ⟨v7, rfl, ho7, hb7⟩))
      have HB7 := Lib.hid (HW6.out.fut hb7).below
      clear ho7 hb7
      go_ret2
      exact OutB.of HP2 ⟨rfl, .inl ⟨rfl, rfl⟩⟩ (HB01.out.trans (HB7.out.mono HB01.out.size))
    rw [hPt, if_pos hcan] at hcall
    unfold OutB at hcall
    simp only at hcall
    have hbl := txB_le hcan hC6
    obtain ⟨X, hX⟩ : ∃ X : Bs, X = txB t (hasWs t.is) := ⟨_, rfl⟩
    rw [← hX] at hcall hbl
    have HXX := Lib.hid hX
    have HBL := Lib.hid hbl
    have HCAN := Lib.hid hcan
    clear hPt hX hbl hcan hC6
    go_upto_region 10 with (first
      | (with_reducible refine wpList_load_mid (op := ⟨some 30, _, _, _, _, _⟩) ?_ 26 (.tmp 6) ?_ (g) (0) ?_ (cs2) _ (l6) Tryd.underlying26 ?_ ?_ ?_
         · rfl
         · rfl
         · rfl
         · rfl
         · exact ((info_Tx H3.out)))
      | (with_reducible refine hcall.mono ?_; rintro e w7 ⟨v7, rfl, ho7, hb7⟩))
    obtain ⟨p7, n7, c7, rfl, hn7, hnc7, hcm7, hr7⟩ := ho7.open
    have HW7 := Lib.hid (HW6.out.fut hb7)
    have hlk := HAL.out k HAk.out
    have hL : (Y ++ preB (fun t => txB t (hasWs t.is)) b.ts k).length ≤ 30000000000000 := by rw [List.length_append]; have := HYL.out; omega
    have HL := Lib.hid hL
    have ho8 := HW7.out.own
    have hb8 := HW7.out.below
    have hs8 := hb8.size
    clear ho7 hb7 hlk hL hcall l6 HW6
    go_upto_region 11 with ((with_reducible refine wp_append8 (o := ⟨some 39, _, _, _, _, _⟩) ?_ (.tmp 37) (.tmp 38) ?_ (w1.heap.size) _ (_) ?_ (ho8) (p7) (n7) (c7) (X) ?_ (hn7.out) (hr7) ?_ (hs8) (w1.heap.size) (w1) (hb8) ?_ ?_
                             · rfl
                             · rfl
                             · rfl
                             · rfl
                             · have := HL.out; have := HBL.out; omega
                             · exact Nat.le_refl _
                             intro v9 w9 ho9 hb9 hg9 hk9))
    have HW9 : Hid (Wr w1 w9 v9 (Y ++ preB (fun t => txB t (hasWs t.is)) b.ts (k + 1))) := Lib.hid (by
      have := HW7.out.grew ho9 (Grew.of_app hg9 hk9)
      rw [HXX.out, List.append_assoc] at this
      rw [preB_succ (fun t : TTx => txB t (hasWs t.is)) b.ts k t HX.out]
      exact this)
    have HA9 : Hid (∀ j t, b.ts[j]? = some t → j < k + 1 → canTx t = true) := Lib.hid fun j t' hj hlt => by
      rcases Nat.lt_or_ge j k with h | h
      · exact HAk.out j t' hj h
      · obtain rfl : j = k := by omega
        rw [HX.out] at hj
        injection hj with hj
        rw [← hj]
        exact HCAN.out
    clear ho9 hb9 hg9 hk9 ho8 hb8 hs8 hr7 HW7
    go_wp2_with fail
    go_roundw
    case rel => exact ⟨k + 1, by omega, by go_num, HA9, HW9⟩
    case measure => simp [intOf]; omega
end Go.Proofs.YthglocpbdfcfnaaDoor
namespace Go.Proofs.YthglocpbdfcfnaaDoor
open Go Go.RowKit
set_option linter.unusedVariables false

def ZBlk : List Value := noHdr.cells ++ [.slice none 0 0]
theorem zBlk : ∀ w, (zeroValue 52).run Tryd.prog w = .ok (.agg ZBlk.toArray) w := zero_of (by kernel_rfl)
theorem built_blk0 : Tryd.prog.built 52 [] = some ZBlk.toArray := by kernel_rfl
theorem zBlk_one : ZBlk.toArray.all (·.oneCell') = true := by rw [List.all_toArray]; rfl
theorem built_blkh (h : Hdr) (hk : h.ok) : Tryd.prog.built 52 [(0, .agg h.cells.toArray)] = some (h.cells ++ [Value.slice none 0 0]).toArray := by
  obtain ⟨v, p, m, t, b, n⟩ := h
  obtain ⟨hp, hm⟩ := hk
  simp only at hp hm
  obtain ⟨x, rfl⟩ := asFn p 32 hp
  obtain ⟨y, rfl⟩ := asFn m 32 hm
  kernel_rfl
def BlkDec (w : World) (x : TBlk × Int) (e : Ending) (w' : World) : Prop := ∃ cs, e = .returned (.tuple #[.agg cs.toArray, .int .i64 x.2]) ∧ BlkO w.heap.size w' x.1 cs ∧ Below w.heap.size w w'
theorem BlkDec.bad {w w' : World} {x : TBlk × Int} {k : Int} (h : Hid (x = (noBlk, k))) (hb : Below w.heap.size w w') : BlkDec w x (.returned (.tuple #[.agg ZBlk.toArray, .int .i64 k])) w' := by
  rw [h.out]
  exact ⟨ZBlk, rfl, ⟨.slice none 0 0, rfl, noHdr_ok, RowO.nil _ _ _ _ _⟩, hb⟩
theorem tx_row : (Tryd.prog.info? 26).map (fun i => (i.zero, i.size, i.bytes)) = some (some (.agg ZTx.toArray), 4, 64) := by kernel_rfl
theorem TxO.len {B : Nat} {w : World} {t : TTx} {cs : List Value} (h : TxO B w t cs) : cs.length = 4 := by obtain ⟨_, _, rfl, _⟩ := h; rfl
/-- how the reading goes on -/
def restB (h : Hdr) (xs : List TTx) (m : Nat) (s : Bs) : TBlk × Int := endB (((contP xs txZ m).bind fun ts => Pz.ret (⟨h, ts⟩ : TBlk)) s)
theorem blkDec_long {s : Bs} (h : 200000 < s.length) : blkDecP s = (noBlk, 91) := by unfold blkDecP; rw [if_pos h]
theorem blkDec_hdr {s : Bs} (h : ¬ 200000 < s.length) {k : Int} (he : (hdrP s).2.2 = k) (hk : k ≠ 0) : blkDecP s = (noBlk, k) := by
  unfold blkDecP
  rw [if_neg h]
  unfold hdrP at he
  by_cases hl : s.length < 80
  · rw [if_pos hl] at he
    have : hdrZ s = .error 50 := by unfold hdrZ; rw [if_pos hl]
    unfold blkZ
    rw [Pz.bind_err this, ← he]
    rfl
  · rw [if_neg hl] at he
    exact absurd he.symm hk
theorem blkDec_cnt {s r : Bs} {hd : Hdr} (h : ¬ 200000 < s.length) (he : hdrP s = (hd, r, 0)) : blkDecP s = endB (((cntZ 2000).bind fun n => (manyZ txZ n).bind fun ts => Pz.ret (⟨hd, ts⟩ : TBlk)) r) := by
  unfold blkDecP
  rw [if_neg h]
  unfold hdrP at he
  by_cases hl : s.length < 80
  · rw [if_pos hl] at he
    exact absurd (congrArg (fun x => x.2.2) he) (by show ¬ (50 : Int) = 0; decide)
  · rw [if_neg hl] at he
    injection he with h1 h2
    injection h2 with h2
    have : hdrZ s = .ok (hd, r) := by unfold hdrZ; rw [if_neg hl, h1, h2]
    unfold blkZ
    rw [Pz.bind_ok this]
theorem cnt_err {s r : Bs} {n : BitVec 64} {k : Int} (h : cutP s = (n, r, k)) (hk : k ≠ 0) (f : Nat → Pz TBlk) : endB (((cntZ 2000).bind f) s) = (noBlk, k) := by
  have : cntZ 2000 s = .error k := by
    unfold cntZ
    rw [h]
    exact if_pos hk
  rw [Pz.bind_err this]
  rfl
theorem cnt_full {s r : Bs} {n : BitVec 64} (h : cutP s = (n, r, 0)) (hn : 2000 < n.toNat) (f : Nat → Pz TBlk) : endB (((cntZ 2000).bind f) s) = (noBlk, 4) := by
  have : cntZ 2000 s = .error 4 := by
    unfold cntZ
    rw [h]
    simp [hn]
  rw [Pz.bind_err this]
  rfl
theorem cnt_fine {s r : Bs} {n : BitVec 64} (h : cutP s = (n, r, 0)) (hn : ¬ 2000 < n.toNat) (hd : Hdr) : endB (((cntZ 2000).bind fun n => (manyZ txZ n).bind fun ts => Pz.ret (⟨hd, ts⟩ : TBlk)) s) = restB hd [] n.toNat r := by
  have : cntZ 2000 s = .ok (n.toNat, r) := by
    unfold cntZ
    rw [h]
    simp [hn]
  rw [Pz.bind_ok this]
  unfold restB
  rw [contP_start]
theorem restB_err {hd : Hdr} {xs : List TTx} {m : Nat} {s : Bs} {k : Int} (h : txZ s = .error k) : restB hd xs (m + 1) s = (noBlk, k) := by
  unfold restB
  have : contP xs txZ (m + 1) s = .error k := contM_bad h
  rw [Pz.bind_err this]
  rfl
theorem restB_ok {hd : Hdr} {xs : List TTx} {m : Nat} {s r : Bs} {t : TTx} (h : txZ s = .ok (t, r)) : restB hd xs (m + 1) s = restB hd (xs ++ [t]) m r := by
  unfold restB
  have : contP xs txZ (m + 1) s = contP (xs ++ [t]) txZ m r := contM_ok h
  unfold Pz.bind
  rw [this]
theorem restB_end {hd : Hdr} {xs : List TTx} {s : Bs} : restB hd xs 0 s = if s = [] then (⟨hd, xs⟩, 0) else (noBlk, 70) := by
  unfold restB
  have : contP xs txZ 0 s = .ok (xs, s) := contM_end xs txZ s
  rw [Pz.bind_ok this]
  rfl
theorem cut_len {s r : Bs} {n : BitVec 64} {k : Int} (h : cutP s = (n, r, k)) : r.length ≤ s.length := by
  have := cutP_short s
  rw [h] at this
  exact this
theorem txZ_len {s r : Bs} {t : TTx} (h : txZ s = .ok (t, r)) : r.length ≤ s.length := by
  obtain ⟨h1, _⟩ := txZ_ok h
  rw [h1, List.length_append]
  omega
theorem hdr_len {s r : Bs} {hd : Hdr} (he : hdrP s = (hd, r, 0)) : r.length ≤ s.length ∧ hd.ok := by
  unfold hdrP at he
  by_cases hl : s.length < 80
  · rw [if_pos hl] at he
    exact absurd (congrArg (fun x => x.2.2) he) (by show ¬ (50 : Int) = 0; decide)
  · rw [if_neg hl] at he
    injection he with h1 h2
    injection h2 with h2
    subst h1 h2
    exact ⟨by rw [List.length_drop]; omega, hdrOf_ok s (by omega)⟩
theorem hdr_set (h : Hdr) (hk : h.ok) (u v : Value) : (h.cells ++ [u]).toArray.setIfInBounds 68 v = (h.cells ++ [v]).toArray := by
  rw [List.setIfInBounds_toArray, List.set_append_right _ _ (by rw [Hdr.cells_len hk]; exact Nat.le_refl _), Hdr.cells_len hk]
  rfl


end Go.Proofs.YthglocpbdfcfnaaDoor
namespace Go.Proofs.YthglocpbdfcfnaaDoor
open Go Go.RowKit
set_option linter.unusedVariables false


end Go.Proofs.YthglocpbdfcfnaaDoor
namespace Go.Proofs.YthglocpbdfcfnaaDoor
open Go Go.RowKit
set_option linter.unusedVariables false

/-- just the blocks of S were written, and hold bytes as before -/
structure Pok (S : Nat → Prop) (w w' : World) : Prop where
  st : Stays S w w'
  mi : ∀ q m, MineS w S q m → MineS w' S q m
theorem Pok.refl (S : Nat → Prop) (w : World) : Pok S w w := ⟨Stays.refl _ _, fun _ _ h => h⟩
theorem Pok.trans {S : Nat → Prop} {w w1 w2 : World} (h : Pok S w w1) (h2 : Pok S w1 w2) : Pok S w w2 := ⟨h.st.trans h2.st fun _ _ h => h, fun q m hm => h2.mi q m (h.mi q m hm)⟩
theorem Pok.poke {S : Nat → Prop} {w wr : World} {g j : Nat} {cs : Array Value} (h : Pok S w wr) (hk : Blk wr g 5 cs) (hg : S g) (b : BitVec 8) : Pok S w (wr.setCell ⟨g, j, none⟩ (u8 b)) :=
  ⟨h.st.setCell (fun _ => hg) _, fun q m hm => (h.mi q m hm).poke hk b⟩
theorem Pok.fut {S : Nat → Prop} {w w' : World} (hb : Below w.heap.size w w') : Pok S w w' := ⟨Stays.of_below hb (Nat.le_refl _) _, fun q m hm => by
  rcases hm with h | ⟨g, o, cs, rfl, h2, h3, h4⟩
  · exact .inl h
  · exact .inr ⟨g, o, cs, rfl, h2, h3.fut hb, h4⟩⟩

def TextM (S : Nat → Prop) (w : World) (x : Bs) (cs : List Value) : Prop := ∃ q m c, cs = [.slice q m c] ∧ m ≤ c ∧ c ≤ 9223372036854775807 ∧ MineS w S q m
/-- a row whose own block is none of S -/
def RowM {α : Type} (S : Nat → Prop) (E : World → α → List Value → Prop) (N : Nat) (w : World) (v : Value) (xs : List α) : Prop := ESl E N w v xs ∧ ∀ k, v.ownBlock = some k → ¬ S k
def InM (S : Nat → Prop) (w : World) (x : TIn) (cs : List Value) : Prop := ∃ sv wv, cs = hCells x.id ++ [u32 x.ix, sv, u32 x.sq, wv] ∧ x.id.length = 32 ∧ TextM S w x.sc [sv] ∧ RowM S (TextM S) 1 w wv x.wi
def OutM (S : Nat → Prop) (w : World) (x : TOut) (cs : List Value) : Prop := ∃ sv, cs = [.int .i64 x.va.toInt, sv] ∧ TextM S w x.sc [sv]
def TxM (S : Nat → Prop) (w : World) (t : TTx) (cs : List Value) : Prop := ∃ iv ov, cs = [u32 t.ve, iv, ov, u32 t.lo] ∧ RowM S (InM S) 36 w iv t.is ∧ RowM S (OutM S) 2 w ov t.os
def KeepsM {α : Type} (S : Nat → Prop) (E : World → α → List Value → Prop) : Prop := ∀ w w' x cs, E w x cs → Pok S w w' → E w' x cs
theorem range_stays {S : Nat → Prop} {w w' : World} {b o : Nat} {cs : List Value} (h : w.rangeAt b o cs) (hs : Stays S w w') (hb : b < w.heap.size) (hn : ¬ S b) : w'.rangeAt b o cs := fun j v hj =>
  (World.cell?_of_block (a := ⟨b, o + j, none⟩) (hs.block b hb hn)).trans (h j v hj)
theorem textM_keeps (S : Nat → Prop) : KeepsM S (TextM S) := fun w w' x cs ⟨q, m, c, h1, h2, h3, h4⟩ hp => ⟨q, m, c, h1, h2, h3, hp.mi q m h4⟩
theorem RowM.pok {α : Type} {S : Nat → Prop} {E : World → α → List Value → Prop} {N : Nat} {w w' : World} {v : Value} {xs : List α} (h : RowM S E N w v xs) (hE : KeepsM S E) (hp : Pok S w w') : RowM S E N w' v xs := by
  obtain ⟨⟨p, n, c, rfl, h2, h3, h4, h5, h6⟩, hS⟩ := h
  refine ⟨⟨p, n, c, rfl, h2, h3, h4, fun hn => ?_, h6⟩, hS⟩
  obtain ⟨b, off, rfl, hlt, hc⟩ := h5 hn
  have hb : ¬ S b := hS b rfl
  refine ⟨b, off, rfl, Nat.lt_of_lt_of_le hlt hp.st.size, fun i x hi => ?_⟩
  obtain ⟨cs, h1, h2⟩ := hc i x hi
  exact ⟨cs, hE _ _ _ _ h1 hp, range_stays h2 hp.st hlt hb⟩
theorem inM_keeps (S : Nat → Prop) : KeepsM S (InM S) := fun w w' x cs ⟨sv, wv, h1, h2, h3, h4⟩ hp => ⟨sv, wv, h1, h2, textM_keeps S _ _ _ _ h3 hp, h4.pok (textM_keeps S) hp⟩
theorem outM_keeps (S : Nat → Prop) : KeepsM S (OutM S) := fun w w' x cs ⟨sv, h1, h2⟩ hp => ⟨sv, h1, textM_keeps S _ _ _ _ h2 hp⟩
theorem txM_keeps (S : Nat → Prop) : KeepsM S (TxM S) := fun w w' x cs ⟨iv, ov, h1, h2, h3⟩ hp => ⟨iv, ov, h1, h2.pok (inM_keeps S) hp, h3.pok (outM_keeps S) hp⟩
theorem RowM.at {α : Type} {S : Nat → Prop} {E : World → α → List Value → Prop} {N : Nat} {w : World} {p : Option Addr} {n c k : Nat} {xs : List α} (h : RowM S E N w (.slice p n c) xs) (hk : k < n) : ∃ b off cs x, p = some ⟨b, off, none⟩ ∧ xs[k]? = some x ∧ E w x cs ∧ w.rangeAt b (off + k * N) cs ∧ ¬ S b ∧ b < w.heap.size := by
  obtain ⟨⟨p', n', c', e, h1, h2, h3, h4, h5⟩, hS⟩ := h
  injection e with e1 e2 e3
  subst e1 e2 e3
  have hx := List.getElem?_eq_getElem (l := xs) (i := k) (by omega)
  obtain ⟨b, off, rfl, hlt, hc⟩ := h4 (by intro e; subst e; simp at h1; omega)
  obtain ⟨cs, h6, h7⟩ := hc k _ hx
  exact ⟨b, off, cs, _, rfl, hx, h6, h7, hS b rfl, hlt⟩
/-- a literal row of one text -/
theorem TextM.lit {S : Nat → Prop} {w w' : World} {b : Nat} {q : Option Addr} {m c : Nat} {t : TypeId} (h : MineS w S q m) (h2 : m ≤ c) (h3 : c ≤ 9223372036854775807) (hp : Pok S w w') (hb : Blk w' b t #[.slice q m c]) (hn : ¬ S b) : MineRowsS w' S (some ⟨b, 0, none⟩) 1 := by
  refine .inr ⟨b, 0, rfl, hb.lt, fun i hi => ?_⟩
  obtain rfl : i = 0 := by omega
  refine ⟨q, m, c, ?_, h2, h3, hp.mi q m h, fun hm a ha e => ?_⟩
  · rw [hb.cell]; rfl
  · rcases h with h0 | ⟨g, o, cs, h1, h2, _⟩
    · exact hm h0
    · rw [h1] at ha
      injection ha with ha
      subst ha
      have e' : g = b := e
      exact hn (e' ▸ h2)
/-- a row of texts -/
theorem RowM.mine {S : Nat → Prop} {w : World} {p : Option Addr} {n c : Nat} {xs : List Bs} (h : RowM S (TextM S) 1 w (.slice p n c) xs) : MineRowsS w S p n := by
  by_cases h0 : n = 0
  · exact .inl h0
  obtain ⟨b, off, _, _, rfl, _, _, _, hb, hlt⟩ := h.at (k := 0) (by omega)
  refine .inr ⟨b, off, rfl, hlt, fun i hi => ?_⟩
  obtain ⟨b', off', cs, x, e, hx, ⟨q, m, c', rfl, h2, h3, h4⟩, hr, _, _⟩ := h.at (k := i) hi
  injection e with e
  injection e with e1 e2
  subst e1 e2
  refine ⟨q, m, c', ?_, h2, h3, h4, fun hm a ha e => ?_⟩
  · have := hr 0 _ rfl
    rwa [Nat.mul_one, Nat.add_zero] at this
  · rcases h4 with h0 | ⟨g, o, cs, h1, h2, _⟩
    · exact hm h0
    · rw [h1] at ha
      injection ha with ha
      subst ha
      have e' : g = b := e
      exact hb (e' ▸ h2)
theorem RowM.slen {α : Type} {S : Nat → Prop} {E : World → α → List Value → Prop} {N : Nat} {w : World} {p : Option Addr} {n c : Nat} {xs : List α} (h : RowM S E N w (.slice p n c) xs) : xs.length = n ∧ n ≤ c ∧ c ≤ 9223372036854775807 := h.1.slen
theorem RowM.opens {α : Type} {S : Nat → Prop} {E : World → α → List Value → Prop} {N : Nat} {w : World} {v : Value} {xs : List α} (h : RowM S E N w v xs) : ∃ p n c, v = .slice p n c := h.1.opens
theorem TextM.one {S : Nat → Prop} {w : World} {x : Bs} {v : Value} (h : TextM S w x [v]) : v.oneCell' = true := by
  obtain ⟨q, m, c, e, _⟩ := h
  injection e with e
  rw [e]
  rfl
theorem RowM.one {α : Type} {S : Nat → Prop} {E : World → α → List Value → Prop} {N : Nat} {w : World} {v : Value} {xs : List α} (h : RowM S E N w v xs) : v.oneCell' = true := h.1.one
theorem InM.len {S : Nat → Prop} {w : World} {x : TIn} {cs : List Value} (h : InM S w x cs) : cs.length = 36 := by
  obtain ⟨sv, wv, rfl, hl, _⟩ := h
  simp [hCells, hl]
theorem InM.one {S : Nat → Prop} {w : World} {x : TIn} {cs : List Value} (h : InM S w x cs) : cs.toArray.all (·.oneCell') = true := by
  obtain ⟨sv, wv, rfl, hl, h1, h2⟩ := h
  have := hCells_one x.id
  rw [List.all_toArray] at this ⊢
  rw [List.all_append, this]
  simp [Value.oneCell']
  exact ⟨h1.one, h2.one⟩
theorem InM.cell {S : Nat → Prop} {w : World} {x : TIn} {cs : List Value} (h : InM S w x cs) : ∃ sv wv, cs[33]? = some sv ∧ cs[35]? = some wv ∧ TextM S w x.sc [sv] ∧ RowM S (TextM S) 1 w wv x.wi := by
  obtain ⟨sv, wv, rfl, hl, h1, h2⟩ := h
  have hc : (hCells x.id).length = 32 := by simp [hCells, hl]
  exact ⟨sv, wv, by rw [List.getElem?_append_right (by omega), hc]; rfl, by rw [List.getElem?_append_right (by omega), hc]; rfl, h1, h2⟩
theorem TxM.len {S : Nat → Prop} {w : World} {t : TTx} {cs : List Value} (h : TxM S w t cs) : cs.length = 4 := by obtain ⟨_, _, rfl, _⟩ := h; rfl
theorem TxM.one {S : Nat → Prop} {w : World} {t : TTx} {cs : List Value} (h : TxM S w t cs) : cs.toArray.all (·.oneCell') = true := by
  obtain ⟨iv, ov, rfl, hi, ho⟩ := h
  rw [List.all_toArray]
  simp [Value.oneCell']
  exact ⟨hi.one, ho.one⟩
end Go.Proofs.YthglocpbdfcfnaaDoor
namespace Go.Proofs.YthglocpbdfcfnaaDoor
open Go Go.RowKit
set_option linter.unusedVariables false

end Go.Proofs.YthglocpbdfcfnaaDoor
namespace Go.Proofs.YthglocpbdfcfnaaDoor
open Go Go.RowKit
set_option linter.unusedVariables false

/-- the blocks of bytes from B on, as they are in a world -/
def SBy (B : Nat) (w : World) (k : Nat) : Prop := B ≤ k ∧ ∃ cs, Blk w k 5 cs
theorem SBy.lt {B : Nat} {w : World} {k : Nat} (h : SBy B w k) : k < w.heap.size := by obtain ⟨_, cs, h⟩ := h; exact h.lt
theorem Own8.mineS {B : Nat} {w : World} {v : Value} {bs : Bs} (h : Own8 w B v bs) : ∃ q c, v = .slice q bs.length c ∧ bs.length ≤ c ∧ c ≤ 9223372036854775807 ∧ MineS w (SBy B w) q bs.length := by
  obtain ⟨p, c, rfl, h1, h2, _, h4⟩ := Mine.of h
  refine ⟨p, c, rfl, h1, by unfold maxLen at h2; omega, ?_⟩
  rcases h4 with h | ⟨g, o, cs, h1, h2, h3, h4⟩
  · exact .inl h
  · exact .inr ⟨g, o, cs, h1, ⟨h2, cs, h3⟩, h3, h4⟩
theorem TextO.m {B : Nat} {w : World} {x : Bs} {cs : List Value} (h : TextO B w x cs) : TextM (SBy B w) w x cs := by
  obtain ⟨v, rfl, h⟩ := h
  obtain ⟨q, c, rfl, h1, h2, h3⟩ := h.mineS
  exact ⟨q, _, c, rfl, h1, h2, h3⟩
theorem RowO.m {α : Type} {E E' : World → α → List Value → Prop} {T N B : Nat} {w : World} {v : Value} {xs : List α} (h : RowO E T N B w v xs) (hT : T ≠ 5) (hE : ∀ x cs, E w x cs → E' w x cs) : RowM (SBy B w) E' N w v xs := by
  refine ⟨h.e hE, fun k hk hS => ?_⟩
  obtain ⟨css, _, h2, _⟩ := h
  obtain ⟨_, cs, hc⟩ := hS
  rcases h2.2 with ⟨rfl, _⟩ | ⟨q, cap, cur, rfl, hB, hh, _⟩
  · cases hk
  · injection hk with hk
    subst hk
    exact hT (Blk.inj (show Blk w q T cur from hh) hc).1
theorem InO.m {B : Nat} {w : World} {x : TIn} {cs : List Value} (h : InO B w x cs) : InM (SBy B w) w x cs := by
  obtain ⟨sv, wv, h1, h2, h3, h4⟩ := h
  exact ⟨sv, wv, h1, h2, (show TextO B w x.sc [sv] from ⟨sv, rfl, h3⟩).m, h4.m (by decide) fun _ _ h => h.m⟩
theorem OutO.m {B : Nat} {w : World} {x : TOut} {cs : List Value} (h : OutO B w x cs) : OutM (SBy B w) w x cs := by
  obtain ⟨sv, h1, h3⟩ := h
  exact ⟨sv, h1, (show TextO B w x.sc [sv] from ⟨sv, rfl, h3⟩).m⟩
theorem TxO.m {B : Nat} {w : World} {t : TTx} {cs : List Value} (h : TxO B w t cs) : TxM (SBy B w) w t cs := by
  obtain ⟨iv, ov, h1, h2, h3⟩ := h
  exact ⟨iv, ov, h1, h2.m (by decide) fun _ _ h => h.m, h3.m (by decide) fun _ _ h => h.m⟩
/-- a header's cells, all nought -/
def zHc : List Value := [.int .u32 0] ++ List.replicate 64 (.int .u8 0) ++ [.int .u32 0, .int .u32 0, .int .u32 0]
theorem zHc_at (v : Value) : (zHc ++ [v])[68]? = some v := rfl
theorem built_blk (p : Option Addr) (n c : Nat) : Tryd.prog.built 52 [(1, .slice p n c)] = some (zHc ++ [Value.slice p n c]).toArray := by kernel_rfl
theorem tx_info : (Tryd.prog.info? 26).map (fun i => (i.zero, i.size, i.bytes)) = some (some (.agg ZTx.toArray), 4, 64) := by kernel_rfl
/-- a literal row of one transaction -/
theorem TxM.lit {S : Nat → Prop} {w w' : World} {t : TTx} {cs : List Value} {b : Nat} {T : TypeId} (h : TxM S w t cs) (hp : Pok S w w') (hb : Blk w' b T cs.toArray) (hn : ¬ S b) : RowM S (TxM S) 4 w' (.slice (some ⟨b, 0, none⟩) 1 1) [t] := by
  refine ⟨⟨_, _, _, rfl, rfl, Nat.le_refl _, by unfold maxLen; omega, fun _ => ⟨b, 0, rfl, hb.lt, fun i x hi => ?_⟩, fun e => by cases e⟩, fun k hk => ?_⟩
  · cases i with
    | zero =>
      injection hi with hi
      subst hi
      exact ⟨cs, txM_keeps S _ _ _ _ h hp, by rw [Nat.zero_mul]; exact blk_range hb⟩
    | succ i => cases hi
  · injection hk with hk
    subst hk
    exact hn

end Go.Proofs.YthglocpbdfcfnaaDoor
namespace Go.Proofs.YthglocpbdfcfnaaDoor
open Go Go.RowKit
set_option linter.unusedVariables false

theorem zeroTxs : ∃ Z : Array Value, Z.size = 4 ∧ ∀ w, (zeroValue 26).run Tryd.prog w = .ok (.agg Z) w := ⟨ZTx.toArray, rfl, zTx⟩
theorem TxC.len {w : World} {t : TTx} {cs : List Value} (h : TxC w t cs) : cs.length = 4 := by obtain ⟨_, _, rfl, _⟩ := h; rfl

set_option maxRecDepth 100000 in
set_option maxHeartbeats 8000000 in
theorem eqTxs_any (gf : Nat) (eg : ∀ args w, (callFunc gf args).run Tryd.prog w = .ok (.enter gf args) w) (u v : Value) (xs : List (TTx)) (w : World) (hu : ESl TxC 4 w u xs) (hv : ESl TxC 4 w v xs)
    (hp : ∀ (W : World) (x : TTx) (cs ds : List Value), Below w.heap.size w W → TxC W x cs → TxC W x ds → Calls Tryd.prog gf #[.agg cs.toArray, .agg ds.toArray] W fun e w' => e = .returned (.bool true) ∧ Below W.heap.size W w') :
    Calls Tryd.prog 54 #[u, v, .func (.func gf) #[] #[]] w fun e w' => e = .returned (.bool true) ∧ Below w.heap.size w w' := by
  obtain ⟨p, n, c, rfl⟩ := hu.opens
  obtain ⟨q, m, d, rfl⟩ := hv.opens
  have HU := Lib.hid hu
  have HV := Lib.hid hv
  have HP := Lib.hid hp
  obtain ⟨hn, hnc, hcm⟩ := hu.slen
  obtain ⟨hm, hmd, hdm⟩ := hv.slen
  have hnm : n = m := hn.symm.trans hm
  subst hnm
  have HN := Lib.hid hn
  clear hu hv hp hn hm
  go_enter Tryd.func54, Tryd.ntmps54
  go_upto_region 4 with fail
  go_loopw [17] (fun i wr => ∃ k : Nat, k ≤ n ∧ i = .int .i64 k ∧ Hid (Below w.heap.size w wr)) (fun i _ => n - (intOf i).toNat)
  case atStart => exact ⟨0, by omega, rfl, Lib.hid (Below.refl _ _)⟩
  case round =>
    obtain ⟨k, hk, rfl, HWk⟩ := hrel
    by_cases hkn : k < n
    · have hlt : (k : Int) < (n : Int) := by omega
      obtain ⟨b, off, cs, x, rfl, hx, hE, l2⟩ := HU.out.at HWk.out hkn
      obtain ⟨b', off', ds, x', rfl, hx', hE', l3⟩ := HV.out.at HWk.out hkn
      have hxx : x' = x := by rw [hx] at hx'; injection hx' with h; exact h.symm
      subst hxx
      clear hx hx'
      have H3 := Lib.hid hE.len
      have H1 := Lib.hid hE.one
      have H3' := Lib.hid hE'.len
      have H1' := Lib.hid hE'.one
      have HE := Lib.hid hE
      have HE' := Lib.hid hE'
      obtain ⟨Z, hZl, hz⟩ := zeroTxs
      have HZ := Lib.hid hZl
      have hbr := below_new wr (.cells Z 26)
      clear hE hE' hZl
      go_upto_region 6 with (first
        | (with_reducible refine wpList_load_mid (op := ⟨some 21, _, _, _, _, _⟩) ?_ 26 (.tmp 20) ?_ (b) (off + k * 4) ?_ (cs) _ (l2) Tryd.underlying26 ?_ ?_ ?_
           · rfl
           · rfl
           · rfl
           · rfl
           · exact ((info_Tx H3.out)))
        | (with_reducible refine wp_store_blk (o := ⟨none, _, _, _, _, _⟩) ?_ 26 (.tmp 8) (.tmp 21) ?_ (wr.heap.size) 26 (Z) (cs.toArray) ?_ ?_ (Blk.new wr _ _) ?_ ?_ ?_ (wr.heap.size) (wr) ?_ ?_ ?_
           · rfl
           · rfl
           · rfl
           · rfl
           · exact (by rw [List.size_toArray]; exact info_Tx H3.out)
           · exact (HZ.out.trans (by rw [List.size_toArray]; exact H3.out.symm))
           · exact (H1.out)
           · exact (hbr)
           · exact (Nat.le_refl _)
           intro w6 hB6 hb6 hg6 hs6))
      simp only [put_none]
      have l3' : w6.rangeAt b' (off' + k * 4) ds := range_fut l3 hb6 (HV.out.lt HWk.out hkn)
      have HW6 := Lib.hid (below_fut HWk.out hb6 (Nat.le_refl _))
      have HB6 := Lib.hid hB6.out
      have hbr' := below_new w6 (.cells Z 26)
      have hzz : wr.heap.size < w6.heap.size := hB6.out.lt
      clear hb6 hg6 hs6 l2 l3 hbr hB6
      generalize wr.heap.size = z8 at *
      go_upto_region 7 with (first
        | (with_reducible refine wpList_load_mid (op := ⟨some 25, _, _, _, _, _⟩) ?_ 26 (.tmp 24) ?_ (b') (off' + k * 4) ?_ (ds) _ (l3') Tryd.underlying26 ?_ ?_ ?_
           · rfl
           · rfl
           · rfl
           · rfl
           · exact ((info_Tx H3'.out)))
        | (with_reducible refine wp_store_blk (o := ⟨none, _, _, _, _, _⟩) ?_ 26 (.tmp 9) (.tmp 25) ?_ (w6.heap.size) 26 (Z) (ds.toArray) ?_ ?_ (Blk.new w6 _ _) ?_ ?_ ?_ (w6.heap.size) (w6) ?_ ?_ ?_
           · rfl
           · rfl
           · rfl
           · rfl
           · exact (by rw [List.size_toArray]; exact info_Tx H3'.out)
           · exact (HZ.out.trans (by rw [List.size_toArray]; exact H3'.out.symm))
           · exact (H1'.out)
           · exact (hbr')
           · exact (Nat.le_refl _)
           intro w7 hB7 hb7 hg7 hs7))
      have HW7 := Lib.hid (below_fut HW6.out hb7 (Nat.le_refl _))
      have l6 := blk_range (HB6.out.fut hb7)
      have l7 := blk_range hB7.out
      have hcall := HP.out w7 _ cs ds HW7.out (txC_keeps _ _ _ _ HE.out HW7.out) (txC_keeps _ _ _ _ HE'.out HW7.out)
      clear hb7 hg7 hs7 l3' hbr' hz hB7
      go_wp2_with (first
        | (with_reducible refine wpList_load_mid (op := ⟨some 27, _, _, _, _, _⟩) ?_ 26 (.tmp 8) ?_ (z8) (0) ?_ (cs) _ (l6) Tryd.underlying26 ?_ ?_ ?_
           · rfl
           · rfl
           · rfl
           · rfl
           · exact ((info_Tx H3.out)))
        | (with_reducible refine wpList_load_mid (op := ⟨some 28, _, _, _, _, _⟩) ?_ 26 (.tmp 9) ?_ (w6.heap.size) (0) ?_ (ds) _ (l7) Tryd.underlying26 ?_ ?_ ?_
           · rfl
           · rfl
           · rfl
           · rfl
           · exact ((info_Tx H3'.out))))
      go_at_fn gf
      refine hcall.mono ?_
      rintro e w8 ⟨rfl, hb8⟩
      have HW8 := Lib.hid (below_fut HW7.out hb8 (Nat.le_refl _))
      go_wp2_with fail
      go_roundw
      case rel => exact ⟨k + 1, by omega, by go_num, HW8⟩
      case measure => simp [intOf]; omega
    · obtain rfl : k = n := by omega
      go_wp2_with fail
      go_ret
      exact ⟨rfl, HWk.out⟩

set_option maxRecDepth 100000 in
set_option maxHeartbeats 8000000 in
theorem sameBlk_any (b : TBlk) (cs ds : List Value) (w : World) (h1 : BlkC w b cs) (h2 : BlkC w b ds) : Calls Tryd.prog 24 #[.agg cs.toArray, .agg ds.toArray] w fun e w' => e = .returned (.bool true) ∧ Below w.heap.size w w' := by
  obtain ⟨v, hcs, hk, hv⟩ := h1
  obtain ⟨v', hds, _, hv'⟩ := h2
  have HCS := Lib.hid hcs
  have HDS := Lib.hid hds
  have HK := Lib.hid hk
  have hb1 := below_new w (.cells cs.toArray 52)
  have hb2 := below_new (w.alloc (.cells cs.toArray 52)) (.cells ds.toArray 52)
  have HB1 := Lib.hid ((Blk.new w 52 cs.toArray).fut hb2)
  have HB2 := Lib.hid (Blk.new (w.alloc (.cells cs.toArray 52)) 52 ds.toArray)
  have HW := Lib.hid (below_fut hb1 hb2 (Nat.le_refl _))
  have hTs := eqTxs_any 16 (enters_of Tryd.func16 (by kernel_rfl) rfl) v v' b.ts _ (hv.fut txC_keeps HW.out) (hv'.fut txC_keeps HW.out) (fun W x cs ds _ ha hb => sameTx_any x cs ds W ha hb)
  simp only [World.size_alloc] at HB2
  clear hb1 hb2 hcs hds hk hv hv'
  go_enter Tryd.func24, Tryd.ntmps24
  go_upto_region 1 with fail
  generalize (w.alloc (.cells cs.toArray 52)).alloc (.cells ds.toArray 52) = w2 at *
  obtain ⟨z3, hz3⟩ : ∃ z, z = w.heap.size + 1 := ⟨_, rfl⟩
  rw [← hz3] at HB2 ⊢
  obtain ⟨z2, hz2⟩ : ∃ z, z = w.heap.size := ⟨_, rfl⟩
  rw [← hz2] at HB1 ⊢
  have l1 : w2.rangeAt z2 0 b.h.cells := Blk.hdr (h := b.h) (v := v) (HCS.out ▸ HB1.out)
  have l2 : w2.rangeAt z3 0 b.h.cells := Blk.hdr (h := b.h) (v := v') (HDS.out ▸ HB2.out)
  have a1 : w2.cell? ⟨z2, 68, none⟩ = some v := by
    rw [HB1.out.cell, HCS.out, List.getElem?_toArray, List.getElem?_append_right (by rw [Hdr.cells_len HK.out]; exact Nat.le_refl _), Hdr.cells_len HK.out]
    rfl
  have a2 : w2.cell? ⟨z3, 68, none⟩ = some v' := by
    rw [HB2.out.cell, HDS.out, List.getElem?_toArray, List.getElem?_append_right (by rw [Hdr.cells_len HK.out]; exact Nat.le_refl _), Hdr.cells_len HK.out]
    rfl
  have hsm := hdr_same b.h HK.out
  clear hz2 hz3
  go_wp2_with (first
    | (with_reducible refine wpList_load_mid (op := ⟨some 6, _, _, _, _, _⟩) ?_ 50 (.tmp 5) ?_ (z2) (0) ?_ (b.h.cells) _ (l1) Tryd.underlying50 ?_ ?_ ?_
       · rfl
       · rfl
       · rfl
       · rfl
       · exact ((hdr_size HK.out)))
    | (with_reducible refine wpList_load_mid (op := ⟨some 8, _, _, _, _, _⟩) ?_ 50 (.tmp 7) ?_ (z3) (0) ?_ (b.h.cells) _ (l2) Tryd.underlying50 ?_ ?_ ?_
       · rfl
       · rfl
       · rfl
       · rfl
       · exact ((hdr_size HK.out))))
  refine hTs.mono ?_
  rintro e w3 ⟨rfl, hb3⟩
  go_wp2_with fail
  go_ret
  exact ⟨rfl, below_fut HW.out hb3 (Nat.le_refl _)⟩
end Go.Proofs.YthglocpbdfcfnaaDoor
namespace Go.Proofs.YthglocpbdfcfnaaDoor
open Go Go.RowKit
set_option linter.unusedVariables false

theorem noBlk_c (w : World) : BlkC w noBlk ZBlk := ⟨.slice none 0 0, rfl, noHdr_ok, ⟨none, 0, 0, rfl, rfl, Nat.le_refl _, by unfold maxLen; omega, fun h => absurd rfl h, fun _ => rfl⟩⟩
theorem noBlk_len : (blkB noBlk).length = 81 := by
  unfold blkB
  rw [List.length_append, show noBlk.h.bytes.length = 80 from Hdr.bytes_len noHdr_ok]
  rfl
theorem noBlk_P : blkP noBlk = (blkB noBlk, 0) := blkP_fine (by show ¬ 2000 < 0; omega) rfl (by rw [noBlk_len]; omega)
set_option maxRecDepth 100000 in
set_option maxHeartbeats 4000000 in
theorem awakeB_any (w : World) : Calls Tryd.prog 20 #[] w fun e w' => e = .returned (.bool true) ∧ Below w.heap.size w w' := by
  have hc := blkEncode_any noBlk ZBlk w (noBlk_c w)
  rw [noBlk_P] at hc
  unfold OutB at hc
  simp only at hc
  obtain ⟨b, hb⟩ : ∃ b, b = blkB noBlk := ⟨_, rfl⟩
  have hl := noBlk_len
  rw [← hb] at hc hl
  have HL := Lib.hid hl
  have hbt := built_blk0
  clear hb hl
  go_enter Tryd.func20, Tryd.ntmps20
  go_wp2_with (first
    | (with_reducible refine wp_build (o := ⟨some 4, _, _, _, _, _⟩) ?_ 52 #[] ?_ [] ?_ ZBlk.toArray hbt ?_
       · rfl
       · rfl
       · rfl)
    | (with_reducible refine hc.mono ?_; rintro e w' ⟨v, rfl, ho, hb⟩; obtain ⟨p, n, c, rfl, hn, hnc, hcm, _⟩ := Own8.open ho; obtain rfl : n = 81 := (hn.out.symm.trans HL.out)))
  go_ret
  exact ⟨rfl, hb⟩

theorem BlkO.m {B : Nat} {w : World} {b : TBlk} {cs : List Value} (h : BlkO B w b cs) : ∃ v, cs[68]? = some v ∧ RowM (SBy B w) (TxM (SBy B w)) 4 w v b.ts := by
  obtain ⟨v, rfl, hk, hv⟩ := h
  exact ⟨v, by rw [List.getElem?_append_right (by rw [Hdr.cells_len hk]; exact Nat.le_refl _), Hdr.cells_len hk]; rfl, hv.m (by decide) fun _ _ h => h.m⟩
theorem BlkC.size {w : World} {b : TBlk} {cs : List Value} (h : BlkC w b cs) : ZBlk.toArray.size = cs.toArray.size := by rw [List.size_toArray, List.size_toArray, h.len]; rfl

end Go.Proofs.YthglocpbdfcfnaaDoor
namespace Go.Proofs.YthglocpbdfcfnaaDoor
open Go Go.ChangeShapes Go.WideShapes Go.ChangeAt Go.RowKit
set_option linter.unusedVariables false

theorem blk_cells {H : Type} {enc : TypeId × Value → H} {W : World} {fuel : Nat} {cs : List Value} {x : DataW H × List MemPlace} (h : DataW.trod enc Tryd.prog W 0 (fun _ => true) true fuel 52 cs = some x) : cs.length = 69 ∧ ∃ b, BlkC W b cs := by
  have hl : cs.length = 69 := by rw [trod_len Tryd.underlying52 h]; kernel_rfl
  obtain ⟨n0, y0, h0⟩ := trod_fieldH Tryd.underlying52 h 0 _ rfl 68 (by kernel_rfl)
  obtain ⟨n1, y1, h1⟩ := trod_fieldH Tryd.underlying52 h 1 _ rfl 1 (by kernel_rfl)
  obtain ⟨hd, hk, e0⟩ := header_cells h0
  obtain ⟨a1, l1, c1, e1⟩ := slice_cell Tryd.underlying46 h1
  have e1' : (cs.drop 68).take 1 = [.slice a1 l1 c1] := e1
  have h1' : DataW.trod enc Tryd.prog W 0 (fun _ => true) true n1 46 ((cs.drop 68).take 1) = some y1 := h1
  rw [e1'] at h1'
  obtain ⟨ts, ht⟩ := open_rowsE (enc := enc) (W := W) (d0 := y1.1) (p := y1.2) TxC (by omega) Tryd.underlying46 (by kernel_rfl) (fun fuel cs x h => tx_cells h) ⟨n1, h1'⟩
  refine ⟨hl, ⟨hd, ts⟩, _, ?_, hk, ht⟩
  have q1 := parts2 cs 68 1 (by omega)
  have a0 : (cs.drop 0).take 68 = hd.cells := e0
  rw [a0, e1'] at q1
  exact q1
theorem open_block {H : Type} {enc : TypeId × Value → H} {W : World} {cs : Array Value} {d0 : DataW H} {p : List MemPlace} (h0 : DataW.Trod enc Tryd.prog W 0 (fun _ => true) true 52 (.agg cs) d0 p) : ∃ b, BlkC W b cs.toList := by
  obtain ⟨fuel, hf⟩ := h0
  exact (blk_cells hf).2
end Go.Proofs.YthglocpbdfcfnaaDoor
