/- Blocks, plain: their bytes, and what bytes say; their cells. · block.Encode: the walk. · sporranref08.Encode: the walk. · block.Decode: the walk. · sporranref08.Decode: the walk. · sporranplain.Spoil: what may be written stays bytes; sporranplain.SpoilBlock: the walk. · sporranplain.SpoilBlock: the walk. · sporranlaw07.TxReads: the walk. · sporranplain.SameBlock: the walk (what says the same is the same). · sporranlaw08.awake, BlockReads: the walks. · A block read as data (a row's argument).  -/
import Derived.Test.YtndobjlodpkknaaAGH
import Derived.Test.YtndobjlodpkknaaAGE
import Derived.Test.YtndobjlodpkknaaATxRe
import Derived.Test.YtndobjlodpkknaaAGT
import Derived.Test.YtndobjlodpkknaaAGB
import Derived.Test.YtndobjlodpkknaaAGD
namespace Go.Proofs.Ytndobjlodpkknaa
open Go Go.RowKit
set_option linter.unusedVariables false
structure TBlk where
  h : Hdr
  ts : List TTx
def noBlk : TBlk := ⟨noHdr, []⟩
def hdrZ : Pz Hdr := fun s => if s.length < 80 then .error 50 else .ok (hdrOf s, s.drop 80)
def blkZ : Pz TBlk := hdrZ.bind fun h => (cntZ 2000).bind fun n => (manyZ txZ n).bind fun ts => Pz.ret ⟨h, ts⟩
def endB (x : Except Int (TBlk × Bs)) : TBlk × Int := match x with
  | .error k => (noBlk, k)
  | .ok (b, r) => if r = [] then (b, 0) else (noBlk, 70)
def blkDecP (s : Bs) : TBlk × Int := if 200000 < s.length then (noBlk, 91) else endB (blkZ s)
def BlkC (w : World) (b : TBlk) (cs : List Value) : Prop := ∃ v, cs = b.h.cells ++ [v] ∧ b.h.ok ∧ ESl TxC 4 w v b.ts
def BlkO (B : Nat) (w : World) (b : TBlk) (cs : List Value) : Prop := ∃ v, cs = b.h.cells ++ [v] ∧ b.h.ok ∧ RowO (TxO B) 78 4 B w v b.ts
theorem blkC_keeps : Keeps BlkC := fun w w' x cs ⟨v, h1, h2, h3⟩ hb => ⟨v, h1, h2, h3.fut txC_keeps hb⟩
theorem blkO_keeps (B : Nat) : KeepsO B [78, 5, 22, 82, 84] (BlkO B) := fun w w' S x cs ⟨v, h1, h2, h3⟩ hs hp => ⟨v, h1, h2, h3.sep (txO_keeps B) hs hp⟩
theorem BlkO.c {B : Nat} {w : World} {b : TBlk} {cs : List Value} (h : BlkO B w b cs) : BlkC w b cs := by
  obtain ⟨v, h1, h2, h3⟩ := h
  exact ⟨v, h1, h2, h3.e fun _ _ h => h.c⟩
theorem BlkC.len {w : World} {b : TBlk} {cs : List Value} (h : BlkC w b cs) : cs.length = 69 := by
  obtain ⟨v, rfl, hk, _⟩ := h
  rw [List.length_append, Hdr.cells_len hk]
  rfl
theorem BlkC.at {w : World} {b : TBlk} {cs : List Value} (h : BlkC w b cs) : ∃ v, cs[68]? = some v ∧ ESl TxC 4 w v b.ts := by
  obtain ⟨v, rfl, hk, hv⟩ := h
  exact ⟨v, by rw [List.getElem?_append_right (by rw [Hdr.cells_len hk]; exact Nat.le_refl _), Hdr.cells_len hk]; rfl, hv⟩
theorem BlkC.one {w : World} {b : TBlk} {cs : List Value} (h : BlkC w b cs) : cs.toArray.all (·.oneCell') = true := by
  obtain ⟨v, rfl, hk, hv⟩ := h
  have := Hdr.cells_one b.h
  rw [List.all_toArray] at this ⊢
  rw [List.all_append, this]
  simp only [List.all_cons, List.all_nil, Bool.and_true, Bool.true_and]
  exact hv.one
theorem BlkC.ok {w : World} {b : TBlk} {cs : List Value} (h : BlkC w b cs) : ∀ t ∈ b.ts, okTx t := fun t ht => by
  obtain ⟨v, _, _, hv⟩ := h
  obtain ⟨cs, hc⟩ := hv.mem ht
  exact hc.ok
theorem info_Blk {cs : List Value} (h : cs.length = 69) : (Try.prog.info? 36).map (·.size) = some cs.length := by rw [h]; kernel_rfl
theorem Blk.hdr {w : World} {g : Nat} {t : TypeId} {h : Hdr} {v : Value} (hb : Blk w g t (h.cells ++ [v]).toArray) : w.rangeAt g 0 h.cells := fun j u hj => by
  rw [Nat.zero_add, hb.cell, List.getElem?_toArray, List.getElem?_append_left]
  · exact hj
  · exact (List.getElem?_eq_some_iff.1 hj).1
def HashE (w : World) (x : Bs) (cs : List Value) : Prop := cs = hCells x ∧ x.length = 32
theorem hashE_keeps (B : Nat) : KeepsO B [] HashE := fun _ _ _ _ _ h _ _ => h
end Go.Proofs.Ytndobjlodpkknaa
namespace Go.Proofs.Ytndobjlodpkknaa
open Go Go.RowKit
set_option linter.unusedVariables false
def ZBlk : List Value := noHdr.cells ++ [.slice none 0 0]
theorem zBlk : ∀ w, (zeroValue 36).run Try.prog w = .ok (.agg ZBlk.toArray) w := zero_of (by kernel_rfl)
theorem built_blk0 : Try.prog.built 36 [] = some ZBlk.toArray := by kernel_rfl
theorem zBlk_one : ZBlk.toArray.all (·.oneCell') = true := by rw [List.all_toArray]; rfl
theorem built_blkh (h : Hdr) (hk : h.ok) : Try.prog.built 36 [(0, .agg h.cells.toArray)] = some (h.cells ++ [Value.slice none 0 0]).toArray := by
  obtain ⟨v, p, m, t, b, n⟩ := h
  obtain ⟨hp, hm⟩ := hk
  simp only at hp hm
  obtain ⟨x, rfl⟩ := asFn p 32 hp
  obtain ⟨y, rfl⟩ := asFn m 32 hm
  kernel_rfl
def BlkDec (w : World) (x : TBlk × Int) (e : Ending) (w' : World) : Prop := ∃ cs, e = .returned (.tuple #[.agg cs.toArray, .int .i64 x.2]) ∧ BlkO w.heap.size w' x.1 cs ∧ Below w.heap.size w w'
theorem BlkDec.bad {w w' : World} {x : TBlk × Int} {k : Int} (h : Hid (x = (noBlk, k))) (hb : Below w.heap.size w w') : BlkDec w x (.returned (.tuple #[.agg ZBlk.toArray, .int .i64 k])) w' := by
  rw [h.out]
  exact ⟨ZBlk, rfl, ⟨.slice none 0 0, rfl, noHdr_ok, RowO.nil _ _ _ _ _⟩, hb⟩
theorem tx_row : (Try.prog.info? 78).map (fun i => (i.zero, i.size, i.bytes)) = some (some (.agg ZTx.toArray), 4, 64) := by kernel_rfl
theorem TxO.len {B : Nat} {w : World} {t : TTx} {cs : List Value} (h : TxO B w t cs) : cs.length = 4 := by obtain ⟨_, _, rfl, _⟩ := h; rfl
def restB (h : Hdr) (xs : List TTx) (m : Nat) (s : Bs) : TBlk × Int := endB (((contP xs txZ m).bind fun ts => Pz.ret (⟨h, ts⟩ : TBlk)) s)
theorem blkDec_long {s : Bs} (h : 200000 < s.length) : blkDecP s = (noBlk, 91) := by unfold blkDecP; rw [if_pos h]
theorem blkDec_hdr {s : Bs} (h : ¬ 200000 < s.length) {k : Int} (he : (hdrP s).2.2 = k) (hk : k ≠ 0) : blkDecP s = (noBlk, k) := by
  unfold blkDecP
  rw [if_neg h]
  unfold hdrP at he
  by_cases hl : s.length < 80
  · rw [if_pos hl] at he
    have : hdrZ s = .error 50 := by unfold hdrZ; rw [if_pos hl]
    unfold blkZ
    rw [Pz.bind_err this, ← he]
    rfl
  · rw [if_neg hl] at he
    exact absurd he.symm hk
theorem blkDec_cnt {s r : Bs} {hd : Hdr} (h : ¬ 200000 < s.length) (he : hdrP s = (hd, r, 0)) : blkDecP s = endB (((cntZ 2000).bind fun n => (manyZ txZ n).bind fun ts => Pz.ret (⟨hd, ts⟩ : TBlk)) r) := by
  unfold blkDecP
  rw [if_neg h]
  unfold hdrP at he
  by_cases hl : s.length < 80
  · rw [if_pos hl] at he
    exact absurd (congrArg (fun x => x.2.2) he) (by show ¬ (50 : Int) = 0; decide)
  · rw [if_neg hl] at he
    injection he with h1 h2
    injection h2 with h2
    have : hdrZ s = .ok (hd, r) := by unfold hdrZ; rw [if_neg hl, h1, h2]
    unfold blkZ
    rw [Pz.bind_ok this]
theorem cnt_err {s r : Bs} {n : BitVec 64} {k : Int} (h : cutP s = (n, r, k)) (hk : k ≠ 0) (f : Nat → Pz TBlk) : endB (((cntZ 2000).bind f) s) = (noBlk, k) := by
  have : cntZ 2000 s = .error k := by
    unfold cntZ
    rw [h]
    exact if_pos hk
  rw [Pz.bind_err this]
  rfl
theorem cnt_full {s r : Bs} {n : BitVec 64} (h : cutP s = (n, r, 0)) (hn : 2000 < n.toNat) (f : Nat → Pz TBlk) : endB (((cntZ 2000).bind f) s) = (noBlk, 4) := by
  have : cntZ 2000 s = .error 4 := by
    unfold cntZ
    rw [h]
    simp [hn]
  rw [Pz.bind_err this]
  rfl
theorem cnt_fine {s r : Bs} {n : BitVec 64} (h : cutP s = (n, r, 0)) (hn : ¬ 2000 < n.toNat) (hd : Hdr) : endB (((cntZ 2000).bind fun n => (manyZ txZ n).bind fun ts => Pz.ret (⟨hd, ts⟩ : TBlk)) s) = restB hd [] n.toNat r := by
  have : cntZ 2000 s = .ok (n.toNat, r) := by
    unfold cntZ
    rw [h]
    simp [hn]
  rw [Pz.bind_ok this]
  unfold restB
  rw [contP_start]
theorem restB_err {hd : Hdr} {xs : List TTx} {m : Nat} {s : Bs} {k : Int} (h : txZ s = .error k) : restB hd xs (m + 1) s = (noBlk, k) := by
  unfold restB
  have : contP xs txZ (m + 1) s = .error k := contM_bad h
  rw [Pz.bind_err this]
  rfl
theorem restB_ok {hd : Hdr} {xs : List TTx} {m : Nat} {s r : Bs} {t : TTx} (h : txZ s = .ok (t, r)) : restB hd xs (m + 1) s = restB hd (xs ++ [t]) m r := by
  unfold restB
  have : contP xs txZ (m + 1) s = contP (xs ++ [t]) txZ m r := contM_ok h
  unfold Pz.bind
  rw [this]
theorem restB_end {hd : Hdr} {xs : List TTx} {s : Bs} : restB hd xs 0 s = if s = [] then (⟨hd, xs⟩, 0) else (noBlk, 70) := by
  unfold restB
  have : contP xs txZ 0 s = .ok (xs, s) := contM_end xs txZ s
  rw [Pz.bind_ok this]
  rfl
theorem cut_len {s r : Bs} {n : BitVec 64} {k : Int} (h : cutP s = (n, r, k)) : r.length ≤ s.length := by
  have := cutP_short s
  rw [h] at this
  exact this
theorem txZ_len {s r : Bs} {t : TTx} (h : txZ s = .ok (t, r)) : r.length ≤ s.length := by
  obtain ⟨h1, _⟩ := txZ_ok h
  rw [h1, List.length_append]
  omega
theorem hdr_len {s r : Bs} {hd : Hdr} (he : hdrP s = (hd, r, 0)) : r.length ≤ s.length ∧ hd.ok := by
  unfold hdrP at he
  by_cases hl : s.length < 80
  · rw [if_pos hl] at he
    exact absurd (congrArg (fun x => x.2.2) he) (by show ¬ (50 : Int) = 0; decide)
  · rw [if_neg hl] at he
    injection he with h1 h2
    injection h2 with h2
    subst h1 h2
    exact ⟨by rw [List.length_drop]; omega, hdrOf_ok s (by omega)⟩
theorem hdr_set (h : Hdr) (hk : h.ok) (u v : Value) : (h.cells ++ [u]).toArray.setIfInBounds 68 v = (h.cells ++ [v]).toArray := by
  rw [List.setIfInBounds_toArray, List.set_append_right _ _ (by rw [Hdr.cells_len hk]; exact Nat.le_refl _), Hdr.cells_len hk]
  rfl
set_option maxRecDepth 100000 in
set_option maxHeartbeats 16000000 in
theorem blkDecode_any (p : Option Addr) (n c : Nat) (s : Bs) (w : World) (hr : Row8 w p s) (hn : s.length = n) (hl : n ≤ c) (hb : c ≤ 9223372036854775807) :
    Calls Try.prog 49 #[.slice p n c] w (BlkDec w (blkDecP s)) := by
  obtain ⟨P, hP⟩ : ∃ P, P = blkDecP s := ⟨_, rfl⟩
  rw [← hP]
  have HP := Lib.hid hP
  have HR := Lib.hid hr
  have HN := Lib.hid hn
  have hz := zBlk
  have hbt := built_blk0
  have hzo := zBlk_one
  clear hP hr hn
  go_enter Try.func49, Try.ntmps49
  go_upto_region 1 with fail
  have hb1 := below_new w (.cells ZBlk.toArray 36)
  have HZ2 := Lib.hid (Blk.new w 36 ZBlk.toArray)
  generalize w.alloc (.cells ZBlk.toArray 36) = w1 at *
  obtain ⟨z2, hz2⟩ : ∃ z, z = w.heap.size := ⟨_, rfl⟩
  rw [← hz2] at HZ2 ⊢
  have hlt := HZ2.out.lt
  have HB01 := Lib.hid hb1
  have HLT := Lib.hid hlt
  have HZZ := Lib.hid hz2
  clear hb1 hlt hz2
  by_cases hlong : 200000 < n
  · have hli : (200000 : Int) < (n : Int) := by omega
    have HP2 : Hid (P = (noBlk, 91)) := Lib.hid (by rw [HP.out]; exact blkDec_long (by have := HN.out; omega))
    go_wp2_with (first
      | (with_reducible refine wp_build (o := ⟨some 12, _, _, _, _, _⟩) ?_ 36 #[] ?_ [] ?_ ZBlk.toArray hbt ?_
         · rfl
         · rfl
         · rfl)
      | (with_reducible refine wp_store_blk (o := ⟨none, _, _, _, _, _⟩) ?_ 36 (.tmp 2) (.tmp 12) ?_ (z2) 36 (ZBlk.toArray) (ZBlk.toArray) ?_ ?_ (HZ2.out) ?_ ?_ ?_ (z2) (w1) ?_ ?_ ?_
         · rfl
         · rfl
         · rfl
         · rfl
         · exact (by rw [List.size_toArray]; exact info_Blk rfl)
         · exact (rfl)
         · exact (hzo)
         · exact (Below.refl _ _)
         · exact (Nat.le_refl _)
         intro wf hBf hbf hgf hsf))
    refine bodyPost_ret (results_cell2 rfl _ _ _ z2 _ ZBlk _ rfl hBf.out Try.underlying36 rfl (info_Blk rfl)) rfl ?_
    exact BlkDec.bad HP2 ((HB01.out).trans (hbf.mono (by have := HZZ.out; omega)))
  have hli : ¬ (200000 : Int) < (n : Int) := by omega
  have hn2 : n ≤ 200000 := by omega
  have HNL : Hid (¬ 200000 < s.length) := Lib.hid (by have := HN.out; omega)
  have hD := hdrDecode_any p n c s w1 (HR.out.fut HB01.out) HN.out hl hb (by omega)
  obtain ⟨x, hx⟩ : ∃ x, x = hdrP s := ⟨_, rfl⟩
  rw [← hx] at hD
  obtain ⟨hd, s1, k1⟩ := x
  unfold HdrPost at hD
  simp only at hD
  have HX := Lib.hid hx.symm
  have hzh := zeroHdr
  have hhc : hd.ok ∨ k1 ≠ 0 := by
    by_cases h : k1 = 0
    · subst h; exact .inl (hdr_len hx.symm).2
    · exact .inr h
  have hdok : hd.ok := by
    have h1 : hd = (hdrP s).1 := by rw [← hx]
    rw [h1]
    unfold hdrP
    split
    · exact noHdr_ok
    · exact hdrOf_ok s (by omega)
  have HK := Lib.hid hdok
  have hone := Hdr.cells_one hd
  have hsz := Hdr.cells_size hdok
  have HSZ := Lib.hid hsz
  have hns : noHdr.cells.toArray.size = hd.cells.toArray.size := by rw [hsz]; exact Hdr.cells_size noHdr_ok
  clear hx hhc hdok hlong hli hsz
  go_upto_region 4 with (first
    | (with_reducible refine hD.mono ?_
       rintro e w2 ⟨v1, rfl, ho1, hb2⟩
       have HO1 := Lib.hid ho1
       have HB2 := Lib.hid hb2
       have hbn := below_new w2 (.cells noHdr.cells.toArray 33)
       clear ho1 hb2)
    | (with_reducible refine wp_store_blk (o := ⟨none, _, _, _, _, _⟩) ?_ 33 (.tmp 4) (.tmp 16) ?_ (w2.heap.size) 33 (noHdr.cells.toArray) (hd.cells.toArray) ?_ ?_ (Blk.new w2 _ _) ?_ ?_ ?_ (w2.heap.size) (w2) ?_ ?_ ?_
       · rfl
       · rfl
       · rfl
       · rfl
       · exact (by rw [List.size_toArray]; exact hdr_size HK.out)
       · exact (hns)
       · exact (hone)
       · exact (hbn)
       · exact (Nat.le_refl _)
       intro w3 hB3 hb3 hg3 hs3))
  have HB3 := Lib.hid (below_fut HB2.out hb3 (Nat.le_refl _))
  have HF3 := Lib.hid hB3.out
  obtain ⟨z4, hz4⟩ : ∃ z, z = w2.heap.size := ⟨_, rfl⟩
  rw [← hz4] at HF3 ⊢
  have HO3 : Hid (Own8 w3 w1.heap.size v1 s1) := Lib.hid (Own8.fut HO1.out hb3)
  have HZ3 := Lib.hid (HZ2.out.below HB3.out HLT.out)
  have HWW3 : Hid (Below w.heap.size w w3) := Lib.hid (HB01.out.trans (HB3.out.mono HB01.out.size))
  have H14 : Hid (w1.heap.size ≤ z4) := Lib.hid (by rw [hz4]; exact HB2.out.size)
  clear hz4 hbn hns hone hzh hb3 hg3 hs3 hB3 hD HO1 HB2
  try simp only [put_none]
  obtain ⟨p1, n1, c1, rfl, hn1, hnc1, hcm1, hr1⟩ := HO3.out.open
  have HR1 := Lib.hid hr1
  clear hr1
  by_cases hk1 : k1 = 0
  case neg =>
    have hki : (k1 != 0) = true := by simp [hk1]
    have HP2 : Hid (P = (noBlk, k1)) := Lib.hid (by rw [HP.out]; exact blkDec_hdr HNL.out (by rw [HX.out]) hk1)
    clear HZ2
    have HZ2 := HZ3
    go_wp2_with (first
      | (with_reducible refine wp_build (o := ⟨some 21, _, _, _, _, _⟩) ?_ 36 #[] ?_ [] ?_ ZBlk.toArray hbt ?_
         · rfl
         · rfl
         · rfl)
      | (with_reducible refine wp_store_blk (o := ⟨none, _, _, _, _, _⟩) ?_ 36 (.tmp 2) (.tmp 21) ?_ (z2) 36 (ZBlk.toArray) (ZBlk.toArray) ?_ ?_ (HZ2.out) ?_ ?_ ?_ (z2) (w3) ?_ ?_ ?_
         · rfl
         · rfl
         · rfl
         · rfl
         · exact (by rw [List.size_toArray]; exact info_Blk rfl)
         · exact (rfl)
         · exact (hzo)
         · exact (Below.refl _ _)
         · exact (Nat.le_refl _)
         intro wf hBf hbf hgf hsf))
    refine bodyPost_ret (results_cell2 rfl _ _ _ z2 _ ZBlk _ rfl hBf.out Try.underlying36 rfl (info_Blk rfl)) rfl ?_
    exact BlkDec.bad HP2 ((HWW3.out).trans (hbf.mono (by have := HZZ.out; omega)))
  subst hk1
  have HP3 : Hid (P = endB (((cntZ 2000).bind fun n => (manyZ txZ n).bind fun ts => Pz.ret (⟨hd, ts⟩ : TBlk)) s1)) := Lib.hid (by rw [HP.out]; exact blkDec_cnt HNL.out HX.out)
  have HL1 : Hid (s1.length ≤ 200000) := Lib.hid (by have := (hdr_len HX.out).1; have := HN.out; omega)
  have hS := fun (W : World) (hb : Below w3.heap.size w3 W) => decode_any p1 n1 c1 s1 W (Row8.fut HR1.out hb) hn1.out hnc1 hcm1 (by have := HL1.out; have := hn1.out; omega)
  obtain ⟨y, hy⟩ : ∃ y, y = cutP s1 := ⟨_, rfl⟩
  rw [← hy] at hS
  obtain ⟨cn, s2, k2⟩ := y
  unfold DecPost at hS
  simp only at hS
  have hcn : iv64 cn = (cn.toNat : Int) := rfl
  rw [hcn] at hS
  have HY := Lib.hid hy.symm
  obtain ⟨m, hm⟩ : ∃ m, m = cn.toNat := ⟨_, rfl⟩
  rw [← hm] at hS
  have HM := Lib.hid hm
  have hS3 := hS w3 (Below.refl _ _)
  clear hy hcn hm hS HP HX HNL
  go_upto_region 7 with (with_reducible refine hS3.mono ?_; rintro e w5 ⟨v2, rfl, ho2, hb5⟩)
  have HO5 : Hid (Own8 w5 w1.heap.size v2 s2) := Lib.hid (ownsRow_mono ho2 HB3.out.size)
  have HB5 := Lib.hid (below_fut HB3.out hb5 (Nat.le_refl _))
  have HF5 := Lib.hid (HF3.out.fut hb5)
  have HZ5 := Lib.hid (HZ3.out.fut hb5)
  have HWW5 := Lib.hid (below_fut HWW3.out hb5 (Nat.le_refl _))
  clear hS3 ho2 hb5 HO3 HB3 HF3 HZ3 HWW3 HR1
  by_cases hk2 : k2 = 0
  case neg =>
    have hki : (k2 != 0) = true := by simp [hk2]
    have HP2 : Hid (P = (noBlk, k2)) := Lib.hid (by rw [HP3.out]; exact cnt_err HY.out hk2 _)
    clear HZ2
    have HZ2 := HZ5
    go_wp2_with (first
      | (with_reducible refine wp_build (o := ⟨some 32, _, _, _, _, _⟩) ?_ 36 #[] ?_ [] ?_ ZBlk.toArray hbt ?_
         · rfl
         · rfl
         · rfl)
      | (with_reducible refine wp_store_blk (o := ⟨none, _, _, _, _, _⟩) ?_ 36 (.tmp 2) (.tmp 32) ?_ (z2) 36 (ZBlk.toArray) (ZBlk.toArray) ?_ ?_ (HZ2.out) ?_ ?_ ?_ (z2) (w5) ?_ ?_ ?_
         · rfl
         · rfl
         · rfl
         · rfl
         · exact (by rw [List.size_toArray]; exact info_Blk rfl)
         · exact (rfl)
         · exact (hzo)
         · exact (Below.refl _ _)
         · exact (Nat.le_refl _)
         intro wf hBf hbf hgf hsf))
    refine bodyPost_ret (results_cell2 rfl _ _ _ z2 _ ZBlk _ rfl hBf.out Try.underlying36 rfl (info_Blk rfl)) rfl ?_
    exact BlkDec.bad HP2 ((HWW5.out).trans (hbf.mono (by have := HZZ.out; omega)))
  subst hk2
  by_cases hm2 : 2000 < m
  · have hmi : (2000 : Int) < (m : Int) := by omega
    have HP2 : Hid (P = (noBlk, 4)) := Lib.hid (by rw [HP3.out]; exact cnt_full HY.out (by have := HM.out; omega) _)
    clear HZ2
    have HZ2 := HZ5
    go_wp2_with (first
      | (with_reducible refine wp_build (o := ⟨some 37, _, _, _, _, _⟩) ?_ 36 #[] ?_ [] ?_ ZBlk.toArray hbt ?_
         · rfl
         · rfl
         · rfl)
      | (with_reducible refine wp_store_blk (o := ⟨none, _, _, _, _, _⟩) ?_ 36 (.tmp 2) (.tmp 37) ?_ (z2) 36 (ZBlk.toArray) (ZBlk.toArray) ?_ ?_ (HZ2.out) ?_ ?_ ?_ (z2) (w5) ?_ ?_ ?_
         · rfl
         · rfl
         · rfl
         · rfl
         · exact (by rw [List.size_toArray]; exact info_Blk rfl)
         · exact (rfl)
         · exact (hzo)
         · exact (Below.refl _ _)
         · exact (Nat.le_refl _)
         intro wf hBf hbf hgf hsf))
    refine bodyPost_ret (results_cell2 rfl _ _ _ z2 _ ZBlk _ rfl hBf.out Try.underlying36 rfl (info_Blk rfl)) rfl ?_
    exact BlkDec.bad HP2 ((HWW5.out).trans (hbf.mono (by have := HZZ.out; omega)))
  have hmi : ¬ (2000 : Int) < (m : Int) := by omega
  have hm3 : m ≤ 2000 := by omega
  have HP4 : Hid (P = restB hd [] m s2) := Lib.hid (by rw [HP3.out, HM.out]; exact cnt_fine HY.out (by have := HM.out; omega) hd)
  have HL2 : Hid (s2.length ≤ 200000) := Lib.hid (by have := cut_len HY.out; have := HL1.out; omega)
  go_upto_region 11 with fail
  clear hm2 hmi HP3 HY HM HZ2
  have l4 := blk_range HF5.out
  have hbh := built_blkh hd HK.out
  have hoh : (hd.cells ++ [Value.slice none 0 0]).toArray.all (·.oneCell') = true := by
    have h1 := Hdr.cells_one hd
    rw [List.all_toArray] at h1 ⊢
    rw [List.all_append, h1]
    rfl
  have hlh : (hd.cells ++ [Value.slice none 0 0]).length = 69 := by rw [List.length_append, Hdr.cells_len HK.out]; rfl
  have HLH := Lib.hid hlh
  have hsh : ZBlk.toArray.size = (hd.cells ++ [Value.slice none 0 0]).toArray.size := by rw [List.size_toArray, List.size_toArray, hlh]; rfl
  have hbn := below_new w5 (.cells ZBlk.toArray 36)
  clear hlh
  obtain ⟨q2, n2, c2, rfl⟩ : ∃ q n c, v2 = .slice q n c := by obtain ⟨q, n, c, e, _⟩ := HO5.out.open; exact ⟨_, _, _, e⟩
  go_upto_region 13 with (first
    | (with_reducible refine wpList_load_mid (op := ⟨some 38, _, _, _, _, _⟩) ?_ 33 (.tmp 4) ?_ (z4) (0) ?_ (hd.cells) _ (l4) Try.underlying33 ?_ ?_ ?_
       · rfl
       · rfl
       · rfl
       · rfl
       · exact (hdr_size HK.out))
    | (with_reducible refine wp_build (o := ⟨some 39, _, _, _, _, _⟩) ?_ 36 #[(0, .tmp 38)] ?_ [(0, .agg hd.cells.toArray)] ?_ (hd.cells ++ [Value.slice none 0 0]).toArray hbh ?_
       · rfl
       · rfl
       · rfl)
    | (with_reducible refine wp_store_blk (o := ⟨none, _, _, _, _, _⟩) ?_ 36 (.tmp 7) (.tmp 39) ?_ (w5.heap.size) 36 (ZBlk.toArray) ((hd.cells ++ [Value.slice none 0 0]).toArray) ?_ ?_ (Blk.new w5 _ _) ?_ ?_ ?_ (w5.heap.size) (w5) ?_ ?_ ?_
       · rfl
       · rfl
       · rfl
       · rfl
       · exact (by rw [List.size_toArray]; exact info_Blk HLH.out)
       · exact (hsh)
       · exact (hoh)
       · exact (hbn)
       · exact (Nat.le_refl _)
       intro w6 hB6 hb6 hg6 hs6))
  have HO6 := Lib.hid (Own8.fut HO5.out hb6)
  have HB6 := Lib.hid (below_fut HB5.out hb6 (Nat.le_refl _))
  have HZ6 := Lib.hid (HZ5.out.fut hb6)
  have HX6 := Lib.hid hB6.out
  obtain ⟨z7, hz7⟩ : ∃ z, z = w5.heap.size := ⟨_, rfl⟩
  have H17 : Hid (w1.heap.size ≤ z7) := Lib.hid (by rw [hz7]; exact HB5.out.size)
  rw [← hz7] at HX6 ⊢
  clear hz7 hbn hsh hoh hbh l4 hb6 hg6 hs6 hB6 HO5 HB5 HZ5 HF5 HWW5
  try simp only [put_none]
  go_loopw [0, 41] (fun u i wr => ∃ (k : Nat) (sr : Bs) (xs : List TTx) (v7 : Value), k ≤ m ∧ i = .int .u64 k ∧ Hid (xs.length = k) ∧ Hid (P = restB hd xs (m - k) sr) ∧ Hid (sr.length ≤ 200000) ∧ Hid (Own8 wr w1.heap.size u sr) ∧ Hid (Below w1.heap.size w1 wr) ∧ Hid (Blk wr z2 36 ZBlk.toArray) ∧ Hid (Blk wr z7 36 (hd.cells ++ [v7]).toArray) ∧ Hid (RowO (TxO w1.heap.size) 78 4 w1.heap.size wr v7 xs)) (fun _ i _ => m - (intOf i).toNat)
  case atStart => exact ⟨0, s2, [], .slice none 0 0, by omega, rfl, Lib.hid rfl, HP4, HL2, HO6, HB6, HZ6, HX6, Lib.hid (RowO.nil _ _ _ _ _)⟩
  case round =>
    clear HP4 HL2 HO6 HB6 HZ6 HX6
    obtain ⟨k, sr, xs, v7, hkm, rfl, HXL, HPk, HLk, HOk, HBk, HZk, HXk, HTk⟩ := hrel
    obtain ⟨qk, nk, ck, rfl, hnk, hnck, hcmk, hrk⟩ := HOk.out.open
    have HNK := Lib.hid hnk.out
    have HWWk : Hid (Below w.heap.size w wr) := Lib.hid (HB01.out.trans (HBk.out.mono HB01.out.size))
    by_cases hkn : k < m
    case neg =>
      obtain rfl : k = m := by omega
      have hge : ¬ (k : Int) < (k : Int) := by omega
      have hPe : P = if sr = [] then (⟨hd, xs⟩, 0) else (noBlk, 70) := by rw [HPk.out, Nat.sub_self]; exact restB_end
      by_cases hnk0 : 0 < nk
      · have hni : (0 : Int) < (nk : Int) := by omega
        have HP2 : Hid (P = (noBlk, 70)) := Lib.hid (by rw [hPe, if_neg]; intro e; have := HNK.out; rw [e] at this; simp at this; omega)
        clear hPe hrk hnk
        have HZ2 := HZk
        go_wp2_with (first
          | (with_reducible refine wp_build (o := ⟨some 63, _, _, _, _, _⟩) ?_ 36 #[] ?_ [] ?_ ZBlk.toArray hbt ?_
             · rfl
             · rfl
             · rfl)
          | (with_reducible refine wp_store_blk (o := ⟨none, _, _, _, _, _⟩) ?_ 36 (.tmp 2) (.tmp 63) ?_ (z2) 36 (ZBlk.toArray) (ZBlk.toArray) ?_ ?_ (HZ2.out) ?_ ?_ ?_ (z2) (wr) ?_ ?_ ?_
             · rfl
             · rfl
             · rfl
             · rfl
             · exact (by rw [List.size_toArray]; exact info_Blk rfl)
             · exact (rfl)
             · exact (hzo)
             · exact (Below.refl _ _)
             · exact (Nat.le_refl _)
             intro wf hBf hbf hgf hsf))
        refine bodyPost_ret (results_cell2 rfl _ _ _ z2 _ ZBlk _ rfl hBf.out Try.underlying36 rfl (info_Blk rfl)) rfl ?_
        exact BlkDec.bad HP2 ((HWWk.out).trans (hbf.mono (by have := HZZ.out; omega)))
      · have hni : ¬ (0 : Int) < (nk : Int) := by omega
        have HP2 : Hid (P = (⟨hd, xs⟩, 0)) := Lib.hid (by rw [hPe, if_pos]; exact List.eq_nil_of_length_eq_zero (by have := HNK.out; omega))
        clear hPe hrk hnk
        obtain ⟨bc, hbc⟩ : ∃ bc : List Value, bc = hd.cells ++ [v7] := ⟨_, rfl⟩
        have HBC := Lib.hid hbc
        have hbl : bc.length = 69 := by rw [hbc, List.length_append, Hdr.cells_len HK.out]; rfl
        have HBL := Lib.hid hbl
        have hX : Blk wr z7 36 bc.toArray := by rw [hbc]; exact HXk.out
        have l7 := blk_range hX
        have hoX : bc.toArray.all (·.oneCell') = true := by
          have h1 := Hdr.cells_one hd
          rw [List.all_toArray] at h1 ⊢
          rw [hbc, List.all_append, h1]
          simp only [List.all_cons, List.all_nil, Bool.and_true, Bool.true_and]
          exact (HTk.out.e (E' := TxC) fun _ _ h => h.c).one
        have hsX : ZBlk.toArray.size = bc.toArray.size := by rw [List.size_toArray, List.size_toArray, hbl]; rfl
        clear hbc hbl hX
        go_wp2_with (first
          | (with_reducible refine wpList_load_mid (op := ⟨some 64, _, _, _, _, _⟩) ?_ 36 (.tmp 7) ?_ (z7) (0) ?_ (bc) _ (l7) Try.underlying36 ?_ ?_ ?_
             · rfl
             · rfl
             · rfl
             · rfl
             · exact (info_Blk HBL.out))
          | (with_reducible refine wp_store_blk (o := ⟨none, _, _, _, _, _⟩) ?_ 36 (.tmp 2) (.tmp 64) ?_ (z2) 36 (ZBlk.toArray) (bc.toArray) ?_ ?_ (HZk.out) ?_ ?_ ?_ (z2) (wr) ?_ ?_ ?_
             · rfl
             · rfl
             · rfl
             · rfl
             · exact (by rw [List.size_toArray]; exact info_Blk HBL.out)
             · exact (hsX)
             · exact (hoX)
             · exact (Below.refl _ _)
             · exact (Nat.le_refl _)
             intro wf hBf hbf hgf hsf))
        refine bodyPost_ret (results_cell2 rfl _ _ _ z2 _ bc _ rfl hBf.out Try.underlying36 rfl (info_Blk HBL.out)) rfl ?_
        rw [HP2.out]
        have hst := Stays.of_grown (S := fun k => k = z2) hgf.out (fun k h => by injection h with h; exact h.symm)
        refine ⟨bc, rfl, ⟨v7, HBC.out, HK.out, ?_⟩, HWWk.out.trans (hbf.mono (by have := HZZ.out; omega))⟩
        exact (HTk.out.sep (txO_keeps _) hst (Sep.low fun k hk => by have : k = z2 := hk; have := HLT.out; omega)).mono (fun _ _ h => h.mono HB01.out.size) HB01.out.size
    have hlt : (k : Int) < (m : Int) := by omega
    have hk63 : (k : Int) + 1 ≤ 9223372036854775807 := by omega
    have hzt := zTx
    have hqk : qk = none → ck = 0 := by
      obtain ⟨p', n', c', e, _, _, _, _, h6⟩ := HOk.out.sl
      injection e with e1 e2 e3
      subst e1 e2 e3
      exact h6
    have hD := fun (W : World) (hb : Below wr.heap.size wr W) => txDecode_any qk nk ck sr W (hrk.fut hb) HNK.out hnck hcmk (by have := HLk.out; have := HNK.out; omega) hqk
    obtain ⟨T, r, kk, hT, hTk⟩ : ∃ T r kk, txDecP sr = (T, r, kk) ∧ (kk ≠ 0 ∧ txZ sr = .error kk ∨ kk = 0 ∧ txZ sr = .ok (T, r)) := by
      unfold txDecP
      cases h : txZ sr with
      | error k => exact ⟨_, _, k, rfl, .inl ⟨nz_tx sr k h, rfl⟩⟩
      | ok x => obtain ⟨t, r⟩ := x; exact ⟨t, r, 0, rfl, .inr ⟨rfl, rfl⟩⟩
    have HTK := Lib.hid hTk
    clear hTk hrk hnk
    go_upto_region 15 with fail
    have hbn := below_new wr (.cells ZTx.toArray 78)
    have HG14 := Lib.hid (Blk.new wr 78 ZTx.toArray)
    have hD14 := hD _ hbn
    have HS14 : Hid (wr.heap.size < (wr.alloc (.cells ZTx.toArray 78)).heap.size) := Lib.hid (by rw [World.size_alloc]; omega)
    generalize wr.alloc (.cells ZTx.toArray 78) = w14 at *
    obtain ⟨g8, hg8⟩ : ∃ z, z = wr.heap.size := ⟨_, rfl⟩
    have HG8 : Hid (wr.heap.size ≤ g8) := Lib.hid (by omega)
    rw [← hg8] at HG14 HS14 ⊢
    have HGE := Lib.hid hg8
    clear hg8
    go_upto_region 16 with (first
      | (with_reducible refine hD14.mono ?_
         rintro e w15 ⟨cs, vr, rfl, hO, hov, hb15⟩
         simp only [hT] at hO hov ⊢
         have hot := hO.c.one
         have hcl := hO.len
         have HCL := Lib.hid hcl
         have hzs : ZTx.toArray.size = cs.toArray.size := by rw [List.size_toArray, List.size_toArray, hcl]; rfl
         have HG15 := Lib.hid (HG14.out.fut hb15)
         have HO15 := Lib.hid hO
         have HV15 := Lib.hid hov
         have HB15 := Lib.hid hb15
         clear hO hov hb15 hcl)
      | (with_reducible refine wp_store_blk (o := ⟨none, _, _, _, _, _⟩) ?_ 78 (.tmp 8) (.tmp 46) ?_ (g8) 78 (ZTx.toArray) (cs.toArray) ?_ ?_ (HG15.out) ?_ ?_ ?_ (g8) (w15) ?_ ?_ ?_
         · rfl
         · rfl
         · rfl
         · rfl
         · exact (by rw [List.size_toArray]; exact info_Tx HCL.out)
         · exact (hzs)
         · exact (hot)
         · exact (Below.refl _ _)
         · exact (Nat.le_refl _)
         intro w16 hB16 hb16 hg16 hs16))
    have HB16 := Lib.hid hB16.out
    have hst := Stays.of_grown (S := fun k => k = g8) hg16.out (fun k h => by injection h with h; exact h.symm)
    have hlow : ∀ k, k = g8 → k < w14.heap.size := fun k h => by have := HS14.out; omega
    have hBW : Below wr.heap.size wr w16 := (below_fut hbn HB15.out (Nat.le_refl _)).trans (hst.below (by have := hbn.size; have := HB15.out.size; omega) (fun k h => by have := HG8.out; omega))
    have hO16 := txO_keeps _ _ _ _ _ _ HO15.out hst (Sep.low hlow)
    have hV16 := HV15.out.sep hst (Sep.low hlow)
    have hle : w1.heap.size ≤ w14.heap.size := Nat.le_trans HBk.out.size hbn.size
    have HO16 := Lib.hid (hO16.mono hle : TxO w1.heap.size w16 T cs)
    have HV16 : Hid (Own8 w16 w1.heap.size vr r) := Lib.hid (ownsRow_mono hV16 hle)
    clear hle hlow hst hO16 hV16 hbn hzs hot hB16 hb16 hg16 hs16 HB15 HO15 HV15 HG15 HG14 HS14 HGE hD14
    try simp only [put_none]
    have HBW := Lib.hid hBW
    have HZn := Lib.hid (HZk.out.fut hBW)
    have HXn := Lib.hid (HXk.out.fut hBW)
    have HTn := Lib.hid (HTk.out.sep (txO_keeps _) (Stays.of_below hBW (Nat.le_refl _) (fun _ => False)) (fun _ h => h.elim))
    have HBn : Hid (Below w1.heap.size w1 w16) := Lib.hid (below_fut HBk.out hBW (Nat.le_refl _))
    have HWWn : Hid (Below w.heap.size w w16) := Lib.hid (HB01.out.trans (HBn.out.mono HB01.out.size))
    clear hBW hD hT HZk HXk HTk HBk HWWk hzt
    by_cases hkk : kk = 0
    case neg =>
      have hki : (kk != 0) = true := by simp [hkk]
      have HP2 : Hid (P = (noBlk, kk)) := Lib.hid (by
        rcases HTK.out with ⟨_, h⟩ | ⟨h, _⟩
        · rw [HPk.out, show m - k = (m - k - 1) + 1 by omega]
          exact restB_err h
        · exact absurd h hkk)
      have HZ2 := HZn
      go_wp2_with (first
        | (with_reducible refine wp_build (o := ⟨some 51, _, _, _, _, _⟩) ?_ 36 #[] ?_ [] ?_ ZBlk.toArray hbt ?_
           · rfl
           · rfl
           · rfl)
        | (with_reducible refine wp_store_blk (o := ⟨none, _, _, _, _, _⟩) ?_ 36 (.tmp 2) (.tmp 51) ?_ (z2) 36 (ZBlk.toArray) (ZBlk.toArray) ?_ ?_ (HZ2.out) ?_ ?_ ?_ (z2) (w16) ?_ ?_ ?_
           · rfl
           · rfl
           · rfl
           · rfl
           · exact (by rw [List.size_toArray]; exact info_Blk rfl)
           · exact (rfl)
           · exact (hzo)
           · exact (Below.refl _ _)
           · exact (Nat.le_refl _)
           intro wf hBf hbf hgf hsf))
      refine bodyPost_ret (results_cell2 rfl _ _ _ z2 _ ZBlk _ rfl hBf.out Try.underlying36 rfl (info_Blk rfl)) rfl ?_
      exact BlkDec.bad HP2 ((HWWn.out).trans (hbf.mono (by have := HZZ.out; omega)))
    subst hkk
    have hok : txZ sr = .ok (T, r) := by
      rcases HTK.out with ⟨h, _⟩ | ⟨_, h⟩
      · exact absurd rfl h
      · exact h
    have HPn : Hid (P = restB hd (xs ++ [T]) (m - (k + 1)) r) := Lib.hid (by
      rw [HPk.out, show m - k = (m - (k + 1)) + 1 by omega]
      exact restB_ok hok)
    have HLn : Hid (r.length ≤ 200000) := Lib.hid (by have := txZ_len hok; have := HLk.out; omega)
    clear hok HTK HPk HLk
    obtain ⟨css, hcl, hown, hcs⟩ := HTn.out
    have hxl : xs.length = k := HXL.out
    have l8 := blk_range HB16.out
    have hl5 := HO16.out.len
    have H5 := Lib.hid hl5
    have ho5 := HO16.out.c.one
    have hB1 : w1.heap.size ≤ w16.heap.size := HBn.out.size
    have hz7n : v7.ownBlock ≠ some z7 := fun h => by
      rcases hown.2 with ⟨e', _⟩ | ⟨b', _, cur', e', _, hh, _⟩
      · rw [e'] at h; cases h
      · rw [e'] at h
        injection h with h
        have h' : b' = z7 := h
        rw [h'] at hh
        exact absurd (Blk.inj HXn.out (show Blk w16 z7 78 cur' from hh)).1 (by decide)
    have c68 : w16.cell? ⟨z7, 68, none⟩ = some v7 := by
      rw [HXn.out.cell, List.getElem?_toArray, List.getElem?_append_right (by rw [Hdr.cells_len HK.out]; exact Nat.le_refl _), Hdr.cells_len HK.out]
      rfl
    obtain ⟨pv, nv, cv, rfl⟩ : ∃ pv nv cv, v7 = .slice pv nv cv := by
      obtain ⟨p, c, e, _⟩ := ownsRow_open hown
      exact ⟨_, _, _, e⟩
    have HZ7N := Lib.hid hz7n
    have HOWN := Lib.hid hown
    have HCS := Lib.hid hcs
    have HCLL := Lib.hid hcl
    clear hown hcs hcl hz7n
    go_wp2_with (first
      | (with_reducible refine wpList_load_mid (op := ⟨some 55, _, _, _, _, _⟩) ?_ 78 (.tmp 8) ?_ (g8) (0) ?_ (cs) _ (l8) Try.underlying78 ?_ ?_ ?_
         · rfl
         · rfl
         · rfl
         · rfl
         · exact (info_Tx H5.out))
      | (with_reducible refine wp_lit (o := ⟨some 56, _, _, _, _, _⟩) ?_ 34 78 1 #[(0, .tmp 55)] ?_ [.agg cs.toArray] ?_ 4 64 _ Try.underlying34 tx_row ?_ ?_ ?_ ?_ ?_ ?_
         · rfl
         · rfl
         · rfl
         · omega
         · exact (fun v hv => by rw [List.mem_singleton.1 hv]; show cs.toArray.size = 4; rw [List.size_toArray]; exact hl5)
         · rfl
         · omega
         · omega
         simp only [List.flatMap_cons, List.flatMap_nil, List.append_nil, Value.cells])
      | (with_reducible refine wp_rowapp (o := ⟨some 57, _, _, _, _, _⟩) ?_ (.tmp 54) (.tmp 56) 34 78 ?_ _ 4 64 Try.underlying34 tx_row ?_ ?_ ?_ w1.heap.size _ xs.length css.flatten ?_ (World.ownsRow.alloc HOWN.out _) w16.heap.size 1 1 cs ?_ (Blk.new w16 _ _) ?_ ?_ ?_ ?_ ?_
         · rfl
         · rfl
         · rfl
         · omega
         · omega
         · rfl
         · rfl
         · omega
         · exact one_all ho5
         · omega
         · rw [World.size_alloc]; omega
         intro v8 w8 hl8 hg8 ho8
         have hX8 : Blk w8 z7 36 (hd.cells ++ [Value.slice pv nv cv]).toArray := (hg8.block z7 (HXn.out.alloc _).lt (Ne.symm HZ7N.out)).trans (HXn.out.alloc _)
         have c68n : w8.cell? ⟨z7, 68, none⟩ = some (.slice pv nv cv) := by
           rw [hX8.cell, List.getElem?_toArray, List.getElem?_append_right (by rw [Hdr.cells_len HK.out]; exact Nat.le_refl _), Hdr.cells_len HK.out]
           rfl
         have f68n := hX8.frozen 68
         have HX8 := Lib.hid hX8
         clear hX8
         obtain ⟨p8, n8, c8, rfl⟩ : ∃ p8 n8 c8, v8 = .slice p8 n8 c8 := by
           obtain ⟨p, c, e, _⟩ := ownsRow_open hl8
           exact ⟨_, _, _, e⟩))
    have hnew := below_new w16 (.cells cs.toArray 78)
    have hst : Stays (fun _ => False) w16 (w16.alloc (.cells cs.toArray 78)) := Stays.of_below hnew (Nat.le_refl _) _
    have hS8 := Stays.of_grown (S := fun k => Value.ownBlock _ = some k) hg8 (fun k h => h)
    have hS78 := Stays.set w8 z7 68 (.slice p8 n8 c8)
    have hROW := RowO.app HCLL.out (World.ownsRow.alloc HOWN.out _) (fun i y hy => by
      obtain ⟨cs', h6, h7, h8⟩ := HCS.out i y hy
      exact ⟨cs', h6, txO_keeps _ _ _ _ _ _ h7 hst (fun _ h => h.elim), h8⟩) (txO_keeps w1.heap.size) (by decide) (txO_keeps _ _ _ _ _ _ HO16.out hst (fun _ h => h.elim)) hl5 hl8 hg8
    have HROW := Lib.hid (hROW.sep (txO_keeps _) hS78 (sep_one HX8.out (by decide)))
    have hz2n : ¬ (Value.slice pv nv cv).ownBlock = some z2 := fun h => by have := (own_ge HOWN.out _ h).1; have := HLT.out; omega
    have HZ8 := Lib.hid (((HZn.out.fut hnew).stays hS8 hz2n).stays hS78 (by have := H17.out; have := HLT.out; omega))
    have HV8 := Lib.hid (((HV16.out.sep hst (fun _ h => h.elim)).sep hS8 (own_sep (World.ownsRow.alloc HOWN.out _) (by decide))).sep hS78 (sep_one HX8.out (by decide)))
    have HXX : Hid (Blk (w8.setCell ⟨z7, 68, none⟩ (.slice p8 n8 c8)) z7 36 (hd.cells ++ [Value.slice p8 n8 c8]).toArray) := Lib.hid (by
      have := HX8.out.set 68 (.slice p8 n8 c8)
      rwa [hdr_set hd HK.out] at this)
    have HBB : Hid (Below w1.heap.size w1 (w8.setCell ⟨z7, 68, none⟩ (.slice p8 n8 c8))) := Lib.hid (((below_fut HBn.out hnew (Nat.le_refl _)).trans (hS8.below (by have := hnew.size; omega) fun k hk => (own_ge HOWN.out k hk).1)).trans (hS78.below (by have := hnew.size; have := hS8.size; omega) fun k hk => by have : k = z7 := hk; have := H17.out; omega))
    clear hnew hst hS8 hS78 hROW hz2n hl8 hg8 ho8 c68n f68n c68 l8 hl5 ho5 hB1
    try go_wp2_with fail
    go_roundw
    case rel => exact ⟨k + 1, r, xs ++ [T], .slice p8 n8 c8, by omega, by go_num, Lib.hid (by rw [List.length_append, hxl]; rfl), HPn, HLn, HV8, HBB, HZ8, HXX, HROW⟩
    case measure => simp [intOf]; omega
end Go.Proofs.Ytndobjlodpkknaa
namespace Go.Proofs.Ytndobjlodpkknaa
open Go Go.RowKit
set_option linter.unusedVariables false
set_option maxRecDepth 100000 in
set_option maxHeartbeats 16000000 in
theorem refBlkDecode_any (p : Option Addr) (n c : Nat) (s : Bs) (w : World) (hr : Row8 w p s) (hn : s.length = n) (hl : n ≤ c) (hb : c ≤ 9223372036854775807) :
    Calls Try.prog 21 #[.slice p n c] w (BlkDec w (blkDecP s)) := by
  obtain ⟨P, hP⟩ : ∃ P, P = blkDecP s := ⟨_, rfl⟩
  rw [← hP]
  have HP := Lib.hid hP
  have HR := Lib.hid hr
  have HN := Lib.hid hn
  have hz := zBlk
  have hbt := built_blk0
  have hzo := zBlk_one
  clear hP hr hn
  go_enter Try.func21, Try.ntmps21
  go_upto_region 1 with fail
  have hb1 := below_new w (.cells ZBlk.toArray 36)
  have HZ2 := Lib.hid (Blk.new w 36 ZBlk.toArray)
  generalize w.alloc (.cells ZBlk.toArray 36) = w1 at *
  obtain ⟨z2, hz2⟩ : ∃ z, z = w.heap.size := ⟨_, rfl⟩
  rw [← hz2] at HZ2 ⊢
  have hlt := HZ2.out.lt
  have HB01 := Lib.hid hb1
  have HLT := Lib.hid hlt
  have HZZ := Lib.hid hz2
  clear hb1 hlt hz2
  by_cases hlong : 200000 < n
  · have hli : (200000 : Int) < (n : Int) := by omega
    have HP2 : Hid (P = (noBlk, 91)) := Lib.hid (by rw [HP.out]; exact blkDec_long (by have := HN.out; omega))
    go_wp2_with (first
      | (with_reducible refine wp_build (o := ⟨some 15, _, _, _, _, _⟩) ?_ 36 #[] ?_ [] ?_ ZBlk.toArray hbt ?_
         · rfl
         · rfl
         · rfl)
      | (with_reducible refine wp_store_blk (o := ⟨none, _, _, _, _, _⟩) ?_ 36 (.tmp 2) (.tmp 15) ?_ (z2) 36 (ZBlk.toArray) (ZBlk.toArray) ?_ ?_ (HZ2.out) ?_ ?_ ?_ (z2) (w1) ?_ ?_ ?_
         · rfl
         · rfl
         · rfl
         · rfl
         · exact (by rw [List.size_toArray]; exact info_Blk rfl)
         · exact (rfl)
         · exact (hzo)
         · exact (Below.refl _ _)
         · exact (Nat.le_refl _)
         intro wf hBf hbf hgf hsf))
    refine bodyPost_ret (results_cell2 rfl _ _ _ z2 _ ZBlk _ rfl hBf.out Try.underlying36 rfl (info_Blk rfl)) rfl ?_
    exact BlkDec.bad HP2 ((HB01.out).trans (hbf.mono (by have := HZZ.out; omega)))
  have hli : ¬ (200000 : Int) < (n : Int) := by omega
  have hn2 : n ≤ 200000 := by omega
  have HNL : Hid (¬ 200000 < s.length) := Lib.hid (by have := HN.out; omega)
  have hD := refHdrDecode_any p n c s w1 (HR.out.fut HB01.out) HN.out hl hb (by omega)
  obtain ⟨x, hx⟩ : ∃ x, x = hdrP s := ⟨_, rfl⟩
  rw [← hx] at hD
  obtain ⟨hd, s1, k1⟩ := x
  unfold HdrPost at hD
  simp only at hD
  have HX := Lib.hid hx.symm
  have hzh := zeroHdr
  have hhc : hd.ok ∨ k1 ≠ 0 := by
    by_cases h : k1 = 0
    · subst h; exact .inl (hdr_len hx.symm).2
    · exact .inr h
  have hdok : hd.ok := by
    have h1 : hd = (hdrP s).1 := by rw [← hx]
    rw [h1]
    unfold hdrP
    split
    · exact noHdr_ok
    · exact hdrOf_ok s (by omega)
  have HK := Lib.hid hdok
  have hone := Hdr.cells_one hd
  have hsz := Hdr.cells_size hdok
  have HSZ := Lib.hid hsz
  have hns : noHdr.cells.toArray.size = hd.cells.toArray.size := by rw [hsz]; exact Hdr.cells_size noHdr_ok
  clear hx hhc hdok hlong hli hsz
  go_upto_region 4 with (first
    | (with_reducible refine hD.mono ?_
       rintro e w2 ⟨v1, rfl, ho1, hb2⟩
       have HO1 := Lib.hid ho1
       have HB2 := Lib.hid hb2
       have hbn := below_new w2 (.cells noHdr.cells.toArray 33)
       clear ho1 hb2)
    | (with_reducible refine wp_store_blk (o := ⟨none, _, _, _, _, _⟩) ?_ 33 (.tmp 4) (.tmp 19) ?_ (w2.heap.size) 33 (noHdr.cells.toArray) (hd.cells.toArray) ?_ ?_ (Blk.new w2 _ _) ?_ ?_ ?_ (w2.heap.size) (w2) ?_ ?_ ?_
       · rfl
       · rfl
       · rfl
       · rfl
       · exact (by rw [List.size_toArray]; exact hdr_size HK.out)
       · exact (hns)
       · exact (hone)
       · exact (hbn)
       · exact (Nat.le_refl _)
       intro w3 hB3 hb3 hg3 hs3))
  have HB3 := Lib.hid (below_fut HB2.out hb3 (Nat.le_refl _))
  have HF3 := Lib.hid hB3.out
  obtain ⟨z4, hz4⟩ : ∃ z, z = w2.heap.size := ⟨_, rfl⟩
  rw [← hz4] at HF3 ⊢
  have HO3 : Hid (Own8 w3 w1.heap.size v1 s1) := Lib.hid (Own8.fut HO1.out hb3)
  have HZ3 := Lib.hid (HZ2.out.below HB3.out HLT.out)
  have HWW3 : Hid (Below w.heap.size w w3) := Lib.hid (HB01.out.trans (HB3.out.mono HB01.out.size))
  have H14 : Hid (w1.heap.size ≤ z4) := Lib.hid (by rw [hz4]; exact HB2.out.size)
  clear hz4 hbn hns hone hzh hb3 hg3 hs3 hB3 hD HO1 HB2
  try simp only [put_none]
  obtain ⟨p1, n1, c1, rfl, hn1, hnc1, hcm1, hr1⟩ := HO3.out.open
  have HR1 := Lib.hid hr1
  clear hr1
  by_cases hk1 : k1 = 0
  case neg =>
    have hki : (k1 != 0) = true := by simp [hk1]
    have HP2 : Hid (P = (noBlk, k1)) := Lib.hid (by rw [HP.out]; exact blkDec_hdr HNL.out (by rw [HX.out]) hk1)
    clear HZ2
    have HZ2 := HZ3
    go_wp2_with (first
      | (with_reducible refine wp_build (o := ⟨some 24, _, _, _, _, _⟩) ?_ 36 #[] ?_ [] ?_ ZBlk.toArray hbt ?_
         · rfl
         · rfl
         · rfl)
      | (with_reducible refine wp_store_blk (o := ⟨none, _, _, _, _, _⟩) ?_ 36 (.tmp 2) (.tmp 24) ?_ (z2) 36 (ZBlk.toArray) (ZBlk.toArray) ?_ ?_ (HZ2.out) ?_ ?_ ?_ (z2) (w3) ?_ ?_ ?_
         · rfl
         · rfl
         · rfl
         · rfl
         · exact (by rw [List.size_toArray]; exact info_Blk rfl)
         · exact (rfl)
         · exact (hzo)
         · exact (Below.refl _ _)
         · exact (Nat.le_refl _)
         intro wf hBf hbf hgf hsf))
    refine bodyPost_ret (results_cell2 rfl _ _ _ z2 _ ZBlk _ rfl hBf.out Try.underlying36 rfl (info_Blk rfl)) rfl ?_
    exact BlkDec.bad HP2 ((HWW3.out).trans (hbf.mono (by have := HZZ.out; omega)))
  subst hk1
  have HP3 : Hid (P = endB (((cntZ 2000).bind fun n => (manyZ txZ n).bind fun ts => Pz.ret (⟨hd, ts⟩ : TBlk)) s1)) := Lib.hid (by rw [HP.out]; exact blkDec_cnt HNL.out HX.out)
  have HL1 : Hid (s1.length ≤ 200000) := Lib.hid (by have := (hdr_len HX.out).1; have := HN.out; omega)
  have hS := fun (W : World) (hb : Below w3.heap.size w3 W) => refDecode_any p1 n1 c1 s1 W (Row8.fut HR1.out hb) hn1.out hnc1 (by have := HL1.out; have := hn1.out; omega)
  obtain ⟨y, hy⟩ : ∃ y, y = cutP s1 := ⟨_, rfl⟩
  rw [← hy] at hS
  obtain ⟨cn, s2, k2⟩ := y
  unfold DecPost at hS
  simp only at hS
  have hcn : iv64 cn = (cn.toNat : Int) := rfl
  rw [hcn] at hS
  have HY := Lib.hid hy.symm
  obtain ⟨m, hm⟩ : ∃ m, m = cn.toNat := ⟨_, rfl⟩
  rw [← hm] at hS
  have HM := Lib.hid hm
  have hS3 := hS w3 (Below.refl _ _)
  clear hy hcn hm hS HP HX HNL
  go_upto_region 7 with (with_reducible refine hS3.mono ?_; rintro e w5 ⟨v2, rfl, ho2, hb5⟩)
  have HO5 : Hid (Own8 w5 w1.heap.size v2 s2) := Lib.hid (ownsRow_mono ho2 HB3.out.size)
  have HB5 := Lib.hid (below_fut HB3.out hb5 (Nat.le_refl _))
  have HF5 := Lib.hid (HF3.out.fut hb5)
  have HZ5 := Lib.hid (HZ3.out.fut hb5)
  have HWW5 := Lib.hid (below_fut HWW3.out hb5 (Nat.le_refl _))
  clear hS3 ho2 hb5 HO3 HB3 HF3 HZ3 HWW3 HR1
  by_cases hk2 : k2 = 0
  case neg =>
    have hki : (k2 != 0) = true := by simp [hk2]
    have HP2 : Hid (P = (noBlk, k2)) := Lib.hid (by rw [HP3.out]; exact cnt_err HY.out hk2 _)
    clear HZ2
    have HZ2 := HZ5
    go_wp2_with (first
      | (with_reducible refine wp_build (o := ⟨some 34, _, _, _, _, _⟩) ?_ 36 #[] ?_ [] ?_ ZBlk.toArray hbt ?_
         · rfl
         · rfl
         · rfl)
      | (with_reducible refine wp_store_blk (o := ⟨none, _, _, _, _, _⟩) ?_ 36 (.tmp 2) (.tmp 34) ?_ (z2) 36 (ZBlk.toArray) (ZBlk.toArray) ?_ ?_ (HZ2.out) ?_ ?_ ?_ (z2) (w5) ?_ ?_ ?_
         · rfl
         · rfl
         · rfl
         · rfl
         · exact (by rw [List.size_toArray]; exact info_Blk rfl)
         · exact (rfl)
         · exact (hzo)
         · exact (Below.refl _ _)
         · exact (Nat.le_refl _)
         intro wf hBf hbf hgf hsf))
    refine bodyPost_ret (results_cell2 rfl _ _ _ z2 _ ZBlk _ rfl hBf.out Try.underlying36 rfl (info_Blk rfl)) rfl ?_
    exact BlkDec.bad HP2 ((HWW5.out).trans (hbf.mono (by have := HZZ.out; omega)))
  subst hk2
  by_cases hm2 : 2000 < m
  · have hmi : (2000 : Int) < (m : Int) := by omega
    have HP2 : Hid (P = (noBlk, 4)) := Lib.hid (by rw [HP3.out]; exact cnt_full HY.out (by have := HM.out; omega) _)
    clear HZ2
    have HZ2 := HZ5
    go_wp2_with (first
      | (with_reducible refine wp_build (o := ⟨some 38, _, _, _, _, _⟩) ?_ 36 #[] ?_ [] ?_ ZBlk.toArray hbt ?_
         · rfl
         · rfl
         · rfl)
      | (with_reducible refine wp_store_blk (o := ⟨none, _, _, _, _, _⟩) ?_ 36 (.tmp 2) (.tmp 38) ?_ (z2) 36 (ZBlk.toArray) (ZBlk.toArray) ?_ ?_ (HZ2.out) ?_ ?_ ?_ (z2) (w5) ?_ ?_ ?_
         · rfl
         · rfl
         · rfl
         · rfl
         · exact (by rw [List.size_toArray]; exact info_Blk rfl)
         · exact (rfl)
         · exact (hzo)
         · exact (Below.refl _ _)
         · exact (Nat.le_refl _)
         intro wf hBf hbf hgf hsf))
    refine bodyPost_ret (results_cell2 rfl _ _ _ z2 _ ZBlk _ rfl hBf.out Try.underlying36 rfl (info_Blk rfl)) rfl ?_
    exact BlkDec.bad HP2 ((HWW5.out).trans (hbf.mono (by have := HZZ.out; omega)))
  have hmi : ¬ (2000 : Int) < (m : Int) := by omega
  have hm3 : m ≤ 2000 := by omega
  have HP4 : Hid (P = restB hd [] m s2) := Lib.hid (by rw [HP3.out, HM.out]; exact cnt_fine HY.out (by have := HM.out; omega) hd)
  have HL2 : Hid (s2.length ≤ 200000) := Lib.hid (by have := cut_len HY.out; have := HL1.out; omega)
  go_upto_region 11 with fail
  clear hm2 hmi HP3 HY HM HZ2
  have l4 := blk_range HF5.out
  have hbh := built_blkh hd HK.out
  have hoh : (hd.cells ++ [Value.slice none 0 0]).toArray.all (·.oneCell') = true := by
    have h1 := Hdr.cells_one hd
    rw [List.all_toArray] at h1 ⊢
    rw [List.all_append, h1]
    rfl
  have hlh : (hd.cells ++ [Value.slice none 0 0]).length = 69 := by rw [List.length_append, Hdr.cells_len HK.out]; rfl
  have HLH := Lib.hid hlh
  have hsh : ZBlk.toArray.size = (hd.cells ++ [Value.slice none 0 0]).toArray.size := by rw [List.size_toArray, List.size_toArray, hlh]; rfl
  have hbn := below_new w5 (.cells ZBlk.toArray 36)
  clear hlh
  obtain ⟨q2, n2, c2, rfl⟩ : ∃ q n c, v2 = .slice q n c := by obtain ⟨q, n, c, e, _⟩ := HO5.out.open; exact ⟨_, _, _, e⟩
  go_upto_region 13 with (first
    | (with_reducible refine wpList_load_mid (op := ⟨some 39, _, _, _, _, _⟩) ?_ 33 (.tmp 4) ?_ (z4) (0) ?_ (hd.cells) _ (l4) Try.underlying33 ?_ ?_ ?_
       · rfl
       · rfl
       · rfl
       · rfl
       · exact (hdr_size HK.out))
    | (with_reducible refine wp_build (o := ⟨some 40, _, _, _, _, _⟩) ?_ 36 #[(0, .tmp 39)] ?_ [(0, .agg hd.cells.toArray)] ?_ (hd.cells ++ [Value.slice none 0 0]).toArray hbh ?_
       · rfl
       · rfl
       · rfl)
    | (with_reducible refine wp_store_blk (o := ⟨none, _, _, _, _, _⟩) ?_ 36 (.tmp 8) (.tmp 40) ?_ (w5.heap.size) 36 (ZBlk.toArray) ((hd.cells ++ [Value.slice none 0 0]).toArray) ?_ ?_ (Blk.new w5 _ _) ?_ ?_ ?_ (w5.heap.size) (w5) ?_ ?_ ?_
       · rfl
       · rfl
       · rfl
       · rfl
       · exact (by rw [List.size_toArray]; exact info_Blk HLH.out)
       · exact (hsh)
       · exact (hoh)
       · exact (hbn)
       · exact (Nat.le_refl _)
       intro w6 hB6 hb6 hg6 hs6))
  have HO6 := Lib.hid (Own8.fut HO5.out hb6)
  have HB6 := Lib.hid (below_fut HB5.out hb6 (Nat.le_refl _))
  have HZ6 := Lib.hid (HZ5.out.fut hb6)
  have HX6 := Lib.hid hB6.out
  obtain ⟨z7, hz7⟩ : ∃ z, z = w5.heap.size := ⟨_, rfl⟩
  have H17 : Hid (w1.heap.size ≤ z7) := Lib.hid (by rw [hz7]; exact HB5.out.size)
  rw [← hz7] at HX6 ⊢
  clear hz7 hbn hsh hoh hbh l4 hb6 hg6 hs6 hB6 HO5 HB5 HZ5 HF5 HWW5
  try simp only [put_none]
  go_loopw [5, 42] (fun u i wr => ∃ (k : Nat) (sr : Bs) (xs : List TTx) (v7 : Value), k ≤ m ∧ i = .int .u64 k ∧ Hid (xs.length = k) ∧ Hid (P = restB hd xs (m - k) sr) ∧ Hid (sr.length ≤ 200000) ∧ Hid (Own8 wr w1.heap.size u sr) ∧ Hid (Below w1.heap.size w1 wr) ∧ Hid (Blk wr z2 36 ZBlk.toArray) ∧ Hid (Blk wr z7 36 (hd.cells ++ [v7]).toArray) ∧ Hid (RowO (TxO w1.heap.size) 78 4 w1.heap.size wr v7 xs)) (fun _ i _ => m - (intOf i).toNat)
  case atStart => exact ⟨0, s2, [], .slice none 0 0, by omega, rfl, Lib.hid rfl, HP4, HL2, HO6, HB6, HZ6, HX6, Lib.hid (RowO.nil _ _ _ _ _)⟩
  case round =>
    clear HP4 HL2 HO6 HB6 HZ6 HX6
    obtain ⟨k, sr, xs, v7, hkm, rfl, HXL, HPk, HLk, HOk, HBk, HZk, HXk, HTk⟩ := hrel
    obtain ⟨qk, nk, ck, rfl, hnk, hnck, hcmk, hrk⟩ := HOk.out.open
    have HNK := Lib.hid hnk.out
    have HWWk : Hid (Below w.heap.size w wr) := Lib.hid (HB01.out.trans (HBk.out.mono HB01.out.size))
    by_cases hkn : k < m
    case neg =>
      obtain rfl : k = m := by omega
      have hge : ¬ (k : Int) < (k : Int) := by omega
      have hPe : P = if sr = [] then (⟨hd, xs⟩, 0) else (noBlk, 70) := by rw [HPk.out, Nat.sub_self]; exact restB_end
      by_cases hnk0 : 0 < nk
      · have hni : (0 : Int) < (nk : Int) := by omega
        have HP2 : Hid (P = (noBlk, 70)) := Lib.hid (by rw [hPe, if_neg]; intro e; have := HNK.out; rw [e] at this; simp at this; omega)
        clear hPe hrk hnk
        have HZ2 := HZk
        go_wp2_with (first
          | (with_reducible refine wp_build (o := ⟨some 65, _, _, _, _, _⟩) ?_ 36 #[] ?_ [] ?_ ZBlk.toArray hbt ?_
             · rfl
             · rfl
             · rfl)
          | (with_reducible refine wp_store_blk (o := ⟨none, _, _, _, _, _⟩) ?_ 36 (.tmp 2) (.tmp 65) ?_ (z2) 36 (ZBlk.toArray) (ZBlk.toArray) ?_ ?_ (HZ2.out) ?_ ?_ ?_ (z2) (wr) ?_ ?_ ?_
             · rfl
             · rfl
             · rfl
             · rfl
             · exact (by rw [List.size_toArray]; exact info_Blk rfl)
             · exact (rfl)
             · exact (hzo)
             · exact (Below.refl _ _)
             · exact (Nat.le_refl _)
             intro wf hBf hbf hgf hsf))
        refine bodyPost_ret (results_cell2 rfl _ _ _ z2 _ ZBlk _ rfl hBf.out Try.underlying36 rfl (info_Blk rfl)) rfl ?_
        exact BlkDec.bad HP2 ((HWWk.out).trans (hbf.mono (by have := HZZ.out; omega)))
      · have hni : ¬ (0 : Int) < (nk : Int) := by omega
        have HP2 : Hid (P = (⟨hd, xs⟩, 0)) := Lib.hid (by rw [hPe, if_pos]; exact List.eq_nil_of_length_eq_zero (by have := HNK.out; omega))
        clear hPe hrk hnk
        obtain ⟨bc, hbc⟩ : ∃ bc : List Value, bc = hd.cells ++ [v7] := ⟨_, rfl⟩
        have HBC := Lib.hid hbc
        have hbl : bc.length = 69 := by rw [hbc, List.length_append, Hdr.cells_len HK.out]; rfl
        have HBL := Lib.hid hbl
        have hX : Blk wr z7 36 bc.toArray := by rw [hbc]; exact HXk.out
        have l7 := blk_range hX
        have hoX : bc.toArray.all (·.oneCell') = true := by
          have h1 := Hdr.cells_one hd
          rw [List.all_toArray] at h1 ⊢
          rw [hbc, List.all_append, h1]
          simp only [List.all_cons, List.all_nil, Bool.and_true, Bool.true_and]
          exact (HTk.out.e (E' := TxC) fun _ _ h => h.c).one
        have hsX : ZBlk.toArray.size = bc.toArray.size := by rw [List.size_toArray, List.size_toArray, hbl]; rfl
        clear hbc hbl hX
        go_wp2_with (first
          | (with_reducible refine wpList_load_mid (op := ⟨some 66, _, _, _, _, _⟩) ?_ 36 (.tmp 8) ?_ (z7) (0) ?_ (bc) _ (l7) Try.underlying36 ?_ ?_ ?_
             · rfl
             · rfl
             · rfl
             · rfl
             · exact (info_Blk HBL.out))
          | (with_reducible refine wp_store_blk (o := ⟨none, _, _, _, _, _⟩) ?_ 36 (.tmp 2) (.tmp 66) ?_ (z2) 36 (ZBlk.toArray) (bc.toArray) ?_ ?_ (HZk.out) ?_ ?_ ?_ (z2) (wr) ?_ ?_ ?_
             · rfl
             · rfl
             · rfl
             · rfl
             · exact (by rw [List.size_toArray]; exact info_Blk HBL.out)
             · exact (hsX)
             · exact (hoX)
             · exact (Below.refl _ _)
             · exact (Nat.le_refl _)
             intro wf hBf hbf hgf hsf))
        refine bodyPost_ret (results_cell2 rfl _ _ _ z2 _ bc _ rfl hBf.out Try.underlying36 rfl (info_Blk HBL.out)) rfl ?_
        rw [HP2.out]
        have hst := Stays.of_grown (S := fun k => k = z2) hgf.out (fun k h => by injection h with h; exact h.symm)
        refine ⟨bc, rfl, ⟨v7, HBC.out, HK.out, ?_⟩, HWWk.out.trans (hbf.mono (by have := HZZ.out; omega))⟩
        exact (HTk.out.sep (txO_keeps _) hst (Sep.low fun k hk => by have : k = z2 := hk; have := HLT.out; omega)).mono (fun _ _ h => h.mono HB01.out.size) HB01.out.size
    have hlt : (k : Int) < (m : Int) := by omega
    have hk63 : (k : Int) + 1 ≤ 9223372036854775807 := by omega
    have hzt := zTx
    have hqk : qk = none → ck = 0 := by
      obtain ⟨p', n', c', e, _, _, _, _, h6⟩ := HOk.out.sl
      injection e with e1 e2 e3
      subst e1 e2 e3
      exact h6
    have hD := fun (W : World) (hb : Below wr.heap.size wr W) => refTxDecode_any qk nk ck sr W (hrk.fut hb) HNK.out hnck hcmk (by have := HLk.out; have := HNK.out; omega) hqk
    obtain ⟨T, r, kk, hT, hTk⟩ : ∃ T r kk, txDecP sr = (T, r, kk) ∧ (kk ≠ 0 ∧ txZ sr = .error kk ∨ kk = 0 ∧ txZ sr = .ok (T, r)) := by
      unfold txDecP
      cases h : txZ sr with
      | error k => exact ⟨_, _, k, rfl, .inl ⟨nz_tx sr k h, rfl⟩⟩
      | ok x => obtain ⟨t, r⟩ := x; exact ⟨t, r, 0, rfl, .inr ⟨rfl, rfl⟩⟩
    have HTK := Lib.hid hTk
    clear hTk hrk hnk
    go_upto_region 15 with (first
      | (with_reducible refine (hD wr (Below.refl _ _)).mono ?_
         rintro e w15 ⟨cs, vr, rfl, hO, hov, hb15⟩
         simp only [hT] at hO hov ⊢
         have hot := hO.c.one
         have hcl := hO.len
         have HCL := Lib.hid hcl
         have hzs : ZTx.toArray.size = cs.toArray.size := by rw [List.size_toArray, List.size_toArray, hcl]; rfl
         have hbn := below_new w15 (.cells ZTx.toArray 78)
         have HO15 := Lib.hid hO
         have HV15 := Lib.hid hov
         have HB15 := Lib.hid hb15
         clear hO hov hb15 hcl)
      | (with_reducible refine wp_store_blk (o := ⟨none, _, _, _, _, _⟩) ?_ 78 (.tmp 9) (.tmp 47) ?_ (w15.heap.size) 78 (ZTx.toArray) (cs.toArray) ?_ ?_ (Blk.new w15 _ _) ?_ ?_ ?_ (w15.heap.size) (w15) ?_ ?_ ?_
         · rfl
         · rfl
         · rfl
         · rfl
         · exact (by rw [List.size_toArray]; exact info_Tx HCL.out)
         · exact (hzs)
         · exact (hot)
         · exact (hbn)
         · exact (Nat.le_refl _)
         intro w16 hB16 hb16 hg16 hs16))
    have HB16 := Lib.hid hB16.out
    have hst := Stays.of_below hb16 (Nat.le_refl _) (fun _ => False)
    have hBW := below_fut HB15.out hb16 (Nat.le_refl _)
    have hO16 := txO_keeps _ _ _ _ _ _ HO15.out hst (fun _ h => h.elim)
    have hV16 := HV15.out.sep hst (fun _ h => h.elim)
    have HO16 := Lib.hid (hO16.mono HBk.out.size : TxO w1.heap.size w16 T cs)
    have HV16 : Hid (Own8 w16 w1.heap.size vr r) := Lib.hid (ownsRow_mono hV16 HBk.out.size)
    obtain ⟨g8, hg8⟩ : ∃ z, z = w15.heap.size := ⟨_, rfl⟩
    have HG8 : Hid (wr.heap.size ≤ g8) := Lib.hid (by rw [hg8]; exact HB15.out.size)
    rw [← hg8] at HB16 ⊢
    clear hg8 hst hO16 hV16 hbn hzs hot hB16 hb16 hg16 hs16 HB15 HO15 HV15
    try simp only [put_none]
    have HBW := Lib.hid hBW
    have HZn := Lib.hid (HZk.out.fut hBW)
    have HXn := Lib.hid (HXk.out.fut hBW)
    have HTn := Lib.hid (HTk.out.sep (txO_keeps _) (Stays.of_below hBW (Nat.le_refl _) (fun _ => False)) (fun _ h => h.elim))
    have HBn : Hid (Below w1.heap.size w1 w16) := Lib.hid (below_fut HBk.out hBW (Nat.le_refl _))
    have HWWn : Hid (Below w.heap.size w w16) := Lib.hid (HB01.out.trans (HBn.out.mono HB01.out.size))
    clear hBW hD hT HZk HXk HTk HBk HWWk hzt
    by_cases hkk : kk = 0
    case neg =>
      have hki : (kk != 0) = true := by simp [hkk]
      have HP2 : Hid (P = (noBlk, kk)) := Lib.hid (by
        rcases HTK.out with ⟨_, h⟩ | ⟨h, _⟩
        · rw [HPk.out, show m - k = (m - k - 1) + 1 by omega]
          exact restB_err h
        · exact absurd h hkk)
      have HZ2 := HZn
      go_wp2_with (first
        | (with_reducible refine wp_build (o := ⟨some 52, _, _, _, _, _⟩) ?_ 36 #[] ?_ [] ?_ ZBlk.toArray hbt ?_
           · rfl
           · rfl
           · rfl)
        | (with_reducible refine wp_store_blk (o := ⟨none, _, _, _, _, _⟩) ?_ 36 (.tmp 2) (.tmp 52) ?_ (z2) 36 (ZBlk.toArray) (ZBlk.toArray) ?_ ?_ (HZ2.out) ?_ ?_ ?_ (z2) (w16) ?_ ?_ ?_
           · rfl
           · rfl
           · rfl
           · rfl
           · exact (by rw [List.size_toArray]; exact info_Blk rfl)
           · exact (rfl)
           · exact (hzo)
           · exact (Below.refl _ _)
           · exact (Nat.le_refl _)
           intro wf hBf hbf hgf hsf))
      refine bodyPost_ret (results_cell2 rfl _ _ _ z2 _ ZBlk _ rfl hBf.out Try.underlying36 rfl (info_Blk rfl)) rfl ?_
      exact BlkDec.bad HP2 ((HWWn.out).trans (hbf.mono (by have := HZZ.out; omega)))
    subst hkk
    have hok : txZ sr = .ok (T, r) := by
      rcases HTK.out with ⟨h, _⟩ | ⟨_, h⟩
      · exact absurd rfl h
      · exact h
    have HPn : Hid (P = restB hd (xs ++ [T]) (m - (k + 1)) r) := Lib.hid (by
      rw [HPk.out, show m - k = (m - (k + 1)) + 1 by omega]
      exact restB_ok hok)
    have HLn : Hid (r.length ≤ 200000) := Lib.hid (by have := txZ_len hok; have := HLk.out; omega)
    clear hok HTK HPk HLk
    obtain ⟨css, hcl, hown, hcs⟩ := HTn.out
    have hxl : xs.length = k := HXL.out
    have l8 := blk_range HB16.out
    have hl5 := HO16.out.len
    have H5 := Lib.hid hl5
    have ho5 := HO16.out.c.one
    have hB1 : w1.heap.size ≤ w16.heap.size := HBn.out.size
    have hz7n : v7.ownBlock ≠ some z7 := fun h => by
      rcases hown.2 with ⟨e', _⟩ | ⟨b', _, cur', e', _, hh, _⟩
      · rw [e'] at h; cases h
      · rw [e'] at h
        injection h with h
        have h' : b' = z7 := h
        rw [h'] at hh
        exact absurd (Blk.inj HXn.out (show Blk w16 z7 78 cur' from hh)).1 (by decide)
    have c68 : w16.cell? ⟨z7, 68, none⟩ = some v7 := by
      rw [HXn.out.cell, List.getElem?_toArray, List.getElem?_append_right (by rw [Hdr.cells_len HK.out]; exact Nat.le_refl _), Hdr.cells_len HK.out]
      rfl
    obtain ⟨pv, nv, cv, rfl⟩ : ∃ pv nv cv, v7 = .slice pv nv cv := by
      obtain ⟨p, c, e, _⟩ := ownsRow_open hown
      exact ⟨_, _, _, e⟩
    have HZ7N := Lib.hid hz7n
    have HOWN := Lib.hid hown
    have HCS := Lib.hid hcs
    have HCLL := Lib.hid hcl
    clear hown hcs hcl hz7n
    go_wp2_with (first
      | (with_reducible refine wpList_load_mid (op := ⟨some 56, _, _, _, _, _⟩) ?_ 78 (.tmp 9) ?_ (g8) (0) ?_ (cs) _ (l8) Try.underlying78 ?_ ?_ ?_
         · rfl
         · rfl
         · rfl
         · rfl
         · exact (info_Tx H5.out))
      | (with_reducible refine wp_lit (o := ⟨some 57, _, _, _, _, _⟩) ?_ 34 78 1 #[(0, .tmp 56)] ?_ [.agg cs.toArray] ?_ 4 64 _ Try.underlying34 tx_row ?_ ?_ ?_ ?_ ?_ ?_
         · rfl
         · rfl
         · rfl
         · omega
         · exact (fun v hv => by rw [List.mem_singleton.1 hv]; show cs.toArray.size = 4; rw [List.size_toArray]; exact hl5)
         · rfl
         · omega
         · omega
         simp only [List.flatMap_cons, List.flatMap_nil, List.append_nil, Value.cells])
      | (with_reducible refine wp_rowapp (o := ⟨some 58, _, _, _, _, _⟩) ?_ (.tmp 55) (.tmp 57) 34 78 ?_ _ 4 64 Try.underlying34 tx_row ?_ ?_ ?_ w1.heap.size _ xs.length css.flatten ?_ (World.ownsRow.alloc HOWN.out _) w16.heap.size 1 1 cs ?_ (Blk.new w16 _ _) ?_ ?_ ?_ ?_ ?_
         · rfl
         · rfl
         · rfl
         · omega
         · omega
         · rfl
         · rfl
         · omega
         · exact one_all ho5
         · omega
         · rw [World.size_alloc]; omega
         intro v8 w8 hl8 hg8 ho8
         have hX8 : Blk w8 z7 36 (hd.cells ++ [Value.slice pv nv cv]).toArray := (hg8.block z7 (HXn.out.alloc _).lt (Ne.symm HZ7N.out)).trans (HXn.out.alloc _)
         have c68n : w8.cell? ⟨z7, 68, none⟩ = some (.slice pv nv cv) := by
           rw [hX8.cell, List.getElem?_toArray, List.getElem?_append_right (by rw [Hdr.cells_len HK.out]; exact Nat.le_refl _), Hdr.cells_len HK.out]
           rfl
         have f68n := hX8.frozen 68
         have HX8 := Lib.hid hX8
         clear hX8
         obtain ⟨p8, n8, c8, rfl⟩ : ∃ p8 n8 c8, v8 = .slice p8 n8 c8 := by
           obtain ⟨p, c, e, _⟩ := ownsRow_open hl8
           exact ⟨_, _, _, e⟩))
    have hnew := below_new w16 (.cells cs.toArray 78)
    have hst : Stays (fun _ => False) w16 (w16.alloc (.cells cs.toArray 78)) := Stays.of_below hnew (Nat.le_refl _) _
    have hS8 := Stays.of_grown (S := fun k => Value.ownBlock _ = some k) hg8 (fun k h => h)
    have hS78 := Stays.set w8 z7 68 (.slice p8 n8 c8)
    have hROW := RowO.app HCLL.out (World.ownsRow.alloc HOWN.out _) (fun i y hy => by
      obtain ⟨cs', h6, h7, h8⟩ := HCS.out i y hy
      exact ⟨cs', h6, txO_keeps _ _ _ _ _ _ h7 hst (fun _ h => h.elim), h8⟩) (txO_keeps w1.heap.size) (by decide) (txO_keeps _ _ _ _ _ _ HO16.out hst (fun _ h => h.elim)) hl5 hl8 hg8
    have HROW := Lib.hid (hROW.sep (txO_keeps _) hS78 (sep_one HX8.out (by decide)))
    have hz2n : ¬ (Value.slice pv nv cv).ownBlock = some z2 := fun h => by have := (own_ge HOWN.out _ h).1; have := HLT.out; omega
    have HZ8 := Lib.hid (((HZn.out.fut hnew).stays hS8 hz2n).stays hS78 (by have := H17.out; have := HLT.out; omega))
    have HV8 := Lib.hid (((HV16.out.sep hst (fun _ h => h.elim)).sep hS8 (own_sep (World.ownsRow.alloc HOWN.out _) (by decide))).sep hS78 (sep_one HX8.out (by decide)))
    have HXX : Hid (Blk (w8.setCell ⟨z7, 68, none⟩ (.slice p8 n8 c8)) z7 36 (hd.cells ++ [Value.slice p8 n8 c8]).toArray) := Lib.hid (by
      have := HX8.out.set 68 (.slice p8 n8 c8)
      rwa [hdr_set hd HK.out] at this)
    have HBB : Hid (Below w1.heap.size w1 (w8.setCell ⟨z7, 68, none⟩ (.slice p8 n8 c8))) := Lib.hid (((below_fut HBn.out hnew (Nat.le_refl _)).trans (hS8.below (by have := hnew.size; omega) fun k hk => (own_ge HOWN.out k hk).1)).trans (hS78.below (by have := hnew.size; have := hS8.size; omega) fun k hk => by have : k = z7 := hk; have := H17.out; omega))
    clear hnew hst hS8 hS78 hROW hz2n hl8 hg8 ho8 c68n f68n c68 l8 hl5 ho5 hB1
    try go_wp2_with fail
    go_roundw
    case rel => exact ⟨k + 1, r, xs ++ [T], .slice p8 n8 c8, by omega, by go_num, Lib.hid (by rw [List.length_append, hxl]; rfl), HPn, HLn, HV8, HBB, HZ8, HXX, HROW⟩
    case measure => simp [intOf]; omega
end Go.Proofs.Ytndobjlodpkknaa
namespace Go.Proofs.Ytndobjlodpkknaa
open Go Go.RowKit
set_option linter.unusedVariables false
structure Pok (S : Nat → Prop) (w w' : World) : Prop where
  st : Stays S w w'
  mi : ∀ q m, MineS w S q m → MineS w' S q m
theorem Pok.refl (S : Nat → Prop) (w : World) : Pok S w w := ⟨Stays.refl _ _, fun _ _ h => h⟩
theorem Pok.trans {S : Nat → Prop} {w w1 w2 : World} (h : Pok S w w1) (h2 : Pok S w1 w2) : Pok S w w2 := ⟨h.st.trans h2.st fun _ _ h => h, fun q m hm => h2.mi q m (h.mi q m hm)⟩
theorem Pok.poke {S : Nat → Prop} {w wr : World} {g j : Nat} {cs : Array Value} (h : Pok S w wr) (hk : Blk wr g 5 cs) (hg : S g) (b : BitVec 8) : Pok S w (wr.setCell ⟨g, j, none⟩ (u8 b)) :=
  ⟨h.st.setCell (fun _ => hg) _, fun q m hm => (h.mi q m hm).poke hk b⟩
theorem Pok.fut {S : Nat → Prop} {w w' : World} (hb : Below w.heap.size w w') : Pok S w w' := ⟨Stays.of_below hb (Nat.le_refl _) _, fun q m hm => by
  rcases hm with h | ⟨g, o, cs, rfl, h2, h3, h4⟩
  · exact .inl h
  · exact .inr ⟨g, o, cs, rfl, h2, h3.fut hb, h4⟩⟩
set_option maxRecDepth 100000 in
set_option maxHeartbeats 4000000 in
theorem spoilM_any (S : Nat → Prop) (p : Option Addr) (len c : Nat) (w : World) (hlc : len ≤ c) (hcm : c ≤ 9223372036854775807) (hm : MineRowsS w S p len) :
    Calls Try.prog 11 #[.slice p len c] w fun e w' => e = .returned (.tuple #[]) ∧ Pok S w w' := by
  have HM := Lib.hid hm
  clear hm
  go_enter Try.func11, Try.ntmps11
  go_wp2
  go_loopw [7] (fun i wr => ∃ k : Nat, k ≤ len ∧ i = .int .i64 k ∧ Hid (MineRowsS wr S p len) ∧ Hid (Pok S w wr)) (fun i _ => len - (intOf i).toNat)
  case atStart => exact ⟨0, by omega, rfl, HM, Lib.hid (Pok.refl _ _)⟩
  case round =>
    obtain ⟨k, hk, rfl, HM1, hb1⟩ := hrel
    clear HM
    by_cases hkl : k < len
    · have hlt : (k : Int) < (len : Int) := by omega
      rcases HM1.out with h0 | ⟨b, o, rfl, hbl, hall⟩
      · omega
      obtain ⟨q, m, c', hcell, hmc, hcm', hmine, hne⟩ := hall k hkl
      have HMi := Lib.hid hmine
      have HNe := Lib.hid hne
      clear hall hmine hne
      have hk63 : (k : Int) + 1 ≤ 9223372036854775807 := by omega
      go_wp2_with fail
      go_loopw [13] (fun i wr2 => ∃ j : Nat, j ≤ m ∧ i = .int .i64 j ∧ Hid (MineS wr2 S q m) ∧ Hid (MineRowsS wr2 S (some ⟨b, o, none⟩) len) ∧ Hid (Pok S w wr2)) (fun i _ => m - (intOf i).toNat)
      case atStart => exact ⟨0, by omega, rfl, HMi, HM1, hb1⟩
      case round =>
        obtain ⟨j, hj, rfl, HMi2, HM2, hb2⟩ := hrel
        clear HMi HM1 hb1 hcell
        by_cases hjm : j < m
        · rcases HMi2.out with h0 | ⟨g, o', cs, rfl, hgB, hblk, hcs⟩
          · omega
          obtain ⟨y, hy⟩ := hcs j hjm
          have hcell : wr.cell? ⟨g, o' + j, none⟩ = some (.int .u8 (iv8 y)) := (hblk.cell _).trans hy
          have hfz := hblk.frozen (o' + j)
          have hjlt : (j : Int) < (m : Int) := by omega
          have hj63 : (j : Int) + 1 ≤ 9223372036854775807 := by omega
          have hx1 : bits BinOp.xor IntKind.u8 (iv8 y) 255 = iv8 (y ^^^ 255#8) := (xor8 y 255#8)
          have HB := Lib.hid hblk
          have hgb : g ≠ b := fun e => HNe.out (by omega) _ rfl e
          clear hblk hcs hy
          go_wp2_with fail
          clear hcell hfz hx1
          go_roundw
          case rel => exact ⟨j + 1, by omega, by go_num, Lib.hid (HMi2.out.poke HB.out _), Lib.hid (HM2.out.poke HB.out (fun a ha => by injection ha with ha; subst ha; exact hgb) _), Lib.hid (hb2.out.poke HB.out hgB _)⟩
          case measure => simp [intOf]; omega
        · have hge : ¬ (j : Int) < (m : Int) := by omega
          go_wp2
          go_roundw
          case rel => exact ⟨k + 1, by omega, by go_num, HM2, hb2⟩
          case measure => simp [intOf]; omega
    · have hge : ¬ (k : Int) < (len : Int) := by omega
      go_wp2
      refine bodyPost_end (results_none rfl _ _ _) rfl ?_
      exact ⟨rfl, hb1.out⟩
def TextM (S : Nat → Prop) (w : World) (x : Bs) (cs : List Value) : Prop := ∃ q m c, cs = [.slice q m c] ∧ m ≤ c ∧ c ≤ 9223372036854775807 ∧ MineS w S q m
def RowM {α : Type} (S : Nat → Prop) (E : World → α → List Value → Prop) (N : Nat) (w : World) (v : Value) (xs : List α) : Prop := ESl E N w v xs ∧ ∀ k, v.ownBlock = some k → ¬ S k
def InM (S : Nat → Prop) (w : World) (x : TIn) (cs : List Value) : Prop := ∃ sv wv, cs = hCells x.id ++ [u32 x.ix, sv, u32 x.sq, wv] ∧ x.id.length = 32 ∧ TextM S w x.sc [sv] ∧ RowM S (TextM S) 1 w wv x.wi
def OutM (S : Nat → Prop) (w : World) (x : TOut) (cs : List Value) : Prop := ∃ sv, cs = [.int .i64 x.va.toInt, sv] ∧ TextM S w x.sc [sv]
def TxM (S : Nat → Prop) (w : World) (t : TTx) (cs : List Value) : Prop := ∃ iv ov, cs = [u32 t.ve, iv, ov, u32 t.lo] ∧ RowM S (InM S) 36 w iv t.is ∧ RowM S (OutM S) 2 w ov t.os
def KeepsM {α : Type} (S : Nat → Prop) (E : World → α → List Value → Prop) : Prop := ∀ w w' x cs, E w x cs → Pok S w w' → E w' x cs
theorem range_stays {S : Nat → Prop} {w w' : World} {b o : Nat} {cs : List Value} (h : w.rangeAt b o cs) (hs : Stays S w w') (hb : b < w.heap.size) (hn : ¬ S b) : w'.rangeAt b o cs := fun j v hj =>
  (World.cell?_of_block (a := ⟨b, o + j, none⟩) (hs.block b hb hn)).trans (h j v hj)
theorem textM_keeps (S : Nat → Prop) : KeepsM S (TextM S) := fun w w' x cs ⟨q, m, c, h1, h2, h3, h4⟩ hp => ⟨q, m, c, h1, h2, h3, hp.mi q m h4⟩
theorem RowM.pok {α : Type} {S : Nat → Prop} {E : World → α → List Value → Prop} {N : Nat} {w w' : World} {v : Value} {xs : List α} (h : RowM S E N w v xs) (hE : KeepsM S E) (hp : Pok S w w') : RowM S E N w' v xs := by
  obtain ⟨⟨p, n, c, rfl, h2, h3, h4, h5, h6⟩, hS⟩ := h
  refine ⟨⟨p, n, c, rfl, h2, h3, h4, fun hn => ?_, h6⟩, hS⟩
  obtain ⟨b, off, rfl, hlt, hc⟩ := h5 hn
  have hb : ¬ S b := hS b rfl
  refine ⟨b, off, rfl, Nat.lt_of_lt_of_le hlt hp.st.size, fun i x hi => ?_⟩
  obtain ⟨cs, h1, h2⟩ := hc i x hi
  exact ⟨cs, hE _ _ _ _ h1 hp, range_stays h2 hp.st hlt hb⟩
theorem inM_keeps (S : Nat → Prop) : KeepsM S (InM S) := fun w w' x cs ⟨sv, wv, h1, h2, h3, h4⟩ hp => ⟨sv, wv, h1, h2, textM_keeps S _ _ _ _ h3 hp, h4.pok (textM_keeps S) hp⟩
theorem outM_keeps (S : Nat → Prop) : KeepsM S (OutM S) := fun w w' x cs ⟨sv, h1, h2⟩ hp => ⟨sv, h1, textM_keeps S _ _ _ _ h2 hp⟩
theorem txM_keeps (S : Nat → Prop) : KeepsM S (TxM S) := fun w w' x cs ⟨iv, ov, h1, h2, h3⟩ hp => ⟨iv, ov, h1, h2.pok (inM_keeps S) hp, h3.pok (outM_keeps S) hp⟩
theorem RowM.at {α : Type} {S : Nat → Prop} {E : World → α → List Value → Prop} {N : Nat} {w : World} {p : Option Addr} {n c k : Nat} {xs : List α} (h : RowM S E N w (.slice p n c) xs) (hk : k < n) : ∃ b off cs x, p = some ⟨b, off, none⟩ ∧ xs[k]? = some x ∧ E w x cs ∧ w.rangeAt b (off + k * N) cs ∧ ¬ S b ∧ b < w.heap.size := by
  obtain ⟨⟨p', n', c', e, h1, h2, h3, h4, h5⟩, hS⟩ := h
  injection e with e1 e2 e3
  subst e1 e2 e3
  have hx := List.getElem?_eq_getElem (l := xs) (i := k) (by omega)
  obtain ⟨b, off, rfl, hlt, hc⟩ := h4 (by intro e; subst e; simp at h1; omega)
  obtain ⟨cs, h6, h7⟩ := hc k _ hx
  exact ⟨b, off, cs, _, rfl, hx, h6, h7, hS b rfl, hlt⟩
theorem TextM.lit {S : Nat → Prop} {w w' : World} {b : Nat} {q : Option Addr} {m c : Nat} {t : TypeId} (h : MineS w S q m) (h2 : m ≤ c) (h3 : c ≤ 9223372036854775807) (hp : Pok S w w') (hb : Blk w' b t #[.slice q m c]) (hn : ¬ S b) : MineRowsS w' S (some ⟨b, 0, none⟩) 1 := by
  refine .inr ⟨b, 0, rfl, hb.lt, fun i hi => ?_⟩
  obtain rfl : i = 0 := by omega
  refine ⟨q, m, c, ?_, h2, h3, hp.mi q m h, fun hm a ha e => ?_⟩
  · rw [hb.cell]; rfl
  · rcases h with h0 | ⟨g, o, cs, h1, h2, _⟩
    · exact hm h0
    · rw [h1] at ha
      injection ha with ha
      subst ha
      have e' : g = b := e
      exact hn (e' ▸ h2)
theorem RowM.mine {S : Nat → Prop} {w : World} {p : Option Addr} {n c : Nat} {xs : List Bs} (h : RowM S (TextM S) 1 w (.slice p n c) xs) : MineRowsS w S p n := by
  by_cases h0 : n = 0
  · exact .inl h0
  obtain ⟨b, off, _, _, rfl, _, _, _, hb, hlt⟩ := h.at (k := 0) (by omega)
  refine .inr ⟨b, off, rfl, hlt, fun i hi => ?_⟩
  obtain ⟨b', off', cs, x, e, hx, ⟨q, m, c', rfl, h2, h3, h4⟩, hr, _, _⟩ := h.at (k := i) hi
  injection e with e
  injection e with e1 e2
  subst e1 e2
  refine ⟨q, m, c', ?_, h2, h3, h4, fun hm a ha e => ?_⟩
  · have := hr 0 _ rfl
    rwa [Nat.mul_one, Nat.add_zero] at this
  · rcases h4 with h0 | ⟨g, o, cs, h1, h2, _⟩
    · exact hm h0
    · rw [h1] at ha
      injection ha with ha
      subst ha
      have e' : g = b := e
      exact hb (e' ▸ h2)
theorem RowM.slen {α : Type} {S : Nat → Prop} {E : World → α → List Value → Prop} {N : Nat} {w : World} {p : Option Addr} {n c : Nat} {xs : List α} (h : RowM S E N w (.slice p n c) xs) : xs.length = n ∧ n ≤ c ∧ c ≤ 9223372036854775807 := h.1.slen
theorem RowM.opens {α : Type} {S : Nat → Prop} {E : World → α → List Value → Prop} {N : Nat} {w : World} {v : Value} {xs : List α} (h : RowM S E N w v xs) : ∃ p n c, v = .slice p n c := h.1.opens
theorem TextM.one {S : Nat → Prop} {w : World} {x : Bs} {v : Value} (h : TextM S w x [v]) : v.oneCell' = true := by
  obtain ⟨q, m, c, e, _⟩ := h
  injection e with e
  rw [e]
  rfl
theorem RowM.one {α : Type} {S : Nat → Prop} {E : World → α → List Value → Prop} {N : Nat} {w : World} {v : Value} {xs : List α} (h : RowM S E N w v xs) : v.oneCell' = true := h.1.one
theorem InM.len {S : Nat → Prop} {w : World} {x : TIn} {cs : List Value} (h : InM S w x cs) : cs.length = 36 := by
  obtain ⟨sv, wv, rfl, hl, _⟩ := h
  simp [hCells, hl]
theorem InM.one {S : Nat → Prop} {w : World} {x : TIn} {cs : List Value} (h : InM S w x cs) : cs.toArray.all (·.oneCell') = true := by
  obtain ⟨sv, wv, rfl, hl, h1, h2⟩ := h
  have := hCells_one x.id
  rw [List.all_toArray] at this ⊢
  rw [List.all_append, this]
  simp [Value.oneCell']
  exact ⟨h1.one, h2.one⟩
theorem InM.cell {S : Nat → Prop} {w : World} {x : TIn} {cs : List Value} (h : InM S w x cs) : ∃ sv wv, cs[33]? = some sv ∧ cs[35]? = some wv ∧ TextM S w x.sc [sv] ∧ RowM S (TextM S) 1 w wv x.wi := by
  obtain ⟨sv, wv, rfl, hl, h1, h2⟩ := h
  have hc : (hCells x.id).length = 32 := by simp [hCells, hl]
  exact ⟨sv, wv, by rw [List.getElem?_append_right (by omega), hc]; rfl, by rw [List.getElem?_append_right (by omega), hc]; rfl, h1, h2⟩
theorem TxM.len {S : Nat → Prop} {w : World} {t : TTx} {cs : List Value} (h : TxM S w t cs) : cs.length = 4 := by obtain ⟨_, _, rfl, _⟩ := h; rfl
theorem TxM.one {S : Nat → Prop} {w : World} {t : TTx} {cs : List Value} (h : TxM S w t cs) : cs.toArray.all (·.oneCell') = true := by
  obtain ⟨iv, ov, rfl, hi, ho⟩ := h
  rw [List.all_toArray]
  simp [Value.oneCell']
  exact ⟨hi.one, ho.one⟩
end Go.Proofs.Ytndobjlodpkknaa
namespace Go.Proofs.Ytndobjlodpkknaa
open Go Go.RowKit
set_option linter.unusedVariables false
set_option maxRecDepth 100000 in
set_option maxHeartbeats 16000000 in
theorem spoilBlock_any (S : Nat → Prop) (bc : List Value) (v : Value) (ts : List TTx) (w : World) (hS : ∀ k, S k → k < w.heap.size) (hb : bc[68]? = some v) (h : RowM S (TxM S) 4 w v ts) :
    Calls Try.prog 12 #[.agg bc.toArray] w fun e w' => e = .returned (.tuple #[]) ∧ Pok S w w' := by
  obtain ⟨p, n, c, rfl⟩ := h.opens
  obtain ⟨hn, hnc, hcm⟩ := h.slen
  have HB := Lib.hid hb
  have HR := Lib.hid h
  have HN := Lib.hid hn
  clear h hb hn
  have hb1 := below_new w (.cells bc.toArray 36)
  have HB1 := Lib.hid (Blk.new w 36 bc.toArray)
  go_enter Try.func12, Try.ntmps12
  go_upto_region 1 with fail
  generalize w.alloc (.cells bc.toArray 36) = w1 at *
  have HP1 : Hid (Pok S w w1) := Lib.hid (Pok.fut hb1)
  have c1 := HB1.out.cell 68
  rw [List.getElem?_toArray, HB.out] at c1
  have HR1 := Lib.hid (HR.out.pok (txM_keeps S) HP1.out)
  have HSz := Lib.hid hS
  clear hb1 HR HB HB1 hS
  go_upto_region 2 with fail
  clear c1
  go_loopw [11] (fun i wr => ∃ k : Nat, k ≤ n ∧ i = .int .i64 k ∧ Hid (Pok S w wr) ∧ Hid (RowM S (TxM S) 4 wr (.slice p n c) ts)) (fun i _ => n - (intOf i).toNat)
  case atStart => exact ⟨0, by omega, rfl, HP1, HR1⟩
  case round =>
    obtain ⟨k, hk, rfl, HPk, HRk⟩ := hrel
    by_cases hkn : k < n
    case neg =>
      have hge : ¬ (k : Int) < (n : Int) := by omega
      go_wp2_with fail
      refine bodyPost_end (results_none rfl _ _ _) rfl ?_
      exact ⟨rfl, HPk.out⟩
    have hlt : (k : Int) < (n : Int) := by omega
    have hk63 : (k : Int) + 1 ≤ 9223372036854775807 := by omega
    obtain ⟨b, off, cs, x, rfl, hx, hE, l2, hSb, hbl⟩ := HRk.out.at hkn
    have H3 := Lib.hid hE.len
    have H1 := Lib.hid hE.one
    obtain ⟨iv, ov, hcs, hi, ho⟩ := hE
    have HI := Lib.hid hi
    have HO := Lib.hid ho
    have HCS := Lib.hid hcs
    have hz := zTx
    have hbr := below_new wr (.cells ZTx.toArray 78)
    have hzs : ZTx.toArray.size = cs.toArray.size := by rw [List.size_toArray, List.size_toArray, H3.out]; rfl
    clear hx hi ho hcs hSb hbl HP1 HR1
    go_upto_region 4 with (first
      | (with_reducible refine wpList_load_mid (op := ⟨some 14, _, _, _, _, _⟩) ?_ 78 (.tmp 13) ?_ (b) (off + k * 4) ?_ (cs) _ (l2) Try.underlying78 ?_ ?_ ?_
         · rfl
         · rfl
         · rfl
         · rfl
         · exact ((info_Tx H3.out)))
      | (with_reducible refine wp_store_blk (o := ⟨none, _, _, _, _, _⟩) ?_ 78 (.tmp 3) (.tmp 14) ?_ (wr.heap.size) 78 (ZTx.toArray) (cs.toArray) ?_ ?_ (Blk.new wr _ _) ?_ ?_ ?_ (wr.heap.size) (wr) ?_ ?_ ?_
         · rfl
         · rfl
         · rfl
         · rfl
         · exact (by rw [List.size_toArray]; exact info_Tx H3.out)
         · exact (hzs)
         · exact (H1.out)
         · exact (hbr)
         · exact (Nat.le_refl _)
         intro w4 hB4 hb4 hg4 hs4))
    have hS4 : ¬ S wr.heap.size := fun h => by have := HSz.out _ h; have := HPk.out.st.size; omega
    have HSk := Lib.hid hS4
    obtain ⟨bt, hbt⟩ : ∃ z, z = wr.heap.size := ⟨_, rfl⟩
    have HB4 := Lib.hid hB4.out
    rw [← hbt] at HSk HB4 ⊢
    have hp4 : Pok S wr w4 := Pok.fut hb4
    have HP4 := Lib.hid (HPk.out.trans hp4)
    have HR4 := Lib.hid (HRk.out.pok (txM_keeps S) hp4)
    have HI4 := Lib.hid (HI.out.pok (inM_keeps S) hp4)
    have HO4 := Lib.hid (HO.out.pok (outM_keeps S) hp4)
    clear hb4 hg4 hs4 hB4 hp4 hS4 hbt HPk HRk HI HO l2 hbr hzs hz
    simp only [put_none]
    obtain ⟨pi, ni, ci, rfl⟩ := HI4.out.opens
    obtain ⟨hni, hnci, hcmi⟩ := HI4.out.slen
    obtain ⟨po, no, co, rfl⟩ := HO4.out.opens
    obtain ⟨hno, hnco, hcmo⟩ := HO4.out.slen
    have c1 := HB4.out.cell 1
    rw [List.getElem?_toArray, HCS.out] at c1
    simp only [List.getElem?_cons_zero, List.getElem?_cons_succ] at c1
    clear hni hno
    go_upto_region 5 with fail
    clear c1
    go_loopw [18] (fun i wr => ∃ j : Nat, j ≤ ni ∧ i = .int .i64 j ∧ Hid (Pok S w wr) ∧ Hid (RowM S (TxM S) 4 wr (.slice (some ⟨b, off, none⟩) n c) ts) ∧ Hid (RowM S (OutM S) 2 wr (.slice po no co) x.os) ∧ Hid (Blk wr bt 78 cs.toArray) ∧ Hid (RowM S (InM S) 36 wr (.slice pi ni ci) x.is)) (fun i _ => ni - (intOf i).toNat)
    case atStart => exact ⟨0, by omega, rfl, HP4, HR4, HO4, HB4, HI4⟩
    case round =>
      obtain ⟨j, hj, rfl, HPj, HRj, HOj, HBj, HIj⟩ := hrel
      clear HP4 HR4 HO4 HB4 HI4
      by_cases hjn : j < ni
      case neg =>
        have hge : ¬ (j : Int) < (ni : Int) := by omega
        have c2 := HBj.out.cell 2
        rw [List.getElem?_toArray, HCS.out] at c2
        simp only [List.getElem?_cons_zero, List.getElem?_cons_succ] at c2
        go_upto_region 11 with fail
        clear c2
        go_loopw [33] (fun i wr => ∃ j : Nat, j ≤ no ∧ i = .int .i64 j ∧ Hid (Pok S w wr) ∧ Hid (RowM S (TxM S) 4 wr (.slice (some ⟨b, off, none⟩) n c) ts) ∧ Hid (RowM S (OutM S) 2 wr (.slice po no co) x.os)) (fun i _ => no - (intOf i).toNat)
        case atStart => exact ⟨0, by omega, rfl, HPj, HRj, HOj⟩
        case round =>
          clear HPj HRj HOj HBj HIj
          obtain ⟨j, hj, rfl, HPj, HRj, HOj⟩ := hrel
          by_cases hjn : j < no
          case neg =>
            have hge : ¬ (j : Int) < (no : Int) := by omega
            go_wp2_with fail
            go_roundw
            case rel => exact ⟨k + 1, by omega, by go_num, HPj, HRj⟩
            case measure => simp [intOf]; omega
          have hlt2 : (j : Int) < (no : Int) := by omega
          have hj63 : (j : Int) + 1 ≤ 9223372036854775807 := by omega
          obtain ⟨b2, off2, cs2, y, rfl, hy, hE, l2, hSb, hbl⟩ := HOj.out.at hjn
          obtain ⟨sv, hcs2, hsv⟩ := hE
          have H32 : Hid (cs2.length = 2) := Lib.hid (by rw [hcs2]; rfl)
          have H12 : Hid (cs2.toArray.all (·.oneCell') = true) := Lib.hid (by rw [hcs2, List.all_toArray]; simp [Value.oneCell']; exact hsv.one)
          have HSV := Lib.hid hsv
          have K1 : Hid (cs2[1]? = some sv) := Lib.hid (by rw [hcs2]; rfl)
          obtain ⟨Z, hZl, hz⟩ := zeroOut
          have HZ := Lib.hid hZl
          have hbr := below_new wr (.cells Z 84)
          clear hy hsv hcs2 hZl hSb hbl
          go_upto_region 13 with (first
            | (with_reducible refine wpList_load_mid (op := ⟨some 36, _, _, _, _, _⟩) ?_ 84 (.tmp 35) ?_ (b2) (off2 + j * 2) ?_ (cs2) _ (l2) Try.underlying84 ?_ ?_ ?_
               · rfl
               · rfl
               · rfl
               · rfl
               · exact ((info_Outs H32.out)))
            | (with_reducible refine wp_store_blk (o := ⟨none, _, _, _, _, _⟩) ?_ 84 (.tmp 7) (.tmp 36) ?_ (wr.heap.size) 84 (Z) (cs2.toArray) ?_ ?_ (Blk.new wr _ _) ?_ ?_ ?_ (wr.heap.size) (wr) ?_ ?_ ?_
               · rfl
               · rfl
               · rfl
               · rfl
               · exact (by rw [List.size_toArray]; exact info_Outs H32.out)
               · exact (HZ.out.trans (by rw [List.size_toArray]; exact H32.out.symm))
               · exact (H12.out)
               · exact (hbr)
               · exact (Nat.le_refl _)
               intro w6 hB6 hb6 hg6 hs6))
          obtain ⟨bi, hbi⟩ : ∃ z, z = wr.heap.size := ⟨_, rfl⟩
          have HB6 := Lib.hid hB6.out
          rw [← hbi] at HB6 ⊢
          have hp6 : Pok S wr w6 := Pok.fut hb6
          have HP6 := Lib.hid (HPj.out.trans hp6)
          have HR6 := Lib.hid (HRj.out.pok (txM_keeps S) hp6)
          have HO6 := Lib.hid (HOj.out.pok (outM_keeps S) hp6)
          have HSV6 := textM_keeps S _ _ _ _ HSV.out hp6
          clear hb6 hg6 hs6 hB6 hp6 hbi HPj HRj HOj HSV l2 hbr hz HZ
          simp only [put_none]
          obtain ⟨q, m, d, hsvv, hmd, hdm, hmine⟩ := HSV6
          injection hsvv with hsvv
          subst hsvv
          have c33 := HB6.out.cell 1
          rw [List.getElem?_toArray, K1.out] at c33
          have hmr : MineRowsS (w6.alloc (.cells #[.slice q m d] 22)) S (some ⟨w6.heap.size, 0, none⟩) 1 :=
            TextM.lit hmine hmd hdm (Pok.fut (below_new w6 _)) (Blk.new w6 22 #[.slice q m d]) (fun h => by have := HSz.out _ h; have := HP6.out.st.size; omega)
          have HMR := Lib.hid hmr
          clear hmr hmine
          go_wp2_with fail
          have hp7 : Pok S w6 (w6.alloc (.cells #[.slice q m d] 22)) := Pok.fut (below_new w6 _)
          refine (spoilM_any S (some ⟨w6.heap.size, 0, none⟩) 1 1 _ (by omega) (by omega) HMR.out).mono ?_
          rintro e w7 ⟨rfl, hp7'⟩
          have hp67 := hp7.trans hp7'
          have HP7 := Lib.hid (HP6.out.trans hp67)
          have HR7 := Lib.hid (HR6.out.pok (txM_keeps S) hp67)
          have HO7 := Lib.hid (HO6.out.pok (outM_keeps S) hp67)
          clear hp67 hp7 hp7' HP6 HR6 HO6 HB6 HMR c33
          go_wp2_with fail
          go_roundw
          case rel => exact ⟨j + 1, by omega, by go_num, HP7, HR7, HO7⟩
          case measure => simp [intOf]; omega
      have hlt2 : (j : Int) < (ni : Int) := by omega
      have hj63 : (j : Int) + 1 ≤ 9223372036854775807 := by omega
      obtain ⟨b2, off2, cs2, y, rfl, hy, hE, l2, hSb, hbl⟩ := HIj.out.at hjn
      have H32 := Lib.hid hE.len
      have H12 := Lib.hid hE.one
      obtain ⟨sv, wv, k33, k35, hsv, hwv⟩ := hE.cell
      have HSV := Lib.hid hsv
      have HWV := Lib.hid hwv
      have K33 := Lib.hid k33
      have K35 := Lib.hid k35
      obtain ⟨Z, hZl, hz⟩ := zeroIn
      have HZ := Lib.hid hZl
      have hbr := below_new wr (.cells Z 82)
      clear hy hE hsv hwv k33 k35 hZl hSb hbl
      go_upto_region 7 with (first
        | (with_reducible refine wpList_load_mid (op := ⟨some 21, _, _, _, _, _⟩) ?_ 82 (.tmp 20) ?_ (b2) (off2 + j * 36) ?_ (cs2) _ (l2) Try.underlying82 ?_ ?_ ?_
           · rfl
           · rfl
           · rfl
           · rfl
           · exact ((info_Ins H32.out)))
        | (with_reducible refine wp_store_blk (o := ⟨none, _, _, _, _, _⟩) ?_ 82 (.tmp 5) (.tmp 21) ?_ (wr.heap.size) 82 (Z) (cs2.toArray) ?_ ?_ (Blk.new wr _ _) ?_ ?_ ?_ (wr.heap.size) (wr) ?_ ?_ ?_
           · rfl
           · rfl
           · rfl
           · rfl
           · exact (by rw [List.size_toArray]; exact info_Ins H32.out)
           · exact (HZ.out.trans (by rw [List.size_toArray]; exact H32.out.symm))
           · exact (H12.out)
           · exact (hbr)
           · exact (Nat.le_refl _)
           intro w6 hB6 hb6 hg6 hs6))
      have hS6 : ¬ S wr.heap.size := fun h => by have := HSz.out _ h; have := HPj.out.st.size; omega
      have HS6 := Lib.hid hS6
      obtain ⟨bi, hbi⟩ : ∃ z, z = wr.heap.size := ⟨_, rfl⟩
      have HB6 := Lib.hid hB6.out
      rw [← hbi] at HS6 HB6 ⊢
      have hp6 : Pok S wr w6 := Pok.fut hb6
      have HP6 := Lib.hid (HPj.out.trans hp6)
      have HR6 := Lib.hid (HRj.out.pok (txM_keeps S) hp6)
      have HO6 := Lib.hid (HOj.out.pok (outM_keeps S) hp6)
      have HI6 := Lib.hid (HIj.out.pok (inM_keeps S) hp6)
      have HT6 := Lib.hid (HBj.out.fut hb6)
      have HSV6 := textM_keeps S _ _ _ _ HSV.out hp6
      have HWV6 := Lib.hid (HWV.out.pok (textM_keeps S) hp6)
      clear hb6 hg6 hs6 hB6 hp6 hS6 hbi HPj HRj HOj HIj HBj HSV HWV l2 hbr hz HZ
      simp only [put_none]
      obtain ⟨q, m, d, hsvv, hmd, hdm, hmine⟩ := HSV6
      injection hsvv with hsvv
      subst hsvv
      obtain ⟨pw, nw, cw, rfl⟩ := HWV6.out.opens
      obtain ⟨_, hnwc, hcwm⟩ := HWV6.out.slen
      have c33 := HB6.out.cell 33
      rw [List.getElem?_toArray, K33.out] at c33
      have hmr : MineRowsS (w6.alloc (.cells #[.slice q m d] 22)) S (some ⟨w6.heap.size, 0, none⟩) 1 :=
        TextM.lit hmine hmd hdm (Pok.fut (below_new w6 _)) (Blk.new w6 22 #[.slice q m d]) (fun h => by have := HSz.out _ h; have := HP6.out.st.size; omega)
      have HMR := Lib.hid hmr
      clear hmr hmine
      go_wp2_with fail
      have hp7 : Pok S w6 (w6.alloc (.cells #[.slice q m d] 22)) := Pok.fut (below_new w6 _)
      refine (spoilM_any S (some ⟨w6.heap.size, 0, none⟩) 1 1 _ (by omega) (by omega) HMR.out).mono ?_
      rintro e w7 ⟨rfl, hp7'⟩
      have hp67 := hp7.trans hp7'
      have HP7 := Lib.hid (HP6.out.trans hp67)
      have HR7 := Lib.hid (HR6.out.pok (txM_keeps S) hp67)
      have HO7 := Lib.hid (HO6.out.pok (outM_keeps S) hp67)
      have HI7 := Lib.hid (HI6.out.pok (inM_keeps S) hp67)
      have HT7 := Lib.hid (HT6.out.stays hp67.st HSk.out)
      have HB7 := Lib.hid (HB6.out.stays hp67.st HS6.out)
      have HWV7 := Lib.hid (HWV6.out.pok (textM_keeps S) hp67)
      clear hp67 hp7 hp7' HP6 HR6 HO6 HI6 HT6 HB6 HWV6 HMR c33
      have c35 := HB7.out.cell 35
      rw [List.getElem?_toArray, K35.out] at c35
      go_wp2_with fail
      refine (spoilM_any S pw nw cw _ hnwc hcwm HWV7.out.mine).mono ?_
      rintro e w8 ⟨rfl, hp8⟩
      have HP8 := Lib.hid (HP7.out.trans hp8)
      have HR8 := Lib.hid (HR7.out.pok (txM_keeps S) hp8)
      have HO8 := Lib.hid (HO7.out.pok (outM_keeps S) hp8)
      have HI8 := Lib.hid (HI7.out.pok (inM_keeps S) hp8)
      have HT8 := Lib.hid (HT7.out.stays hp8.st HSk.out)
      clear hp8 HP7 HR7 HO7 HI7 HT7 HB7 HWV7 c35
      go_wp2_with fail
      go_roundw
      case rel => exact ⟨j + 1, by omega, by go_num, HP8, HR8, HO8, HT8, HI8⟩
      case measure => simp [intOf]; omega
end Go.Proofs.Ytndobjlodpkknaa
namespace Go.Proofs.Ytndobjlodpkknaa
open Go Go.RowKit
set_option linter.unusedVariables false
def SBy (B : Nat) (w : World) (k : Nat) : Prop := B ≤ k ∧ ∃ cs, Blk w k 5 cs
theorem SBy.lt {B : Nat} {w : World} {k : Nat} (h : SBy B w k) : k < w.heap.size := by obtain ⟨_, cs, h⟩ := h; exact h.lt
theorem Own8.mineS {B : Nat} {w : World} {v : Value} {bs : Bs} (h : Own8 w B v bs) : ∃ q c, v = .slice q bs.length c ∧ bs.length ≤ c ∧ c ≤ 9223372036854775807 ∧ MineS w (SBy B w) q bs.length := by
  obtain ⟨p, c, rfl, h1, h2, _, h4⟩ := Mine.of h
  refine ⟨p, c, rfl, h1, by unfold maxLen at h2; omega, ?_⟩
  rcases h4 with h | ⟨g, o, cs, h1, h2, h3, h4⟩
  · exact .inl h
  · exact .inr ⟨g, o, cs, h1, ⟨h2, cs, h3⟩, h3, h4⟩
theorem TextO.m {B : Nat} {w : World} {x : Bs} {cs : List Value} (h : TextO B w x cs) : TextM (SBy B w) w x cs := by
  obtain ⟨v, rfl, h⟩ := h
  obtain ⟨q, c, rfl, h1, h2, h3⟩ := h.mineS
  exact ⟨q, _, c, rfl, h1, h2, h3⟩
theorem RowO.m {α : Type} {E E' : World → α → List Value → Prop} {T N B : Nat} {w : World} {v : Value} {xs : List α} (h : RowO E T N B w v xs) (hT : T ≠ 5) (hE : ∀ x cs, E w x cs → E' w x cs) : RowM (SBy B w) E' N w v xs := by
  refine ⟨h.e hE, fun k hk hS => ?_⟩
  obtain ⟨css, _, h2, _⟩ := h
  obtain ⟨_, cs, hc⟩ := hS
  rcases h2.2 with ⟨rfl, _⟩ | ⟨q, cap, cur, rfl, hB, hh, _⟩
  · cases hk
  · injection hk with hk
    subst hk
    exact hT (Blk.inj (show Blk w q T cur from hh) hc).1
theorem InO.m {B : Nat} {w : World} {x : TIn} {cs : List Value} (h : InO B w x cs) : InM (SBy B w) w x cs := by
  obtain ⟨sv, wv, h1, h2, h3, h4⟩ := h
  exact ⟨sv, wv, h1, h2, (show TextO B w x.sc [sv] from ⟨sv, rfl, h3⟩).m, h4.m (by decide) fun _ _ h => h.m⟩
theorem OutO.m {B : Nat} {w : World} {x : TOut} {cs : List Value} (h : OutO B w x cs) : OutM (SBy B w) w x cs := by
  obtain ⟨sv, h1, h3⟩ := h
  exact ⟨sv, h1, (show TextO B w x.sc [sv] from ⟨sv, rfl, h3⟩).m⟩
theorem TxO.m {B : Nat} {w : World} {t : TTx} {cs : List Value} (h : TxO B w t cs) : TxM (SBy B w) w t cs := by
  obtain ⟨iv, ov, h1, h2, h3⟩ := h
  exact ⟨iv, ov, h1, h2.m (by decide) fun _ _ h => h.m, h3.m (by decide) fun _ _ h => h.m⟩
theorem TxM.lit {S : Nat → Prop} {w w' : World} {t : TTx} {cs : List Value} {b : Nat} {T : TypeId} (h : TxM S w t cs) (hp : Pok S w w') (hb : Blk w' b T cs.toArray) (hn : ¬ S b) : RowM S (TxM S) 4 w' (.slice (some ⟨b, 0, none⟩) 1 1) [t] := by
  refine ⟨⟨_, _, _, rfl, rfl, Nat.le_refl _, by unfold maxLen; omega, fun _ => ⟨b, 0, rfl, hb.lt, fun i x hi => ?_⟩, fun e => by cases e⟩, fun k hk => ?_⟩
  · cases i with
    | zero =>
      injection hi with hi
      subst hi
      exact ⟨cs, txM_keeps S _ _ _ _ h hp, by rw [Nat.zero_mul]; exact blk_range hb⟩
    | succ i => cases hi
  · injection hk with hk
    subst hk
    exact hn
end Go.Proofs.Ytndobjlodpkknaa
namespace Go.Proofs.Ytndobjlodpkknaa
open Go Go.RowKit
set_option linter.unusedVariables false
theorem zeroTxs : ∃ Z : Array Value, Z.size = 4 ∧ ∀ w, (zeroValue 78).run Try.prog w = .ok (.agg Z) w := ⟨ZTx.toArray, rfl, zTx⟩
theorem TxC.len {w : World} {t : TTx} {cs : List Value} (h : TxC w t cs) : cs.length = 4 := by obtain ⟨_, _, rfl, _⟩ := h; rfl
set_option maxRecDepth 100000 in
set_option maxHeartbeats 8000000 in
theorem eqTxs_any (gf : Nat) (eg : ∀ args w, (callFunc gf args).run Try.prog w = .ok (.enter gf args) w) (u v : Value) (xs : List (TTx)) (w : World) (hu : ESl TxC 4 w u xs) (hv : ESl TxC 4 w v xs)
    (hp : ∀ (W : World) (x : TTx) (cs ds : List Value), Below w.heap.size w W → TxC W x cs → TxC W x ds → Calls Try.prog gf #[.agg cs.toArray, .agg ds.toArray] W fun e w' => e = .returned (.bool true) ∧ Below W.heap.size W w') :
    Calls Try.prog 61 #[u, v, .func (.func gf) #[] #[]] w fun e w' => e = .returned (.bool true) ∧ Below w.heap.size w w' := by
  obtain ⟨p, n, c, rfl⟩ := hu.opens
  obtain ⟨q, m, d, rfl⟩ := hv.opens
  have HU := Lib.hid hu
  have HV := Lib.hid hv
  have HP := Lib.hid hp
  obtain ⟨hn, hnc, hcm⟩ := hu.slen
  obtain ⟨hm, hmd, hdm⟩ := hv.slen
  have hnm : n = m := hn.symm.trans hm
  subst hnm
  have HN := Lib.hid hn
  clear hu hv hp hn hm
  go_enter Try.func61, Try.ntmps61
  go_upto_region 4 with fail
  go_loopw [17] (fun i wr => ∃ k : Nat, k ≤ n ∧ i = .int .i64 k ∧ Hid (Below w.heap.size w wr)) (fun i _ => n - (intOf i).toNat)
  case atStart => exact ⟨0, by omega, rfl, Lib.hid (Below.refl _ _)⟩
  case round =>
    obtain ⟨k, hk, rfl, HWk⟩ := hrel
    by_cases hkn : k < n
    · have hlt : (k : Int) < (n : Int) := by omega
      obtain ⟨b, off, cs, x, rfl, hx, hE, l2⟩ := HU.out.at HWk.out hkn
      obtain ⟨b', off', ds, x', rfl, hx', hE', l3⟩ := HV.out.at HWk.out hkn
      have hxx : x' = x := by rw [hx] at hx'; injection hx' with h; exact h.symm
      subst hxx
      clear hx hx'
      have H3 := Lib.hid hE.len
      have H1 := Lib.hid hE.one
      have H3' := Lib.hid hE'.len
      have H1' := Lib.hid hE'.one
      have HE := Lib.hid hE
      have HE' := Lib.hid hE'
      obtain ⟨Z, hZl, hz⟩ := zeroTxs
      have HZ := Lib.hid hZl
      have hbr := below_new wr (.cells Z 78)
      clear hE hE' hZl
      go_upto_region 6 with (first
        | (with_reducible refine wpList_load_mid (op := ⟨some 21, _, _, _, _, _⟩) ?_ 78 (.tmp 20) ?_ (b) (off + k * 4) ?_ (cs) _ (l2) Try.underlying78 ?_ ?_ ?_
           · rfl
           · rfl
           · rfl
           · rfl
           · exact ((info_Tx H3.out)))
        | (with_reducible refine wp_store_blk (o := ⟨none, _, _, _, _, _⟩) ?_ 78 (.tmp 8) (.tmp 21) ?_ (wr.heap.size) 78 (Z) (cs.toArray) ?_ ?_ (Blk.new wr _ _) ?_ ?_ ?_ (wr.heap.size) (wr) ?_ ?_ ?_
           · rfl
           · rfl
           · rfl
           · rfl
           · exact (by rw [List.size_toArray]; exact info_Tx H3.out)
           · exact (HZ.out.trans (by rw [List.size_toArray]; exact H3.out.symm))
           · exact (H1.out)
           · exact (hbr)
           · exact (Nat.le_refl _)
           intro w6 hB6 hb6 hg6 hs6))
      simp only [put_none]
      have l3' : w6.rangeAt b' (off' + k * 4) ds := range_fut l3 hb6 (HV.out.lt HWk.out hkn)
      have HW6 := Lib.hid (below_fut HWk.out hb6 (Nat.le_refl _))
      have HB6 := Lib.hid hB6.out
      have hbr' := below_new w6 (.cells Z 78)
      have hzz : wr.heap.size < w6.heap.size := hB6.out.lt
      clear hb6 hg6 hs6 l2 l3 hbr hB6
      generalize wr.heap.size = z8 at *
      go_upto_region 7 with (first
        | (with_reducible refine wpList_load_mid (op := ⟨some 25, _, _, _, _, _⟩) ?_ 78 (.tmp 24) ?_ (b') (off' + k * 4) ?_ (ds) _ (l3') Try.underlying78 ?_ ?_ ?_
           · rfl
           · rfl
           · rfl
           · rfl
           · exact ((info_Tx H3'.out)))
        | (with_reducible refine wp_store_blk (o := ⟨none, _, _, _, _, _⟩) ?_ 78 (.tmp 9) (.tmp 25) ?_ (w6.heap.size) 78 (Z) (ds.toArray) ?_ ?_ (Blk.new w6 _ _) ?_ ?_ ?_ (w6.heap.size) (w6) ?_ ?_ ?_
           · rfl
           · rfl
           · rfl
           · rfl
           · exact (by rw [List.size_toArray]; exact info_Tx H3'.out)
           · exact (HZ.out.trans (by rw [List.size_toArray]; exact H3'.out.symm))
           · exact (H1'.out)
           · exact (hbr')
           · exact (Nat.le_refl _)
           intro w7 hB7 hb7 hg7 hs7))
      have HW7 := Lib.hid (below_fut HW6.out hb7 (Nat.le_refl _))
      have l6 := blk_range (HB6.out.fut hb7)
      have l7 := blk_range hB7.out
      have hcall := HP.out w7 _ cs ds HW7.out (txC_keeps _ _ _ _ HE.out HW7.out) (txC_keeps _ _ _ _ HE'.out HW7.out)
      clear hb7 hg7 hs7 l3' hbr' hz hB7
      go_wp2_with (first
        | (with_reducible refine wpList_load_mid (op := ⟨some 27, _, _, _, _, _⟩) ?_ 78 (.tmp 8) ?_ (z8) (0) ?_ (cs) _ (l6) Try.underlying78 ?_ ?_ ?_
           · rfl
           · rfl
           · rfl
           · rfl
           · exact ((info_Tx H3.out)))
        | (with_reducible refine wpList_load_mid (op := ⟨some 28, _, _, _, _, _⟩) ?_ 78 (.tmp 9) ?_ (w6.heap.size) (0) ?_ (ds) _ (l7) Try.underlying78 ?_ ?_ ?_
           · rfl
           · rfl
           · rfl
           · rfl
           · exact ((info_Tx H3'.out))))
      go_at_fn gf
      refine hcall.mono ?_
      rintro e w8 ⟨rfl, hb8⟩
      have HW8 := Lib.hid (below_fut HW7.out hb8 (Nat.le_refl _))
      go_wp2_with fail
      go_roundw
      case rel => exact ⟨k + 1, by omega, by go_num, HW8⟩
      case measure => simp [intOf]; omega
    · obtain rfl : k = n := by omega
      go_wp2_with fail
      go_ret
      exact ⟨rfl, HWk.out⟩
set_option maxRecDepth 100000 in
set_option maxHeartbeats 8000000 in
theorem sameBlk_any (b : TBlk) (cs ds : List Value) (w : World) (h1 : BlkC w b cs) (h2 : BlkC w b ds) : Calls Try.prog 25 #[.agg cs.toArray, .agg ds.toArray] w fun e w' => e = .returned (.bool true) ∧ Below w.heap.size w w' := by
  obtain ⟨v, hcs, hk, hv⟩ := h1
  obtain ⟨v', hds, _, hv'⟩ := h2
  have HCS := Lib.hid hcs
  have HDS := Lib.hid hds
  have HK := Lib.hid hk
  have hb1 := below_new w (.cells cs.toArray 36)
  have hb2 := below_new (w.alloc (.cells cs.toArray 36)) (.cells ds.toArray 36)
  have HB1 := Lib.hid ((Blk.new w 36 cs.toArray).fut hb2)
  have HB2 := Lib.hid (Blk.new (w.alloc (.cells cs.toArray 36)) 36 ds.toArray)
  have HW := Lib.hid (below_fut hb1 hb2 (Nat.le_refl _))
  have hTs := eqTxs_any 62 (enters_of Try.func62 (by kernel_rfl) rfl) v v' b.ts _ (hv.fut txC_keeps HW.out) (hv'.fut txC_keeps HW.out) (fun W x cs ds _ ha hb => sameTx_any x cs ds W ha hb)
  simp only [World.size_alloc] at HB2
  clear hb1 hb2 hcs hds hk hv hv'
  go_enter Try.func25, Try.ntmps25
  go_upto_region 1 with fail
  generalize (w.alloc (.cells cs.toArray 36)).alloc (.cells ds.toArray 36) = w2 at *
  obtain ⟨z3, hz3⟩ : ∃ z, z = w.heap.size + 1 := ⟨_, rfl⟩
  rw [← hz3] at HB2 ⊢
  obtain ⟨z2, hz2⟩ : ∃ z, z = w.heap.size := ⟨_, rfl⟩
  rw [← hz2] at HB1 ⊢
  have l1 : w2.rangeAt z2 0 b.h.cells := Blk.hdr (h := b.h) (v := v) (HCS.out ▸ HB1.out)
  have l2 : w2.rangeAt z3 0 b.h.cells := Blk.hdr (h := b.h) (v := v') (HDS.out ▸ HB2.out)
  have a1 : w2.cell? ⟨z2, 68, none⟩ = some v := by
    rw [HB1.out.cell, HCS.out, List.getElem?_toArray, List.getElem?_append_right (by rw [Hdr.cells_len HK.out]; exact Nat.le_refl _), Hdr.cells_len HK.out]
    rfl
  have a2 : w2.cell? ⟨z3, 68, none⟩ = some v' := by
    rw [HB2.out.cell, HDS.out, List.getElem?_toArray, List.getElem?_append_right (by rw [Hdr.cells_len HK.out]; exact Nat.le_refl _), Hdr.cells_len HK.out]
    rfl
  have hsm := hdr_same b.h HK.out
  clear hz2 hz3
  go_wp2_with (first
    | (with_reducible refine wpList_load_mid (op := ⟨some 6, _, _, _, _, _⟩) ?_ 33 (.tmp 5) ?_ (z2) (0) ?_ (b.h.cells) _ (l1) Try.underlying33 ?_ ?_ ?_
       · rfl
       · rfl
       · rfl
       · rfl
       · exact ((hdr_size HK.out)))
    | (with_reducible refine wpList_load_mid (op := ⟨some 8, _, _, _, _, _⟩) ?_ 33 (.tmp 7) ?_ (z3) (0) ?_ (b.h.cells) _ (l2) Try.underlying33 ?_ ?_ ?_
       · rfl
       · rfl
       · rfl
       · rfl
       · exact ((hdr_size HK.out))))
  refine hTs.mono ?_
  rintro e w3 ⟨rfl, hb3⟩
  go_wp2_with fail
  go_ret
  exact ⟨rfl, below_fut HW.out hb3 (Nat.le_refl _)⟩
end Go.Proofs.Ytndobjlodpkknaa
namespace Go.Proofs.Ytndobjlodpkknaa
open Go Go.RowKit
set_option linter.unusedVariables false
theorem BlkO.m {B : Nat} {w : World} {b : TBlk} {cs : List Value} (h : BlkO B w b cs) : ∃ v, cs[68]? = some v ∧ RowM (SBy B w) (TxM (SBy B w)) 4 w v b.ts := by
  obtain ⟨v, rfl, hk, hv⟩ := h
  exact ⟨v, by rw [List.getElem?_append_right (by rw [Hdr.cells_len hk]; exact Nat.le_refl _), Hdr.cells_len hk]; rfl, hv.m (by decide) fun _ _ h => h.m⟩
theorem BlkC.size {w : World} {b : TBlk} {cs : List Value} (h : BlkC w b cs) : ZBlk.toArray.size = cs.toArray.size := by rw [List.size_toArray, List.size_toArray, h.len]; rfl
end Go.Proofs.Ytndobjlodpkknaa
