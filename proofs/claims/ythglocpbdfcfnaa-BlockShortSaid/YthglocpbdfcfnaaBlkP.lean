/- Blocks, plain: their bytes, and what bytes say; their cells. -/
import Derived.Test.YthglocpbdfcfnaaHdrQ
import Derived.Test.YthglocpbdfcfnaaAppF
import Derived.Test.YthglocpbdfcfnaaTxN
import Derived.Test.YthglocpbdfcfnaaTxRe
namespace Go.Proofs.Ythglocpbdfcfnaa
open Go Go.RowKit
set_option linter.unusedVariables false

structure TBlk where
  h : Hdr
  ts : List TTx
def txsB (ts : List TTx) : Bs := (ts.map fun t => txB t (hasWs t.is)).flatten
def blkB (b : TBlk) : Bs := b.h.bytes ++ (cntB b.ts.length ++ txsB b.ts)
/-- a block's bytes, or the error -/
def blkP (b : TBlk) : Bs × Int := if 2000 < b.ts.length then ([], 1) else if b.ts.all canTx then (if 200000 < (blkB b).length then ([], 91) else (blkB b, 0)) else ([], 1)
def noBlk : TBlk := ⟨noHdr, []⟩
def hdrZ : Pz Hdr := fun s => if s.length < 80 then .error 50 else .ok (hdrOf s, s.drop 80)
def blkZ : Pz TBlk := hdrZ.bind fun h => (cntZ 2000).bind fun n => (manyZ txZ n).bind fun ts => Pz.ret ⟨h, ts⟩
def endB (x : Except Int (TBlk × Bs)) : TBlk × Int := match x with
  | .error k => (noBlk, k)
  | .ok (b, r) => if r = [] then (b, 0) else (noBlk, 70)
/-- the block of bytes, or the error -/
def blkDecP (s : Bs) : TBlk × Int := if 200000 < s.length then (noBlk, 91) else endB (blkZ s)

theorem cuts_hdr : Cuts hdrZ := fun s h r hs => by
  unfold hdrZ at hs
  split at hs
  · cases hs
  · rename_i hl
    injection hs with hs
    injection hs with h1 h2
    subst h1 h2
    refine ⟨s.take 80, (List.take_append_drop 80 s).symm, fun t => ?_, fun a' c e hc => ?_⟩
    · have hlen : (s.take 80).length = 80 := by rw [List.length_take]; omega
      have h1 : (hdrOf s).bytes = s.take 80 := by
        have h2 := hdrOf_back s (by omega)
        have h3 := congrArg (List.take 80) h2
        rwa [List.take_left' (Hdr.bytes_len (hdrOf_ok s (by omega)))] at h3
      have h4 := hdrP_bytes (hdrOf s) (hdrOf_ok s (by omega)) t
      rw [h1] at h4
      unfold hdrP at h4
      rw [if_neg (by rw [List.length_append, hlen]; omega)] at h4
      injection h4 with h5 h6
      injection h6 with h6
      unfold hdrZ
      rw [if_neg (by rw [List.length_append, hlen]; omega), h5, h6]
    · unfold hdrZ
      rw [if_pos]
      have := congrArg List.length e
      rw [List.length_take, List.length_append] at this
      have : 0 < c.length := by
        cases c with
        | nil => exact absurd rfl hc
        | cons _ _ => simp
      omega
theorem cuts_blk : Cuts blkZ := cuts_hdr.bind fun h => (cuts_cnt 2000 (by omega)).bind fun n => (cuts_many cuts_tx n).bind fun ts => Cuts.ret _
theorem nz_hdr : NZ hdrZ := fun s k h => by
  unfold hdrZ at h
  split at h
  · injection h with h; rw [← h]; decide
  · cases h
theorem nz_blk : NZ blkZ := nz_hdr.bind fun h => (nz_cnt 2000).bind fun n => (nz_many nz_tx n).bind fun ts => NZ.ret _
theorem reads_hdr (h : Hdr) (hk : h.ok) : Reads hdrZ h h.bytes := fun r => by
  have h4 := hdrP_bytes h hk r
  unfold hdrP at h4
  rw [if_neg (by rw [List.length_append, Hdr.bytes_len hk]; omega)] at h4
  injection h4 with h5 h6
  injection h6 with h6
  unfold hdrZ
  rw [if_neg (by rw [List.length_append, Hdr.bytes_len hk]; omega), h5, h6]
theorem reads_blk (b : TBlk) (hk : b.h.ok) (hn : b.ts.length ≤ 2000) (hc : ∀ t ∈ b.ts, canTx t = true) (ho : ∀ t ∈ b.ts, okTx t) : Reads blkZ b (blkB b) := by
  unfold blkZ blkB
  refine (reads_hdr b.h hk).bind ((reads_cnt b.ts.length 2000 hn (by omega)).bind (Reads.last (reads_many txZ (fun t => txB t (hasWs t.is)) b.ts fun t ht => reads_tx t (hc t ht) (ho t ht)) (Reads.ret _)))
theorem blk_dec (b : TBlk) (hk : b.h.ok) (hn : b.ts.length ≤ 2000) (hc : ∀ t ∈ b.ts, canTx t = true) (ho : ∀ t ∈ b.ts, okTx t) (r : Bs) : blkZ (blkB b ++ r) = .ok (b, r) := reads_blk b hk hn hc ho r
theorem blk_cut (b : TBlk) (hk : b.h.ok) (hn : b.ts.length ≤ 2000) (hc : ∀ t ∈ b.ts, canTx t = true) (ho : ∀ t ∈ b.ts, okTx t) (n : Nat) (hlt : n < (blkB b).length) : blkZ ((blkB b).take n) = .error 50 := by
  obtain ⟨a, h1, _, h3⟩ := cuts_blk (blkB b ++ []) b [] (blk_dec b hk hn hc ho [])
  rw [List.append_nil, List.append_nil] at h1
  subst h1
  exact h3 _ _ (List.take_append_drop n (blkB b)).symm (by intro e; have := congrArg List.length e; rw [List.length_drop] at this; simp at this; omega)

/-! ### cells -/
def BlkC (w : World) (b : TBlk) (cs : List Value) : Prop := ∃ v, cs = b.h.cells ++ [v] ∧ b.h.ok ∧ ESl TxC 4 w v b.ts
def BlkO (B : Nat) (w : World) (b : TBlk) (cs : List Value) : Prop := ∃ v, cs = b.h.cells ++ [v] ∧ b.h.ok ∧ RowO (TxO B) 26 4 B w v b.ts
theorem blkC_keeps : Keeps BlkC := fun w w' x cs ⟨v, h1, h2, h3⟩ hb => ⟨v, h1, h2, h3.fut txC_keeps hb⟩
theorem blkO_keeps (B : Nat) : KeepsO B [26, 5, 27, 67, 61] (BlkO B) := fun w w' S x cs ⟨v, h1, h2, h3⟩ hs hp => ⟨v, h1, h2, h3.sep (txO_keeps B) hs hp⟩
theorem BlkO.c {B : Nat} {w : World} {b : TBlk} {cs : List Value} (h : BlkO B w b cs) : BlkC w b cs := by
  obtain ⟨v, h1, h2, h3⟩ := h
  exact ⟨v, h1, h2, h3.e fun _ _ h => h.c⟩
theorem BlkC.len {w : World} {b : TBlk} {cs : List Value} (h : BlkC w b cs) : cs.length = 69 := by
  obtain ⟨v, rfl, hk, _⟩ := h
  rw [List.length_append, Hdr.cells_len hk]
  rfl
theorem BlkC.at {w : World} {b : TBlk} {cs : List Value} (h : BlkC w b cs) : ∃ v, cs[68]? = some v ∧ ESl TxC 4 w v b.ts := by
  obtain ⟨v, rfl, hk, hv⟩ := h
  exact ⟨v, by rw [List.getElem?_append_right (by rw [Hdr.cells_len hk]; exact Nat.le_refl _), Hdr.cells_len hk]; rfl, hv⟩
theorem BlkC.one {w : World} {b : TBlk} {cs : List Value} (h : BlkC w b cs) : cs.toArray.all (·.oneCell') = true := by
  obtain ⟨v, rfl, hk, hv⟩ := h
  have := Hdr.cells_one b.h
  rw [List.all_toArray] at this ⊢
  rw [List.all_append, this]
  simp only [List.all_cons, List.all_nil, Bool.and_true, Bool.true_and]
  exact hv.one
theorem BlkC.ok {w : World} {b : TBlk} {cs : List Value} (h : BlkC w b cs) : ∀ t ∈ b.ts, okTx t := fun t ht => by
  obtain ⟨v, _, _, hv⟩ := h
  obtain ⟨cs, hc⟩ := hv.mem ht
  exact hc.ok
theorem info_Blk {cs : List Value} (h : cs.length = 69) : (Try.prog.info? 48).map (·.size) = some cs.length := by rw [h]; kernel_rfl
/-- a block's header, read out of its cells -/
theorem Blk.hdr {w : World} {g : Nat} {t : TypeId} {h : Hdr} {v : Value} (hb : Blk w g t (h.cells ++ [v]).toArray) : w.rangeAt g 0 h.cells := fun j u hj => by
  rw [Nat.zero_add, hb.cell, List.getElem?_toArray, List.getElem?_append_left]
  · exact hj
  · exact (List.getElem?_eq_some_iff.1 hj).1
theorem txB_le {t : TTx} (h : canTx t = true) {w : World} {cs : List Value} (hc : TxC w t cs) : (txB t (hasWs t.is)).length ≤ 10000000000 := txB_big h hc _
end Go.Proofs.Ythglocpbdfcfnaa
