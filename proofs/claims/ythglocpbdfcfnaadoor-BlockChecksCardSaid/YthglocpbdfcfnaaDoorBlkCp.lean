/- sporranref08.Copy: the walk. -/
import Derived.Test.YthglocpbdfcfnaaDoorGK
import Derived.Test.YthglocpbdfcfnaaDoorTxCp
namespace Go.Proofs.YthglocpbdfcfnaaDoor
open Go Go.RowKit
set_option linter.unusedVariables false

def BlkSz (b : TBlk) : Prop := b.ts.length * 64 ≤ maxB ∧ ∀ t ∈ b.ts, TxSz t
/-- a block of the call's own -/
def CopyBlk (w : World) (b : TBlk) (e : Ending) (w' : World) : Prop := ∃ cs, e = .returned (.agg cs.toArray) ∧ BlkO w.heap.size w' b cs ∧ Below w.heap.size w w'

set_option maxRecDepth 100000 in
set_option maxHeartbeats 16000000 in
theorem refBlkCopy_any (b : TBlk) (cs : List Value) (w : World) (hc : BlkC w b cs) (hZ : BlkSz b) : Calls Tryd.prog 21 #[.agg cs.toArray] w (CopyBlk w b) := by
  have HLEN := Lib.hid hc.len
  have HONE := Lib.hid hc.one
  obtain ⟨v, hcs, hk, hv⟩ := hc
  obtain ⟨pt, n, ct, rfl⟩ := hv.opens
  obtain ⟨hn, hnc, hcm⟩ := hv.slen
  obtain ⟨hz1, hz2⟩ := hZ
  have HCS := Lib.hid hcs
  have HK := Lib.hid hk
  have HV := Lib.hid hv
  have HN := Lib.hid hn
  have HZT := Lib.hid hz2
  have hn1 : n * 64 ≤ 140737488351232 := by unfold maxB at hz1; omega
  have hzb := zBlk
  have HB := Lib.hid ((Blk.new w 52 cs.toArray).alloc (.cells ZBlk.toArray 52))
  have HZ := Lib.hid (Blk.new2 w (.cells cs.toArray 52) 52 ZBlk.toArray)
  have hbw : Below w.heap.size w ((w.alloc (.cells cs.toArray 52)).alloc (.cells ZBlk.toArray 52)) := ((Below.refl _ _).alloc (Nat.le_refl _) _).alloc (by simp) _
  have hsz : ((w.alloc (.cells cs.toArray 52)).alloc (.cells ZBlk.toArray 52)).heap.size = w.heap.size + 2 := by simp only [World.size_alloc]
  have HAT : Hid (cs.toArray[68]? = some (.slice pt n ct)) := Lib.hid (by
    rw [hcs, List.getElem?_toArray, List.getElem?_append_right (by rw [Hdr.cells_len hk]; exact Nat.le_refl _), Hdr.cells_len hk]
    rfl)
  clear hcs hk hv hn hz1 hz2
  go_enter Tryd.func21, Tryd.ntmps21
  go_upto_region 1 with fail
  generalize (w.alloc (.cells cs.toArray 52)).alloc (.cells ZBlk.toArray 52) = w1 at *
  clear hzb
  obtain ⟨z2, hz2⟩ : ∃ z, z = w.heap.size + 1 := ⟨_, rfl⟩
  rw [← hz2] at HZ ⊢
  obtain ⟨z1, hz1⟩ : ∃ z, z = w.heap.size := ⟨_, rfl⟩
  rw [← hz1] at HB ⊢
  obtain ⟨B, hB⟩ : ∃ B, B = w1.heap.size := ⟨_, rfl⟩
  have HZZ : Hid (z1 = w.heap.size ∧ z2 = w.heap.size + 1 ∧ B = w.heap.size + 2 ∧ B = w1.heap.size) := Lib.hid (by omega)
  have HB01 := Lib.hid hbw
  clear hz1 hz2 hB hsz hbw
  have c1 : w1.cell? ⟨z1, 68, none⟩ = some (.slice pt n ct) := by rw [HB.out.cell]; exact HAT.out
  go_upto_region 3 with fail
  clear c1
  go_loopw [3, 9] (fun v i wr => ∃ k : Nat, k ≤ n ∧ i = .int .i64 k ∧ Hid (Below B w1 wr) ∧ Hid (RowO (TxO B) 26 4 B wr v (b.ts.take k))) (fun _ i _ => n - (intOf i).toNat)
  case atStart => exact ⟨0, by omega, rfl, Lib.hid (Below.refl _ _), Lib.hid (by rw [List.take_zero]; exact RowO.nil _ _ _ _ _)⟩
  case round =>
    obtain ⟨k, hk, rfl, HBk, HRk⟩ := hrel
    obtain ⟨p3, n3, c3, rfl⟩ : ∃ p n c, _ = Value.slice p n c := by obtain ⟨css, _, h2, _⟩ := HRk.out; obtain ⟨p, c, e, _⟩ := ownsRow_open h2; exact ⟨_, _, _, e⟩
    by_cases hkn : k < n
    case neg =>
      obtain rfl : k = n := by omega
      have hge : ¬ (k : Int) < (k : Int) := by omega
      rw [List.take_of_length_le (by have := HN.out; omega)] at HRk
      have hB1 := HB.out.below HBk.out (by have := HZZ.out; omega)
      have ca : wr.cell? ⟨z1, 68, none⟩ = some (.slice pt k ct) := by rw [hB1.cell]; exact HAT.out
      have fa := hB1.frozen 68
      obtain ⟨bc, hbc⟩ : ∃ bc : List Value, bc = b.h.cells ++ [Value.slice p3 n3 c3] := ⟨_, rfl⟩
      have HX : Hid (Blk (wr.setCell ⟨z1, 68, none⟩ (.slice p3 n3 c3)) z1 52 bc.toArray) := Lib.hid (by
        have := hB1.set 68 (.slice p3 n3 c3)
        rw [HCS.out, hdr_set b.h HK.out] at this
        rw [hbc]
        exact this)
      clear hB1
      go_upto_region 8 with fail
      clear ca fa hge
      have hss := Stays.set wr z1 68 (.slice p3 n3 c3)
      have hlow : ∀ q, q = z1 → q < B := fun q h => by have := HZZ.out; omega
      have HT9 := Lib.hid (HRk.out.sep (txO_keeps B) hss (Sep.low hlow))
      have HZ9 := Lib.hid ((HZ.out.below HBk.out (by have := HZZ.out; omega)).stays hss (by have := HZZ.out; omega))
      have HW9 : Hid (Below w.heap.size w (wr.setCell ⟨z1, 68, none⟩ (.slice p3 n3 c3))) := Lib.hid ((HB01.out.trans (HBk.out.mono (by have := HZZ.out; omega))).trans (hss.below (by have := HBk.out.size; have := HZZ.out; omega) fun q h => by have : q = z1 := h; have := HZZ.out; omega))
      have HBL : Hid (bc.length = 69) := Lib.hid (by rw [hbc, List.length_append, Hdr.cells_len HK.out]; rfl)
      have hto : bc.toArray.all (·.oneCell') = true := by
        have h1 := Hdr.cells_one b.h
        rw [List.all_toArray] at h1 ⊢
        rw [hbc, List.all_append, h1]
        rfl
      have HBC := Lib.hid hbc
      clear hss hbc HRk HBk
      generalize wr.setCell ⟨z1, 68, none⟩ (.slice p3 n3 c3) = w9 at *
      have l9 := blk_range HX.out
      have hzs : ZBlk.toArray.size = bc.toArray.size := by rw [List.size_toArray, List.size_toArray, HBL.out]; rfl
      go_wp2_with (first
        | (with_reducible refine wpList_load_mid (op := ⟨some 21, _, _, _, _, _⟩) ?_ 52 (.tmp 1) ?_ (z1) (0) ?_ (bc) _ (l9) Tryd.underlying52 ?_ ?_ ?_
           · rfl
           · rfl
           · rfl
           · rfl
           · exact ((info_Blk HBL.out)))
        | (with_reducible refine wp_store_blk (o := ⟨none, _, _, _, _, _⟩) ?_ 52 (.tmp 2) (.tmp 21) ?_ (z2) 52 (ZBlk.toArray) (bc.toArray) ?_ ?_ (HZ9.out) ?_ ?_ ?_ (z2) (w9) ?_ ?_ ?_
           · rfl
           · rfl
           · rfl
           · rfl
           · exact (by rw [List.size_toArray]; exact info_Blk HBL.out)
           · exact (hzs)
           · exact (hto)
           · exact (Below.refl _ _)
           · exact (Nat.le_refl _)
           intro wf hBf hbf hgf hsf))
      refine bodyPost_ret (results_cell1C rfl _ _ _ z2 _ bc _ rfl hBf.out Tryd.underlying52 rfl (info_Blk HBL.out)) rfl ?_
      have hst := Stays.of_grown (S := fun k => k = z2) hgf.out (fun k h => by injection h with h; exact h.symm)
      have hlow2 : ∀ q, q = z2 → q < B := fun q h => by have := HZZ.out; omega
      have hwB : w.heap.size ≤ B := by have := HZZ.out; omega
      exact ⟨bc, rfl, ⟨_, HBC.out, HK.out, (HT9.out.sep (txO_keeps B) hst (Sep.low hlow2)).mono (fun _ _ h => h.mono hwB) hwB⟩, HW9.out.trans (hbf.mono (by have := HZZ.out; omega))⟩
    have hlt : (k : Int) < (n : Int) := by omega
    have hBwr : B ≤ wr.heap.size := by have := HBk.out.size; have := HZZ.out; omega
    have hBw := HB01.out.trans (HBk.out.mono (by have := HZZ.out; omega))
    obtain ⟨b2, off, cs2, t, rfl, hx, hE, l2⟩ := HV.out.at hBw hkn
    have H3 := Lib.hid hE.len
    have H1 := Lib.hid hE.one
    have HX := Lib.hid hx
    have HTZ := Lib.hid (HZT.out t (List.mem_of_getElem? hx))
    have HE := Lib.hid (txC_keeps _ _ _ _ hE hBw)
    have hz := zTx
    have hbr := below_new wr (.cells ZTx.toArray 26)
    have hzs : ZTx.toArray.size = cs2.toArray.size := by rw [List.size_toArray, List.size_toArray, H3.out]; rfl
    clear hx hE hBw
    go_upto_region 5 with (first
      | (with_reducible refine wpList_load_mid (op := ⟨some 12, _, _, _, _, _⟩) ?_ 26 (.tmp 11) ?_ (b2) (off + k * 4) ?_ (cs2) _ (l2) Tryd.underlying26 ?_ ?_ ?_
         · rfl
         · rfl
         · rfl
         · rfl
         · exact ((info_Tx H3.out)))
      | (with_reducible refine wp_store_blk (o := ⟨none, _, _, _, _, _⟩) ?_ 26 (.tmp 5) (.tmp 12) ?_ (wr.heap.size) 26 (ZTx.toArray) (cs2.toArray) ?_ ?_ (Blk.new wr _ _) ?_ ?_ ?_ (wr.heap.size) (wr) ?_ ?_ ?_
         · rfl
         · rfl
         · rfl
         · rfl
         · exact (by rw [List.size_toArray]; exact info_Tx H3.out)
         · exact (hzs)
         · exact (H1.out)
         · exact (hbr)
         · exact (Nat.le_refl _)
         intro w5 hB5 hb5 hg5 hs5))
    try simp only [put_none]
    obtain ⟨g5, hg5'⟩ : ∃ g, g = wr.heap.size := ⟨_, rfl⟩
    have l5 := blk_range hB5.out
    rw [← hg5'] at l5 ⊢
    have hcp := refTxCopy_any t cs2 w5 (txC_keeps _ _ _ _ HE.out hb5) HTZ.out
    have HB5k := Lib.hid hb5
    clear hg5' hb5 hg5 hs5 hB5 l2 hbr hz hzs
    go_upto_region 6 with (first
      | (with_reducible refine wpList_load_mid (op := ⟨some 14, _, _, _, _, _⟩) ?_ 26 (.tmp 5) ?_ (g5) (0) ?_ (cs2) _ (l5) Tryd.underlying26 ?_ ?_ ?_
         · rfl
         · rfl
         · rfl
         · rfl
         · exact ((info_Tx H3.out)))
      | (with_reducible refine hcp.mono ?_
         rintro e w6 ⟨cn, rfl, hO, hb6⟩
         have HST6 : Hid (Below wr.heap.size wr w6) := Lib.hid (below_fut HB5k.out hb6 (Nat.le_refl _))
         have HCN := Lib.hid hO.len
         have HON := Lib.hid hO.c.one
         have HE6 : Hid (TxO B w6 t cn) := Lib.hid (hO.mono (by have := HB5k.out.size; omega))
         obtain ⟨css, hcl, hown, hcs⟩ := HRk.out.sep (txO_keeps B) (Stays.of_below HST6.out (Nat.le_refl _) (fun _ => False)) (fun _ h => h.elim)
         have HOWN := Lib.hid hown
         have HCSS := Lib.hid hcs
         have HCL := Lib.hid hcl
         have hxk : (b.ts.take k).length = k := by rw [List.length_take]; have := HN.out; omega
         have hBw6 : B ≤ w6.heap.size := by have := HST6.out.size; omega
         clear hown hcs hcl hO hb6)
      | (with_reducible refine wp_lit (o := ⟨some 16, _, _, _, _, _⟩) ?_ 46 26 1 #[(0, .tmp 15)] ?_ [.agg cn.toArray] ?_ 4 64 _ Tryd.underlying46 tx_row ?_ ?_ ?_ ?_ ?_ ?_
         · rfl
         · rfl
         · rfl
         · omega
         · exact (fun v hv => by rw [List.mem_singleton.1 hv]; show cn.toArray.size = 4; rw [List.size_toArray]; exact HCN.out)
         · rfl
         · omega
         · omega
         simp only [List.flatMap_cons, List.flatMap_nil, List.append_nil, Value.cells])
      | (with_reducible refine wp_rowappB (o := ⟨some 17, _, _, _, _, _⟩) ?_ (.tmp 13) (.tmp 16) 46 26 ?_ _ 4 64 Tryd.underlying46 tx_row ?_ ?_ (B) _ ((b.ts.take k).length) css.flatten ?_ (World.ownsRow.alloc HOWN.out _) w6.heap.size 1 1 (cn) ?_ (Blk.new w6 _ _) ?_ ?_ ?_ ?_ ?_ ?_
         · rfl
         · rfl
         · rfl
         · omega
         · rfl
         · rfl
         · first | rfl | exact HCN.out
         · exact one_all HON.out
         · omega
         · omega
         · rw [World.size_alloc]; omega
         intro vb wb hlb hgb hob))
    have hnew := below_new w6 (.cells cn.toArray 26)
    have hst9 : Stays (fun _ => False) w6 (w6.alloc (.cells cn.toArray 26)) := Stays.of_below hnew (Nat.le_refl _) _
    have hSb := Stays.of_grown (S := fun k => Value.ownBlock _ = some k) hgb (fun k h => h)
    have HROW : Hid (RowO (TxO B) 26 4 B wb vb (b.ts.take (k + 1))) := Lib.hid (by
      rw [← take_snoc b.ts k t HX.out]
      exact RowO.app HCL.out (World.ownsRow.alloc HOWN.out _) (fun i y hy => by
        obtain ⟨cs', h6, h7, h8⟩ := HCSS.out i y hy
        exact ⟨cs', h6, txO_keeps B _ _ _ _ _ h7 hst9 (fun _ h => h.elim), h8⟩) (txO_keeps B) (by decide) (txO_keeps B _ _ _ _ _ HE6.out hst9 (fun _ h => h.elim)) HCN.out hlb hgb)
    have HBB : Hid (Below B w1 wb) := Lib.hid (((HBk.out.trans (HST6.out.mono hBwr)).trans (hnew.mono hBw6)).trans (hSb.below (by have := hnew.size; omega) fun k hk => (own_ge HOWN.out k hk).1))
    clear hnew hst9 hSb hlb hgb hob l5 hcp
    go_wp2_with fail
    go_roundw
    case rel => exact ⟨k + 1, by omega, by go_num, HBB, HROW⟩
    case measure => simp [intOf]; omega
end Go.Proofs.YthglocpbdfcfnaaDoor
