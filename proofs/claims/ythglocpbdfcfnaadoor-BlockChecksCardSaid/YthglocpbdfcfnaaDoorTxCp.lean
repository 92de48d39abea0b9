/- sporranref07.Copy: the walk. -/
import Derived.Test.YthglocpbdfcfnaaDoorTxRe
import Derived.Test.YthglocpbdfcfnaaDoorGD
import Derived.Test.YthglocpbdfcfnaaDoorTxJ
import Derived.Test.YthglocpbdfcfnaaDoorRowB
namespace Go.Proofs.YthglocpbdfcfnaaDoor
open Go Go.RowKit
set_option linter.unusedVariables false

theorem zTxC (w : World) : (zeroValue 26).run Tryd.prog w = .ok (.agg #[.int .u32 0, .slice none 0 0, .slice none 0 0, .int .u32 0]) w := zero_of (by kernel_rfl) w
/-- a transaction of the call's own -/
def CopyTx (w : World) (t : TTx) (e : Ending) (w' : World) : Prop := ∃ cs, e = .returned (.agg cs.toArray) ∧ TxO w.heap.size w' t cs ∧ Below w.heap.size w w'
theorem results_cell1C {fn : Func} {p : Tmp} {ty : TypeId} (h : fn.results = #[.cell p ty]) (tmps : Array Value) (P : Program) (w : World) (g : Nat) (t : TypeId) (cs : List Value) (d : TypeDesc)
    (hp : tmps.getD p undef = .pointer (some ⟨g, 0, none⟩)) (hg : Blk w g t cs.toArray) (hu : P.underlying ty = some d) (hd : d.isRow = true) (hi : (P.info? ty).map (·.size) = some cs.length) :
    (results fn tmps).run P w = .ok (.agg cs.toArray) w := by
  have hp' : tmps[p]?.getD undef = .pointer (some ⟨g, 0, none⟩) := by simpa using hp
  simp [results, h, hp', asAddr, run_loadVar_mid w g 0 ty cs d (blk_range hg) hu hd hi]
theorem in_put (id : Bs) (ix sq : BitVec 32) (a b s w : Value) (h : id.length = 32) :
    ((hCells id ++ [u32 ix, a, u32 sq, b]).toArray.setIfInBounds 33 s).setIfInBounds 35 w = (hCells id ++ [u32 ix, s, u32 sq, w]).toArray := by
  have hl : (hCells id).length = 32 := by simp [hCells, h]
  rw [List.setIfInBounds_toArray, List.setIfInBounds_toArray, List.set_append_right _ _ (by omega), List.set_append_right _ _ (by omega), hl]
  rfl
theorem take_snoc {α : Type} (xs : List α) (k : Nat) (x : α) (h : xs[k]? = some x) : xs.take k ++ [x] = xs.take (k + 1) := by rw [List.take_add_one, h]; rfl

set_option maxRecDepth 100000 in
set_option maxHeartbeats 32000000 in
theorem refTxCopy_any (t : TTx) (cs : List Value) (w : World) (hc : TxC w t cs) (hZ : TxSz t) :
    Calls Tryd.prog 10 #[.agg cs.toArray] w (CopyTx w t) := by
  have HC := Lib.hid hc
  obtain ⟨iv, ov, rfl, hi, ho⟩ := hc
  obtain ⟨pi, n, ci, rfl⟩ := hi.opens
  obtain ⟨po, no, co, rfl⟩ := ho.opens
  obtain ⟨hn, hnc, hcm⟩ := hi.slen
  obtain ⟨hno, hnoc, hcmo⟩ := ho.slen
  have HI := Lib.hid hi
  have HO := Lib.hid ho
  have HN := Lib.hid hn
  have HNO := Lib.hid hno
  obtain ⟨hI, hO, hW, hV⟩ := hZ
  have HWW := Lib.hid hW
  have HVV := Lib.hid hV
  have hn1 : n * 96 ≤ 140737488351232 := by unfold maxB at hI; omega
  have hno1 : no * 32 ≤ 140737488351232 := by unfold maxB at hO; omega
  obtain ⟨vv, hvv⟩ : ∃ v, v = u32 t.ve := ⟨_, rfl⟩
  obtain ⟨vl, hvl⟩ : ∃ v, v = u32 t.lo := ⟨_, rfl⟩
  rw [← hvv, ← hvl]
  have hvo : vv.oneCell' = true ∧ vl.oneCell' = true := by rw [hvv, hvl]; exact ⟨rfl, rfl⟩
  have HVO := Lib.hid hvo
  have HVE := Lib.hid hvv
  have HVL := Lib.hid hvl
  have hzt := zTxC
  have HB := Lib.hid ((Blk.new w 26 #[vv, .slice pi n ci, .slice po no co, vl]).alloc (.cells #[.int .u32 0, .slice none 0 0, .slice none 0 0, .int .u32 0] 26))
  have HZ := Lib.hid (Blk.new2 w (.cells #[vv, .slice pi n ci, .slice po no co, vl] 26) 26 #[.int .u32 0, .slice none 0 0, .slice none 0 0, .int .u32 0])
  have hbw : Below w.heap.size w ((w.alloc (.cells #[vv, .slice pi n ci, .slice po no co, vl] 26)).alloc (.cells #[.int .u32 0, .slice none 0 0, .slice none 0 0, .int .u32 0] 26)) := ((Below.refl _ _).alloc (Nat.le_refl _) _).alloc (by simp) _
  have hsz : ((w.alloc (.cells #[vv, .slice pi n ci, .slice po no co, vl] 26)).alloc (.cells #[.int .u32 0, .slice none 0 0, .slice none 0 0, .int .u32 0] 26)).heap.size = w.heap.size + 2 := by simp only [World.size_alloc]
  clear hi ho hn hno hvv hvl hvo hI hO hW hV
  go_enter Tryd.func10, Tryd.ntmps10
  go_upto_region 1 with fail
  generalize (w.alloc (.cells #[vv, .slice pi n ci, .slice po no co, vl] 26)).alloc (.cells #[.int .u32 0, .slice none 0 0, .slice none 0 0, .int .u32 0] 26) = w1 at *
  clear hzt
  obtain ⟨z2, hz2⟩ : ∃ z, z = w.heap.size + 1 := ⟨_, rfl⟩
  rw [← hz2] at HZ ⊢
  obtain ⟨z1, hz1⟩ : ∃ z, z = w.heap.size := ⟨_, rfl⟩
  rw [← hz1] at HB ⊢
  obtain ⟨B, hB⟩ : ∃ B, B = w1.heap.size := ⟨_, rfl⟩
  have HZZ : Hid (z1 = w.heap.size ∧ z2 = w.heap.size + 1 ∧ B = w.heap.size + 2 ∧ B = w1.heap.size) := Lib.hid (by omega)
  have HB01 := Lib.hid hbw
  clear hz1 hz2 hB hsz hbw
  have c1 : w1.cell? ⟨z1, 1, none⟩ = some (.slice pi n ci) := by rw [HB.out.cell]; rfl
  go_upto_region 3 with fail
  clear c1
  go_loopw [3, 15] (fun v i wr => ∃ k : Nat, k ≤ n ∧ i = .int .i64 k ∧ Hid (Below B w1 wr) ∧ Hid (RowO (InO B) 40 36 B wr v (t.is.take k))) (fun _ i _ => n - (intOf i).toNat)
  case atStart => exact ⟨0, by omega, rfl, Lib.hid (Below.refl _ _), Lib.hid (by rw [List.take_zero]; exact RowO.nil _ _ _ _ _)⟩
  case round =>
    obtain ⟨k, hk, rfl, HBk0, HRk⟩ := hrel
    by_cases hkn : k < n
    case neg =>
      obtain rfl : k = n := by omega
      have hge : ¬ (k : Int) < (k : Int) := by omega
      rw [List.take_of_length_le (by have := HN.out; omega)] at HRk
      have c2 : wr.cell? ⟨z1, 2, none⟩ = some (.slice po no co) := by rw [(HB.out.below HBk0.out (by have := HZZ.out; omega)).cell]; rfl
      obtain ⟨p3, n3, c3, rfl⟩ : ∃ p n c, _ = Value.slice p n c := by obtain ⟨css, _, h2, _⟩ := HRk.out; obtain ⟨p, c, e, _⟩ := ownsRow_open h2; exact ⟨_, _, _, e⟩
      go_upto_region 17 with fail
      clear c2 hge
      have HBn : Hid (Below B w1 wr) := HBk0
      have HRn := HRk
      clear HBk0 HRk
      generalize wr = w8 at *
      go_loopw [9, 48] (fun v i wr => ∃ j : Nat, j ≤ no ∧ i = .int .i64 j ∧ Hid (Below B w1 wr) ∧ Hid (RowO (InO B) 40 36 B wr (.slice p3 n3 c3) t.is) ∧ Hid (RowO (OutO B) 62 2 B wr v (t.os.take j))) (fun _ i _ => no - (intOf i).toNat)
      case atStart => exact ⟨0, by omega, rfl, HBn, HRn, Lib.hid (by rw [List.take_zero]; exact RowO.nil _ _ _ _ _)⟩
      case round =>
        clear HBn HRn
        obtain ⟨j, hj, rfl, HBk, HIk, HRk⟩ := hrel
        by_cases hjn : j < no
        case neg =>
          obtain rfl : j = no := by omega
          have hgej : ¬ (j : Int) < (j : Int) := by omega
          rw [List.take_of_length_le (by have := HNO.out; omega)] at HRk
          obtain ⟨p9, n9, c9, rfl⟩ : ∃ p n c, _ = Value.slice p n c := by obtain ⟨css, _, h2, _⟩ := HRk.out; obtain ⟨p, c, e, _⟩ := ownsRow_open h2; exact ⟨_, _, _, e⟩
          have hB1 := HB.out.below HBk.out (by have := HZZ.out; omega)
          have ca : wr.cell? ⟨z1, 1, none⟩ = some (.slice pi k ci) := by rw [hB1.cell]; rfl
          have fa := hB1.frozen 1
          have hB1a : Blk (wr.setCell ⟨z1, 1, none⟩ (.slice p3 n3 c3)) z1 26 #[vv, .slice p3 n3 c3, .slice po j co, vl] := hB1.set 1 _
          have cb : (wr.setCell ⟨z1, 1, none⟩ (.slice p3 n3 c3)).cell? ⟨z1, 2, none⟩ = some (.slice po j co) := by rw [hB1a.cell]; rfl
          have fb := hB1a.frozen 2
          have HB1A := Lib.hid hB1a
          clear hB1 hB1a
          go_upto_region 23 with fail
          clear ca fa cb fb hgej
          have hs1 := Stays.set wr z1 1 (.slice p3 n3 c3)
          have hs2 := Stays.set (wr.setCell ⟨z1, 1, none⟩ (.slice p3 n3 c3)) z1 2 (.slice p9 n9 c9)
          have hss : Stays (· = z1) wr ((wr.setCell ⟨z1, 1, none⟩ (.slice p3 n3 c3)).setCell ⟨z1, 2, none⟩ (.slice p9 n9 c9)) := hs1.trans hs2 fun _ _ h => h
          have hlow : ∀ q, q = z1 → q < B := fun q h => by have := HZZ.out; omega
          have HI9 := Lib.hid (HIk.out.sep (inO_keeps B) hss (Sep.low hlow))
          have HO9 := Lib.hid (HRk.out.sep (outO_keeps B) hss (Sep.low hlow))
          obtain ⟨ct, hct⟩ : ∃ ct : List Value, ct = [vv, .slice p3 n3 c3, .slice p9 n9 c9, vl] := ⟨_, rfl⟩
          have HX9 : Hid (Blk ((wr.setCell ⟨z1, 1, none⟩ (.slice p3 n3 c3)).setCell ⟨z1, 2, none⟩ (.slice p9 n9 c9)) z1 26 ct.toArray) := Lib.hid (by rw [hct]; exact HB1A.out.set 2 _)
          have HZ9 := Lib.hid ((HZ.out.below HBk.out (by have := HZZ.out; omega)).stays hss (by have := HZZ.out; omega))
          have HW9 : Hid (Below w.heap.size w ((wr.setCell ⟨z1, 1, none⟩ (.slice p3 n3 c3)).setCell ⟨z1, 2, none⟩ (.slice p9 n9 c9))) := Lib.hid ((HB01.out.trans (HBk.out.mono (by have := HZZ.out; omega))).trans (hss.below (by have := HBk.out.size; have := HZZ.out; omega) fun q h => by have : q = z1 := h; have := HZZ.out; omega))
          have HTL : Hid (ct.length = 4) := Lib.hid (by rw [hct]; rfl)
          have hto : ct.toArray.all (·.oneCell') = true := by
            rw [hct, List.all_toArray]
            simp only [List.all_cons, List.all_nil, HVO.out.1, HVO.out.2]
            rfl
          have HCT := Lib.hid hct
          clear hs1 hs2 hss hct HB1A HIk HRk HBk
          generalize (wr.setCell ⟨z1, 1, none⟩ (.slice p3 n3 c3)).setCell ⟨z1, 2, none⟩ (.slice p9 n9 c9) = w9 at *
          have l9 := blk_range HX9.out
          have hzs : (#[.int .u32 0, .slice none 0 0, .slice none 0 0, .int .u32 0] : Array Value).size = ct.toArray.size := by rw [List.size_toArray, List.size_toArray, HTL.out]; rfl
          go_wp2_with (first
            | (with_reducible refine wpList_load_mid (op := ⟨some 66, _, _, _, _, _⟩) ?_ 26 (.tmp 1) ?_ (z1) (0) ?_ (ct) _ (l9) Tryd.underlying26 ?_ ?_ ?_
               · rfl
               · rfl
               · rfl
               · rfl
               · exact ((info_Tx HTL.out)))
            | (with_reducible refine wp_store_blk (o := ⟨none, _, _, _, _, _⟩) ?_ 26 (.tmp 2) (.tmp 66) ?_ (z2) 26 (#[.int .u32 0, .slice none 0 0, .slice none 0 0, .int .u32 0]) (ct.toArray) ?_ ?_ (HZ9.out) ?_ ?_ ?_ (z2) (w9) ?_ ?_ ?_
               · rfl
               · rfl
               · rfl
               · rfl
               · exact (by rw [List.size_toArray]; exact info_Tx HTL.out)
               · exact (hzs)
               · exact (hto)
               · exact (Below.refl _ _)
               · exact (Nat.le_refl _)
               intro wf hBf hbf hgf hsf))
          refine bodyPost_ret (results_cell1C rfl _ _ _ z2 _ ct _ rfl hBf.out Tryd.underlying26 rfl (info_Tx HTL.out)) rfl ?_
          have hst := Stays.of_grown (S := fun k => k = z2) hgf.out (fun k h => by injection h with h; exact h.symm)
          have hlow2 : ∀ q, q = z2 → q < B := fun q h => by have := HZZ.out; omega
          have hwB : w.heap.size ≤ B := by have := HZZ.out; omega
          exact ⟨ct, rfl, ⟨.slice p3 n3 c3, .slice p9 n9 c9, by rw [HCT.out, HVE.out, HVL.out], (HI9.out.sep (inO_keeps B) hst (Sep.low hlow2)).mono (fun _ _ h => h.mono hwB) hwB, (HO9.out.sep (outO_keeps B) hst (Sep.low hlow2)).mono (fun _ _ h => h.mono hwB) hwB⟩, HW9.out.trans (hbf.mono (by have := HZZ.out; omega))⟩
        have hlt : (j : Int) < (no : Int) := by omega
        have hBwr : B ≤ wr.heap.size := by have := HBk.out.size; have := HZZ.out; omega
        obtain ⟨b, off, cs2, x, rfl, hx, hE, l2⟩ := HO.out.at (HB01.out.trans (HBk.out.mono (by have := HZZ.out; omega))) hjn
        have H3 := Lib.hid hE.len
        have H1 := Lib.hid hE.one
        obtain ⟨sv, hcs2, hsv⟩ := hE
        obtain ⟨ps, ns, cs', rfl⟩ := hsv.opens
        obtain ⟨hns, hnsc, hcsm⟩ := hsv.slen
        obtain ⟨va, hva⟩ : ∃ v, v = Value.int .i64 x.va.toInt := ⟨_, rfl⟩
        rw [← hva] at hcs2
        have HVA := Lib.hid hva
        have HX := Lib.hid hx
        have HSV := Lib.hid hsv
        have HCS2 := Lib.hid hcs2
        have HNS := Lib.hid hns
        have HSB : Hid (ns ≤ 140737488355328) := Lib.hid (by have := HVV.out x (List.mem_of_getElem? hx); unfold OutZ maxB at this; omega)
        have K1 : Hid (cs2[1]? = some (.slice ps ns cs')) := Lib.hid (by rw [hcs2]; rfl)
        obtain ⟨Z, hZl, hz⟩ := zeroOut
        have HZi := Lib.hid hZl
        have hbr := below_new wr (.cells Z 62)
        obtain ⟨p9, n9, c9, rfl⟩ : ∃ p n c, _ = Value.slice p n c := by obtain ⟨css, _, h2, _⟩ := HRk.out; obtain ⟨p, c, e, _⟩ := ownsRow_open h2; exact ⟨_, _, _, e⟩
        clear hx hsv hcs2 hns hZl hva
        go_upto_region 19 with (first
          | (with_reducible refine wpList_load_mid (op := ⟨some 51, _, _, _, _, _⟩) ?_ 62 (.tmp 50) ?_ (b) (off + j * 2) ?_ (cs2) _ (l2) Tryd.underlying62 ?_ ?_ ?_
             · rfl
             · rfl
             · rfl
             · rfl
             · exact ((info_Outs H3.out)))
          | (with_reducible refine wp_store_blk (o := ⟨none, _, _, _, _, _⟩) ?_ 62 (.tmp 11) (.tmp 51) ?_ (wr.heap.size) 62 (Z) (cs2.toArray) ?_ ?_ (Blk.new wr _ _) ?_ ?_ ?_ (wr.heap.size) (wr) ?_ ?_ ?_
             · rfl
             · rfl
             · rfl
             · rfl
             · exact (by rw [List.size_toArray]; exact info_Outs H3.out)
             · exact (HZi.out.trans (by rw [List.size_toArray]; exact H3.out.symm))
             · exact (H1.out)
             · exact (hbr)
             · exact (Nat.le_refl _)
             intro w5 hB5 hb5 hg5 hs5))
        try simp only [put_none]
        obtain ⟨g5, hg5'⟩ : ∃ g, g = wr.heap.size := ⟨_, rfl⟩
        have HF5 := Lib.hid hB5.out
        rw [← hg5'] at HF5 ⊢
        have HG5 := Lib.hid hg5'
        have HB5k : Hid (Below wr.heap.size wr w5) := Lib.hid hb5
        have hc1 : (w5.alloc (.cells #[] 5)).cell? ⟨g5, 1, none⟩ = some (.slice ps ns cs') := by rw [(HF5.out.alloc _).cell, List.getElem?_toArray]; exact K1.out
        have HLIT := Lib.hid (own_lit0 w5 w5.heap.size (Nat.le_refl _))
        have HB5 : Hid (w5.heap.size ≤ (w5.alloc (.cells #[] 5)).heap.size) := Lib.hid (by rw [World.size_alloc]; omega)
        have HSR : Hid (Row8 (w5.alloc (.cells #[] 5)) ps x.sc) := Lib.hid ((HSV.out.below ((HB01.out.trans (HBk.out.mono (by have := HZZ.out; omega))).trans ((below_fut HB5k.out (below_new w5 _) (Nat.le_refl _)).mono (by have := HZZ.out; omega))) (Nat.le_refl _)).r8)
        clear hb5 hg5 hs5 hB5 l2 hbr hz hg5'
        go_upto_region 20 with (first
          | (with_reducible refine wp_append8 (o := ⟨some 55, _, _, _, _, _⟩) ?_ (.tmp 52) (.tmp 54) ?_ (w5.heap.size) _ [] ?_ (HLIT.out) (ps) (ns) (cs') (x.sc) ?_ (HNS.out) (HSR.out) ?_ (HB5.out) (w5.heap.size) _ (Below.refl _ _) ?_ ?_
             · rfl
             · rfl
             · rfl
             · rfl
             · simp only [List.length_nil]; have := HNS.out; have := HSB.out; omega
             · exact Nat.le_refl _
             intro v6 w6 ho6 _ hg6 hj6
             have hG6 : Blk w6 g5 62 cs2.toArray := (HF5.out.alloc _).stays (Stays.of_grown (S := fun k => k = w5.heap.size) hg6 fun k h => by injection h with h; exact h.symm) (by have := HF5.out.lt; omega)
             have f1 := hG6.frozen 1
             have c1n : w6.cell? ⟨g5, 1, none⟩ = some (.slice ps ns cs') := by rw [hG6.cell, List.getElem?_toArray]; exact K1.out
             have HG6 := Lib.hid hG6
             clear hG6
             obtain ⟨q6, m6, d6, rfl⟩ : ∃ q m d, v6 = .slice q m d := by obtain ⟨q, m, d, e, _⟩ := Own8.open ho6; exact ⟨_, _, _, e⟩))
        rw [List.nil_append] at ho6
        have hset := Stays.set w6 g5 1 (.slice q6 m6 d6)
        have HS7 : Hid (Own8 (w6.setCell ⟨g5, 1, none⟩ (.slice q6 m6 d6)) wr.heap.size (.slice q6 m6 d6) x.sc) := Lib.hid (ownsRow_mono (Own8.sep ho6 hset (sep_one HG6.out (by decide))) HB5k.out.size)
        obtain ⟨cn, hcn⟩ : ∃ cn : List Value, cn = [va, .slice q6 m6 d6] := ⟨_, rfl⟩
        have HF7 : Hid (Blk (w6.setCell ⟨g5, 1, none⟩ (.slice q6 m6 d6)) g5 62 cn.toArray) := Lib.hid (by
          have := HG6.out.set 1 (.slice q6 m6 d6)
          rw [HCS2.out] at this
          rw [hcn]
          exact this)
        have HST7 : Hid (Below wr.heap.size wr (w6.setCell ⟨g5, 1, none⟩ (.slice q6 m6 d6))) := Lib.hid (((below_fut HB5k.out (below_new w5 _) (Nat.le_refl _)).trans ((Stays.of_grown (S := fun k => k = w5.heap.size) hg6 fun k h => by injection h with h; exact h.symm).below (by have := HB5k.out.size; rw [World.size_alloc]; omega) fun k hk => by have := HB5k.out.size; omega)).trans (hset.below (by have := HB5k.out.size; have := hg6.size; rw [World.size_alloc] at this; omega) fun k hk => by have : k = g5 := hk; have := HG5.out; omega))
        have HE7 : Hid (OutO wr.heap.size (w6.setCell ⟨g5, 1, none⟩ (.slice q6 m6 d6)) x cn) := Lib.hid ⟨_, by rw [hcn, HVA.out], HS7.out⟩
        have HCN : Hid (cn.length = 2) := Lib.hid (by rw [hcn]; rfl)
        have HON : Hid (cn.toArray.all (·.oneCell') = true) := Lib.hid (by rw [hcn, HVA.out, List.all_toArray]; rfl)
        clear hset ho6 hg6 hj6 c1n f1 hc1 HLIT HSR HB5 HF5 HG6 HS7 hcn
        generalize w6.setCell ⟨g5, 1, none⟩ (.slice q6 m6 d6) = w7 at *
        have hstk : Stays (fun _ => False) wr w7 := Stays.of_below HST7.out (Nat.le_refl _) _
        have HI7 := Lib.hid (HIk.out.sep (inO_keeps B) hstk (fun _ h => h.elim))
        obtain ⟨css, hcl, hown, hcs⟩ := HRk.out.sep (outO_keeps B) hstk (fun _ h => h.elim)
        have HOWN := Lib.hid hown
        have HCS := Lib.hid hcs
        have HCL := Lib.hid hcl
        have hxk : (t.os.take j).length = j := by rw [List.length_take]; have := HNO.out; omega
        have hBw7 : B ≤ w7.heap.size := by have := HST7.out.size; omega
        have l7 := blk_range HF7.out
        clear hown hcs hcl hstk
        go_upto_region 21 with (first
          | (with_reducible refine wpList_load_mid (op := ⟨some 58, _, _, _, _, _⟩) ?_ 62 (.tmp 11) ?_ (g5) (0) ?_ (cn) _ (l7) Tryd.underlying62 ?_ ?_ ?_
             · rfl
             · rfl
             · rfl
             · rfl
             · exact ((info_Outs HCN.out)))
          | (with_reducible refine wp_lit (o := ⟨some 59, _, _, _, _, _⟩) ?_ 24 62 1 #[(0, .tmp 58)] ?_ [.agg cn.toArray] ?_ 2 32 _ Tryd.underlying24 out_info ?_ ?_ ?_ ?_ ?_ ?_
             · rfl
             · rfl
             · rfl
             · omega
             · exact (fun v hv => by rw [List.mem_singleton.1 hv]; show cn.toArray.size = 2; rw [List.size_toArray]; exact HCN.out)
             · rfl
             · omega
             · omega
             simp only [List.flatMap_cons, List.flatMap_nil, List.append_nil, Value.cells])
          | (with_reducible refine wp_rowappB (o := ⟨some 60, _, _, _, _, _⟩) ?_ (.tmp 57) (.tmp 59) 24 62 ?_ _ 2 32 Tryd.underlying24 out_info ?_ ?_ (B) _ ((t.os.take j).length) css.flatten ?_ (World.ownsRow.alloc HOWN.out _) w7.heap.size 1 1 (cn) ?_ (Blk.new w7 _ _) ?_ ?_ ?_ ?_ ?_ ?_
             · rfl
             · rfl
             · rfl
             · omega
             · rfl
             · rfl
             · first | rfl | exact HCN.out
             · exact one_all HON.out
             · omega
             · omega
             · rw [World.size_alloc]; omega
             intro vb wb hlb hgb hob))
        have hnew := below_new w7 (.cells cn.toArray 62)
        have hst9 : Stays (fun _ => False) w7 (w7.alloc (.cells cn.toArray 62)) := Stays.of_below hnew (Nat.le_refl _) _
        have hSb := Stays.of_grown (S := fun k => Value.ownBlock _ = some k) hgb (fun k h => h)
        have hE7 : OutO B w7 x cn := HE7.out.mono hBwr
        have HROW : Hid (RowO (OutO B) 62 2 B wb vb (t.os.take (j + 1))) := Lib.hid (by
          rw [← take_snoc t.os j x HX.out]
          exact RowO.app HCL.out (World.ownsRow.alloc HOWN.out _) (fun i y hy => by
            obtain ⟨cs', h6, h7, h8⟩ := HCS.out i y hy
            exact ⟨cs', h6, outO_keeps B _ _ _ _ _ h7 hst9 (fun _ h => h.elim), h8⟩) (outO_keeps B) (by decide) (outO_keeps B _ _ _ _ _ hE7 hst9 (fun _ h => h.elim)) HCN.out hlb hgb)
        have HIb := Lib.hid ((HI7.out.sep (inO_keeps B) hst9 (fun _ h => h.elim)).sep (inO_keeps B) hSb (own_sep (World.ownsRow.alloc HOWN.out _) (by decide)))
        have HBB : Hid (Below B w1 wb) := Lib.hid (((HBk.out.trans (HST7.out.mono hBwr)).trans (hnew.mono hBw7)).trans (hSb.below (by have := hnew.size; omega) fun k hk => (own_ge HOWN.out k hk).1))
        clear hnew hst9 hSb hE7 hlb hgb hob l7
        go_wp2_with fail
        go_roundw
        case rel => exact ⟨j + 1, by omega, by go_num, HBB, HIb, HROW⟩
        case measure => simp [intOf]; omega
    have hlt : (k : Int) < (n : Int) := by omega
    have hBwr : B ≤ wr.heap.size := by have := HBk0.out.size; have := HZZ.out; omega
    obtain ⟨b, off, cs2, x, rfl, hx, hE, l2⟩ := HI.out.at (HB01.out.trans (HBk0.out.mono (by have := HZZ.out; omega))) hkn
    obtain ⟨sv, wv, hcs2, hid, hsv, hwv⟩ := id hE
    obtain ⟨ps, ns, cs', rfl⟩ := hsv.opens
    obtain ⟨pw, nw, cw, rfl⟩ := hwv.opens
    obtain ⟨hns, hnsc, hcsm⟩ := hsv.slen
    obtain ⟨hnw, hnwc, hcwm⟩ := hwv.slen
    have hmem := List.mem_of_getElem? hx
    have HX := Lib.hid hx
    have HSV := Lib.hid hsv
    have HWV := Lib.hid hwv
    have HCS2 := Lib.hid hcs2
    have HID := Lib.hid hid
    have HNS := Lib.hid hns
    have HNW := Lib.hid hnw
    have hxb := HWW.out x hmem
    unfold InZ maxB at hxb
    have HSB : Hid (ns ≤ 140737488355328) := Lib.hid (by have := hxb.1; omega)
    have HXW := Lib.hid hxb.2.2
    have hnwb : nw * 24 ≤ 140737488351232 := by have := hxb.2.1; omega
    have K33 : Hid (cs2[33]? = some (.slice ps ns cs')) := Lib.hid (by
      have hl : (hCells x.id).length = 32 := by simp [hCells, hid]
      rw [hcs2, List.getElem?_append_right (by omega), hl]; rfl)
    have K35 : Hid (cs2[35]? = some (.slice pw nw cw)) := Lib.hid (by
      have hl : (hCells x.id).length = 32 := by simp [hCells, hid]
      rw [hcs2, List.getElem?_append_right (by omega), hl]; rfl)
    have H3 := Lib.hid hE.len
    have H1 := Lib.hid hE.one
    obtain ⟨Z, hZl, hz⟩ := zeroIn
    have HZi := Lib.hid hZl
    have hbr := below_new wr (.cells Z 40)
    obtain ⟨p3, n3, c3, rfl⟩ : ∃ p n c, _ = Value.slice p n c := by obtain ⟨css, _, h2, _⟩ := HRk.out; obtain ⟨p, c, e, _⟩ := ownsRow_open h2; exact ⟨_, _, _, e⟩
    clear hx hE hsv hwv hcs2 hid hns hnw hmem hxb hZl
    go_upto_region 5 with (first
      | (with_reducible refine wpList_load_mid (op := ⟨some 18, _, _, _, _, _⟩) ?_ 40 (.tmp 17) ?_ (b) (off + k * 36) ?_ (cs2) _ (l2) Tryd.underlying40 ?_ ?_ ?_
         · rfl
         · rfl
         · rfl
         · rfl
         · exact ((info_Ins H3.out)))
      | (with_reducible refine wp_store_blk (o := ⟨none, _, _, _, _, _⟩) ?_ 40 (.tmp 5) (.tmp 18) ?_ (wr.heap.size) 40 (Z) (cs2.toArray) ?_ ?_ (Blk.new wr _ _) ?_ ?_ ?_ (wr.heap.size) (wr) ?_ ?_ ?_
         · rfl
         · rfl
         · rfl
         · rfl
         · exact (by rw [List.size_toArray]; exact info_Ins H3.out)
         · exact (HZi.out.trans (by rw [List.size_toArray]; exact H3.out.symm))
         · exact (H1.out)
         · exact (hbr)
         · exact (Nat.le_refl _)
         intro w5 hB5 hb5 hg5 hs5))
    try simp only [put_none]
    obtain ⟨g5, hg5'⟩ : ∃ g, g = wr.heap.size := ⟨_, rfl⟩
    have HF5 := Lib.hid hB5.out
    rw [← hg5'] at HF5 ⊢
    have HG5 := Lib.hid hg5'
    have HBk : Hid (Below wr.heap.size wr w5) := Lib.hid hb5
    have hc33 : (w5.alloc (.cells #[] 5)).cell? ⟨g5, 33, none⟩ = some (.slice ps ns cs') := by rw [(HF5.out.alloc _).cell, List.getElem?_toArray]; exact K33.out
    have HLIT := Lib.hid (own_lit0 w5 w5.heap.size (Nat.le_refl _))
    have HB5 : Hid (w5.heap.size ≤ (w5.alloc (.cells #[] 5)).heap.size) := Lib.hid (by rw [World.size_alloc]; omega)
    have HSR : Hid (Row8 (w5.alloc (.cells #[] 5)) ps x.sc) := Lib.hid ((HSV.out.below ((HB01.out.trans (HBk0.out.mono (by have := HZZ.out; omega))).trans ((below_fut HBk.out (below_new w5 _) (Nat.le_refl _)).mono (by have := HZZ.out; omega))) (Nat.le_refl _)).r8)
    clear hb5 hg5 hs5 hB5 l2 hbr hz hg5'
    go_upto_region 6 with (first
      | (with_reducible refine wp_append8 (o := ⟨some 22, _, _, _, _, _⟩) ?_ (.tmp 19) (.tmp 21) ?_ (w5.heap.size) _ [] ?_ (HLIT.out) (ps) (ns) (cs') (x.sc) ?_ (HNS.out) (HSR.out) ?_ (HB5.out) (w5.heap.size) _ (Below.refl _ _) ?_ ?_
         · rfl
         · rfl
         · rfl
         · rfl
         · simp only [List.length_nil]; have := HNS.out; have := HSB.out; omega
         · exact Nat.le_refl _
         intro v6 w6 ho6 _ hg6 hj6
         have hG6 : Blk w6 g5 40 cs2.toArray := (HF5.out.alloc _).stays (Stays.of_grown (S := fun k => k = w5.heap.size) hg6 fun k h => by injection h with h; exact h.symm) (by have := HF5.out.lt; omega)
         have f33 := hG6.frozen 33
         have c33n : w6.cell? ⟨g5, 33, none⟩ = some (.slice ps ns cs') := by rw [hG6.cell, List.getElem?_toArray]; exact K33.out
         have HG6 := Lib.hid hG6
         clear hG6
         obtain ⟨q6, m6, d6, rfl⟩ : ∃ q m d, v6 = .slice q m d := by obtain ⟨q, m, d, e, _⟩ := Own8.open ho6; exact ⟨_, _, _, e⟩))
    rw [List.nil_append] at ho6
    have hset := Stays.set w6 g5 33 (.slice q6 m6 d6)
    have HS7 : Hid (Own8 (w6.setCell ⟨g5, 33, none⟩ (.slice q6 m6 d6)) wr.heap.size (.slice q6 m6 d6) x.sc) := Lib.hid (ownsRow_mono (Own8.sep ho6 hset (sep_one HG6.out (by decide))) HBk.out.size)
    obtain ⟨cur, hcur⟩ : ∃ cur : Array Value, cur = cs2.toArray.setIfInBounds 33 (.slice q6 m6 d6) := ⟨_, rfl⟩
    have HF7 : Hid (Blk (w6.setCell ⟨g5, 33, none⟩ (.slice q6 m6 d6)) g5 40 cur) := Lib.hid (by rw [hcur]; exact HG6.out.set 33 _)
    have K35c : Hid (cur[35]? = some (.slice pw nw cw)) := Lib.hid (by rw [hcur, Array.getElem?_setIfInBounds_ne (by decide), List.getElem?_toArray]; exact K35.out)
    have HST7 : Hid (Below wr.heap.size wr (w6.setCell ⟨g5, 33, none⟩ (.slice q6 m6 d6))) := Lib.hid (((below_fut HBk.out (below_new w5 _) (Nat.le_refl _)).trans ((Stays.of_grown (S := fun k => k = w5.heap.size) hg6 fun k h => by injection h with h; exact h.symm).below (by have := HBk.out.size; rw [World.size_alloc]; omega) fun k hk => by have := HBk.out.size; omega)).trans (hset.below (by have := HBk.out.size; have := hg6.size; rw [World.size_alloc] at this; omega) fun k hk => by have : k = g5 := hk; have := HG5.out; omega))
    have HCUR := Lib.hid hcur
    clear hset ho6 hg6 hj6 c33n f33 hc33 HLIT HSR HB5 HF5 HG6 hcur
    generalize w6.setCell ⟨g5, 33, none⟩ (.slice q6 m6 d6) = w7 at *
    have hc35 : w7.cell? ⟨g5, 35, none⟩ = some (.slice pw nw cw) := by rw [HF7.out.cell]; exact K35c.out
    go_upto_region 8 with fail
    clear hc35 HBk
    generalize wr = wk at *
    go_loopw [6, 27] (fun v i wr => ∃ i' : Nat, i' ≤ nw ∧ i = .int .i64 i' ∧ Hid (Below wk.heap.size wk wr) ∧ Hid (Blk wr g5 40 cur) ∧ Hid (Own8 wr wk.heap.size (.slice q6 m6 d6) x.sc) ∧ Hid (RowO (TextO wk.heap.size) 38 1 wk.heap.size wr v (x.wi.take i'))) (fun _ i _ => nw - (intOf i).toNat)
    case atStart => exact ⟨0, by omega, rfl, HST7, HF7, HS7, Lib.hid (by rw [List.take_zero]; exact RowO.nil _ _ _ _ _)⟩
    case round =>
      clear HST7 HF7 HS7
      obtain ⟨i, hi', rfl, HBi, HFi, HSi, HRi⟩ := hrel
      have hBw : Below w.heap.size w wr := (HB01.out.trans (HBk0.out.mono (by have := HZZ.out; omega))).trans (HBi.out.mono (by have := HZZ.out; omega))
      have HBW := Lib.hid hBw
      clear hBw
      by_cases hin : i < nw
      case neg =>
        obtain rfl : i = nw := by omega
        have hgei : ¬ (i : Int) < (i : Int) := by omega
        rw [List.take_of_length_le (by have := HNW.out; omega)] at HRi
        obtain ⟨p6, n6, c6, rfl⟩ : ∃ p n c, _ = Value.slice p n c := by obtain ⟨css, _, h2, _⟩ := HRi.out; obtain ⟨p, c, e, _⟩ := ownsRow_open h2; exact ⟨_, _, _, e⟩
        have hc35 : wr.cell? ⟨g5, 35, none⟩ = some (.slice pw i cw) := by rw [HFi.out.cell]; exact K35c.out
        have hf35 := HFi.out.frozen 35
        go_upto_region 13 with fail
        clear hc35 hf35 hgei
        have hset := Stays.set wr g5 35 (.slice p6 n6 c6)
        obtain ⟨cn, hcn⟩ : ∃ cn : List Value, cn = hCells x.id ++ [Go.Proofs.YthglocpbdfcfnaaDoor.u32 x.ix, .slice q6 m6 d6, Go.Proofs.YthglocpbdfcfnaaDoor.u32 x.sq, .slice p6 n6 c6] := ⟨_, rfl⟩
        have hcn2 : cn.toArray = cur.setIfInBounds 35 (.slice p6 n6 c6) := by
          rw [hcn, HCUR.out, HCS2.out]
          exact (in_put x.id x.ix x.sq _ _ _ _ HID.out).symm
        have HF9 : Hid (Blk (wr.setCell ⟨g5, 35, none⟩ (.slice p6 n6 c6)) g5 40 cn.toArray) := Lib.hid (by rw [hcn2]; exact HFi.out.set 35 _)
        have HE9 : Hid (InO wk.heap.size (wr.setCell ⟨g5, 35, none⟩ (.slice p6 n6 c6)) x cn) := Lib.hid ⟨_, _, hcn, HID.out, Own8.sep HSi.out hset (sep_one HFi.out (by decide)), HRi.out.sep (textO_keeps _) hset (sep_one HFi.out (by decide))⟩
        have HST9 : Hid (Below wk.heap.size wk (wr.setCell ⟨g5, 35, none⟩ (.slice p6 n6 c6))) := Lib.hid (HBi.out.trans (hset.below HBi.out.size fun k hk => by have : k = g5 := hk; have := HG5.out; omega))
        have HCN := Lib.hid HE9.out.len
        have HON := Lib.hid HE9.out.one
        clear hset hcn hcn2 HFi HSi HRi HBi HBW
        generalize wr.setCell ⟨g5, 35, none⟩ (.slice p6 n6 c6) = w9 at *
        have hstk : Stays (fun _ => False) wk w9 := Stays.of_below HST9.out (Nat.le_refl _) _
        obtain ⟨css, hcl, hown, hcs⟩ := HRk.out.sep (inO_keeps B) hstk (fun _ h => h.elim)
        have HOWN := Lib.hid hown
        have HCS := Lib.hid hcs
        have HCL := Lib.hid hcl
        have hxk : (t.is.take k).length = k := by rw [List.length_take]; have := HN.out; omega
        have hBw9 : B ≤ w9.heap.size := by have := HST9.out.size; omega
        have l9 := blk_range HF9.out
        clear hown hcs hcl hstk
        go_upto_region 14 with (first
          | (with_reducible refine wpList_load_mid (op := ⟨some 41, _, _, _, _, _⟩) ?_ 40 (.tmp 5) ?_ (g5) (0) ?_ (cn) _ (l9) Tryd.underlying40 ?_ ?_ ?_
             · rfl
             · rfl
             · rfl
             · rfl
             · exact ((info_Ins HCN.out)))
          | (with_reducible refine wp_lit (o := ⟨some 42, _, _, _, _, _⟩) ?_ 23 40 1 #[(0, .tmp 41)] ?_ [.agg cn.toArray] ?_ 36 96 _ Tryd.underlying23 in_info ?_ ?_ ?_ ?_ ?_ ?_
             · rfl
             · rfl
             · rfl
             · omega
             · exact (fun v hv => by rw [List.mem_singleton.1 hv]; show cn.toArray.size = 36; rw [List.size_toArray]; exact HCN.out)
             · rfl
             · omega
             · omega
             simp only [List.flatMap_cons, List.flatMap_nil, List.append_nil, Value.cells])
          | (with_reducible refine wp_rowappB (o := ⟨some 43, _, _, _, _, _⟩) ?_ (.tmp 40) (.tmp 42) 23 40 ?_ _ 36 96 Tryd.underlying23 in_info ?_ ?_ (B) _ ((t.is.take k).length) css.flatten ?_ (World.ownsRow.alloc HOWN.out _) w9.heap.size 1 1 (cn) ?_ (Blk.new w9 _ _) ?_ ?_ ?_ ?_ ?_ ?_
             · rfl
             · rfl
             · rfl
             · omega
             · rfl
             · rfl
             · first | rfl | exact HCN.out
             · exact one_all HON.out
             · omega
             · omega
             · rw [World.size_alloc]; omega
             intro vb wb hlb hgb hob))
        have hnew := below_new w9 (.cells cn.toArray 40)
        have hst9 : Stays (fun _ => False) w9 (w9.alloc (.cells cn.toArray 40)) := Stays.of_below hnew (Nat.le_refl _) _
        have hE9 : InO B w9 x cn := HE9.out.mono hBwr
        have HROW : Hid (RowO (InO B) 40 36 B wb vb (t.is.take (k + 1))) := Lib.hid (by
          rw [← take_snoc t.is k x HX.out]
          exact RowO.app HCL.out (World.ownsRow.alloc HOWN.out _) (fun i y hy => by
            obtain ⟨cs', h6, h7, h8⟩ := HCS.out i y hy
            exact ⟨cs', h6, inO_keeps B _ _ _ _ _ h7 hst9 (fun _ h => h.elim), h8⟩) (inO_keeps B) (by decide) (inO_keeps B _ _ _ _ _ hE9 hst9 (fun _ h => h.elim)) HCN.out hlb hgb)
        have HBB : Hid (Below B w1 wb) := Lib.hid (((HBk0.out.trans (HST9.out.mono hBwr)).trans (hnew.mono hBw9)).trans ((Stays.of_grown (S := fun k => Value.ownBlock _ = some k) hgb (fun k h => h)).below (by have := hnew.size; omega) fun k hk => (own_ge HOWN.out k hk).1))
        clear hnew hst9 hE9 hlb hgb hob l9
        go_wp2_with fail
        go_roundw
        case rel => exact ⟨k + 1, by omega, by go_num, HBB, HROW⟩
        case measure => simp [intOf]; omega
      have hlti : (i : Int) < (nw : Int) := by omega
      obtain ⟨b2, off2, cs3, y, rfl, hy, ⟨vy, rfl, hsy⟩, l3⟩ := HWV.out.at HBW.out hin
      obtain ⟨py, ny, cy, rfl⟩ := hsy.opens
      obtain ⟨hny, hnyc, hcym⟩ := hsy.slen
      have cy1 : wr.cell? ⟨b2, off2 + i, none⟩ = some (.slice py ny cy) := by
        have := l3 0 _ rfl
        rwa [Nat.mul_one, Nat.add_zero] at this
      have HY := Lib.hid hy
      have HNY := Lib.hid hny
      have HYB : Hid (ny ≤ 140737488355328) := Lib.hid (by have := HXW.out y (List.mem_of_getElem? hy); omega)
      have HYR : Hid (Row8 (wr.alloc (.cells #[] 5)) py y) := Lib.hid ((hsy.below (below_fut HBW.out (below_new wr _) (Nat.le_refl _)) (Nat.le_refl _)).r8)
      have HLIT2 := Lib.hid (own_lit0 wr wr.heap.size (Nat.le_refl _))
      have HB10 : Hid (wr.heap.size ≤ (wr.alloc (.cells #[] 5)).heap.size) := Lib.hid (by rw [World.size_alloc]; omega)
      obtain ⟨p6, n6, c6, rfl⟩ : ∃ p n c, _ = Value.slice p n c := by obtain ⟨css, _, h2, _⟩ := HRi.out; obtain ⟨p, c, e, _⟩ := ownsRow_open h2; exact ⟨_, _, _, e⟩
      clear hy hsy l3 hny
      go_upto_region 10 with fail
      clear cy1
      go_upto_region 11 with (first
        | (with_reducible refine wp_append8 (o := ⟨some 34, _, _, _, _, _⟩) ?_ (.tmp 32) (.tmp 33) ?_ (wr.heap.size) _ [] ?_ (HLIT2.out) (py) (ny) (cy) (y) ?_ (HNY.out) (HYR.out) ?_ (HB10.out) (wr.heap.size) _ (Below.refl _ _) ?_ ?_
           · rfl
           · rfl
           · rfl
           · rfl
           · simp only [List.length_nil]; have := HNY.out; have := HYB.out; omega
           · exact Nat.le_refl _
           intro va wa hoa _ hga hja
           rw [List.nil_append] at hoa
           have hsta : Stays (fun _ => False) wr wa := ((Stays.of_below (below_new wr _) (Nat.le_refl _) (fun _ => False)).trans (Stays.of_grown (S := fun k => k = wr.heap.size) hga fun k h => by injection h with h; exact h.symm) fun q hq h => by have : q = wr.heap.size := h; omega)
           have HRa := HRi.out.sep (textO_keeps _) hsta (fun _ h => h.elim)
           obtain ⟨css, hcl, hown, hcs⟩ := HRa
           have HSTA := Lib.hid hsta
           have HOWN := Lib.hid hown
           have HCS := Lib.hid hcs
           have HCL := Lib.hid hcl
           have HOA : Hid (Own8 wa wr.heap.size va y) := Lib.hid hoa
           have hxa : (x.wi.take i).length = i := by rw [List.length_take]; have := HNW.out; omega
           have hB2a : wk.heap.size ≤ wa.heap.size := by have := HBi.out.size; have := hsta.size; omega
           clear hoa hga hja hsta hown hcs hcl
           obtain ⟨qa, ma, da, rfl⟩ : ∃ q m d, va = .slice q m d := by obtain ⟨q, m, d, e, _⟩ := Own8.open HOA.out; exact ⟨_, _, _, e⟩)
        | (with_reducible refine wp_rowappB (o := ⟨some 36, _, _, _, _, _⟩) ?_ (.tmp 31) (.tmp 35) 27 38 ?_ _ 1 24 Tryd.underlying27 txt_info ?_ ?_ (wk.heap.size) _ ((x.wi.take i).length) css.flatten ?_ (World.ownsRow.alloc HOWN.out _) wa.heap.size 1 1 ([.slice qa ma da]) ?_ (Blk.new wa _ _) ?_ ?_ ?_ ?_ ?_ ?_
           · rfl
           · rfl
           · rfl
           · omega
           · rfl
           · rfl
           · first | rfl | exact HCN.out
           · exact (fun u hu => by rw [List.mem_singleton.1 hu]; rfl)
           · omega
           · omega
           · rw [World.size_alloc]; omega
           intro vb wb hlb hgb hob))
      have hnew := below_new wa (.cells #[.slice qa ma da] 38)
      have hst9 : Stays (fun _ => False) wa (wa.alloc (.cells #[.slice qa ma da] 38)) := Stays.of_below hnew (Nat.le_refl _) _
      have hEa : TextO wk.heap.size wa y [.slice qa ma da] := ⟨_, rfl, ownsRow_mono HOA.out HBi.out.size⟩
      have hst8 := HSTA.out.trans hst9 (fun _ _ h => h)
      have hSb := Stays.of_grown (S := fun k => Value.ownBlock _ = some k) hgb (fun k h => h)
      have HROW : Hid (RowO (TextO wk.heap.size) 38 1 wk.heap.size wb vb (x.wi.take (i + 1))) := Lib.hid (by
        rw [← take_snoc x.wi i y HY.out]
        exact RowO.app HCL.out (World.ownsRow.alloc HOWN.out _) (fun i y hy => by
          obtain ⟨cs', h6, h7, h8⟩ := HCS.out i y hy
          exact ⟨cs', h6, textO_keeps _ _ _ _ _ _ h7 hst9 (fun _ h => h.elim), h8⟩) (textO_keeps _) (by decide) (textO_keeps _ _ _ _ _ _ hEa hst9 (fun _ h => h.elim)) rfl hlb hgb)
      have hg5n : ¬ (Value.slice p6 n6 c6).ownBlock = some g5 := fun h => by
        rcases HOWN.out.2 with ⟨e', _⟩ | ⟨b', _, cur', e', _, hh, _⟩
        · rw [e'] at h; cases h
        · rw [e'] at h
          injection h with h
          have h' : b' = g5 := h
          rw [h'] at hh
          exact absurd (Blk.inj (HFi.out.stays HSTA.out (fun h => h)) (show Blk wa g5 38 cur' from hh)).1 (by decide)
      have HFb := Lib.hid ((HFi.out.stays hst8 (fun h => h)).stays hSb hg5n)
      have HSb := Lib.hid ((Own8.sep HSi.out hst8 (fun _ h => h.elim)).sep hSb (own_sep (World.ownsRow.alloc HOWN.out _) (by decide)))
      have HBb : Hid (Below wk.heap.size wk wb) := Lib.hid ((HBi.out.trans (hst8.below HBi.out.size fun _ h => h.elim)).trans (hSb.below (by have := hnew.size; omega) fun k hk => (own_ge HOWN.out k hk).1))
      clear hnew hst9 hEa hst8 hSb hlb hgb hob hg5n
      go_wp2_with fail
      go_roundw
      case rel => exact ⟨i + 1, by omega, by go_num, HBb, HFb, HSb, HROW⟩
      case measure => simp [intOf]; omega
end Go.Proofs.YthglocpbdfcfnaaDoor
