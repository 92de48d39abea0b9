/- audit.Leads, sporranref24.Leads: the walks. -/
import Derived.Test.YtifanifgbkpdgaaDoorHdrJ
import Derived.Test.YtifanifgbkpdgaaDoorHdrI
namespace Go.Proofs.YtifanifgbkpdgaaDoor
open Go.RowKit

def hAt (hs : List Hdr) (i : Nat) : Hdr := hs[i]?.getD noHdr
def condP (first : List (BitVec 8)) (hs : List Hdr) (i : Nat) : Bool := if i = 0 then decide (hid (hAt hs 0) = first) else decide ((hAt hs i).p = hid (hAt hs (i - 1)))
def allP (first : List (BitVec 8)) (hs : List Hdr) (k : Nat) : Bool := (List.range k).all (condP first hs)
/-- whether headers make a way -/
def leadsP (first : List (BitVec 8)) (hs : List Hdr) : Bool := allP first hs hs.length
theorem allP_succ (first : List (BitVec 8)) (hs : List Hdr) (k : Nat) : allP first hs (k + 1) = (allP first hs k && condP first hs k) := by
  unfold allP; rw [List.range_succ, List.all_append]; simp
theorem leads_false {first : List (BitVec 8)} {hs : List Hdr} {k : Nat} (hk : k < hs.length) (h : condP first hs k = false) : leadsP first hs = false := by
  unfold leadsP allP
  rw [List.all_eq_false]
  exact ⟨k, List.mem_range.2 hk, by rw [h]; simp⟩
theorem hAt_ok {hs : List Hdr} (h : ∀ x ∈ hs, x.ok) (i : Nat) : (hAt hs i).ok := by
  unfold hAt
  cases hx : hs[i]? with
  | none => exact noHdr_ok
  | some x => exact h x (List.mem_of_getElem? hx)
theorem hAt_map {hs : List Hdr} {i : Nat} (hi : i < hs.length) : (hs.map Hdr.cells)[i]? = some (hAt hs i).cells := by
  rw [List.getElem?_map, List.getElem?_eq_getElem hi]
  unfold hAt
  rw [List.getElem?_eq_getElem hi]
  rfl
/-- where a slice of rows of N cells, cut at k, begins -/
def cutN (N : Nat) (p : Option Addr) (c k : Nat) : Option Addr := if c = k then p else p.map (·.add (k * N))
theorem RowsN.cut {N : Nat} {w : World} {p : Option Addr} {ls : List (List Value)} (h : RowsN N w p ls) {k c : Nat} (hc : ls.length ≤ c) : RowsN N w (cutN N p c k) (ls.drop k) := fun hn => by
  have hlt : k < ls.length := by
    rcases Nat.lt_or_ge k ls.length with h1 | h1
    · exact h1
    · exact absurd (List.drop_eq_nil_of_le h1) hn
  obtain ⟨b, off, rfl, hb, hcell⟩ := h (fun e => by rw [e] at hlt; simp at hlt)
  unfold cutN
  rw [if_neg (by omega)]
  refine ⟨b, off + k * N, by simp [Addr.add], hb, fun i x hx => ?_⟩
  rw [List.getElem?_drop] at hx
  have := hcell _ x hx
  rw [show off + (k + i) * N = off + k * N + i * N by rw [Nat.add_mul]; omega] at this
  exact this
theorem RowsN.take {N : Nat} {w : World} {p : Option Addr} {ls : List (List Value)} (h : RowsN N w p ls) (k : Nat) : RowsN N w p (ls.take k) := fun hn => by
  obtain ⟨b, off, rfl, hlt, hc⟩ := h (fun e => hn (by rw [e]; simp))
  refine ⟨b, off, rfl, hlt, fun i x hx => hc i x ?_⟩
  rw [List.getElem?_take] at hx
  split at hx
  · exact hx
  · cases hx
theorem slice_fromH (w : World) (p : Option Addr) (m c k : Nat) (h : k ≤ m) :
    (Instr.sliceAt 29 (.slice p m c) (some (.int .i64 (k : Int))) none none).run Tryd.prog w = .ok (.slice (cutN 68 p c k) (m - k) (c - k)) w := by
  have hs : (sizeOf (Tryd.prog.elem 29)).run Tryd.prog w = .ok 68 w := by kernel_rfl
  have hu : Tryd.prog.underlying 29 = some (.slice (Tryd.prog.elem 29)) := by kernel_rfl
  rw [run_sliceAt_slice w _ _ _ _ _ hu, run_slice_l w _ _ _ _ hu _ _ (by omega) (by omega), hs]
  simp [Result.andThen, sliced, cutN]

theorem hdr_range_p {w : World} {g : Nat} {t : TypeId} {h : Hdr} (hb : Blk w g t h.cells.toArray) : w.rangeAt g 1 (hCells h.p) := hb.rangeAt 1 _ (fun j v hv => by
  have hj : j < (hCells h.p).length := (List.getElem?_eq_some_iff.1 hv).1
  rw [List.getElem?_toArray, Hdr.cells, Nat.add_comm, List.getElem?_cons_succ]
  show (hCells h.p ++ _)[j]? = _
  rw [List.getElem?_append_left hj]
  exact hv)
theorem hash_range {w : World} {g : Nat} {t : TypeId} {x : List (BitVec 8)} (hb : Blk w g t (hCells x).toArray) : w.rangeAt g 0 (hCells x) := hb.rangeAt 0 _ (fun j v hv => by rw [Nat.zero_add, List.getElem?_toArray]; exact hv)
theorem map_ne {α β : Type} {f : α → β} {l : List α} (h : 0 < l.length) : l.map f ≠ [] := fun e => by
  have h1 := congrArg List.length e
  rw [List.length_map, List.length_nil] at h1
  omega
theorem not_eq {b : Bool} (h : b = true) : (!b) = false := by rw [h]; rfl

set_option maxRecDepth 100000 in
set_option maxHeartbeats 4000000 in
theorem leads_any (first : List (BitVec 8)) (p : Option Addr) (n c : Nat) (hs : List Hdr) (w : World) (hf : first.length = 32) (hK : Laid w) (hn : hs.length = n) (hok : ∀ x ∈ hs, x.ok) (hnc : n ≤ c) (hcm : c ≤ 9223372036854775807) (hr : RowsN 68 w p (hs.map Hdr.cells)) :
    Calls Tryd.prog 14 #[.agg (hCells first).toArray, .slice p n c] w fun e w' => e = .returned (.bool (leadsP first hs)) ∧ Below w.heap.size w w' := by
  have HN := Lib.hid hn
  have HK := Lib.hid hK
  have hKs := hK.size
  have HF := Lib.hid hf
  have HO := Lib.hid hok
  obtain ⟨C, hC⟩ : ∃ C, C = (hCells first).toArray := ⟨_, rfl⟩
  rw [← hC]
  have HC := Lib.hid hC
  have HR := Lib.hid hr
  clear hn hK hf hok hC hr
  by_cases h0 : n = 0
  · subst h0
    have hl : leadsP first hs = true := by unfold leadsP; rw [HN.out]; rfl
    rw [hl]
    go_enter Tryd.func14, Tryd.ntmps14
    go_wp2
    go_ret
    exact ⟨rfl, (Below.refl _ _).alloc (Nat.le_refl _) _⟩
  · have hn0 : ((n : Int) == 0) = false := by simp; omega
    have hpos : 0 < n := by omega
    obtain ⟨b, off, rfl, hbl, hrow⟩ := HR.out (map_ne (by rw [HN.out]; exact hpos))
    obtain ⟨hl0, hr0⟩ := hrow 0 _ (hAt_map (by rw [HN.out]; exact hpos))
    rw [Nat.zero_mul, Nat.add_zero] at hr0
    have HROW := Lib.hid hrow
    have hz := zero32
    obtain ⟨Y, hY⟩ : ∃ Y, Y = ((noughts 32).map u8).toArray := ⟨_, rfl⟩
    rw [← hY] at hz
    have HYS : Hid (Y.size = 32) := Lib.hid (by rw [hY]; rfl)
    have hzh := zeroHdr
    obtain ⟨Z, hZ⟩ : ∃ Z, Z = noHdr.cells.toArray := ⟨_, rfl⟩
    rw [← hZ] at hzh
    have HZS : Hid (Z.size = 68) := Lib.hid (by rw [hZ, List.size_toArray, Hdr.cells_len noHdr_ok])
    have hok0 := Lib.hid (hAt_ok HO.out 0)
    obtain ⟨h, hh⟩ : ∃ x, x = hAt hs 0 := ⟨_, rfl⟩
    rw [← hh] at hl0 hr0 hok0
    have HH := Lib.hid hh
    clear hrow hY hZ hh hl0 h0
    have hp1 : (0 : Int) < (n : Int) := by omega
    go_enter Tryd.func14, Tryd.ntmps14
    go_upto_region 3 with fail
    refine wp_abst (fun w' => Hid (Blk w' w.heap.size 24 (hCells first).toArray) ∧ Below w.heap.size w w') ⟨Lib.hid (by rw [← HC.out]; exact Blk.new w _ _), (Below.refl _ _).alloc (Nat.le_refl _) _⟩ ?_
    rintro w1 ⟨hb1, hbel1⟩
    have hlt1 := hb1.out.lt
    have hr1 := rangeAt_below hr0 hbel1 hbl
    go_wp2_with (with_reducible refine wpList_load_mid (op := ⟨some 13, _, _, _, _, _⟩) ?_ 33 (.tmp 12) ?_ b off ?_ h.cells _ hr1 Tryd.underlying33 ?_ ?_ ?_
                 · rfl
                 · rfl
                 · rfl
                 · rfl
                 · exact hdr_size hok0.out)
    refine (hdrID_any h hok0.out w1 (HK.out.below hbel1 hKs)).mono ?_
    rintro e w2 ⟨rfl, hbel2⟩
    have hb2 := Lib.hid (hb1.out.below hbel2 hlt1)
    have hbw2 := hbel1.trans (hbel2.mono hbel1.size)
    clear hr1 hb1 hbel1 hbel2 hr0
    go_upto_region 4 with (with_reducible refine wp_store_blk (o := ⟨none, _, _, _, _, _⟩) ?_ 24 (.tmp 5) (.tmp 14) ?_ w2.heap.size 24 Y (hCells (hid h)).toArray ?_ ?_ (Blk.new w2 _ _) ?_ ?_ ?_ w.heap.size w ?_ ?_ ?_
                           · rfl
                           · rfl
                           · rfl
                           · rfl
                           · exact hCells_info' (hid_len h)
                           · exact HYS.out.trans (by rw [List.size_toArray, hCells, List.length_map, hid_len])
                           · exact hCells_one _
                           · exact hbw2.alloc hbw2.size _
                           · exact hbw2.size
                           intro w3 hx3 hb3 hg3 hs3)
    obtain ⟨L, hL⟩ : ∃ x, x = w2.heap.size := ⟨_, rfl⟩
    rw [← hL] at hx3 hg3 ⊢
    have hlt2 := hb2.out.lt
    rw [← hL] at hlt2
    have hb3' := Lib.hid ((hb2.out.alloc _).kept hg3.out (by omega))
    have hL3 := hx3.out.lt
    have r5 := hash_range hx3.out
    have r2 := hash_range hb3'.out
    have heq := hash_eq (hid h) first (hid_len h) HF.out
    clear hL hb2 hbw2 hs3 hg3 hz
    by_cases hc : hid h = first
    · rw [decide_eq_true hc] at heq
      have hal : allP first hs 1 = true := by
        unfold allP condP
        simp only [List.range_one, List.all_cons, List.all_nil, if_true, Bool.and_true]
        rw [← HH.out, hc, decide_eq_true rfl]
      have HAL := Lib.hid hal
      obtain ⟨m, hm⟩ : ∃ m, n = m + 1 := ⟨n - 1, by omega⟩
      obtain ⟨q, hq⟩ : ∃ q, q = cutN 68 (some ⟨b, off, none⟩) c 1 := ⟨_, rfl⟩
      have sl : ∀ w, (Instr.sliceAt 29 (.slice (some ⟨b, off, none⟩) n c) (some (.int .i64 1)) none none).run Tryd.prog w = .ok (.slice q m (c - 1)) w := fun w => by
        have := slice_fromH w (some ⟨b, off, none⟩) n c 1 (by omega)
        rw [← hq, show n - 1 = m by omega] at this
        exact this
      have HRQ : Hid (RowsN 68 w q ((hs.map Hdr.cells).drop 1)) := Lib.hid (by rw [hq]; exact HR.out.cut (by rw [List.length_map, HN.out]; exact hnc))
      have hmn : m < n := by omega
      have hx3' : Hid (Blk w3 L 24 (hCells (hid (hAt hs 0))).toArray) := by rw [← HH.out]; exact hx3
      have HM := Lib.hid hm
      clear hc hal hq hm hx3 hb3'
      go_wp2_with (first
        | (with_reducible refine wpList_load_mid (op := ⟨some 15, _, _, _, _, _⟩) ?_ 24 (.tmp 5) ?_ L 0 ?_ (hCells (hid h)) _ r5 Tryd.underlying24 ?_ ?_ ?_
           · rfl
           · rfl
           · rfl
           · rfl
           · exact hCells_info (hid_len h))
        | (with_reducible refine wpList_load_mid (op := ⟨some 16, _, _, _, _, _⟩) ?_ 24 (.tmp 2) ?_ w.heap.size 0 ?_ (hCells first) _ r2 Tryd.underlying24 ?_ ?_ ?_
           · rfl
           · rfl
           · rfl
           · rfl
           · exact hCells_info HF.out))
      clear r5 r2 heq sl
      go_loopw [21] (fun i wr => ∃ k : Nat, k ≤ m ∧ i = .int .i64 k ∧ Hid (allP first hs (k + 1) = true) ∧ Hid (Blk wr L 24 (hCells (hid (hAt hs k))).toArray) ∧ Below w.heap.size w wr) (fun i _ => m - (intOf i).toNat)
      case atStart => exact ⟨0, by omega, rfl, HAL, hx3', hb3⟩
      case round =>
        obtain ⟨k, hk, rfl, hal, hx4, hb4⟩ := hrel
        clear HAL hx3' hb3
        have hlt4 := hx4.out.lt
        by_cases hkm : k < m
        · have hlt : (k : Int) < (m : Int) := by omega
          have hk63 : (k : Int) + 1 ≤ 9223372036854775807 := by omega
          obtain ⟨b', off', hq', hb', hrow'⟩ := HRQ.out (by
            intro e
            have h1 := congrArg List.length e
            rw [List.length_drop, List.length_map, HN.out, List.length_nil] at h1
            omega)
          subst hq'
          obtain ⟨_, hr4⟩ := hrow' k (hAt hs (k + 1)).cells (by rw [List.getElem?_drop, Nat.add_comm 1 k]; exact hAt_map (by rw [HN.out]; omega))
          have r4 := rangeAt_below hr4 hb4 hb'
          have hok4 := Lib.hid (hAt_ok HO.out (k + 1))
          obtain ⟨g, hg⟩ : ∃ x, x = hAt hs (k + 1) := ⟨_, rfl⟩
          obtain ⟨l, hl⟩ : ∃ x, x = hid (hAt hs k) := ⟨_, rfl⟩
          rw [← hg] at r4 hok4
          rw [← hl] at hx4
          have hll : l.length = 32 := by rw [hl]; exact hid_len _
          have HG := Lib.hid hg
          have HLl := Lib.hid hl
          have HLL := Lib.hid hll
          clear hrow' hr4 hg hl hll
          go_upto_region 9 with (first
            | (with_reducible refine wpList_load_mid (op := ⟨some 24, _, _, _, _, _⟩) ?_ 33 (.tmp 23) ?_ b' (off' + k * 68) ?_ g.cells _ r4 Tryd.underlying33 ?_ ?_ ?_
               · rfl
               · rfl
               · rfl
               · rfl
               · exact hdr_size hok4.out)
            | (with_reducible refine wp_store_blk (o := ⟨none, _, _, _, _, _⟩) ?_ 33 (.tmp 7) (.tmp 24) ?_ wr.heap.size 33 Z g.cells.toArray ?_ ?_ (Blk.new wr _ _) ?_ ?_ ?_ w.heap.size w ?_ ?_ ?_
               · rfl
               · rfl
               · rfl
               · rfl
               · rw [List.size_toArray]; exact hdr_size hok4.out
               · exact HZS.out.trans (by rw [List.size_toArray, Hdr.cells_len hok4.out])
               · exact Hdr.cells_one _
               · exact hb4.alloc hb4.size _
               · exact hb4.size
               intro w5 hX5 hb5 hg5 hs5))
          obtain ⟨X, hX⟩ : ∃ x, x = wr.heap.size := ⟨_, rfl⟩
          rw [← hX] at hX5 hg5 hlt4 ⊢
          have hx5 := Lib.hid ((hx4.out.alloc _).kept hg5.out (by omega))
          have r26 := hdr_range_p hX5.out
          have r27 := hash_range hx5.out
          have r29 := hX5.out.range
          have heq := hash_eq g.p l hok4.out.1 HLL.out
          clear hX hg5 hs5 hx4 r4
          by_cases hc : g.p = l
          · rw [decide_eq_true hc] at heq
            have hal2 : Hid (allP first hs (k + 1 + 1) = true) := Lib.hid (by
              rw [allP_succ, hal.out, Bool.true_and]
              unfold condP
              rw [if_neg (by omega), ← HG.out, hc, HLl.out, show k + 1 - 1 = k by omega, decide_eq_true rfl])
            have hzL : Hid ((hCells l).toArray.size = (hCells (hid g)).toArray.size) := Lib.hid (by rw [List.size_toArray, List.size_toArray, hCells, hCells, List.length_map, List.length_map, HLL.out, hid_len])
            clear hc
            go_wp2_with (first
              | (with_reducible refine wpList_load_mid (op := ⟨some 26, _, _, _, _, _⟩) ?_ 24 (.tmp 25) ?_ X 1 ?_ (hCells g.p) _ r26 Tryd.underlying24 ?_ ?_ ?_
                 · rfl
                 · rfl
                 · rfl
                 · rfl
                 · exact hCells_info hok4.out.1)
              | (with_reducible refine wpList_load_mid (op := ⟨some 27, _, _, _, _, _⟩) ?_ 24 (.tmp 5) ?_ L 0 ?_ (hCells l) _ r27 Tryd.underlying24 ?_ ?_ ?_
                 · rfl
                 · rfl
                 · rfl
                 · rfl
                 · exact hCells_info HLL.out)
              | (with_reducible refine wpList_load_mid (op := ⟨some 29, _, _, _, _, _⟩) ?_ 33 (.tmp 7) ?_ X 0 ?_ g.cells _ r29 Tryd.underlying33 ?_ ?_ ?_
                 · rfl
                 · rfl
                 · rfl
                 · rfl
                 · exact hdr_size hok4.out))
            refine (hdrID_any g hok4.out w5 (HK.out.below hb5 hKs)).mono ?_
            rintro e w6 ⟨rfl, hb6⟩
            have hx6 := hx5.out.below hb6 hx5.out.lt
            have hbw6 := hb5.trans (hb6.mono hb5.size)
            clear r26 r27 r29 heq hx5 hb5 hb6 hX5
            have hL6 : w.heap.size ≤ L := by omega
            go_wp2_with (with_reducible refine wp_store_blk (o := ⟨none, _, _, _, _, _⟩) ?_ 24 (.tmp 5) (.tmp 30) ?_ L 24 (hCells l).toArray (hCells (hid g)).toArray ?_ ?_ hx6 ?_ hzL.out ?_ w.heap.size w hbw6 hL6 ?_
                         · rfl
                         · rfl
                         · rfl
                         · rfl
                         · exact hCells_info' (hid_len g)
                         · exact hCells_one _
                         intro w7 hx7 hb7 hg7 hs7)
            go_roundw
            case rel => exact ⟨k + 1, by omega, by go_num, hal2, (by rw [← HG.out]; exact hx7), hb7⟩
            case measure => simp [intOf]; omega
          · rw [decide_eq_false hc] at heq
            have hlf : leadsP first hs = false := leads_false (k := k + 1) (by rw [HN.out]; omega) (by
              unfold condP
              rw [if_neg (by omega), ← HG.out, show k + 1 - 1 = k by omega, ← HLl.out, decide_eq_false hc])
            have HLF := Lib.hid hlf
            clear hc hlf
            go_wp2_with (first
              | (with_reducible refine wpList_load_mid (op := ⟨some 26, _, _, _, _, _⟩) ?_ 24 (.tmp 25) ?_ X 1 ?_ (hCells g.p) _ r26 Tryd.underlying24 ?_ ?_ ?_
                 · rfl
                 · rfl
                 · rfl
                 · rfl
                 · exact hCells_info hok4.out.1)
              | (with_reducible refine wpList_load_mid (op := ⟨some 27, _, _, _, _, _⟩) ?_ 24 (.tmp 5) ?_ L 0 ?_ (hCells l) _ r27 Tryd.underlying24 ?_ ?_ ?_
                 · rfl
                 · rfl
                 · rfl
                 · rfl
                 · exact hCells_info HLL.out))
            go_ret
            exact ⟨by rw [HLF.out]; rfl, hb5⟩
        · have hkm' : k = m := by omega
          subst hkm'
          have hge : ¬ (k : Int) < (k : Int) := by omega
          have hlt2' : leadsP first hs = true := by unfold leadsP; rw [HN.out, HM.out]; exact hal.out
          have HLT := Lib.hid hlt2'
          clear hlt2'
          go_wp2
          go_ret
          exact ⟨by rw [HLT.out]; rfl, hb4⟩
    · rw [decide_eq_false hc] at heq
      have hlf : leadsP first hs = false := leads_false (k := 0) (by rw [HN.out]; exact hpos) (by
        unfold condP
        rw [if_pos rfl, ← HH.out, decide_eq_false hc])
      have HLF := Lib.hid hlf
      clear hc hlf
      go_wp2_with (first
        | (with_reducible refine wpList_load_mid (op := ⟨some 15, _, _, _, _, _⟩) ?_ 24 (.tmp 5) ?_ L 0 ?_ (hCells (hid h)) _ r5 Tryd.underlying24 ?_ ?_ ?_
           · rfl
           · rfl
           · rfl
           · rfl
           · exact hCells_info (hid_len h))
        | (with_reducible refine wpList_load_mid (op := ⟨some 16, _, _, _, _, _⟩) ?_ 24 (.tmp 2) ?_ w.heap.size 0 ?_ (hCells first) _ r2 Tryd.underlying24 ?_ ?_ ?_
           · rfl
           · rfl
           · rfl
           · rfl
           · exact hCells_info HF.out))
      go_ret
      exact ⟨by rw [HLF.out]; rfl, hb3⟩
end Go.Proofs.YtifanifgbkpdgaaDoor
