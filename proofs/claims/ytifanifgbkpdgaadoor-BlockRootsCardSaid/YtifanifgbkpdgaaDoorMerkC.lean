/- block.Merkle: the walk. -/
import Derived.Test.YtifanifgbkpdgaaDoorMerkD
import Derived.Test.YtifanifgbkpdgaaDoorPlanT
import Derived.Test.YtifanifgbkpdgaaDoorLeads
namespace Go.Proofs.YtifanifgbkpdgaaDoor
open Go.RowKit

theorem results_cell2 {fn : Func} {p u : Tmp} {ty : TypeId} (h : fn.results = #[.cell p ty, .tmp u]) (tmps : Array Value) (P : Program) (w : World) (g : Nat) (t : TypeId) (cs : List Value) (d : TypeDesc)
    (hp : tmps.getD p undef = .pointer (some ⟨g, 0, none⟩)) (hg : Blk w g t cs.toArray) (hu : P.underlying ty = some d) (hd : d.isRow = true) (hi : (P.info? ty).map (·.size) = some cs.length) :
    (results fn tmps).run P w = .ok (.tuple #[.agg cs.toArray, tmps.getD u undef]) w := by
  have hp' : tmps[p]?.getD undef = .pointer (some ⟨g, 0, none⟩) := by simpa using hp
  simp [results, h, hp', asAddr, run_loadVar_mid w g 0 ty cs d hg.range hu hd hi]
theorem hash_info : (Tryd.prog.info? 24).map (fun i => (i.zero, i.size, i.bytes)) = some (some (.agg (hCells (noughts 32)).toArray), 32, 32) := by kernel_rfl
/-- the first m hashes of a block of one's own, that may be written -/
def HRow (w : World) (g : Nat) (l : List (List (BitVec 8))) (m : Nat) : Prop := (∀ i x, l[i]? = some x → w.rangeAt g (i * 32) (hCells x)) ∧ w.there g 0 (m * 32) ∧ g < w.heap.size
theorem flat_oneCell {l : List (List (BitVec 8))} : ∀ u ∈ (l.map hCells).flatten, u.oneCell' = true := fun u hu => by
  obtain ⟨cs, hcs, hu⟩ := List.mem_flatten.1 hu
  obtain ⟨x, _, rfl⟩ := List.mem_map.1 hcs
  exact map_u8_one x u hu
theorem own_hrow {w : World} {B : Nat} {v : Value} {n : Nat} {l : List (List (BitVec 8))} (hl : ∀ x ∈ l, x.length = 32) (hn : l.length = n) (hpos : 0 < n) (h : w.ownsRow B 24 32 v n (l.map hCells).flatten) :
    ∃ g cap, v = .slice (some ⟨g, 0, none⟩) n cap ∧ B ≤ g ∧ n ≤ cap ∧ cap ≤ 9223372036854775807 ∧ HRow w g l n := by
  rcases h.2 with ⟨_, h0⟩ | ⟨g, cap, cur, e, hB, hg, hc, hm, hs, ht⟩
  · omega
  · refine ⟨g, cap, e, hB, hc, by unfold maxLen at hm; omega, fun i x hx j v hj => ?_, fun j hj => ?_, Blk.lt hg⟩
    · have hj32 : j < 32 := by
        have := (List.getElem?_eq_some_iff.1 hj).1
        rw [hCells, List.length_map, hl x (List.mem_of_getElem? hx)] at this
        exact this
      have hin : i < n := by
        rw [← hn]
        exact (List.getElem?_eq_some_iff.1 hx).1
      have h1 : (cur.toList.take (n * 32))[i * 32 + j]? = ((l.map hCells).flatten)[i * 32 + j]? := by rw [ht]
      rw [List.getElem?_take, if_pos (by omega), flatten_at 32 (by omega) _ _ (fun cs hcs => by
        obtain ⟨y, hy, rfl⟩ := List.mem_map.1 hcs
        rw [hCells, List.length_map, hl y hy]), show (i * 32 + j) / 32 = i by omega, show (i * 32 + j) % 32 = j by omega, List.getElem?_map, hx] at h1
      rw [Blk.cell hg, ← Array.getElem?_toList, h1]
      exact hj
    · rw [Nat.zero_add]
      refine ⟨?_, Blk.frozen hg j⟩
      rw [Blk.cell hg]
      have : j < cur.size := by rw [hs]; have := Nat.mul_le_mul_right 32 hc; omega
      simp [this]
theorem HRow.below {w w' : World} {g B m : Nat} {l : List (List (BitVec 8))} (h : HRow w g l m) (hb : Below B w w') (hB : g < B) : HRow w' g l m :=
  ⟨fun i x hx => rangeAt_below (h.1 i x hx) hb hB, fun j hj => by
    have := h.2.1 j hj
    rw [hb.cell (p := ⟨g, 0 + j, none⟩) hB, hb.frozen (p := ⟨g, 0 + j, none⟩) hB]; exact this, Nat.lt_of_lt_of_le h.2.2 hb.size⟩
theorem HRow.drewN {w : World} {g m : Nat} {l : List (List (BitVec 8))} (h : HRow w g l m) (k : Nat) : HRow (w.drewN k) g l m := h

set_option maxRecDepth 100000 in
set_option maxHeartbeats 4000000 in
theorem merkle_any (p : Option Addr) (n c : Nat) (ids : List (List (BitVec 8))) (w : World) (hK : Laid w) (hn : ids.length = n) (hok : ∀ x ∈ ids, x.length = 32) (hnc : n ≤ c) (_hcm : c ≤ 9223372036854775807) (hbig : n ≤ 4398046511000) (hr : RowsN 32 w p (ids.map hCells)) :
    Calls Tryd.prog 11 #[.slice p n c] w fun e w' => e = .returned (.tuple #[.agg (hCells (merkP ids).1).toArray, .bool (merkP ids).2]) ∧ Below w.heap.size w w' := by
  have HN := Lib.hid hn
  have HK := Lib.hid hK
  have hKs := hK.size
  have HO := Lib.hid hok
  have HR := Lib.hid hr
  have hz := zero32
  obtain ⟨Y, hY⟩ : ∃ Y, Y = (hCells (noughts 32)).toArray := ⟨_, rfl⟩
  replace hz : ∀ w, (zeroValue 24).run Tryd.prog w = .ok (.agg Y) w := by rw [hY]; exact hz
  have hbt := built_no
  rw [← hY] at hbt
  have HBT := Lib.hid hbt
  have HY := Lib.hid hY
  clear hn hK hok hr hY hbt
  by_cases h0 : n = 0
  · subst h0
    have HM : Hid (merkP ids = (noughts 32, false)) := Lib.hid (by unfold merkP; rw [HN.out]; rfl)
    go_enter Tryd.func11, Tryd.ntmps11
    go_wp2_with (first
      | (with_reducible refine wp_build (o := ⟨some 12, _, _, _, _, _⟩) ?_ 24 #[] ?_ [] ?_ Y HBT.out ?_
         · rfl
         · rfl
         · rfl)
      | (with_reducible refine wp_store_blk (o := ⟨none, _, _, _, _, _⟩) ?_ 24 (.tmp 2) (.tmp 12) ?_ w.heap.size 24 Y Y ?_ ?_ (Blk.new w _ _) ?_ ?_ ?_ w.heap.size w ?_ ?_ ?_
         · rfl
         · rfl
         · rfl
         · rfl
         · rw [HY.out]; exact hCells_info' (noughts_len 32)
         · rfl
         · rw [HY.out]; exact hCells_one _
         · exact (Below.refl _ _).alloc (Nat.le_refl _) _
         · exact Nat.le_refl _
         intro w5 hR5 hb5 hg5 hs5))
    rw [HY.out] at hR5
    refine bodyPost_ret (results_cell2 rfl _ _ _ w.heap.size _ (hCells (noughts 32)) _ rfl hR5.out Tryd.underlying24 rfl (hCells_info (noughts_len 32))) rfl ?_
    rw [HM.out]
    exact ⟨rfl, hb5⟩
  · have hpos : 0 < n := by omega
    have hn0 : ((n : Int) == 0) = false := by simp; omega
    clear h0
    go_enter Tryd.func11, Tryd.ntmps11
    go_upto_region 3 with fail
    refine wp_abst (fun w' => Hid (Blk w' w.heap.size 24 Y) ∧ Below w.heap.size w w') ⟨Lib.hid (Blk.new w _ _), (Below.refl _ _).alloc (Nat.le_refl _) _⟩ ?_
    rintro w1 ⟨hy1, hb1⟩
    have hlt1 := hy1.out.lt
    have hb2 := (Below.refl w1.heap.size w1).alloc (Nat.le_refl _) (.cells #[] 24)
    have ho2 : (w1.alloc (.cells #[] 24)).ownsRow w1.heap.size 24 32 (.slice (some ⟨w1.heap.size, 0, none⟩) 0 0) 0 [] := World.ownsRow_made w1 #[] 0 (Nat.le_refl _) (Nat.zero_le _) rfl
    have hr2 : RowsN 32 (w1.alloc (.cells #[] 24)) p (ids.map hCells) := (HR.out.below hb1 (Nat.le_refl _)).below hb2 (Nat.le_refl _)
    go_upto_region 4 with (with_reducible refine wp_append_row (o := ⟨some 15, _, _, _, _, _⟩) ?_ (.tmp 13) (.tmp 14) 22 24 ?_ 32 32 _ Tryd.underlying22 hash_info ?_ (by omega) w1.heap.size _ 0 [] ?_ ho2 p n c (ids.map hCells) ?_ ?_ hr2 flat_oneCell ?_ ?_ ?_ w1.heap.size w1 hb2 ?_ ?_
                           · rfl
                           · rfl
                           · rfl
                           · rfl
                           · rfl
                           · rw [List.length_map]; exact HN.out
                           · omega
                           · unfold maxLen; omega
                           · exact hb2.size
                           · exact Nat.le_refl _
                           intro v3 w3 ho3 hb3 _ _)
    rw [List.nil_append, Nat.zero_add] at ho3
    obtain ⟨g, cap, rfl, hgB, hc1, hc2, hrow3⟩ := own_hrow HO.out HN.out hpos ho3
    have hrow3' := Lib.hid hrow3
    have hy3 := Lib.hid (hy1.out.below hb3 hlt1)
    have hbw3 := hb1.trans (hb3.mono hb1.size)
    have hgg : w.heap.size < g := by omega
    have hme : Hid (merkN n ids false = merkP ids) := Lib.hid (by unfold merkP; rw [HN.out, if_neg (by omega)])
    clear ho2 hr2 hb2 ho3 hrow3 hb3 hy1 hb1 hlt1 hgB
    go_wp2_with fail
    go_loopw [4, 5] (fun v o wr => ∃ (l : List (List (BitVec 8))) (m cp : Nat) (ob : Bool), v = .slice (some ⟨g, 0, none⟩) m cp ∧ 0 < m ∧ m ≤ n ∧ m ≤ cp ∧ cp ≤ 9223372036854775807 ∧ o = .bool ob ∧ Hid (l.length = m) ∧ Hid (∀ x ∈ l, x.length = 32) ∧ Hid (merkN n l ob = merkP ids) ∧ Hid (HRow wr g l m) ∧ Hid (Blk wr w.heap.size 24 Y) ∧ Below w.heap.size w wr) (fun v _ _ => lenS v)
    case atStart => exact ⟨ids, n, cap, false, rfl, hpos, Nat.le_refl _, hc1, hc2, rfl, HN, HO, hme, hrow3', hy3, hbw3⟩
    case round =>
      obtain ⟨l, m, cp, ob, rfl, hm0, hmn, hmc, hcp, rfl, HL, HLO, HME, hrow4, hy4, hb4⟩ := hrel
      clear hrow3' hy3 hbw3 hme hc1 hc2
      by_cases hm1 : 1 < m
      · have hmi : (1 : Int) < (m : Int) := by omega
        go_wp2_with fail
        have hrow5 : Hid (HRow wr g (upTo l 0 ++ l.drop 0) m) := hrow4
        go_loopw [5, 6, 7] (fun o a i wr2 => ∃ j : Nat, j ≤ (m + 1) / 2 ∧ o = .bool (ob || othTo l j) ∧ a = .int .i64 (j : Int) ∧ i = .int .i64 (2 * (j : Int)) ∧ Hid (HRow wr2 g (upTo l j ++ l.drop j) m) ∧ Hid (Blk wr2 w.heap.size 24 Y) ∧ Below w.heap.size w wr2) (fun _ _ i _ => m + 2 - (intOf i).toNat)
        case atStart => exact ⟨0, by omega, by simp [othTo], rfl, rfl, hrow5, hy4, hb4⟩
        case round =>
          obtain ⟨j, hj, rfl, rfl, rfl, hrow6, hy6, hb6⟩ := hrel
          clear hrow5 hrow4 hy4 hb4
          by_cases hjm : 2 * j < m
          · have hji : 2 * (j : Int) < (m : Int) := by omega
            obtain ⟨kk, hkk⟩ : ∃ x, x = min (2 * j + 1) (m - 1) := ⟨_, rfl⟩
            have q1 : min (2 * (j : Int) + 1) ((m : Int) - 1) = (kk : Int) := by omega
            have hL0 : (upTo l j ++ l.drop j)[2 * j]? = some (hA l (2 * j)) := by
              rw [List.getElem?_append_right (by rw [upTo_len]; omega), upTo_len, List.getElem?_drop, show j + (2 * j - j) = 2 * j by omega, hA_some (by rw [HL.out]; exact hjm)]
            have hL1 : (upTo l j ++ l.drop j)[kk]? = some (hA l kk) := by
              rw [List.getElem?_append_right (by rw [upTo_len]; omega), upTo_len, List.getElem?_drop, show j + (kk - j) = kk by omega, hA_some (by rw [HL.out]; omega)]
            go_upto_region 10 with fail
            rw [← hkk]
            have HKK := Lib.hid hkk
            clear hkk
            go_cut [5] (fun s5 wx => s5 = .bool (ob || othTo l (j + 1)) ∧ ∃ k, wx = wr.drewN k)
            case first =>
              by_cases hob : (ob || othTo l j) = true
              · have hfin : (ob || othTo l (j + 1)) = true := by rw [othTo_succ, ← Bool.or_assoc, hob]; rfl
                rw [hob]
                refine quiet_in (fun k => wr.drewN k) 1 rfl (by kernel_rfl) (by kernel_rfl) ?_
                repeat (go_big_quiet_step (fail))
                refine wpQuiet_nil ?_
                rintro _ ⟨nq, rfl⟩
                go_wp2_with fail
                go_meet
                case rel => exact ⟨by rw [hfin], nq, rfl⟩
              · replace hob : (ob || othTo l j) = false := by simpa using hob
                rw [hob]
                by_cases hkj : 2 * j + 1 < m
                · have hk2 : kk = 2 * j + 1 := by rw [HKK.out]; omega
                  have g1 : (2 * (j : Int)) < (kk : Int) := by omega
                  have g2 : decide ((2 * (j : Int)) < (kk : Int)) = true := decide_eq_true g1
                  have hfin : (ob || othTo l (j + 1)) = decide (hA l (2 * j) = hA l kk) := by
                    rw [othTo_succ, ← Bool.or_assoc, hob, hk2]; unfold othAt; rw [HL.out, decide_eq_true hkj]; rfl
                  clear hk2
                  have E := hash_eq _ _ (hA_len HLO.out (2 * j)) (hA_len HLO.out kk)
                  obtain ⟨V0, hV0⟩ : ∃ x, x = (hCells (hA l (2 * j))).toArray := ⟨_, rfl⟩
                  obtain ⟨V1, hV1⟩ : ∃ x, x = (hCells (hA l kk)).toArray := ⟨_, rfl⟩
                  obtain ⟨bb, hbb⟩ : ∃ x, x = decide (hA l (2 * j) = hA l kk) := ⟨_, rfl⟩
                  rw [← hV0, ← hV1, ← hbb] at E
                  rw [← hbb] at hfin
                  have HV0 := Lib.hid hV0
                  have HV1 := Lib.hid hV1
                  have hg1 : Hid (∀ k, (wr.drewN k).rangeAt g (2 * j * 32) V0.toList) := Lib.hid fun k => by rw [HV0.out]; exact hrow6.out.1 _ _ hL0
                  have hg2 : Hid (∀ k, (wr.drewN k).rangeAt g (kk * 32) V1.toList) := Lib.hid fun k => by rw [HV1.out]; exact hrow6.out.1 _ _ hL1
                  have hi1 : Hid ((Tryd.prog.info? 24).map (·.size) = some V0.toList.length) := Lib.hid (by rw [HV0.out]; exact hCells_info (hA_len HLO.out _))
                  have hi2 : Hid ((Tryd.prog.info? 24).map (·.size) = some V1.toList.length) := Lib.hid (by rw [HV1.out]; exact hCells_info (hA_len HLO.out _))
                  clear hV0 hV1 hbb
                  refine quiet_in (fun k => wr.drewN k) 1 rfl (by kernel_rfl) (by kernel_rfl) ?_
                  repeat (go_big_quiet_step (fail))
                  refine quiet_load_mid rfl 24 (.tmp 39) rfl g (2 * j * 32) rfl V0.toList _ (fun w' ⟨t, h⟩ => by rw [h]; exact hg1.out t) Tryd.underlying24 rfl hi1.out ?_
                  simp only [put_some, List.setIfInBounds_toArray, List.set_cons_succ, List.set_cons_zero, Array.toArray_toList]
                  repeat (go_big_quiet_step (fail))
                  refine quiet_load_mid rfl 24 (.tmp 43) rfl g (kk * 32) rfl V1.toList _ (fun w' ⟨t, h⟩ => by rw [h]; exact hg2.out t) Tryd.underlying24 rfl hi2.out ?_
                  simp only [put_some, List.setIfInBounds_toArray, List.set_cons_succ, List.set_cons_zero, Array.toArray_toList]
                  go_big_quiet_step (exact E _)
                  repeat (go_big_quiet_step (fail))
                  refine wpQuiet_nil ?_
                  rintro _ ⟨nq, rfl⟩
                  go_wp2_with fail
                  go_meet
                  case rel => exact ⟨by rw [hfin], nq, rfl⟩
                · have g1 : ¬ (2 * (j : Int)) < (kk : Int) := by rw [HKK.out]; omega
                  have g2 : decide ((2 * (j : Int)) < (kk : Int)) = false := decide_eq_false g1
                  have hfin : (ob || othTo l (j + 1)) = false := by
                    rw [othTo_succ, ← Bool.or_assoc, hob]; unfold othAt; rw [HL.out, decide_eq_false hkj]; rfl
                  refine quiet_in (fun k => wr.drewN k) 1 rfl (by kernel_rfl) (by kernel_rfl) ?_
                  repeat (go_big_quiet_step (fail))
                  refine wpQuiet_nil ?_
                  rintro _ ⟨nq, rfl⟩
                  go_wp2_with fail
                  go_meet
                  case rel => exact ⟨by rw [hfin], nq, rfl⟩
            case rest =>
              obtain ⟨rfl, nq, rfl⟩ := hcut
              have hb7 := below_drewN hb6 nq
              have hrow7 := Lib.hid (hrow6.out.drewN nq)
              have hy7 : Hid (Blk (wr.drewN nq) w.heap.size 24 Y) := Lib.hid hy6.out
              clear hb6 hrow6 hy6
              generalize wr.drewN nq = w7 at *
              have hlt7 := hrow7.out.2.2
              obtain ⟨V0, hV0⟩ : ∃ x, x = (hCells (hA l (2 * j))).toArray := ⟨_, rfl⟩
              obtain ⟨V1, hV1⟩ : ∃ x, x = (hCells (hA l kk)).toArray := ⟨_, rfl⟩
              have HV0 := Lib.hid hV0
              have HV1 := Lib.hid hV1
              have hi1 : Hid ((Tryd.prog.info? 24).map (·.size) = some V0.toList.length) := Lib.hid (by rw [HV0.out]; exact hCells_info (hA_len HLO.out _))
              have hi2 : Hid ((Tryd.prog.info? 24).map (·.size) = some V1.toList.length) := Lib.hid (by rw [HV1.out]; exact hCells_info (hA_len HLO.out _))
              clear hV0 hV1
              go_upto_region 11 with fail
              refine region_plan_tail [qq 0, qq 1, qq 2, qq 3, qq 4, qq 5, qq 6, qq 7, qq 8, qq 9, oo 10, qq 11] 12 (fun W => Below w7.heap.size w7 W) (by kernel_rfl) (by kernel_rfl) (Below.refl _ _).drew ?_
              refine' plan_quiet (s := _) (A1 := _) [0, 1, 2, 3, 4, 5, 6, 7, 8, 9] [_, _, _, _, _, _, _, _, _, _] _ rfl rfl rfl (fun W hW => ?hq1) _ (Below.refl _ _).drew (fun _ => ?hr1)
              case hq1 =>
                have hg1 : Hid (∀ k, (W.drewN k).rangeAt g (2 * j * 32) V0.toList) := Lib.hid fun k => by rw [HV0.out]; exact (hrow7.out.below hW hlt7).1 _ _ hL0
                have hg2 : Hid (∀ k, (W.drewN k).rangeAt g (kk * 32) V1.toList) := Lib.hid fun k => by rw [HV1.out]; exact (hrow7.out.below hW hlt7).1 _ _ hL1
                simp only [List.getElem_toArray, List.getElem_cons_zero, List.getElem_cons_succ]
                repeat (go_big_quiet_step (fail))
                refine quiet_load_mid rfl 24 (.tmp 52) rfl g (2 * j * 32) rfl V0.toList _ (fun w' ⟨t, h⟩ => by rw [h]; exact hg1.out t) Tryd.underlying24 rfl hi1.out ?_
                simp only [put_some, List.setIfInBounds_toArray, List.set_cons_succ, List.set_cons_zero, Array.toArray_toList]
                repeat (go_big_quiet_step (fail))
                refine quiet_load_mid rfl 24 (.tmp 56) rfl g (kk * 32) rfl V1.toList _ (fun w' ⟨t, h⟩ => by rw [h]; exact hg2.out t) Tryd.underlying24 rfl hi2.out ?_
                simp only [put_some, List.setIfInBounds_toArray, List.set_cons_succ, List.set_cons_zero, Array.toArray_toList]
                refine wpQuiet_nil ?_
                rfl
              case hr1 =>
              refine plan_one rfl fun k => ?_
              rw [HV0.out, HV1.out]
              go_wp2_with fail
              refine (pair_any _ _ _ (hA_len HLO.out (2 * j)) (hA_len HLO.out kk) ((HK.out.below hb7 hKs).below (below_drewN (Below.refl w7.heap.size w7) (1 + k)) (Nat.le_trans hKs hb7.size))).mono ?_
              rintro e w8 ⟨rfl, hb8⟩
              have hF8 : Below w7.heap.size w7 w8 := (below_drewN (Below.refl w7.heap.size w7) (1 + k)).trans hb8
              clear hb8
              go_wp2_with fail
              refine planQ_normal (And.intro hF8 ?_)
              refine' plan_quiet (s := _) (A1 := _) (r := []) [11] [_] _ rfl rfl rfl (fun W hW => ?hq2) _ hF8 (fun _ => ?hr2)
              case hq2 =>
                simp only [List.getElem_toArray, List.getElem_cons_zero, List.getElem_cons_succ]
                go_big_quiet_step (fail)
                refine wpQuiet_nil ?_
                rfl
              case hr2 =>
              refine plan_end fun k2 => HeadQ.normal ?_
              simp only [List.drop_succ_cons, List.drop_zero]
              have hrow8 := Lib.hid ((hrow7.out.below hF8 hlt7).drewN k2)
              have hy8 := Lib.hid ((hy7.out.below hF8 hy7.out.lt).drewN k2)
              have hb8 := below_drewN (hb7.trans (hF8.mono hb7.size)) k2
              clear hF8 hrow7 hy7 hb7
              generalize w8.drewN k2 = w10 at *
              have hVL : (pairH (hA l (2 * j)) (hA l kk)).length = 32 := pairH_len _ _
              have hV : pairH (hA l (2 * j)) (hA l kk) = upAt l j := by unfold upAt; rw [HL.out, HKK.out]
              have hjl : j < m := by omega
              refine wp_store_row rfl 24 (.tmp 59) (.tmp 58) rfl g (j * 32) (hCells (pairH (hA l (2 * j)) (hA l kk))).toArray rfl rfl ?_ ?_ (hCells_one _) ?_
              · intro i hi
                have hi32 : i < 32 := by rw [List.size_toArray, hCells, List.length_map, hVL] at hi; exact hi
                have := hrow8.out.2.1 (j * 32 + i) (by omega)
                rw [Nat.zero_add] at this
                exact this
              · rw [List.size_toArray]; exact hCells_info hVL
              intro w11 hr11 hap11 hth11 hgr11 hs11
              have hrow11 : Hid (HRow w11 g (upTo l (j + 1) ++ l.drop (j + 1)) m) := Lib.hid (by
                refine ⟨fun i x hx => ?_, hth11 _ _ hrow8.out.2.1, by rw [hs11]; exact hrow8.out.2.2⟩
                rcases Nat.lt_trichotomy i j with hij | hij | hij
                · rw [List.getElem?_append_left (by rw [upTo_len]; omega), upTo_get, if_pos (by omega)] at hx
                  have hx' : (upTo l j ++ l.drop j)[i]? = some x := by rw [List.getElem?_append_left (by rw [upTo_len]; omega), upTo_get, if_pos hij]; exact hx
                  have hxl : x.length = 32 := by injection hx with hx; rw [← hx]; exact pairH_len _ _
                  exact hap11 _ _ (hrow8.out.1 i x hx') (.inl (by rw [hCells, List.length_map, hxl]; omega))
                · subst hij
                  rw [List.getElem?_append_left (by rw [upTo_len]; omega), upTo_get, if_pos (by omega)] at hx
                  injection hx with hx
                  rw [← hx, ← hV]
                  exact hr11
                · rw [List.getElem?_append_right (by rw [upTo_len]; omega), upTo_len, List.getElem?_drop, show j + 1 + (i - (j + 1)) = i by omega] at hx
                  have hx' : (upTo l j ++ l.drop j)[i]? = some x := by rw [List.getElem?_append_right (by rw [upTo_len]; omega), upTo_len, List.getElem?_drop, show j + (i - j) = i by omega]; exact hx
                  refine hap11 _ _ (hrow8.out.1 i x hx') (.inr ?_)
                  rw [List.size_toArray, hCells, List.length_map, hVL]
                  omega)
              have hy11 := Lib.hid (hy8.out.kept hgr11 (by omega))
              have hb11 := hb8.grown hgr11 hb8.size (fun k hk => by injection hk with hk; omega)
              clear hrow8 hy8 hb8 hr11 hap11 hth11 hgr11 hs11 hVL hV hL0 hL1 q1 hi1 hi2 HV0 HV1 HKK
              go_wp2
              go_roundw
              case rel => exact ⟨j + 1, by omega, rfl, by go_num, by go_num, hrow11, hy11, hb11⟩
              case measure => simp [intOf]; omega
          · have hji : ¬ 2 * (j : Int) < (m : Int) := by omega
            have hj2 : j = (m + 1) / 2 := by omega
            have hrow7 : Hid (HRow wr g (up l) j) := Lib.hid ⟨fun i x hx => by
              have hi : i < j := by
                have := (List.getElem?_eq_some_iff.1 hx).1
                rw [up_len, HL.out] at this
                omega
              refine hrow6.out.1 i x ?_
              rw [List.getElem?_append_left (by rw [upTo_len]; omega)]
              rw [up, HL.out, ← hj2] at hx
              exact hx, fun i hi => hrow6.out.2.1 i (by omega), hrow6.out.2.2⟩
            have hup : Hid ((up l).length = j) := Lib.hid (by rw [up_len, HL.out]; omega)
            have hupo : Hid (∀ x ∈ up l, x.length = 32) := Lib.hid (upTo_ok l _)
            have hme2 : Hid (merkN n (up l) (ob || othTo l j) = merkP ids) := Lib.hid (by
              rw [← HME.out, merkN_step (l := l) (by rw [HL.out]; exact hm1) (by rw [HL.out]; exact hmn), oth, HL.out, ← hj2])
            have hj1 : 1 ≤ j := by omega
            have hjm : j < m := by omega
            have hjcp : j ≤ cp := by omega
            have hji2 : (j : Int) ≤ (cp : Int) := by omega
            clear hrow6 HME hj2
            go_wp2
            go_roundw
            case rel => exact ⟨up l, j, cp, (ob || othTo l j), rfl, by omega, by omega, hjcp, hcp, rfl, hup, hupo, hme2, hrow7, hy6, hb6⟩
            case measure => simp [lenS]; omega
      · have hm1' : m = 1 := by omega
        subst hm1'
        have hres : Hid (merkP ids = (hA l 0, ob)) := Lib.hid (by
          rw [← HME.out]
          obtain ⟨f, hf⟩ : ∃ f, n = f + 1 := ⟨n - 1, by omega⟩
          rw [hf, merkN, if_pos (by rw [HL.out]; omega)])
        have hx0 : l[0]? = some (hA l 0) := hA_some (by rw [HL.out]; omega)
        have hr0 := hrow4.out.1 0 _ hx0
        rw [Nat.zero_mul] at hr0
        have hok0 := Lib.hid (hA_len HLO.out 0)
        obtain ⟨V, hV⟩ : ∃ V, V = hA l 0 := ⟨_, rfl⟩
        rw [← hV] at hr0 hok0 hres
        have hYl := Lib.hid (show Y.size = 32 by rw [HY.out]; rfl)
        have hcp1 : 1 ≤ cp := by omega
        clear hrow4 HME hx0 hV
        go_wp2_with (first
          | (with_reducible refine wpList_load_mid (op := ⟨some 67, _, _, _, _, _⟩) ?_ 24 (.tmp 66) ?_ g 0 ?_ (hCells V) _ hr0 Tryd.underlying24 ?_ ?_ ?_
             · rfl
             · rfl
             · rfl
             · rfl
             · exact hCells_info hok0.out)
          | (with_reducible refine wp_store_blk (o := ⟨none, _, _, _, _, _⟩) ?_ 24 (.tmp 2) (.tmp 67) ?_ w.heap.size 24 Y (hCells V).toArray ?_ ?_ hy4.out ?_ ?_ ?_ w.heap.size w hb4 ?_ ?_
             · rfl
             · rfl
             · rfl
             · rfl
             · rw [List.size_toArray]; exact hCells_info hok0.out
             · exact hYl.out.trans (by rw [List.size_toArray, hCells, List.length_map, hok0.out])
             · exact hCells_one V
             · exact Nat.le_refl _
             intro w5 hR5 hb5 hg5 hs5))
        refine bodyPost_ret (results_cell2 rfl _ _ _ w.heap.size _ (hCells V) _ rfl hR5.out Tryd.underlying24 rfl (hCells_info hok0.out)) rfl ?_
        rw [hres.out]
        exact ⟨rfl, hb5⟩
end Go.Proofs.YtifanifgbkpdgaaDoor
