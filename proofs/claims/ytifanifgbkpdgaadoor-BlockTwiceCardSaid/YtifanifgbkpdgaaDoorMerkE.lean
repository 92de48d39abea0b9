/- sporranref08.Merkle: the walk. -/
import Derived.Test.YtifanifgbkpdgaaDoorMerkC
import Derived.Test.YtifanifgbkpdgaaDoorSizeB
import Derived.Test.YtifanifgbkpdgaaDoorLit
namespace Go.Proofs.YtifanifgbkpdgaaDoor
open Go.RowKit

theorem ownsRow_below {w w' : World} {B B' N n : Nat} {e : TypeId} {v : Value} {xs : List Value} (h : w.ownsRow B e N v n xs) (hb : Below B' w w') (hB : w.heap.size ≤ B') : w'.ownsRow B e N v n xs := by
  refine ⟨h.1, ?_⟩
  rcases h.2 with h0 | ⟨g, cap, cur, rfl, hg, hh, hr⟩
  · exact .inl h0
  · exact .inr ⟨g, cap, cur, rfl, hg, Blk.below hh hb (Nat.lt_of_lt_of_le (Blk.lt hh) hB), hr⟩

theorem hCells_size {l : List (BitVec 8)} (h : l.length = 32) : (hCells l).toArray.size = 32 := by rw [List.size_toArray, hCells, List.length_map, h]

theorem own_far {w : World} {B N n H : Nat} {e : TypeId} {v : Value} {xs : List Value} (h : w.ownsRow B e N v n xs) (hH : w.heap.size ≤ H) : v.ownBlock = none ∨ v.ownBlock ≠ some H := by
  cases hv : v.ownBlock with
  | none => exact .inl rfl
  | some k =>
    have := (World.ownsRow.lt h k hv).2
    exact .inr (by intro e; injection e with e; omega)

theorem HRow.rows {w : World} {g m : Nat} {l : List (List (BitVec 8))} (h : HRow w g l m) (hl : ∀ x ∈ l, x.length = 32) : RowsN 32 w (some ⟨g, 0, none⟩) (l.map hCells) := fun _ =>
  ⟨g, 0, rfl, h.2.2, fun i cs hi => by
    rw [List.getElem?_map, Option.map_eq_some_iff] at hi
    obtain ⟨x, hx, rfl⟩ := hi
    exact ⟨by rw [hCells, List.length_map]; exact hl x (List.mem_of_getElem? hx), by rw [Nat.zero_add]; exact h.1 i x hx⟩⟩

theorem merkN_len : ∀ (f : Nat) (l : List (List (BitVec 8))) (o : Bool), (∀ x ∈ l, x.length = 32) → (merkN f l o).1.length = 32
  | 0, _, _, h => hA_len h 0
  | f + 1, l, o, h => by
    unfold merkN
    split
    · exact hA_len h 0
    · exact merkN_len f (up l) _ (upTo_ok l _)
theorem merkP_len (l : List (List (BitVec 8))) (h : ∀ x ∈ l, x.length = 32) : (merkP l).1.length = 32 := by
  unfold merkP
  split
  · rfl
  · exact merkN_len _ _ _ h

set_option maxRecDepth 100000 in
set_option maxHeartbeats 4000000 in
theorem refMerkle_any (n : Nat) : ∀ (p : Option Addr) (c : Nat) (ids : List (List (BitVec 8))) (w : World), ids.length = n → (∀ x ∈ ids, x.length = 32) → n ≤ c → n ≤ 4398046511000 → RowsN 32 w p (ids.map hCells) →
    Calls Tryd.prog 23 #[.slice p n c] w fun e w' => e = .returned (.tuple #[.agg (hCells (merkP ids).1).toArray, .bool (merkP ids).2]) ∧ Below w.heap.size w w' := by
  induction n using Nat.strongRecOn with
  | _ n ih =>
  intro p c ids w hn hok hnc hbig hr
  have IH := Lib.hid ih
  have HN := Lib.hid hn
  have HO := Lib.hid hok
  have HR := Lib.hid hr
  have hz := zero32
  obtain ⟨Y, hY⟩ : ∃ Y, Y = (hCells (noughts 32)).toArray := ⟨_, rfl⟩
  replace hz : ∀ w, (zeroValue 24).run Tryd.prog w = .ok (.agg Y) w := by rw [hY]; exact hz
  have hbt := built_no
  rw [← hY] at hbt
  have HBT := Lib.hid hbt
  have HY := Lib.hid hY
  clear hn hok hr hY hbt ih
  by_cases h0 : n = 0
  · subst h0
    have HM : Hid (merkP ids = (noughts 32, false)) := Lib.hid (by unfold merkP; rw [HN.out]; rfl)
    go_enter Tryd.func23, Tryd.ntmps23
    go_wp2_with (first
      | (with_reducible refine wp_build (o := ⟨some 14, _, _, _, _, _⟩) ?_ 24 #[] ?_ [] ?_ Y HBT.out ?_
         · rfl
         · rfl
         · rfl)
      | (with_reducible refine wp_store_blk (o := ⟨none, _, _, _, _, _⟩) ?_ 24 (.tmp 2) (.tmp 14) ?_ w.heap.size 24 Y Y ?_ ?_ (Blk.new w _ _) ?_ ?_ ?_ w.heap.size w ?_ ?_ ?_
         · rfl
         · rfl
         · rfl
         · rfl
         · rw [HY.out]; exact hCells_info' (noughts_len 32)
         · rfl
         · rw [HY.out]; exact hCells_one _
         · exact (Below.refl _ _).alloc (Nat.le_refl _) _
         · exact Nat.le_refl _
         intro w5 hR5 hb5 hg5 hs5))
    rw [HY.out] at hR5
    refine bodyPost_ret (results_cell2 rfl _ _ _ w.heap.size _ (hCells (noughts 32)) _ rfl hR5.out Tryd.underlying24 rfl (hCells_info (noughts_len 32))) rfl ?_
    rw [HM.out]
    exact ⟨rfl, hb5⟩
  have hn0 : ((n : Int) == 0) = false := by simp; omega
  by_cases h1 : n = 1
  · subst h1
    have HM : Hid (merkP ids = (hA ids 0, false)) := Lib.hid (merkP_one HN.out)
    obtain ⟨b, off, hp, hbl, hrow⟩ := HR.out (by intro e; have := HN.out; rw [List.map_eq_nil_iff] at e; rw [e] at this; simp at this)
    subst hp
    have hx0 : (ids.map hCells)[0]? = some (hCells (hA ids 0)) := by rw [List.getElem?_map, hA_some (by rw [HN.out]; omega)]; rfl
    obtain ⟨_, hr0⟩ := hrow 0 _ hx0
    rw [Nat.zero_mul, Nat.add_zero] at hr0
    have hok0 := Lib.hid (hA_len HO.out 0)
    obtain ⟨V, hV⟩ : ∃ V, V = hA ids 0 := ⟨_, rfl⟩
    rw [← hV] at hr0 hok0 HM
    have hYl := Lib.hid (show Y.size = 32 by rw [HY.out]; rfl)
    have hrA := rangeAt_below hr0 ((Below.refl w.heap.size w).alloc (Nat.le_refl _) (.cells Y 24)) hbl
    clear hrow hx0 hV hr0
    go_enter Tryd.func23, Tryd.ntmps23
    go_wp2_with (first
      | (with_reducible refine wpList_load_mid (op := ⟨some 20, _, _, _, _, _⟩) ?_ 24 (.tmp 19) ?_ b off ?_ (hCells V) _ hrA Tryd.underlying24 ?_ ?_ ?_
         · rfl
         · rfl
         · rfl
         · rfl
         · exact hCells_info hok0.out)
      | (with_reducible refine wp_store_blk (o := ⟨none, _, _, _, _, _⟩) ?_ 24 (.tmp 2) (.tmp 20) ?_ w.heap.size 24 Y (hCells V).toArray ?_ ?_ (Blk.new w _ _) ?_ ?_ ?_ w.heap.size w ?_ ?_ ?_
         · rfl
         · rfl
         · rfl
         · rfl
         · rw [List.size_toArray]; exact hCells_info hok0.out
         · exact hYl.out.trans (by rw [List.size_toArray, hCells, List.length_map, hok0.out])
         · exact hCells_one V
         · exact (Below.refl _ _).alloc (Nat.le_refl _) _
         · exact Nat.le_refl _
         intro w5 hR5 hb5 hg5 hs5))
    refine bodyPost_ret (results_cell2 rfl _ _ _ w.heap.size _ (hCells V) _ rfl hR5.out Tryd.underlying24 rfl (hCells_info hok0.out)) rfl ?_
    rw [HM.out]
    exact ⟨rfl, hb5⟩
  have hn1 : ((n : Int) == 1) = false := by simp; omega
  have hn2 : 2 ≤ n := by omega
  clear h0 h1
  obtain ⟨b, off, hp, hbl, hrow⟩ := HR.out (by intro e; have := HN.out; rw [List.map_eq_nil_iff] at e; rw [e] at this; simp at this; omega)
  subst hp
  have hx : ∀ i, i < n → (ids.map hCells)[i]? = some (hCells (hA ids i)) := fun i hi => by rw [List.getElem?_map, hA_some (by rw [HN.out]; omega)]; rfl
  have hrx : Hid (∀ i, i < n → w.rangeAt b (off + i * 32) (hCells (hA ids i))) := Lib.hid fun i hi => (hrow i _ (hx i hi)).2
  have hokx : Hid (∀ i, (hA ids i).length = 32) := Lib.hid fun i => hA_len HO.out i
  have hYl := Lib.hid (show Y.size = 32 by rw [HY.out]; rfl)
  clear hrow hx
  go_enter Tryd.func23, Tryd.ntmps23
  go_upto_region 5 with fail
  refine wp_abst (fun w' => Hid (Blk w' w.heap.size 24 Y) ∧ Below w.heap.size w w') ⟨Lib.hid (Blk.new w _ _), (Below.refl _ _).alloc (Nat.le_refl _) _⟩ ?_
  rintro w1 ⟨hy1, hb1⟩
  have ho1 : Hid (w1.ownsRow (w.heap.size + 1) 24 32 (.slice none 0 0) 0 ((upTo ids 0).map hCells).flatten) := Lib.hid ⟨rfl, .inl ⟨rfl, rfl⟩⟩
  go_wp2_with fail
  go_loopw [4, 5, 6] (fun u o i wr => ∃ k : Nat, k ≤ (n + 1) / 2 ∧ o = .bool (othTo ids k) ∧ i = .int .i64 (2 * (k : Int)) ∧ Hid (wr.ownsRow (w.heap.size + 1) 24 32 u k ((upTo ids k).map hCells).flatten) ∧ Hid (Blk wr w.heap.size 24 Y) ∧ Below w.heap.size w wr) (fun _ _ i _ => n + 2 - (intOf i).toNat)
  case atStart => exact ⟨0, by omega, by simp [othTo], by simp, ho1, hy1, hb1⟩
  case round =>
    obtain ⟨k, hk, rfl, rfl, hou, hyr, hbr⟩ := hrel
    clear ho1 hy1 hb1
    by_cases hkn : 2 * k < n
    · have hki : 2 * (k : Int) < (n : Int) := by omega
      have hki0 : (0 : Int) ≤ 2 * (k : Int) := by omega
      have hkt : (2 * (k : Int)).toNat = 2 * k := by omega
      have r0 := rangeAt_below (hrx.out (2 * k) hkn) hbr hbl
      have r1 := Lib.hid r0
      have hltr := hyr.out.lt
      obtain ⟨A, hA0⟩ : ∃ x, x = hA ids (2 * k) := ⟨_, rfl⟩
      have HA0 := Lib.hid hA0
      have hAl : Hid (A.length = 32) := Lib.hid (by rw [hA0]; exact hokx.out _)
      clear r0
      rw [← hA0] at r1
      obtain ⟨S, hS⟩ : ∃ x, x = wr.heap.size := ⟨_, rfl⟩
      have HS := Lib.hid hS
      clear hA0 hS
      go_upto_region 10 with fail
      go_cut [7, 8] (fun s7 s8 wx => ∃ g7 g8 : Nat, s7 = .pointer (some ⟨g7, 0, none⟩) ∧ s8 = .pointer (some ⟨g8, 0, none⟩) ∧ g7 ≠ g8 ∧ wr.heap.size ≤ g7 ∧ wr.heap.size ≤ g8 ∧ Hid (Blk wx g7 24 (hCells A).toArray) ∧ Hid (Blk wx g8 24 (hCells A).toArray) ∧ Below wr.heap.size wr wx)
      case first =>
        refine region_plan [qq 0, qq 1, qq 2, qq 3, qq 4, qq 5, qq 6, qq 7, pp 8 9, oo 10, oo 11] (fun W => Below S wr W) (by kernel_rfl) (by kernel_rfl) (by rw [HS.out]; exact (Below.refl _ _).drew) ?_
        refine' plan_quiet (s := _) (A1 := _) [0, 1, 2, 3, 4, 5, 6, 7] [_, _, _, _, _, _, _, _] _ rfl rfl rfl (fun W hW => ?hq1) _ (by rw [HS.out]; exact (Below.refl _ _).drew) (fun _ => ?hr1)
        case hq1 =>
          have r2 : Hid (∀ j, (W.drewN j).rangeAt b (off + 2 * k * 32) (hCells A)) := Lib.hid fun j => rangeAt_below r1.out (below_drewN hW j) (by have := hbr.size; have := HS.out; omega)
          have hi1 : Hid ((Tryd.prog.info? 24).map (·.size) = some (hCells A).length) := Lib.hid (hCells_info hAl.out)
          simp only [List.getElem_toArray, List.getElem_cons_zero, List.getElem_cons_succ]
          iterate 3 (go_big_quiet_step (fail))
          refine quiet_load_mid rfl 24 (.tmp 29) rfl b (off + 2 * k * 32) rfl (hCells A) _ (fun w' ⟨t, h⟩ => by rw [h]; exact r2.out t) Tryd.underlying24 rfl hi1.out ?_
          simp only [put_some, List.setIfInBounds_toArray, List.set_cons_succ, List.set_cons_zero]
          iterate 3 (go_big_quiet_step (fail))
          refine quiet_load_mid rfl 24 (.tmp 33) rfl b (off + 2 * k * 32) rfl (hCells A) _ (fun w' ⟨t, h⟩ => by rw [h]; exact r2.out t) Tryd.underlying24 rfl hi1.out ?_
          simp only [put_some, List.setIfInBounds_toArray, List.set_cons_succ, List.set_cons_zero]
          refine wpQuiet_nil ?_
          rfl
        case hr1 =>
        refine plan_two rfl rfl (fun k1 => ?gA) (fun k1 => ?gB)
        case' gA =>
          go_wp2_with fail
          refine planQ_normal (And.intro (by rw [HS.out]; exact (below_drewN (Below.refl _ _) _).alloc (Nat.le_refl _) _) fun k2 => ?_)
          go_wp2_with fail
          refine planQ_normal (And.intro (by rw [HS.out]; exact (below_drewN ((below_drewN (Below.refl _ _) _).alloc (Nat.le_refl _) _) _).alloc (by simp) _) ?_)
          refine plan_abst (fun W2 => Hid (Blk W2 wr.heap.size 24 Y) ∧ Hid (Blk W2 (wr.heap.size + 1) 24 Y) ∧ Below S wr W2) ⟨?_, ?_, ?_⟩ ?_
          · exact Lib.hid (Blk.alloc (Blk.drewN (Blk.new (wr.drewN (1 + k1)) _ _) k2) _)
          · exact Lib.hid (by have := Blk.new (((wr.drewN (1 + k1)).alloc (.cells Y 24)).drewN k2) 24 Y; simp at this; exact this)
          · rw [HS.out]; exact (below_drewN ((below_drewN (Below.refl _ _) _).alloc (Nat.le_refl _) _) _).alloc (by simp) _
          rintro W2 ⟨hB7, hB8, hbW⟩
          obtain ⟨g7, hg7⟩ : ∃ x, x = wr.heap.size := ⟨_, rfl⟩
          obtain ⟨g8, hg8⟩ : ∃ x, x = wr.heap.size + 1 := ⟨_, rfl⟩
          rw [← hg8, ← hg7]
          rw [← hg7] at hB7
          rw [← hg8] at hB8
          have hne : g7 ≠ g8 := by omega
          have hge7 : S ≤ g7 := by rw [HS.out]; omega
          have hge8 : S ≤ g8 := by rw [HS.out]; omega
          clear hg7 hg8
        case' gB =>
          go_wp2_with fail
          refine planQ_normal (And.intro (by rw [HS.out]; exact (below_drewN (Below.refl _ _) _).alloc (Nat.le_refl _) _) fun k2 => ?_)
          go_wp2_with fail
          refine planQ_normal (And.intro (by rw [HS.out]; exact (below_drewN ((below_drewN (Below.refl _ _) _).alloc (Nat.le_refl _) _) _).alloc (by simp) _) ?_)
          refine plan_abst (fun W2 => Hid (Blk W2 wr.heap.size 24 Y) ∧ Hid (Blk W2 (wr.heap.size + 1) 24 Y) ∧ Below S wr W2) ⟨?_, ?_, ?_⟩ ?_
          · exact Lib.hid (Blk.alloc (Blk.drewN (Blk.new (wr.drewN (1 + k1)) _ _) k2) _)
          · exact Lib.hid (by have := Blk.new (((wr.drewN (1 + k1)).alloc (.cells Y 24)).drewN k2) 24 Y; simp at this; exact this)
          · rw [HS.out]; exact (below_drewN ((below_drewN (Below.refl _ _) _).alloc (Nat.le_refl _) _) _).alloc (by simp) _
          rintro W2 ⟨hB8, hB7, hbW⟩
          obtain ⟨g8, hg8⟩ : ∃ x, x = wr.heap.size := ⟨_, rfl⟩
          obtain ⟨g7, hg7⟩ : ∃ x, x = wr.heap.size + 1 := ⟨_, rfl⟩
          rw [← hg7, ← hg8]
          rw [← hg7] at hB7
          rw [← hg8] at hB8
          have hne : g7 ≠ g8 := by omega
          have hge7 : S ≤ g7 := by rw [HS.out]; omega
          have hge8 : S ≤ g8 := by rw [HS.out]; omega
          clear hg7 hg8
        all_goals
          refine plan_one rfl fun k3 => ?_
          refine wp_store_blk (o := ⟨none, _, _, _, _, _⟩) rfl 24 (.tmp 7) (.tmp 30) rfl g7 24 Y (hCells A).toArray rfl rfl (hB7.out.drewN k3) (by rw [List.size_toArray]; exact hCells_info hAl.out) (hYl.out.trans (by rw [List.size_toArray, hCells, List.length_map, hAl.out])) (hCells_one A) S wr (below_drewN hbW k3) hge7 ?_
          intro w3 hR3 hb3 hg3 hs3
          have hB83 := Lib.hid ((hB8.out.drewN k3).kept hg3.out (Ne.symm hne))
          clear hB7 hB8 hbW hg3 hs3
          go_wp2_with fail
          refine planQ_normal (And.intro hb3 ?_)
          refine plan_one rfl fun k4 => ?_
          refine wp_store_blk (o := ⟨none, _, _, _, _, _⟩) rfl 24 (.tmp 8) (.tmp 34) rfl g8 24 Y (hCells A).toArray rfl rfl (hB83.out.drewN k4) (by rw [List.size_toArray]; exact hCells_info hAl.out) (hYl.out.trans (by rw [List.size_toArray, hCells, List.length_map, hAl.out])) (hCells_one A) S wr (below_drewN hb3 k4) hge8 ?_
          intro w4 hR4 hb4 hg4 hs4
          have hR3' := Lib.hid ((hR3.out.drewN k4).kept hg4.out hne)
          clear hR3 hB83 hb3 hg4 hs4
          go_wp2_with fail
          refine planQ_normal (And.intro hb4 ?_)
          refine plan_end fun k5 => NoPanic.normal ?_
          go_wp2_with fail
          go_meet
          case rel => exact ⟨g7, g8, rfl, rfl, hne, by rw [← HS.out]; exact hge7, by rw [← HS.out]; exact hge8, Lib.hid (hR3'.out.drewN k5), Lib.hid (hR4.out.drewN k5), by rw [← HS.out]; exact below_drewN hb4 k5⟩
      case rest =>
        obtain ⟨g7, g8, rfl, rfl, hne, hge7, hge8, hB7, hB8, hbW⟩ := hcut
        have hou2 := Lib.hid (ownsRow_below hou.out hbW (Nat.le_refl _))
        have hy2 := Lib.hid (hyr.out.below hbW hltr)
        have hbr2 := hbr.trans (hbW.mono hbr.size)
        have hbs := hbr.size
        have hnb := own_far hou.out hge8
        clear hou hyr hbW r1 hbr
        obtain ⟨B, hBdef⟩ : ∃ x, x = hA ids (min (2 * k + 1) (n - 1)) := ⟨_, rfl⟩
        have HB := Lib.hid hBdef
        have hBl : Hid (B.length = 32) := Lib.hid (by rw [hBdef]; exact hokx.out _)
        clear hBdef
        go_upto_if 39 with (fail)
        go_cut [5] (fun s5 wx => s5 = .bool (othTo ids (k + 1)) ∧ Hid (Blk wx g7 24 (hCells A).toArray) ∧ Hid (Blk wx g8 24 (hCells B).toArray) ∧ Hid (wx.ownsRow (w.heap.size + 1) 24 32 u4 k ((upTo ids k).map hCells).flatten) ∧ Hid (Blk wx w.heap.size 24 Y) ∧ Below w.heap.size w wx)
        case first =>
          by_cases h2 : 2 * k + 1 < n
          · have hd : (2 * (k : Int) + 1) < (n : Int) := by omega
            have hd2 : decide ((2 * (k : Int) + 1) < (n : Int)) = true := decide_eq_true hd
            have hk1 : (0 : Int) ≤ 2 * (k : Int) + 1 := by omega
            have hkt1 : (2 * (k : Int) + 1).toNat = 2 * k + 1 := by omega
            have hBe : B = hA ids (2 * k + 1) := by rw [HB.out, show min (2 * k + 1) (n - 1) = 2 * k + 1 by omega]
            have r2 := rangeAt_below (hrx.out (2 * k + 1) h2) hbr2 hbl
            rw [← hBe] at r2
            have hth : othTo ids (k + 1) = (othTo ids k || decide (A = B)) := by
              rw [othTo_succ]; unfold othAt; rw [HN.out, decide_eq_true h2, Bool.true_and, ← HA0.out, ← hBe]
            have HTH := Lib.hid hth
            clear hth hBe
            have E := hash_eq A B hAl.out hBl.out
            obtain ⟨bb, hbb⟩ : ∃ x, x = decide (A = B) := ⟨_, rfl⟩
            rw [← hbb] at E HTH
            clear hbb
            go_upto_region 13 with (first
              | (with_reducible refine wpList_load_mid (op := ⟨some 44, _, _, _, _, _⟩) ?_ 24 ((.tmp 43)) ?_ (b) ((off + (2 * k + 1) * 32)) ?_ ((hCells (B))) _ (r2) Tryd.underlying24 ?_ ?_ ?_
                 · rfl
                 · rfl
                 · rfl
                 · rfl
                 · exact (hCells_info (hBl.out)))
              | (with_reducible refine wp_store_blk (o := ⟨none, _, _, _, _, _⟩) ?_ 24 ((.tmp 8)) ((.tmp 44)) ?_ (g8) 24 ((hCells A).toArray) ((hCells (B)).toArray) ?_ ?_ (hB8.out) ?_ ?_ ?_ (w.heap.size) (w) ?_ ?_ ?_
                 · rfl
                 · rfl
                 · rfl
                 · rfl
                 · exact (hCells_info' (hBl.out))
                 · exact ((hCells_size hAl.out).trans (hCells_size (hBl.out)).symm)
                 · exact (hCells_one _)
                 · exact (hbr2)
                 · exact ((by omega))
                 intro w5 hR5 hb5 hg5 hs5))
            have hR7 := Lib.hid (hB7.out.kept hg5.out hne)
            have hy5 := Lib.hid (hy2.out.kept hg5.out (by omega))
            have hou5 := Lib.hid (World.ownsRow.kept hou2.out hg5.out hnb)
            have HR8 := Lib.hid hR5.out
            clear hB7 hB8 hy2 hou2 hbr2 hR5 hg5 r2
            have r7 := hash_range hR7.out
            have r8 := hash_range HR8.out
            cases hob : othTo ids k
            · go_wp2_with (first
                | (with_reducible refine wpList_load_midG (op := ⟨some 47, _, _, _, _, _⟩) ?_ 24 ((.tmp 7)) ?_ (g7) (0) ?_ ((hCells (A))) _ (r7) Tryd.underlying24 ?_ ?_ ?_
                   · rfl
                   · rfl
                   · rfl
                   · rfl
                   · exact (hCells_info (hAl.out)))
                | (with_reducible refine wpList_load_midG (op := ⟨some 48, _, _, _, _, _⟩) ?_ 24 ((.tmp 8)) ?_ (g8) (0) ?_ ((hCells (B))) _ (r8) Tryd.underlying24 ?_ ?_ ?_
                   · rfl
                   · rfl
                   · rfl
                   · rfl
                   · exact (hCells_info (hBl.out))))
              go_meet
              case rel => exact ⟨by rw [HTH.out, hob]; rfl, hR7, HR8, hou5, hy5, hb5⟩
            · go_wp2_with fail
              go_meet
              case rel => exact ⟨by rw [HTH.out, hob]; rfl, hR7, HR8, hou5, hy5, hb5⟩
          · have hd : ¬ (2 * (k : Int) + 1) < (n : Int) := by omega
            have hd2 : decide ((2 * (k : Int) + 1) < (n : Int)) = false := decide_eq_false hd
            have hBe : B = A := by rw [HB.out, HA0.out, show min (2 * k + 1) (n - 1) = 2 * k by omega]
            have hth : othTo ids (k + 1) = othTo ids k := by
              rw [othTo_succ]; unfold othAt; rw [HN.out, decide_eq_false h2, Bool.false_and, Bool.or_false]
            have HTH := Lib.hid hth
            have HBE := Lib.hid hBe
            clear hth hBe
            go_wp2_with fail
            go_meet
            case rel => exact ⟨by rw [HTH.out], hB7, by rw [HBE.out]; exact hB8, hou2, hy2, hbr2⟩
        case rest =>
          obtain ⟨rfl, hC7, hC8, hoc, hyc, hbc⟩ := hcut
          clear hB7 hB8 hou2 hy2 hbr2
          have hV : pairH A B = upAt ids k := by unfold upAt; rw [HN.out, HA0.out, HB.out]
          have HV := Lib.hid hV
          clear hV
          go_upto_region 14 with fail
          refine region_plan [qq 0, qq 2, qq 4, oo 1, oo 3, oo 5, oo 6, oo 7, oo 8, qq 9] AnyW (by kernel_rfl) (by kernel_rfl) (anyW _) ?_
          refine' plan_quiet (s := _) (A1 := _) [0, 2, 4] [_, _, _] _ rfl rfl rfl (fun W _ => ?hq3) _ (anyW _) (fun _ => ?hr3)
          case hq3 =>
            simp only [List.getElem_toArray, List.getElem_cons_zero, List.getElem_cons_succ]
            iterate 3 (go_big_quiet_step (fail))
            refine wpQuiet_nil ?_
            rfl
          case hr3 =>
          refine plan_one rfl fun k1 => ?_
          go_wp2_with fail
          refine planQ_normal (And.intro (anyW _) ?_)
          refine plan_abst (fun W => Own8 W wc.heap.size (.slice (some ⟨wc.heap.size, 0, none⟩) 0 0) [] ∧ Below wc.heap.size wc W) ⟨own_nothing (wc.drewN (1 + k1)) _ (Nat.le_refl _), (below_drewN (Below.refl _ _) _).alloc (Nat.le_refl _) _⟩ ?_
          rintro W1 ⟨ho1, hb1⟩
          refine plan_one rfl fun k2 => ?_
          refine wp_append8 (o := ⟨some 54, _, _, _, _, _⟩) rfl (.tmp 52) (.tmp 53) rfl wc.heap.size _ [] rfl (ho1.drewN k2) (some ⟨g7, 0, none⟩) 32 32 A rfl hAl.out (hCells_row (((hC7.out).below hb1 hC7.out.lt).drewN k2)) (by simp; have := hAl.out; omega) hb1.size wc.heap.size wc (below_drewN hb1 k2) (Nat.le_refl _) ?_
          intro v2 w2 ho2 hb2 _ _
          clear ho1 hb1
          go_wp2_with fail
          refine planQ_normal (And.intro (anyW _) ?_)
          refine plan_one rfl fun k3 => ?_
          rw [List.nil_append] at ho2
          refine wp_append8 (o := ⟨some 56, _, _, _, _, _⟩) rfl (.tmp 54) (.tmp 55) rfl wc.heap.size v2 A rfl (ho2.drewN k3) (some ⟨g8, 0, none⟩) 32 32 B rfl hBl.out (hCells_row (((hC8.out).below hb2 hC8.out.lt).drewN k3)) (by have := hAl.out; have := hBl.out; omega) hb2.size wc.heap.size wc (below_drewN hb2 k3) (Nat.le_refl _) ?_
          intro v3 w3 ho3 hb3 _ _
          clear ho2 hb2
          obtain ⟨p3, n3, c3, rfl, hn3, hc3, hm3, hr3⟩ := ho3.open
          clear ho3
          go_wp2_with fail
          refine planQ_normal (And.intro (anyW _) ?_)
          refine plan_one rfl fun k4 => ?_
          have hn64 : n3 ≤ 64 := by have := hn3.out; rw [List.length_append, hAl.out, hBl.out] at this; omega
          go_wp2_with fail
          refine (refDouble_any p3 n3 c3 (A ++ B) (w3.drewN k4) hr3 hn3.out (by omega)).mono ?_
          rw [show sha (sha (A ++ B)) = upAt ids k from HV.out]
          rintro e w4 ⟨rfl, hb4⟩
          have hb5 : Below wc.heap.size wc w4 := (below_drewN hb3 k4).trans (hb4.mono hb3.size)
          clear hb3 hb4 hr3
          go_wp2_with fail
          refine planQ_normal (And.intro (anyW _) ?_)
          refine plan_one rfl fun k5 => ?_
          refine wp_lit (o := ⟨some 58, _, _, _, _, _⟩) rfl 22 24 1 #[(0, .tmp 57)] rfl [.agg (hCells (upAt ids k)).toArray] rfl 32 32 _ Tryd.underlying22 hash_info (by omega) (fun v hv => by rw [List.mem_singleton.1 hv]; exact hCells_size (pairH_len _ _)) rfl (by omega) (by omega) ?_
          go_wp2_with fail
          refine planQ_normal (And.intro (anyW _) ?_)
          have hR : RowsN 32 ((w4.drewN k5).alloc (.cells (hCells (upAt ids k)).toArray 24)) (some ⟨w4.heap.size, 0, none⟩) [hCells (upAt ids k)] := by
            refine fun _ => ⟨_, _, rfl, by simp, fun i cs hi => ?_⟩
            cases i with
            | zero =>
              injection hi with hi
              subst hi
              refine ⟨by rw [hCells, List.length_map]; exact pairH_len _ _, fun j v hj => ?_⟩
              rw [Nat.zero_mul, Nat.add_zero, Nat.zero_add]
              exact ((Blk.new (w4.drewN k5) 24 _).cell j).trans (by rw [List.getElem?_toArray]; exact hj)
            | succ i => cases hi
          have hb6 : Below wc.heap.size wc ((w4.drewN k5).alloc (.cells (hCells (upAt ids k)).toArray 24)) := (below_drewN hb5 k5).alloc hb5.size _
          refine plan_abst (fun W => RowsN 32 W (some ⟨w4.heap.size, 0, none⟩) [hCells (upAt ids k)] ∧ Below wc.heap.size wc W) ⟨hR, hb6⟩ ?_
          clear hR hb6 hb5
          rintro W6 ⟨hR6, hb6⟩
          have ho6 := ownsRow_below hoc.out hb6 (Nat.le_refl _)
          have hy6 := Lib.hid (hyc.out.below hb6 hyc.out.lt)
          have hbw6 := hbc.trans (hb6.mono hbc.size)
          have hws : w.heap.size + 1 ≤ W6.heap.size := by have := hyc.out.lt; have := hb6.size; omega
          clear hoc hyc hbc hb6 hC7 hC8
          refine plan_one rfl fun k6 => ?_
          refine wp_append_row (o := ⟨some 59, _, _, _, _, _⟩) rfl (.tmp 51) (.tmp 58) 22 24 rfl 32 32 _ Tryd.underlying22 hash_info rfl (by omega) (w.heap.size + 1) u4 k _ rfl ho6 (some ⟨w4.heap.size, 0, none⟩) 1 1 [hCells (upAt ids k)] rfl rfl hR6 (flat_oneCell (l := [upAt ids k])) (by omega) (by unfold maxLen; omega) hws (w.heap.size + 1) (W6.drewN k6) (Below.refl _ _) (Nat.le_refl _) ?_
          intro v7 w7 ho7 hb7 _ _
          have hy7 := Lib.hid ((hy6.out.drewN k6).below hb7 (Nat.lt_succ_self _))
          have hbw7 := (below_drewN hbw6 k6).trans (hb7.mono (Nat.le_succ _))
          have ho7' : Hid (w7.ownsRow (w.heap.size + 1) 24 32 v7 (k + 1) ((upTo ids (k + 1)).map hCells).flatten) := Lib.hid (by
            rw [upTo_succ, List.map_append, List.flatten_append]; exact ho7)
          clear ho6 hy6 hbw6 hws ho7 hb7 hR6
          go_wp2_with fail
          refine planQ_normal (And.intro (anyW _) ?_)
          refine' plan_quiet (s := _) (A1 := _) (r := []) [9] [_] _ rfl rfl rfl (fun W _ => ?hq4) _ (anyW _) (fun _ => ?hr4)
          case hq4 =>
            simp only [List.getElem_toArray, List.getElem_cons_zero, List.getElem_cons_succ]
            go_big_quiet_step (fail)
            refine wpQuiet_nil ?_
            rfl
          case hr4 =>
          refine plan_end fun k9 => NoPanic.normal ?_
          go_wp2
          go_roundw
          case rel => exact ⟨k + 1, by omega, rfl, by go_num, ho7', hy7, below_drewN hbw7 _⟩
          case measure => simp [intOf]; omega
    · have hki : ¬ 2 * (k : Int) < (n : Int) := by omega
      have hk2 : k = (n + 1) / 2 := by omega
      have hup : upTo ids k = up ids := by rw [up, HN.out, hk2]
      have hot : othTo ids k = oth ids := by rw [oth, HN.out, hk2]
      have hou2 := hou.out
      rw [hup] at hou2
      obtain ⟨g, cap, rfl, hgB, hc1, hc2, hrow⟩ := own_hrow (l := up ids) (upTo_ok ids _) (by rw [up_len, HN.out, hk2]) (by omega) hou2
      have hrow' := Lib.hid (hrow.rows (upTo_ok ids _))
      have hkl : Hid ((up ids).length = k) := Lib.hid (by rw [up_len, HN.out, hk2])
      have HST : Hid (merkP ids = ((merkP (up ids)).1, oth ids || (merkP (up ids)).2)) := Lib.hid (merkP_step (by rw [HN.out]; omega))
      have HOT := Lib.hid hot
      have hkn2 : k < n := by omega
      have hrl : (merkP (up ids)).1.length = 32 := merkP_len _ (upTo_ok ids _)
      clear hou2 hup hot hk2 hrow hou
      go_wp2_with fail
      refine (IH.out k hkn2 (some ⟨g, 0, none⟩) cap (up ids) wr hkl.out (upTo_ok ids _) hc1 (by omega) hrow'.out).mono ?_
      obtain ⟨R, hR⟩ : ∃ R, R = (merkP (up ids)).1 := ⟨_, rfl⟩
      obtain ⟨ob, hob⟩ : ∃ R, R = (merkP (up ids)).2 := ⟨_, rfl⟩
      obtain ⟨oa, hoa⟩ : ∃ R, R = othTo ids k := ⟨_, rfl⟩
      rw [← hR, ← hob]
      rw [← hR, ← hob] at HST
      rw [← hoa]
      rw [← hoa] at HOT
      rw [← hR] at hrl
      have HRL := Lib.hid hrl
      clear hrl hR hob hoa
      rintro e w2 ⟨rfl, hb2⟩
      have hy2 := Lib.hid (hyr.out.below hb2 hyr.out.lt)
      have hbr2 := hbr.trans (hb2.mono hbr.size)
      have hlt2 := hy2.out.lt
      clear hyr hbr hb2 hrow'
      go_upto_region 16 with (first
        | (with_reducible refine wp_store_blk (o := ⟨none, _, _, _, _, _⟩) ?_ 24 ((.tmp 9)) ((.tmp 63)) ?_ (w2.heap.size) 24 (Y) ((hCells (R)).toArray) ?_ ?_ (Blk.new w2 _ _) ?_ ?_ ?_ (w.heap.size) (w) ?_ ?_ ?_
           · rfl
           · rfl
           · rfl
           · rfl
           · exact (hCells_info' (HRL.out))
           · exact ((hYl.out).trans (hCells_size (HRL.out)).symm)
           · exact (hCells_one _)
           · exact ((hbr2.alloc hbr2.size _))
           · exact (hbr2.size)
           intro w5 hR5 hb5 hg5 hs5))
      have hy5 := Lib.hid ((hy2.out.alloc _).kept hg5.out (by omega))
      have hr5 := hash_range hR5.out
      clear hy2 hbr2 hR5 hg5 hs5
      cases oa
      all_goals
        go_wp2_with (first
          | (with_reducible refine wpList_load_mid (op := ⟨some 65, _, _, _, _, _⟩) ?_ 24 (.tmp 9) ?_ (w2.heap.size) (0) ?_ ((hCells (R))) _ (hr5) Tryd.underlying24 ?_ ?_ ?_
             · rfl
             · rfl
             · rfl
             · rfl
             · exact (hCells_info (HRL.out)))
          | (with_reducible refine wp_store_blk (o := ⟨none, _, _, _, _, _⟩) ?_ 24 (.tmp 2) (.tmp 65) ?_ (w.heap.size) 24 (Y) ((hCells (R)).toArray) ?_ ?_ (hy5.out) ?_ ?_ ?_ (w.heap.size) (w) ?_ ?_ ?_
             · rfl
             · rfl
             · rfl
             · rfl
             · exact (hCells_info' (HRL.out))
             · exact ((hYl.out).trans (hCells_size (HRL.out)).symm)
             · exact (hCells_one _)
             · exact (hb5)
             · exact (Nat.le_refl _)
             intro w7 hR7 hb7 hg7 hs7))
        refine bodyPost_ret (results_cell2 rfl _ _ _ w.heap.size _ (hCells R) _ rfl hR7.out Tryd.underlying24 rfl (hCells_info HRL.out)) rfl ?_
        rw [HST.out, ← HOT.out]
        exact ⟨rfl, hb7⟩
end Go.Proofs.YtifanifgbkpdgaaDoor
