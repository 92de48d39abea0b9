/- sporranref09.Reader: command, first, Feed: the walks. -/
import Derived.Test.YtikjhnbehihbjaaDoorFrmF
import Derived.Test.YtikjhnbehihbjaaDoorCmdR
import Derived.Test.YtikjhnbehihbjaaDoorGB
namespace Go.Proofs.YtikjhnbehihbjaaDoor
open Go.RowKit
set_option linter.unusedVariables false

/-- what 'command' says of twelve bytes -/
def refName (bs : List (BitVec 8)) : List (BitVec 8) := if cmdOk (bs.take (trimN bs 12)) then bs.take (trimN bs 12) else []
theorem strB_nil : strB [] = ⟨#[]⟩ := rfl

set_option maxRecDepth 100000 in
set_option maxHeartbeats 4000000 in
theorem refName_any (p : Option Addr) (c : Nat) (bs : List (BitVec 8)) (w : World) (hr : Row8 w p bs) (hn : bs.length = 12) (hnc : 12 ≤ c) (hc : c ≤ 9223372036854775807) :
    Calls Tryd.prog 39 #[.slice p 12 c] w fun e w' => e = .returned (.string (strB (refName bs))) ∧ w' = w := by
  obtain ⟨bb, of, rfl, hlt, hcell⟩ := hr (fun e => by rw [e] at hn; simp at hn)
  have HR : Hid (Row8 w (some ⟨bb, of, none⟩) bs) := Lib.hid (fun _ => ⟨bb, of, rfl, hlt, hcell⟩)
  have HN := Lib.hid hn
  have HT : Hid (∃ t, t = trimN bs 12 ∧ t ≤ 12) := Lib.hid ⟨_, rfl, trimN_le bs 12⟩
  obtain ⟨t, ht, htn⟩ := HT.out
  have HTT := Lib.hid ht
  have HRN : Hid (refName bs = if cmdOk (bs.take t) then bs.take t else []) := Lib.hid (by unfold refName; rw [ht])
  obtain ⟨rn, hrn⟩ : ∃ rn, rn = refName bs := ⟨_, rfl⟩
  rw [← hrn] at HRN ⊢
  have HC := Lib.hid hcell
  clear hr ht HT hrn hcell hn
  go_enter Tryd.func39, Tryd.ntmps39
  go_wp2_with fail
  go_loop [3] (fun s => ∃ k : Nat, k ≤ 12 ∧ s = .int .i64 k ∧ Hid (t = trimN bs k)) (fun s => (intOf s).toNat)
  case atStart => exact ⟨12, Nat.le_refl _, rfl, HTT⟩
  case round =>
    obtain ⟨k, hk, rfl, hkt⟩ := hrel
    by_cases h0 : k = 0
    · subst h0
      have HE : Hid (t = 0) := Lib.hid (by rw [hkt.out]; rfl)
      have HF : Hid (rn = []) := Lib.hid (by rw [HRN.out, HE.out]; rfl)
      have hcv := (HR.out.take 0).convert 0 c (by simp)
      go_wp2_with fail
      refine (refCommand_any _ _ (by simp)).mono ?_
      rintro e w' ⟨rfl, hw⟩
      replace hw := hw.symm
      subst hw
      have hcf : cmdOk [] = false := rfl
      rw [hcf]
      go_wp2_with fail
      go_ret
      exact ⟨by rw [HF.out]; rfl, rfl⟩
    · obtain ⟨j, hj⟩ : ∃ j, k = j + 1 := ⟨k - 1, by omega⟩
      subst hj
      obtain ⟨x, hx⟩ : ∃ x, bs[j]? = some x := ⟨_, List.getElem?_eq_getElem (by rw [HN.out]; omega)⟩
      have hc1 : w.cell? ⟨bb, of + j, none⟩ = some (.int .u8 (iv8 x)) := HC.out j x hx
      have hj0 : (0 : Int) ≤ (j : Int) := by omega
      have hjn : (j : Int) < 12 := by omega
      have hkp' : (0 : Int) < (j : Int) + 1 := by omega
      by_cases hz : x = 0#8
      · have hz0 : (iv8 x == 0) = true := by rw [hz]; rfl
        have HE : Hid (t = trimN bs j) := Lib.hid (by rw [hkt.out, trimN, if_pos (by rw [hx, hz])])
        clear hx hz
        go_wp2_with fail
        go_round
        case rel => exact ⟨j, by omega, by simp, HE⟩
        case measure => simp [intOf]
      · have hz0 : (iv8 x == 0) = false := by
          rw [beq_eq_false_iff_ne]
          intro e
          exact hz (iv8_inj.1 (e.trans (by rfl)))
        have HE : Hid (t = j + 1) := Lib.hid (by rw [hkt.out, trimN, if_neg (by rw [hx]; intro e; injection e with e; exact hz e)])
        have hln : (bs.take (j + 1)).length = j + 1 := by rw [List.length_take, HN.out]; omega
        have hcv : (convert 22 9 (.slice (some ⟨bb, of, none⟩) (j + 1) c)).run Tryd.prog w = .ok (.string (strB (bs.take (j + 1)))) w := (HR.out.take (j + 1)).convert (j + 1) c hln
        have HRN' : Hid (rn = if cmdOk (bs.take (j + 1)) then bs.take (j + 1) else []) := Lib.hid (by rw [HRN.out, HE.out])
        have hjc : (j : Int) + 1 ≤ (c : Int) := by omega
        have HL := Lib.hid hln
        obtain ⟨nm, hnm⟩ : ∃ nm, nm = bs.take (j + 1) := ⟨_, rfl⟩
        rw [← hnm] at hcv HRN' HL
        clear hx hz hln hnm
        go_wp2_with fail
        refine (refCommand_any nm _ (by rw [HL.out]; omega)).mono ?_
        rintro e w' ⟨rfl, hw⟩
        replace hw := hw.symm
        subst hw
        cases hq : cmdOk nm with
        | false =>
          have HF : Hid (rn = []) := Lib.hid (by rw [HRN'.out, hq]; rfl)
          clear hq
          go_wp2_with fail
          go_ret
          exact ⟨by rw [HF.out]; rfl, rfl⟩
        | true =>
          have HF : Hid (rn = nm) := Lib.hid (by rw [HRN'.out, hq]; rfl)
          clear hq
          go_wp2_with fail
          go_ret
          exact ⟨by rw [HF.out]; rfl, rfl⟩

/-- what a reference's reader holds -/
def RdR (w : World) (g : Nat) (v : Value) (e : Int) : Prop := Blk w g 43 #[v, .int .i64 e]
def noFrm : Value := .agg #[.string ⟨#[]⟩, .slice none 0 0]
def FirstPost (w : World) (g : Nat) (v : Value) (x : FrmStep) (e : Ending) (w' : World) : Prop := match x with
  | .wait => e = .returned (.tuple #[noFrm, .bool false]) ∧ RdR w' g v 0 ∧ Stays (· = g) w w'
  | .fault er => e = .returned (.tuple #[noFrm, .bool false]) ∧ RdR w' g v er ∧ Stays (· = g) w w'
  | .frame nm pl r => ∃ q v', e = .returned (.tuple #[.agg #[.string (strB nm), q], .bool true]) ∧ Own8 w' w.heap.size q pl ∧ Own8 w' w.heap.size v' r ∧ RdR w' g v' 0 ∧ Stays (· = g) w w' ∧ (∀ k, q.ownBlock = some k → v'.ownBlock ≠ some k)

theorem Own8.set3 {w : World} {B : Nat} {v : Value} {bs : List (BitVec 8)} (h : Own8 w B v bs) {g b : Nat} {x y z : Value} (hk : ∀ k, v.ownBlock = some k → k ≠ g ∧ k ≠ b) :
    Own8 (((w.setCell ⟨g, 0, none⟩ x).setCell ⟨b, 0, none⟩ y).setCell ⟨b, 1, none⟩ z) B v bs :=
  Own8.setFar (a := ⟨b, 1, none⟩) (Own8.setFar (a := ⟨b, 0, none⟩) (Own8.setFar (a := ⟨g, 0, none⟩) h (fun e => (hk g e).1 rfl) x) (fun e => (hk b e).2 rfl) y) (fun e => (hk b e).2 rfl) z
set_option maxRecDepth 100000 in
set_option maxHeartbeats 8000000 in
theorem first_any (g : Nat) (p : Option Addr) (n c : Nat) (cur : List (BitVec 8)) (w : World) (hB : RdR w g (.slice p n c) 0) (hr : Row8 w p cur) (hn : cur.length = n) (hnc : n ≤ c) (hc : c ≤ 9223372036854775807) (hp : p = none → c = 0) (hbig : n ≤ 1000000000000) :
    Calls Tryd.prog 29 #[.pointer (some ⟨g, 0, none⟩)] w (FirstPost w g (.slice p n c) (frmStep cur)) := by
  have HR := Lib.hid hr
  have HN := Lib.hid hn
  have HB := Lib.hid hB
  have HP := Lib.hid hp
  have hglt := hB.lt
  have c0 := hB.cell 0
  have c1 := hB.cell 1
  simp only [List.getElem?_toArray, List.getElem?_cons_zero, List.getElem?_cons_succ] at c0 c1
  have f0 := hB.frozen 0
  have f1 := hB.frozen 1
  clear hr hn hB hp
  by_cases h24 : n < 24
  · have HW : Hid (frmStep cur = .wait) := Lib.hid (by unfold frmStep; rw [if_pos (by rw [HN.out]; exact h24)])
    have h24i : (n : Int) < 24 := by omega
    rw [HW.out]
    go_enter Tryd.func29, Tryd.ntmps29
    go_wp2_with fail
    refine bodyPost_ret (v := .tuple #[noFrm, .bool false]) (by simp [results, Tryd.results29, go_sem, noFrm]) rfl ⟨rfl, ?_, ?_⟩
    · exact Blk.alloc HB.out _
    · exact Stays.of_below (below_new w _) (Nat.le_refl _) _
  · have h24i : ¬ (n : Int) < 24 := by omega
    have r12 : Row8 w (cut8 p c 4) ((cur.take 16).drop 4) := HR.out.lh (by rw [HN.out]; exact hnc)
    have l12 : ((cur.take 16).drop 4).length = 12 := by rw [List.length_drop, List.length_take, HN.out]; omega
    have hs1 : ∀ W, (Instr.sliceAt 22 (.slice p n c) (some (.int .i64 4)) (some (.int .i64 16)) none).run Tryd.prog W = .ok (.slice (cut8 p c 4) 12 (c - 4)) W := fun W => slice_lh8 W p n c 4 16 (by omega) (by omega)
    have hs2 : ∀ W, (Instr.sliceAt 22 (.slice p n c) (some (.int .i64 16)) (some (.int .i64 20)) none).run Tryd.prog W = .ok (.slice (cut8 p c 16) 4 (c - 16)) W := fun W => slice_lh8 W p n c 16 20 (by omega) (by omega)
    have hb4 : (4 : Int) ≤ (c : Int) := by omega
    have r4 : Row8 w p (cur.take 4) := HR.out.take 4
    have l4 : (cur.take 4).length = 4 := by rw [List.length_take, HN.out]; omega
    have r16 : Row8 w (cut8 p c 16) ((cur.take 20).drop 16) := HR.out.lh (by rw [HN.out]; exact hnc)
    have l16 : ((cur.take 20).drop 16).length = 4 := by rw [List.length_drop, List.length_take, HN.out]; omega
    have e16 : (cur.take 20).drop 16 = (cur.drop 16).take 4 := by rw [List.drop_take]
    have e12 : (cur.take 16).drop 4 = (cur.drop 4).take 12 := by rw [List.drop_take]
    have hN16 := num64_32 (cur.drop 16)
    have hN4 := num64_32 cur
    rw [← e16] at hN16
    have HH : Hid (frmHead cur = if num32 cur = 3652501241#32 ∧ cmdOk (((cur.take 16).drop 4).take (trimN ((cur.take 16).drop 4) 12)) = true then (if 200000 < (num32 (cur.drop 16)).toNat then ([], 0, 91) else (((cur.take 16).drop 4).take (trimN ((cur.take 16).drop 4) 12), 24 + (num32 (cur.drop 16)).toNat, 0)) else ([], 0, 90)) := Lib.hid (by
      unfold frmHead frmName frmLen trim0
      rw [← e12, l12])
    have HRN : Hid (refName ((cur.take 16).drop 4) = if cmdOk (((cur.take 16).drop 4).take (trimN ((cur.take 16).drop 4) 12)) then ((cur.take 16).drop 4).take (trimN ((cur.take 16).drop 4) 12) else []) := Lib.hid rfl
    have HC1 := Lib.hid (fun W (h : Below w.heap.size w W) => refName_any (cut8 p c 4) (c - 4) ((cur.take 16).drop 4) W (r12.fut h) l12 (by omega) (by omega))
    have HC2 := Lib.hid (fun W (h : Below w.heap.size w W) => number_any p 4 c (cur.take 4) W (r4.fut h) l4 (by omega))
    have HC3 := Lib.hid (fun W (h : Below w.heap.size w W) => number_any (cut8 p c 16) 4 (c - 16) ((cur.take 20).drop 16) W (r16.fut h) l16 (by omega))
    rw [hN16] at HC3
    rw [hN4] at HC2
    obtain ⟨nm, hnm⟩ : ∃ nm, nm = ((cur.take 16).drop 4).take (trimN ((cur.take 16).drop 4) 12) := ⟨_, rfl⟩
    rw [← hnm] at HH HRN
    obtain ⟨rn, hrn⟩ : ∃ rn, rn = refName ((cur.take 16).drop 4) := ⟨_, rfl⟩
    rw [← hrn] at HRN HC1
    have hMN : (num32 cur = 3652501241#32) ↔ (num32 cur).toNat = 3652501241 := ⟨fun h => by rw [h]; rfl, fun h => BitVec.eq_of_toNat_eq h⟩
    simp only [hMN] at HH
    obtain ⟨N', hN'⟩ : ∃ N, N = (num32 (cur.drop 16)).toNat := ⟨_, rfl⟩
    obtain ⟨M, hM⟩ : ∃ M, M = (num32 cur).toNat := ⟨_, rfl⟩
    have hNlt : N' < 4294967296 := by rw [hN']; exact (num32 _).isLt
    rw [← hN'] at HH HC3
    rw [← hM] at HH HC2
    clear hN' hM hMN hrn hnm hN16 hN4 e12 e16 r4 r12 r16 l4 l12 l16
    by_cases hm : M = 3652501241
    · have hm1 : ((M : Int) == 3652501241) = true := by rw [beq_iff_eq]; omega
      have hm2 : ((M : Int) != 3652501241) = false := by rw [bne, hm1]; rfl
      cases hq : cmdOk nm with
      | false =>
        have HF : Hid (frmStep cur = .fault 90) := Lib.hid (by
          have : frmHead cur = ([], 0, 90) := by rw [HH.out, if_neg (fun h => by rw [hq] at h; cases h.2)]
          unfold frmStep
          rw [if_neg (by rw [HN.out]; exact h24), this, if_neg (by decide)])
        have hre : rn = [] := by rw [HRN.out, hq]; rfl
        rw [hre, strB_nil] at HC1
        rw [HF.out]
        clear hm hq hre
        go_enter Tryd.func29, Tryd.ntmps29
        go_wp2_with fail
        refine (HC1.out _ (below_new w _)).mono ?_
        rintro e w1 ⟨rfl, hw⟩
        replace hw := hw.symm
        subst hw
        go_wp2_with fail
        refine (HC2.out _ (below_fut (below_new w _) (below_new _ _) (Nat.le_refl _))).mono ?_
        rintro e w1 ⟨rfl, hw⟩
        replace hw := hw.symm
        subst hw
        go_wp2_with fail
        refine bodyPost_ret (v := .tuple #[noFrm, .bool false]) (by simp [results, Tryd.results29, go_sem, noFrm]) rfl ⟨rfl, ?_, ?_⟩
        · exact ((Blk.set HB.out 1 _).alloc _).alloc _
        · exact ((Stays.set w g 1 _).alloc _).alloc _
      | true =>
        have hre : rn = nm := by rw [HRN.out, hq]; rfl
        have hne : (strB nm).toList.isEmpty = false ∧ ((strB nm).toList == []) = false := by
          have h0 : nm ≠ [] := fun e => by rw [e] at hq; cases hq
          have := strB_eq nm []
          rw [decide_eq_false h0] at this
          have h2 : (strB []).toList = [] := by unfold strB; rw [Lib.strOfNums_toList]; rfl
          rw [h2] at this
          refine ⟨?_, this⟩
          cases h3 : (strB nm).toList with
          | nil => rw [h3] at this; cases this
          | cons => rfl
        obtain ⟨hne1, hne2⟩ := hne
        rw [hre] at HC1
        by_cases hg : 200000 < N'
        · have HF : Hid (frmStep cur = .fault 91) := Lib.hid (by
            have : frmHead cur = ([], 0, 91) := by rw [HH.out, if_pos ⟨hm, hq⟩, if_pos hg]
            unfold frmStep
            rw [if_neg (by rw [HN.out]; exact h24), this, if_neg (by decide)])
          have hg1 : (200000 : Int) < (N' : Int) := by omega
          rw [HF.out]
          clear hm hq hre
          go_enter Tryd.func29, Tryd.ntmps29
          go_wp2_with fail
          refine (HC1.out _ (below_new w _)).mono ?_
          rintro e w1 ⟨rfl, hw⟩
          replace hw := hw.symm
          subst hw
          go_wp2_with fail
          refine (HC2.out _ (below_fut (below_new w _) (below_new _ _) (Nat.le_refl _))).mono ?_
          rintro e w1 ⟨rfl, hw⟩
          replace hw := hw.symm
          subst hw
          go_wp2_with fail
          refine (HC3.out _ (below_fut (below_new w _) (below_new _ _) (Nat.le_refl _))).mono ?_
          rintro e w1 ⟨rfl, hw⟩
          replace hw := hw.symm
          subst hw
          go_wp2_with fail
          refine bodyPost_ret (v := .tuple #[noFrm, .bool false]) (by simp [results, Tryd.results29, go_sem, noFrm]) rfl ⟨rfl, ?_, ?_⟩
          · exact ((Blk.set HB.out 1 _).alloc _).alloc _
          · exact ((Stays.set w g 1 _).alloc _).alloc _
        · have hg1 : ¬ (200000 : Int) < (N' : Int) := by omega
          have hg2 : (N' : Int) ≤ 200000 := by omega
          have HHD : Hid (frmHead cur = (nm, 24 + N', 0)) := Lib.hid (by rw [HH.out, if_pos ⟨hm, hq⟩, if_neg hg])
          by_cases hw : n < 24 + N'
          · have HF : Hid (frmStep cur = .wait) := Lib.hid (by
              unfold frmStep
              rw [if_neg (by rw [HN.out]; exact h24), HHD.out, if_pos rfl, if_pos (by rw [HN.out]; exact hw)])
            have hw1 : (n : Int) - 24 < (N' : Int) := by omega
            rw [HF.out]
            clear hm hq hre
            go_enter Tryd.func29, Tryd.ntmps29
            go_wp2_with fail
            refine (HC1.out _ (below_new w _)).mono ?_
            rintro e w1 ⟨rfl, hw⟩
            replace hw := hw.symm
            subst hw
            go_wp2_with fail
            refine (HC2.out _ (below_fut (below_new w _) (below_new _ _) (Nat.le_refl _))).mono ?_
            rintro e w1 ⟨rfl, hw⟩
            replace hw := hw.symm
            subst hw
            go_wp2_with fail
            refine (HC3.out _ (below_fut (below_new w _) (below_new _ _) (Nat.le_refl _))).mono ?_
            rintro e w1 ⟨rfl, hw⟩
            replace hw := hw.symm
            subst hw
            go_wp2_with fail
            refine bodyPost_ret (v := .tuple #[noFrm, .bool false]) (by simp [results, Tryd.results29, go_sem, noFrm]) rfl ⟨rfl, ?_, ?_⟩
            · exact (Blk.alloc HB.out _).alloc _
            · exact ((Stays.refl _ w).alloc _).alloc _
          · have hw1 : ¬ (n : Int) - 24 < (N' : Int) := by omega
            have hs3 : ∀ W, (Instr.sliceAt 22 (.slice p n c) (some (.int .i64 24)) (some (.int .u64 (24 + (N' : Int)))) none).run Tryd.prog W = .ok (.slice (cut8 p c 24) N' (c - 24)) W := fun W => by
              have := slice_lhk W p n c 24 (24 + N') .i64 .u64 (by omega) (by omega)
              rw [Nat.add_sub_cancel_left, Int.natCast_add] at this
              exact this
            have hr3 : Row8 w (cut8 p c 24) ((cur.take (24 + N')).drop 24) := HR.out.lh (by rw [HN.out]; exact hnc)
            have hl3 : ((cur.take (24 + N')).drop 24).length = N' := by rw [List.length_drop, List.length_take, HN.out]; omega
            have HPL : Hid (∃ pl, pl = (cur.take (24 + N')).drop 24) := Lib.hid ⟨_, rfl⟩
            obtain ⟨pl, hpl⟩ := HPL.out
            rw [← hpl] at hr3 hl3
            have HR3 := Lib.hid hr3
            have HL3 := Lib.hid hl3
            have HPLE := Lib.hid hpl
            clear hm hq hre hr3 hl3 hpl HPL
            go_enter Tryd.func29, Tryd.ntmps29
            go_wp2_with fail
            refine (HC1.out _ (below_new w _)).mono ?_
            rintro e w1 ⟨rfl, hw⟩
            replace hw := hw.symm
            subst hw
            go_wp2_with fail
            refine (HC2.out _ (below_fut (below_new w _) (below_new _ _) (Nat.le_refl _))).mono ?_
            rintro e w1 ⟨rfl, hw⟩
            replace hw := hw.symm
            subst hw
            go_wp2_with fail
            refine (HC3.out _ (below_fut (below_new w _) (below_new _ _) (Nat.le_refl _))).mono ?_
            rintro e w1 ⟨rfl, hw⟩
            replace hw := hw.symm
            subst hw
            go_upto_region 13 with fail
            refine wp_abst (fun W => Hid (Blk W (w.heap.size + 1) 24 #[.string (strB nm), .slice none 0 0]) ∧ Hid (Blk W w.heap.size 24 #[.string ⟨#[]⟩, .slice none 0 0]) ∧ Below w.heap.size w W)
              ⟨Lib.hid (by rw [← World.size_alloc w (.cells #[.string ⟨#[]⟩, .slice none 0 0] 24)]; exact Blk.new _ _ _), Lib.hid ((Blk.new w _ _).alloc _), below_fut (below_new w _) (below_new _ _) (Nat.le_refl _)⟩ ?_
            rintro w1 ⟨hf1, hz1, hb1⟩
            obtain ⟨b4, hb4⟩ : ∃ b4, b4 = w.heap.size + 1 := ⟨_, rfl⟩
            rw [← hb4] at hf1 ⊢
            have hb4lt : w.heap.size < b4 := by omega
            have c0 := ((HB.out.fut hb1).alloc (.cells #[] 5)).cell 0
            simp only [List.getElem?_toArray, List.getElem?_cons_zero] at c0
            have HR3' := Lib.hid (HR3.out.fut (below_fut hb1 (below_new w1 (.cells #[] 5)) (Nat.le_refl _)))
            clear c1 f0 f1 HC1 HC2 HC3 hb4
            go_upto_region 14 with ((with_reducible refine wp_append8 (o := ⟨some 67, _, _, _, _, _⟩) ?_ (.tmp 59) (.tmp 66) ?_ (w1.heap.size) _ ([]) ?_ (own_lit0 w1 _ (Nat.le_refl _)) (cut8 p c 24) (N') (c - 24) (pl) ?_ (HL3.out) (HR3'.out) ?_ ((by rw [World.size_alloc]; omega)) (w1.heap.size) (w1) (below_new w1 _) ?_ ?_
                                     · rfl
                                     · rfl
                                     · rfl
                                     · rfl
                                     · simp only [List.length_nil]; rw [HL3.out]; omega
                                     · exact Nat.le_refl _
                                     intro v2 w2 ho2 hb2 _ _; have hf2 := hf1.out.fut hb2; have k1 := hf2.cell 1; have l1 := hf2.frozen 1; simp only [List.getElem?_toArray, List.getElem?_cons_zero, List.getElem?_cons_succ] at k1; obtain ⟨p2, n2, c2, rfl, hn2, hl2, hm2, hr2⟩ := ho2.open))
            rw [List.nil_append] at ho2 hn2 hr2
            refine wp_abst (fun W => Hid (Blk W b4 24 #[.string (strB nm), .slice p2 n2 c2]) ∧ Hid (Blk W w.heap.size 24 #[.string ⟨#[]⟩, .slice none 0 0]) ∧ Hid (Own8 W w1.heap.size (.slice p2 n2 c2) pl) ∧ Hid (Row8 W p2 pl) ∧ Below w.heap.size w W)
              ⟨Lib.hid (hf2.set 1 _), Lib.hid ((hz1.out.fut hb2).far (Nat.ne_of_lt hb4lt) _), Lib.hid (ho2.setFar (a := ⟨b4, 1, none⟩) (fun e => by have := (World.ownsRow.lt ho2 b4 e).1; have := hf1.out.lt; omega) _),
                Lib.hid (hr2.stays (Stays.set w2 b4 1 (.slice p2 n2 c2)) (fun _ a ha e => by have := (World.ownsRow.lt ho2 a.block (by rw [ha]; rfl)).1; have := hf1.out.lt; omega)), (hb1.trans (hb2.mono hb1.size)).setCell (p := ⟨b4, 1, none⟩) (Nat.le_of_lt hb4lt) _⟩ ?_
            have hle1 := hb1.size
            have hlt1 := hf1.out.lt
            clear hb1 hf1 hz1 hf2 ho2 hr2 hb2 c0 HR3' k1 l1
            rintro w3 ⟨hf3, hz3, ho3, hr3, hb3⟩
            have k1 := hf3.out.cell 1
            simp only [List.getElem?_toArray, List.getElem?_cons_zero, List.getElem?_cons_succ] at k1
            have hn2b : n2 ≤ 200000 := by have := hn2.out; have := HL3.out; omega
            go_wp2_with fail
            refine (refDouble_any p2 n2 c2 pl _ hr3.out hn2.out (by omega)).mono ?_
            obtain ⟨R, hRe⟩ : ∃ R, R = sha (sha pl) := ⟨_, rfl⟩
            have hRl : R.length = 32 := by rw [hRe, sha_len]
            rw [← hRe]
            have HRe := Lib.hid hRe
            have HRl := Lib.hid hRl
            clear hRe hRl
            rintro e w4 ⟨rfl, hb4'⟩
            obtain ⟨Y, hYl, hz32⟩ := zero32Y
            go_upto_region 15 with (first
              | (with_reducible refine wp_store_blk (o := ⟨none, _, _, _, _, _⟩) ?_ 59 (.tmp 6) (.tmp 71) ?_ (w4.heap.size) 59 (Y) ((hCells (R)).toArray) ?_ ?_ (Blk.new w4 _ _) ?_ ?_ ?_ (w4.heap.size) (w4) ?_ ?_ ?_
                 · rfl
                 · rfl
                 · rfl
                 · rfl
                 · exact (hCells_info' (HRl.out))
                 · exact ((hYl.out).trans (hCells_size (HRl.out)).symm)
                 · exact (hCells_one _)
                 · exact (below_new w4 _)
                 · exact (Nat.le_refl _)
                 intro w5 hR5 hb5 hg5 hs5))
            have hb35 := below_fut hb4' hb5 (Nat.le_refl _)
            have hf5 := Lib.hid (hf3.out.fut hb35)
            have hz5 := Lib.hid (hz3.out.fut hb35)
            have ho5 := Lib.hid (ho3.out.fut hb35)
            have hbw5 := below_fut hb3 hb35 (Nat.le_refl _)
            have hRd5 := Lib.hid (HB.out.fut hbw5)
            have c0 := hRd5.out.cell 0
            simp only [List.getElem?_toArray, List.getElem?_cons_zero] at c0
            have HR5 : Hid (Row8 w5 (some ⟨w4.heap.size, 0, none⟩) (R.take 4)) := Lib.hid ((hCells_row hR5.out).take 4)
            have hRt : (R.take 4).length = 4 := by rw [List.length_take, HRl.out]; rfl
            have hs20 : ∀ W, (Instr.sliceAt 22 (.slice p n c) (some (.int .i64 20)) (some (.int .i64 24)) none).run Tryd.prog W = .ok (.slice (cut8 p c 20) 4 (c - 20)) W := fun W => slice_lh8 W p n c 20 24 (by omega) (by omega)
            have hr20 : Row8 w5 (cut8 p c 20) ((cur.take 24).drop 20) := (HR.out.lh (by rw [HN.out]; exact hnc)).fut hbw5
            have hl20 : ((cur.take 24).drop 20).length = 4 := by rw [List.length_drop, List.length_take, HN.out]; omega
            obtain ⟨sm, hsm⟩ : ∃ sm, sm = (cur.take 24).drop 20 := ⟨_, rfl⟩
            rw [← hsm] at hr20 hl20
            have HSM : Hid (sm = (cur.drop 20).take 4) := Lib.hid (by rw [hsm, List.drop_take])
            have hcv1 : ∀ k, (convert 22 9 (.slice (some ⟨w4.heap.size, 0, none⟩) 4 32)).run Tryd.prog (w5.drewN k) = .ok (.string (strB (R.take 4))) (w5.drewN k) := fun k => (HR5.out.fut (below_draws w5 k)).convert 4 32 hRt
            have hcv2 : ∀ k, (convert 22 9 (.slice (cut8 p c 20) 4 (c - 20))).run Tryd.prog (w5.drewN k) = .ok (.string (strB sm)) (w5.drewN k) := fun k => (hr20.fut (below_draws w5 k)).convert 4 (c - 20) hl20
            have hE := strB_eq (R.take 4) sm
            obtain ⟨b, hb⟩ : ∃ b, b = decide (R.take 4 = sm) := ⟨_, rfl⟩
            have HBB := Lib.hid hb
            rw [← hb] at hE
            have hE2 : ((strB (R.take 4)).toList != (strB sm).toList) = !b := by rw [bne, hE]
            generalize strB (R.take 4) = S1, strB sm = S2, w4.heap.size = g6 at *
            clear hb hb5 hg5 hs5 hR5 hYl HR5 hr20 hl20 hsm hz32 hRt hf3 hz3 ho3 hr3 hb3 hb35 hb4' k1
            simp only [put_none]
            have z0 := hz5.out.cell 0
            have z1 := hz5.out.cell 1
            have y0 := hz5.out.frozen 0
            have y1 := hz5.out.frozen 1
            simp only [List.getElem?_toArray, List.getElem?_cons_zero, List.getElem?_cons_succ] at z0 z1
            cases b
            · have c1 := hRd5.out.cell 1
              have f1 := hRd5.out.frozen 1
              simp only [List.getElem?_toArray, List.getElem?_cons_zero, List.getElem?_cons_succ] at c1
              have HF : Hid (frmStep cur = .fault 92) := Lib.hid (by
                have hno : ¬ R.take 4 = sm := of_decide_eq_false HBB.out.symm
                unfold frmStep
                rw [if_neg (by rw [HN.out]; exact h24), HHD.out, if_pos rfl, if_neg (by rw [HN.out]; exact hw), if_neg (by rw [← HPLE.out, ← HRe.out, ← HSM.out]; exact hno)])
              go_quiet (fail)
              go_wp2_with fail
              refine bodyPost_ret (results_cell2 rfl _ _ _ w.heap.size 24 [.string ⟨#[]⟩, .slice none 0 0] _ rfl (((Blk.far (p := ⟨g, 1, none⟩) (Blk.drewN hz5.out nq) (Nat.ne_of_gt hglt) _).set 0 _).set 1 _) Tryd.underlying24 rfl (by kernel_rfl)) rfl ?_
              rw [HF.out]
              refine ⟨rfl, ?_, ?_⟩
              · exact Blk.far (p := ⟨w.heap.size, 1, none⟩) (Blk.far (p := ⟨w.heap.size, 0, none⟩) ((Blk.drewN hRd5.out nq).set 1 _) (Nat.ne_of_lt hglt) _) (Nat.ne_of_lt hglt) _
              · exact Stays.setCell (a := ⟨w.heap.size, 1, none⟩) (Stays.setCell (a := ⟨w.heap.size, 0, none⟩) (Stays.setCell (S := (· = g)) (a := ⟨g, 1, none⟩) ((Stays.of_below hbw5 (Nat.le_refl _) _).drewN nq) (fun _ => rfl) _) (fun h => absurd h (Nat.lt_irrefl _)) _) (fun h => absurd h (Nat.lt_irrefl _)) _
            · have HF : Hid (frmStep cur = .frame nm pl (cur.drop (24 + N'))) := Lib.hid (by
                have hyes : R.take 4 = sm := of_decide_eq_true HBB.out.symm
                unfold frmStep
                rw [if_neg (by rw [HN.out]; exact h24), HHD.out, if_pos rfl, if_neg (by rw [HN.out]; exact hw), if_pos (by rw [← HPLE.out, ← HRe.out, ← HSM.out]; exact hyes), ← HPLE.out])
              have hs4 : ∀ W, (Instr.sliceAt 22 (.slice p n c) (some (.int .u64 (24 + (N' : Int)))) none none).run Tryd.prog W = .ok (.slice (cut8 p c (24 + N')) (n - (24 + N')) (c - (24 + N'))) W := fun W => by
                have := slice_cutk W p n c (24 + N') .u64 (by omega)
                rw [Int.natCast_add] at this
                exact this
              have HR4 : Hid (Row8 w (cut8 p c (24 + N')) (cur.drop (24 + N'))) := Lib.hid (HR.out.cut8 (by rw [HN.out]; exact hnc))
              have HL4 : Hid ((cur.drop (24 + N')).length = n - (24 + N')) := Lib.hid (by rw [List.length_drop, HN.out])
              have hn4 : n - (24 + N') ≤ 1000000000000 := by omega
              generalize cut8 p c (24 + N') = q4, n - (24 + N') = n4, c - (24 + N') = c4, cur.drop (24 + N') = rest at *
              go_quiet (fail)
              have c0' := ((hRd5.out.drewN nq).alloc (.cells #[] 5)).cell 0
              simp only [List.getElem?_toArray, List.getElem?_cons_zero] at c0'
              have HR4' := Lib.hid (HR4.out.fut (below_fut (below_fut hbw5 (below_draws w5 nq) (Nat.le_refl _)) (below_new (w5.drewN nq) (.cells #[] 5)) (Nat.le_refl _)))
              have hf6 := Lib.hid (hf5.out.drewN nq)
              have hz6 := Lib.hid (hz5.out.drewN nq)
              have hRd6 := Lib.hid (Blk.drewN hRd5.out nq)
              have ho6 := Lib.hid (ho5.out.drewN nq)
              have hbw6 := below_fut hbw5 (below_draws w5 nq) (Nat.le_refl _)
              obtain ⟨w6, hw6⟩ : ∃ w6, w6 = w5.drewN nq := ⟨_, rfl⟩
              rw [← hw6] at c0' HR4' hf6 hz6 hRd6 ho6 hbw6 ⊢
              clear hf5 hz5 hRd5 ho5 hbw5 c0 z0 z1 y0 y1 hcv1 hcv2 hE hE2 hw6
              go_wp2_with (first
                | (with_reducible refine wp_append8 (o := ⟨some 94, _, _, _, _, _⟩) ?_ (.tmp 86) (.tmp 93) ?_ (w6.heap.size) _ ([]) ?_ (own_lit0 w6 _ (Nat.le_refl _)) (q4) (n4) (c4) (rest) ?_ (HL4.out) (HR4'.out) ?_ ((by rw [World.size_alloc]; omega)) (w6.heap.size) (w6) (below_new w6 _) ?_ ?_
                   · rfl
                   · rfl
                   · rfl
                   · rfl
                   · simp only [List.length_nil]; rw [HL4.out]; omega
                   · exact Nat.le_refl _
                   intro v7 w7 ho7 hb7 _ _; have c07 := (hRd6.out.fut hb7).cell 0; have f07 := (hRd6.out.fut hb7).frozen 0; have z0 := (hz6.out.fut hb7).cell 0; have z1 := (hz6.out.fut hb7).cell 1; have y0 := (hz6.out.fut hb7).frozen 0; have y1 := (hz6.out.fut hb7).frozen 1; have k0 := (hf6.out.fut hb7).cell 0; have k1 := (hf6.out.fut hb7).cell 1; simp only [List.getElem?_toArray, List.getElem?_cons_zero, List.getElem?_cons_succ] at c07 z0 z1 k0 k1; obtain ⟨p7, n7, c7, rfl, hn7, hl7, hm7, hr7⟩ := ho7.open))
              have hq7 := Own8.set3 (ho6.out.fut hb7) (g := g) (b := w.heap.size) (x := .slice p7 n7 c7) (y := .string (strB nm)) (z := .slice p2 n2 c2) (fun k hk => by have := (World.ownsRow.lt ho6.out k hk).1; omega)
              have hv7 := Own8.set3 ho7 (g := g) (b := w.heap.size) (x := .slice p7 n7 c7) (y := .string (strB nm)) (z := .slice p2 n2 c2) (fun k hk => by have := (World.ownsRow.lt ho7 k hk).1; have := hbw6.size; have := hz6.out.lt; omega)
              have hqk : ∀ k, (Value.slice p2 n2 c2).ownBlock = some k → (Value.slice p7 n7 c7).ownBlock ≠ some k := fun k hk e => by have := (World.ownsRow.lt ho6.out k hk).2; have := (World.ownsRow.lt ho7 k e).1; omega
              have hbw7 := below_fut hbw6 hb7 (Nat.le_refl _)
              have hrd7 : RdR (((w7.setCell ⟨g, 0, none⟩ (.slice p7 n7 c7)).setCell ⟨w.heap.size, 0, none⟩ (.string (strB nm))).setCell ⟨w.heap.size, 1, none⟩ (.slice p2 n2 c2)) g (.slice p7 n7 c7) 0 :=
                Blk.far (p := ⟨w.heap.size, 1, none⟩) (Blk.far (p := ⟨w.heap.size, 0, none⟩) (Blk.set (hRd6.out.fut hb7) 0 _) (Nat.ne_of_lt hglt) _) (Nat.ne_of_lt hglt) _
              have hst7 : Stays (· = g) w (((w7.setCell ⟨g, 0, none⟩ (.slice p7 n7 c7)).setCell ⟨w.heap.size, 0, none⟩ (.string (strB nm))).setCell ⟨w.heap.size, 1, none⟩ (.slice p2 n2 c2)) :=
                Stays.setCell (a := ⟨w.heap.size, 1, none⟩) (Stays.setCell (a := ⟨w.heap.size, 0, none⟩) (Stays.setCell (S := (· = g)) (a := ⟨g, 0, none⟩) (Stays.of_below hbw7 (Nat.le_refl _) _) (fun _ => rfl) _) (fun h => absurd h (Nat.lt_irrefl _)) _) (fun h => absurd h (Nat.lt_irrefl _)) _
              have hzz := ((Blk.far (p := ⟨g, 0, none⟩) (hz6.out.fut hb7) (Nat.ne_of_gt hglt) (.slice p7 n7 c7)).set 0 (.string (strB nm))).set 1 (.slice p2 n2 c2)
              rw [HF.out]
              refine bodyPost_ret (results_cell2 rfl _ _ _ w.heap.size 24 [.string (strB nm), .slice p2 n2 c2] _ rfl hzz Tryd.underlying24 rfl (by kernel_rfl)) rfl ?_
              exact ⟨_, _, rfl, hq7.mono hle1, hv7.mono hbw6.size, hrd7, hst7, hqk⟩
    · have hm1 : ((M : Int) == 3652501241) = false := by rw [beq_eq_false_iff_ne]; omega
      have hm2 : ((M : Int) != 3652501241) = true := by rw [bne, hm1]; rfl
      have HF : Hid (frmStep cur = .fault 90) := Lib.hid (by
        have : frmHead cur = ([], 0, 90) := by rw [HH.out, if_neg (fun h => hm h.1)]
        unfold frmStep
        rw [if_neg (by rw [HN.out]; exact h24), this, if_neg (by decide)])
      rw [HF.out]
      clear hm
      go_enter Tryd.func29, Tryd.ntmps29
      go_wp2_with fail
      refine (HC1.out _ (below_new w _)).mono ?_
      rintro e w1 ⟨rfl, hw⟩
      replace hw := hw.symm
      subst hw
      go_wp2_with fail
      refine (HC2.out _ (below_fut (below_new w _) (below_new _ _) (Nat.le_refl _))).mono ?_
      rintro e w1 ⟨rfl, hw⟩
      replace hw := hw.symm
      subst hw
      go_wp2_with fail
      refine bodyPost_ret (v := .tuple #[noFrm, .bool false]) (by simp [results, Tryd.results29, go_sem, noFrm]) rfl ⟨rfl, ?_, ?_⟩
      · exact ((Blk.set HB.out 1 _).alloc _).alloc _
      · exact ((Stays.set w g 1 _).alloc _).alloc _
end Go.Proofs.YtikjhnbehihbjaaDoor
