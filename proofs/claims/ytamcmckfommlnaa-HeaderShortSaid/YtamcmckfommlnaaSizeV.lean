/- sporranref05.Decode: the walk. -/
import Derived.Test.YtamcmckfommlnaaSizeU
import Derived.Deep.DeepCutAuto
import Derived.Deep.CutBlock
import Derived.RegionTactic
import Derived.ChangeAlike
namespace Go.Proofs.Ytamcmckfommlnaa
open Go.RowKit

theorem numTo_lt (L : List (BitVec 8)) (k : Nat) (hk : k ≤ 8) : (numTo L k).toNat < 2 ^ (8 * k) := by
  induction k with
  | zero => simp [numTo]
  | succ k ih =>
    rw [numTo, BitVec.toNat_or]
    refine Nat.or_lt_two_pow (Nat.lt_of_lt_of_le (ih (by omega)) (Nat.pow_le_pow_right (by omega) (by omega))) ?_
    rw [BitVec.toNat_shiftLeft, BitVec.toNat_setWidth, Nat.shiftLeft_eq]
    generalize L[k]?.getD 0#8 = x
    have := x.isLt
    refine Nat.lt_of_le_of_lt (Nat.mod_le _ _) ?_
    refine Nat.lt_of_le_of_lt (Nat.mul_le_mul_right _ (Nat.mod_le _ _)) ?_
    rw [show 8 * (k + 1) = 8 + 8 * k by omega, Nat.pow_add]
    exact Nat.mul_lt_mul_of_pos_right (by omega) (Nat.pow_pos (by omega))
theorem numTo_take (L : List (BitVec 8)) (k m : Nat) (hk : k ≤ m) : numTo (L.take m) k = numTo L k := by
  induction k with
  | zero => rfl
  | succ k ih => rw [numTo, numTo, ih (by omega), List.getElem?_take, if_pos (by omega)]
/-- the number at the beginning, read in as many bytes as the first one says -/
def numW (b : BitVec 8) (r : List (BitVec 8)) : BitVec 64 := if widthP b = 0 then b.setWidth 64 else numTo r (widthP b)
theorem enc_width (b : BitVec 8) (r : List (BitVec 8)) : (enc (numW b r)).length = 1 + widthP b ↔ ¬ iv64 (numW b r) < leastP b := by
  have hv : iv64 (numW b r) = ((numW b r).toNat : Int) := rfl
  have h8 := b.isLt
  have hlt := numTo_lt r (widthP b) (by unfold widthP; repeat (first | split | omega))
  unfold numW at *
  by_cases h1 : b = 253#8
  · subst h1
    rw [show widthP 253#8 = 2 by decide] at *
    rw [show leastP 253#8 = 253 by decide] at *
    rw [if_neg (by omega)] at *
    unfold enc
    split
    · simp; omega
    · rw [if_pos (by omega)]; simp [low_len]; omega
  by_cases h2 : b = 254#8
  · subst h2
    rw [show widthP 254#8 = 4 by decide] at *
    rw [show leastP 254#8 = 65536 by decide] at *
    rw [if_neg (by omega)] at *
    unfold enc
    split
    · simp; omega
    · split
      · simp [low_len]; omega
      · rw [if_pos (by omega)]; simp [low_len]; omega
  by_cases h3 : b = 255#8
  · subst h3
    rw [show widthP 255#8 = 8 by decide] at *
    rw [show leastP 255#8 = 4294967296 by decide] at *
    rw [if_neg (by omega)] at *
    unfold enc
    split
    · simp; omega
    · split
      · simp [low_len]; omega
      · split
        · simp [low_len]; omega
        · simp [low_len]; omega
  · have hw : widthP b = 0 := by unfold widthP; simp [h1, h2, h3]
    have hl : leastP b = 0 := by unfold leastP; simp [h1, h2, h3]
    have n1 : b.toNat ≠ 253 := fun e => h1 (BitVec.eq_of_toNat_eq (by simpa using e))
    have n2 : b.toNat ≠ 254 := fun e => h2 (BitVec.eq_of_toNat_eq (by simpa using e))
    have n3 : b.toNat ≠ 255 := fun e => h3 (BitVec.eq_of_toNat_eq (by simpa using e))
    rw [hw, hl] at *
    rw [if_pos rfl] at *
    have : (b.setWidth 64).toNat = b.toNat := by rw [BitVec.toNat_setWidth]; omega
    have hv2 : iv64 (b.setWidth 64) = ((b.setWidth 64).toNat : Int) := rfl
    unfold enc
    rw [if_pos (by omega)]
    simp
    omega
theorem cutP_numW (b : BitVec 8) (r : List (BitVec 8)) : cutP (b :: r) = if r.length < widthP b then (0#64, [], 50) else if (enc (numW b r)).length = 1 + widthP b then (numW b r, r.drop (widthP b), 0) else (0#64, [], 51) := by
  have he := enc_width b r
  simp only [cutP]
  by_cases hw : widthP b = 0
  · have hl : leastP b = 0 := by
      unfold widthP at hw; unfold leastP
      split at hw <;> (try omega)
      split at hw <;> (try omega)
      split at hw <;> (try omega)
      simp [*]
    rw [if_pos hw, if_neg (by omega), if_pos (he.2 (by rw [hl]; have : iv64 (numW b r) = ((numW b r).toNat : Int) := rfl; omega)), hw]
    unfold numW; rw [if_pos hw]; rfl
  · have e : numW b r = numTo r (widthP b) := by unfold numW; rw [if_neg hw]
    rw [if_neg hw]
    split
    · rfl
    · rw [← e]
      by_cases h : iv64 (numW b r) < leastP b
      · rw [if_pos h, if_neg (by rw [he]; omega)]
      · rw [if_neg h, if_pos (he.2 h)]

set_option maxRecDepth 100000 in
set_option maxHeartbeats 2000000 in
theorem refDecode_any (p : Option Addr) (n c : Nat) (bs : List (BitVec 8)) (w : World) (hr : Row8 w p bs) (hn : bs.length = n) (hl : n ≤ c) (hbig : n ≤ 140737488355328) :
    Calls Try.prog 20 #[.slice p n c] w (DecPost w (cutP bs)) := by
  have HN := Lib.hid hn
  clear hn
  cases bs with
  | nil =>
    have h0 : n = 0 := by have := HN.out; simpa using this.symm
    subst h0
    have HP : Hid (cutP [] = (0#64, [], 50)) := Lib.hid rfl
    go_enter Try.func20, Try.ntmps20
    go_wp2
    go_ret3
    rw [HP.out]
    exact ⟨_, rfl, own_none _ _, Below.refl _ _⟩
  | cons b r =>
    have hcut := cutP_numW b r
    have hrl : r.length = n - 1 := by have := HN.out; simp at this; omega
    have hn0 : 0 < n := by have := HN.out; simp at this; omega
    obtain ⟨bb, of, rfl, hbl, hcell⟩ := hr (by simp)
    have hx : w.cell? ⟨bb, of, none⟩ = some (.int .u8 (iv8 b)) := hcell 0 b rfl
    have hpos : (0 : Int) < (n : Int) := by omega
    have hnb : ((n : Int) == 0) = false := by simp; omega
    rw [hrl] at hcut
    have HRL := Lib.hid hrl
    have HC := Lib.hid hcut
    clear hcut hcell hrl
    obtain ⟨W, hW⟩ : ∃ W, W = widthP b := ⟨_, rfl⟩
    have HW := Lib.hid hW
    go_enter Try.func20, Try.ntmps20
    go_upto_block 0 with fail
    go_cut [5] (fun s5 wx => s5 = .int .i64 (1 + W : Int) ∧ wx = w)
    case first =>
      by_cases h1 : b = 253#8
      · have e1 : (iv8 b == 253) = true := by rw [h1]; rfl
        have hw : (W : Int) = 2 := by rw [HW.out, h1]; rfl
        clear h1
        go_wp2_with fail
        go_meet
        case rel => exact ⟨by rw [hw]; rfl, rfl⟩
      have e1 : (iv8 b == 253) = false := by rw [beq_eq_false_iff_ne]; intro e; exact h1 (iv8_inj.1 (e.trans (by rfl)))
      by_cases h2 : b = 254#8
      · have e2 : (iv8 b == 254) = true := by rw [h2]; rfl
        have hw : (W : Int) = 4 := by rw [HW.out, h2]; rfl
        clear h1 h2
        go_wp2_with fail
        go_meet
        case rel => exact ⟨by rw [hw]; rfl, rfl⟩
      have e2 : (iv8 b == 254) = false := by rw [beq_eq_false_iff_ne]; intro e; exact h2 (iv8_inj.1 (e.trans (by rfl)))
      by_cases h3 : b = 255#8
      · have e3 : (iv8 b == 255) = true := by rw [h3]; rfl
        have hw : (W : Int) = 8 := by rw [HW.out, h3]; rfl
        clear h1 h2 h3
        go_wp2_with fail
        go_meet
        case rel => exact ⟨by rw [hw]; rfl, rfl⟩
      · have e3 : (iv8 b == 255) = false := by rw [beq_eq_false_iff_ne]; intro e; exact h3 (iv8_inj.1 (e.trans (by rfl)))
        have hw : (W : Int) = 0 := by rw [HW.out]; unfold widthP; simp [h1, h2, h3]
        clear h1 h2 h3
        go_wp2_with fail
        go_meet
        case rel => exact ⟨by rw [hw]; rfl, rfl⟩
    case rest =>
      obtain ⟨rfl, rfl⟩ := hcut
      obtain ⟨M, hM⟩ : ∃ M, M = numW b r := ⟨_, rfl⟩
      have HM := Lib.hid hM
      have HWM : Hid (widthP b = W) := Lib.hid hW.symm
      by_cases hs : n - 1 < W
      · have HP : Hid (cutP (b :: r) = (0#64, [], 50)) := Lib.hid (by rw [HC.out, HWM.out, if_pos hs])
        have hsi : (n : Int) < 1 + (W : Int) := by omega
        clear hs hM hW
        go_wp2
        go_ret3
        rw [HP.out]
        exact ⟨_, rfl, own_none _ _, Below.refl _ _⟩
      · have hsi : ¬ (n : Int) < 1 + (W : Int) := by omega
        have he2 := ext8_64 b
        have hn1 : (1 : Int) + (W : Int) ≤ (n : Int) := by omega
        have hc1 : (1 : Int) + (W : Int) ≤ (c : Int) := by omega
        have hW8 : W ≤ 8 := by rw [hW]; unfold widthP; repeat (first | split | omega)
        have hrw : (b :: r).drop (1 + W) = r.drop W := by rw [Nat.add_comm]; rfl
        have hdw := hr.drop (k := 1 + W) (c := c) (by rw [HN.out]; exact hl)
        rw [hrw] at hdw
        have hln : Hid ((r.drop W).length = n - (1 + W)) := Lib.hid (by have := HRL.out; simp; omega)
        have hpr : Row8 wc (some ⟨bb, of, none⟩) (b :: r) := hr
        clear hW hM hrw
        go_upto_if 28 with fail
        go_cut [6] (fun s6 wx => s6 = .int .u64 (iv64 M) ∧ wx = wc)
        case first =>
          by_cases hW0 : W = 0
          · have hMe : b.setWidth 64 = M := by rw [HM.out]; unfold numW; rw [HWM.out, if_pos hW0]
            have hW1 : ¬ (1 : Int) < 1 + (W : Int) := by omega
            have HMe := Lib.hid hMe
            clear hMe hW0
            go_wp2_with fail
            go_meet
            case rel => exact ⟨by rw [HMe.out], rfl⟩
          · have hW1 : (1 : Int) < 1 + (W : Int) := by omega
            have hMe : numTo (r.take W) W = M := by rw [HM.out]; unfold numW; rw [HWM.out, if_neg hW0, numTo_take _ _ _ (Nat.le_refl _)]
            have hlt : Hid ((r.take W).length = W) := Lib.hid (by have := HRL.out; simp; omega)
            have hc2 : ¬ (c = 1) := by omega
            have hdr := hpr.drop (k := 1) (c := c) (by rw [HN.out]; exact hl)
            rw [List.drop_one, List.tail_cons, if_neg hc2] at hdr
            have hdt := hdr.take W
            have HMe := Lib.hid hMe
            clear hW0 hMe
            rw [Option.map_some, Addr.add_lit] at hdt
            go_wp2_with fail
            refine (number_any _ W (c - 1) _ _ hdt hlt.out hW8).mono ?_
            rintro e w1 ⟨rfl, hw1⟩
            replace hw1 := hw1.symm
            subst hw1
            go_wp2_with fail
            go_meet
            case rel => exact ⟨by rw [HMe.out], rfl⟩
        case rest =>
          obtain ⟨rfl, hw1⟩ := hcut
          replace hw1 := hw1.symm
          subst hw1
          obtain ⟨L, hL⟩ : ∃ L, L = (enc M).length := ⟨_, rfl⟩
          have HL := Lib.hid hL
          have hL9 : L ≤ 9 := by rw [hL]; exact enc_len M
          clear hL
          go_wp2_with fail
          refine (refEncode_any M _).mono ?_
          rintro e w1 ⟨v1, rfl, ho1, hb1⟩
          obtain ⟨p1, c1, rfl, hc1', hm1, hr1⟩ := ho1.row
          rw [← HL.out] at hc1' ⊢
          have hsz := hb1.size
          by_cases hLW : L = 1 + W
          · have HP : Hid (cutP (b :: r) = (M, r.drop W, 0)) := Lib.hid (by rw [HC.out, HWM.out, if_neg hs, ← HM.out, ← HL.out, if_pos hLW])
            have hLb : ((L : Int) != 1 + (W : Int)) = false := by simp; omega
            have hdw1 := hdw.below hb1 (Nat.le_refl _)
            have ho := own_nothing w1 w1.heap.size (Nat.le_refl _)
            have hb0 : Below w1.heap.size w1 (w1.alloc (.cells #[] 5)) := (Below.refl _ _).alloc (Nat.le_refl _) _
            have hbw := hb1.trans (hb0.mono hsz)
            clear hLW hs
            by_cases hcw : c = 1 + W
            · rw [if_pos hcw] at hdw1
              have hdw2 := hdw1.below hb0 (Nat.le_refl _)
              go_wp2_with (with_reducible refine wp_append8 (o := ⟨some 43, _, _, _, _, _⟩) ?_ (.tmp 39) (.tmp 42) ?_ w1.heap.size (.slice (some ⟨w1.heap.size, 0, none⟩) 0 0) [] ?_ ho (some ⟨bb, of, none⟩) (n - (1 + W)) (1 + W - (1 + W)) (r.drop W) ?_ hln.out hdw2 ?_ hb0.size wc.heap.size wc hbw hsz ?_
                           · rfl
                           · rfl
                           · rfl
                           · rfl
                           · rw [hln.out]; simp only [List.length_nil]; omega
                           intro v3 w3 ho3 hb3 _ _)
              go_ret3
              rw [HP.out]
              exact ⟨v3, rfl, ho3.mono hsz, hb3⟩
            · rw [if_neg hcw, Option.map_some, Addr.add_lit] at hdw1
              have hdw2 := hdw1.below hb0 (Nat.le_refl _)
              go_wp2_with (with_reducible refine wp_append8 (o := ⟨some 43, _, _, _, _, _⟩) ?_ (.tmp 39) (.tmp 42) ?_ w1.heap.size (.slice (some ⟨w1.heap.size, 0, none⟩) 0 0) [] ?_ ho (some ⟨bb, of + (1 + W), none⟩) (n - (1 + W)) (c - (1 + W)) (r.drop W) ?_ hln.out hdw2 ?_ hb0.size wc.heap.size wc hbw hsz ?_
                           · rfl
                           · rfl
                           · rfl
                           · rfl
                           · rw [hln.out]; simp only [List.length_nil]; omega
                           intro v3 w3 ho3 hb3 _ _)
              go_ret3
              rw [HP.out]
              exact ⟨v3, rfl, ho3.mono hsz, hb3⟩
          · have HP : Hid (cutP (b :: r) = (0#64, [], 51)) := Lib.hid (by rw [HC.out, HWM.out, if_neg hs, ← HM.out, ← HL.out, if_neg hLW])
            have hLb : ((L : Int) != 1 + (W : Int)) = true := by simp; omega
            clear hLW hs
            go_wp2
            go_ret3
            rw [HP.out]
            exact ⟨_, rfl, own_none _ _, hb1⟩
end Go.Proofs.Ytamcmckfommlnaa
