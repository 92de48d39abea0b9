/- sporran/size.cut: the walk. -/
import Derived.Test.YtamcmckfommlnaaSizeC
import Derived.RegionTactic
import Derived.ChangeAlike
namespace Go.Proofs.Ytamcmckfommlnaa
open Go.RowKit

/-- the count at the beginning of bytes, what stands behind, the error -/
def cutP : List (BitVec 8) → BitVec 64 × List (BitVec 8) × Int
  | [] => (0#64, [], 50)
  | b :: r => if widthP b = 0 then (b.setWidth 64, r, 0) else if r.length < widthP b then (0#64, [], 50) else if iv64 (numTo r (widthP b)) < leastP b then (0#64, [], 51) else (numTo r (widthP b), r.drop (widthP b), 0)
def CutPost (w : World) (x : BitVec 64 × List (BitVec 8) × Int) (e : Ending) (w' : World) : Prop :=
  ∃ q d, e = .returned (.tuple #[.int .u64 (iv64 x.1), .slice q x.2.1.length d, .int .i64 x.2.2]) ∧ x.2.1.length ≤ d ∧ Row8 w' q x.2.1 ∧ Below w.heap.size w w'
theorem CutPost.bad {w w' : World} {x : BitVec 64 × List (BitVec 8) × Int} {k : Int} (h : Hid (x = (0#64, [], k))) (hb : Below w.heap.size w w') : CutPost w x (.returned (.tuple #[.int .u64 0, .slice none 0 0, .int .i64 k])) w' := by
  rw [h.out]; exact ⟨none, 0, rfl, Nat.le_refl _, Row8.nil _ _, hb⟩
theorem CutPost.good {w w' : World} {x : BitVec 64 × List (BitVec 8) × Int} {n : BitVec 64} {r : List (BitVec 8)} {q : Option Addr} {m d : Nat} (h : Hid (x = (n, r, 0))) (hm : Hid (r.length = m)) (hd : m ≤ d) (hr : Row8 w' q r) (hb : Below w.heap.size w w') :
    CutPost w x (.returned (.tuple #[.int .u64 (iv64 n), .slice q m d, .int .i64 0])) w' := by
  rw [h.out, ← hm.out]; exact ⟨q, d, rfl, by rw [hm.out]; exact hd, hr, hb⟩

set_option maxRecDepth 100000 in
set_option maxHeartbeats 2000000 in
theorem cut_any (p : Option Addr) (n c : Nat) (bs : List (BitVec 8)) (w : World) (hr : Row8 w p bs) (hn : bs.length = n) (hl : n ≤ c) (hb : c ≤ 9223372036854775807) :
    Calls Try.prog 30 #[.slice p n c] w (CutPost w (cutP bs)) := by
  have HN := Lib.hid hn
  clear hn
  go_enter Try.func30, Try.ntmps30
  by_cases hn0 : n = 0
  · subst hn0
    have hbe : bs = [] := List.eq_nil_of_length_eq_zero HN.out
    subst hbe
    have HP : Hid (cutP [] = (0#64, [], 50)) := Lib.hid rfl
    go_wp2
    go_ret3
    exact CutPost.bad HP (Below.refl _ _)
  · obtain ⟨b, r, rfl⟩ : ∃ b r, bs = b :: r := by
      cases bs with
      | nil => exact absurd HN.out.symm hn0
      | cons b r => exact ⟨b, r, rfl⟩
    have hrl : r.length = n - 1 := by have := HN.out; simp at this; omega
    obtain ⟨bb, of, rfl, hbl, hcell⟩ := hr (by simp)
    have hx : w.cell? ⟨bb, of, none⟩ = some (.int .u8 (iv8 b)) := hcell 0 b rfl
    have hdr := hr.drop (k := 1) (c := c) (by rw [HN.out]; exact hl)
    rw [List.drop_one, List.tail_cons] at hdr
    have hpos : (0 : Int) < (n : Int) := by omega
    have hposn : 0 < n := by omega
    have hge1 : (1 : Int) ≤ (n : Int) := by omega
    have HRL := Lib.hid hrl
    have hnb : ((n : Int) == 0) = false := by simp; omega
    clear hcell hrl hn0
    go_wp2_with fail
    refine (width_any b _).mono ?_
    rintro e w1 ⟨rfl, hw1⟩
    replace hw1 := hw1.symm
    subst hw1
    obtain ⟨W, hW⟩ : ∃ W, W = widthP b := ⟨_, rfl⟩
    obtain ⟨L, hL⟩ : ∃ L, L = leastP b := ⟨_, rfl⟩
    rw [← hW, ← hL]
    have HW := Lib.hid hW
    have HL := Lib.hid hL
    clear hW hL
    by_cases hW0 : W = 0
    · have HP : Hid (cutP (b :: r) = (b.setWidth 64, r, 0)) := Lib.hid (by simp only [cutP]; rw [← HW.out, if_pos hW0])
      subst hW0
      have he2 := ext8_64 b
      by_cases hc1 : c = 1
      · rw [if_pos hc1] at hdr
        go_wp2_with fail
        go_region
        go_wp2
        go_ret3
        exact CutPost.good HP HRL (by omega) hdr ⟨rfl, rfl, rfl, Nat.le_refl _, fun _ _ => rfl⟩
      · rw [if_neg hc1] at hdr
        go_wp2_with fail
        go_region
        go_wp2
        go_ret3
        exact CutPost.good HP HRL (by omega) hdr ⟨rfl, rfl, rfl, Nat.le_refl _, fun _ _ => rfl⟩
    · have hWb : ((W : Int) == 0) = false := by simp; omega
      have hW8 : W ≤ 8 := by rw [HW.out]; unfold widthP; repeat (first | split | omega)
      by_cases hs : n ≤ W
      · have HP : Hid (cutP (b :: r) = (0#64, [], 50)) := Lib.hid (by simp only [cutP]; rw [← HW.out, if_neg hW0, if_pos (by rw [HRL.out]; omega)])
        have hsi : (n : Int) ≤ (W : Int) := by omega
        clear hs
        go_wp2
        go_ret3
        exact CutPost.bad HP (Below.refl _ _)
      · have hsi : ¬ (n : Int) ≤ (W : Int) := by omega
        have hi1 : (1 : Int) + (W : Int) ≤ (c : Int) := by omega
        have hi2 : (1 : Int) ≤ 1 + (W : Int) := by omega
        have hi3 : (1 : Int) + (W : Int) ≤ (n : Int) := by omega
        have hpr : Row8 w (some ⟨bb, of, none⟩) (b :: r) := hr
        go_wp2
        go_loopw [7, 39] (fun s i wr => ∃ k : Nat, k ≤ W ∧ i = .int .i64 k ∧ s = .int .u64 (iv64 (numTo r k)) ∧ wr = w) (fun _ i _ => W - (intOf i).toNat)
        case atStart => exact ⟨0, by omega, rfl, rfl, rfl⟩
        case round =>
          obtain ⟨k, hk, rfl, rfl, rfl⟩ := hrel
          by_cases hkn : k < W
          · obtain ⟨bb', of', e', _, hcell⟩ := hpr (by simp)
            injection e' with e'
            injection e' with e1 e2 _
            subst e1
            subst e2
            obtain ⟨y, hy⟩ : ∃ y, r[k]? = some y := ⟨r[k]'(by rw [HRL.out]; omega), List.getElem?_eq_getElem _⟩
            have hxk : wr.cell? ⟨bb, of + 1 + k, none⟩ = some (.int .u8 (iv8 y)) := by
              rw [show of + 1 + k = of + (k + 1) by omega]; exact hcell (k + 1) y (by simpa using hy)
            have hlt : (k : Int) < (W : Int) := by omega
            have hb2 : 8 * (k : Int) ≤ 56 := by omega
            have hb1 : (0 : Int) ≤ 8 * (k : Int) := by omega
            have hst := num_step r k y hy
            clear hcell hr hpr hdr hx
            go_wp2
            go_roundw
            case rel => exact ⟨k + 1, by omega, by go_num, rfl, trivial⟩
            case measure => simp [intOf]; omega
          · have hge : ¬ (k : Int) < (W : Int) := by omega
            have hkW : k = W := by omega
            have hrw : (b :: r).drop (1 + W) = r.drop W := by rw [Nat.add_comm]; rfl
            have hdw := hpr.drop (k := 1 + W) (c := c) (by rw [HN.out]; exact hl)
            rw [hrw] at hdw
            have hln : (r.drop W).length = n - (1 + W) := by have := HRL.out; simp; omega
            have HLN := Lib.hid hln
            clear hln hrw hpr hdr hx hr
            by_cases hlo : iv64 (numTo r k) < L
            · have HP : Hid (cutP (b :: r) = (0#64, [], 51)) := Lib.hid (by simp only [cutP]; rw [← HW.out, ← HL.out, ← hkW, if_neg (by omega), if_neg (by rw [HRL.out]; omega), if_pos hlo])
              clear hkW hdw
              go_wp2
              go_ret3
              exact CutPost.bad HP (Below.refl _ _)
            · have HP : Hid (cutP (b :: r) = (numTo r k, r.drop W, 0)) := Lib.hid (by simp only [cutP]; rw [← HW.out, ← HL.out, ← hkW, if_neg (by omega), if_neg (by rw [HRL.out]; omega), if_neg hlo])
              clear hkW
              by_cases hc1 : c = 1 + W
              · rw [if_pos hc1] at hdw
                go_wp2_with fail
                go_region
                go_wp2
                go_ret3
                exact CutPost.good HP HLN (by omega) (by first | exact hdw | (rw [Option.map_some, Addr.add_lit] at hdw; exact hdw)) ⟨rfl, rfl, rfl, Nat.le_refl _, fun _ _ => rfl⟩
              · rw [if_neg hc1] at hdw
                go_wp2_with fail
                go_region
                go_wp2
                go_ret3
                exact CutPost.good HP HLN (by omega) (by first | exact hdw | (rw [Option.map_some, Addr.add_lit] at hdw; exact hdw)) ⟨rfl, rfl, rfl, Nat.le_refl _, fun _ _ => rfl⟩
end Go.Proofs.Ytamcmckfommlnaa
