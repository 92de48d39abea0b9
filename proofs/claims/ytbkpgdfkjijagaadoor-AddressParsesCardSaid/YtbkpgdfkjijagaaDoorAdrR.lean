/- slices.Reverse of bytes of one's own: the walk. -/
import Derived.Test.YtbkpgdfkjijagaaDoorAdrL
namespace Go.Proofs.YtbkpgdfkjijagaaDoor
open Go.RowKit
set_option linter.unusedVariables false

/-- a byte of a row of one's own, written -/
theorem Own8.put {w : World} {B g n c : Nat} {bs : List (BitVec 8)} (h : Own8 w B (.slice (some ⟨g, 0, none⟩) n c) bs) (j : Nat) (b : BitVec 8) : Own8 (w.setCell ⟨g, j, none⟩ (u8 b)) B (.slice (some ⟨g, 0, none⟩) n c) (bs.set j b) := by
  have h1 := h.1
  rcases h.2 with ⟨e, _⟩ | ⟨g', cap, cur, e, hB, hh, hc, hm, hs, ht⟩
  · injection e with e _ _; cases e
  · injection e with e e2 e3
    injection e with e
    injection e with e
    subst e e2 e3
    refine ⟨by simp, .inr ⟨g, c, cur.setIfInBounds j (u8 b), ?_, hB, Blk.set (t := 5) hh j _, by rw [List.length_set]; exact hc, hm, by simpa using hs, ?_⟩⟩
    · rw [List.length_set]
    · rw [Nat.mul_one] at ht ⊢
      rw [List.length_set, Array.toList_setIfInBounds, List.map_set, ← ht, List.take_set]
theorem Own8.some {w : World} {B : Nat} {v : Value} {bs : List (BitVec 8)} (h : Own8 w B v bs) (hne : bs ≠ []) : ∃ g c, v = .slice (some ⟨g, 0, none⟩) bs.length c ∧ B ≤ g ∧ g < w.heap.size ∧ bs.length ≤ c ∧ (∀ i x, bs[i]? = Option.some x → w.cell? ⟨g, i, none⟩ = Option.some (.int .u8 (iv8 x))) ∧ ∀ i, w.frozen? ⟨g, i, none⟩ = false := by
  rcases h.2 with ⟨e, h0⟩ | ⟨g, cap, cur, e, hB, hh, hc, hm, hs, ht⟩
  · exact absurd (List.eq_nil_of_length_eq_zero h0) hne
  · refine ⟨g, cap, e, hB, Blk.lt (t := 5) hh, hc, fun i x hx => ?_, fun i => Blk.frozen (t := 5) hh i⟩
    rw [Blk.cell (t := 5) hh i]
    have h4 := congrArg (·[i]?) ht
    simp only [List.getElem?_take, List.getElem?_map, Nat.mul_one] at h4
    rw [if_pos (List.getElem?_eq_some_iff.1 hx).1, Array.getElem?_toList, hx] at h4
    exact h4

/-- so many from both ends are turned -/
def revK (L : List (BitVec 8)) (k : Nat) : List (BitVec 8) := (List.range L.length).map fun t => if t < k ∨ L.length ≤ t + k then L.getD (L.length - 1 - t) 0#8 else L.getD t 0#8
theorem revK_len (L : List (BitVec 8)) (k : Nat) : (revK L k).length = L.length := by simp [revK]
theorem revK_at (L : List (BitVec 8)) (k t : Nat) (h : t < L.length) : (revK L k)[t]? = some (if t < k ∨ L.length ≤ t + k then L.getD (L.length - 1 - t) 0#8 else L.getD t 0#8) := by
  unfold revK
  rw [List.getElem?_map, List.getElem?_range h]; rfl
theorem revK_zero (L : List (BitVec 8)) : revK L 0 = L := by
  refine List.ext_getElem? fun t => ?_
  by_cases h : t < L.length
  · rw [revK_at L 0 t h, if_neg (by omega), List.getD_eq_getElem?_getD, List.getElem?_eq_getElem h]; rfl
  · rw [List.getElem?_eq_none (by rw [revK_len]; omega), List.getElem?_eq_none (by omega)]
theorem revK_all (L : List (BitVec 8)) (k : Nat) (h : L.length ≤ 2 * k + 1) : revK L k = L.reverse := by
  refine List.ext_getElem? fun t => ?_
  by_cases ht : t < L.length
  · rw [revK_at L k t ht, List.getElem?_reverse ht]
    by_cases h2 : t < k ∨ L.length ≤ t + k
    · rw [if_pos h2, List.getD_eq_getElem?_getD, List.getElem?_eq_getElem (show L.length - 1 - t < L.length by omega)]; rfl
    · rw [if_neg h2, List.getD_eq_getElem?_getD, show L.length - 1 - t = t by omega, List.getElem?_eq_getElem ht]; rfl
  · rw [List.getElem?_eq_none (by rw [revK_len]; omega), List.getElem?_eq_none (by rw [List.length_reverse]; omega)]
theorem revK_step (L : List (BitVec 8)) (k : Nat) (h : 2 * k + 1 < L.length) (x y : BitVec 8) (hx : (revK L k)[k]? = some x) (hy : (revK L k)[L.length - 1 - k]? = some y) :
    ((revK L k).set k y).set (L.length - 1 - k) x = revK L (k + 1) := by
  rw [revK_at L k k (by omega), if_neg (by omega)] at hx
  rw [revK_at L k _ (by omega), if_neg (by omega)] at hy
  injection hx with hx
  injection hy with hy
  refine List.ext_getElem? fun t => ?_
  by_cases ht : t < L.length
  · rw [revK_at L (k + 1) t ht, List.getElem?_set, List.getElem?_set, List.length_set, revK_len, revK_at L k t ht]
    by_cases e1 : L.length - 1 - k = t
    · rw [if_pos e1, if_pos (by omega), if_pos (by omega), ← hx, show L.length - 1 - t = k by omega]
    · rw [if_neg e1]
      by_cases e2 : k = t
      · subst e2
        rw [if_pos rfl, if_pos (by omega), if_pos (by omega), ← hy]
      · rw [if_neg e2]
        by_cases e3 : t < k ∨ L.length ≤ t + k
        · rw [if_pos e3, if_pos (by omega)]
        · rw [if_neg e3, if_neg (by omega)]
  · rw [List.getElem?_eq_none (by rw [List.length_set, List.length_set, revK_len]; omega), List.getElem?_eq_none (by rw [revK_len]; omega)]

set_option maxRecDepth 100000 in
set_option maxHeartbeats 8000000 in
theorem reverse_any (B : Nat) (q : Option Addr) (n cap : Nat) (L : List (BitVec 8)) (w : World) (ho : Own8 w B (.slice q n cap) L) :
    Calls Tryd.prog 16 #[.slice q n cap] w fun e w' => e = .returned (.tuple #[]) ∧ Own8 w' B (.slice q n cap) L.reverse ∧ Below B w w' := by
  obtain ⟨q', c', e, hnc, hcm, _⟩ := ho.row'
  obtain ⟨rfl, hn, rfl⟩ : q = q' ∧ n = L.length ∧ cap = c' := by injection e with a1 a2 a3; exact ⟨a1, a2, a3⟩
  have HN := Lib.hid hn
  have hbn : n ≤ 9223372036854775807 := by unfold maxLen at hcm; omega
  have HO := Lib.hid ho
  clear hn e ho hcm
  go_enter Tryd.func16, Tryd.ntmps16
  have hw0 : IntKind.i64.wrap ((n : Int) - 1) = (n : Int) - 1 := by rw [IntKind.wrap_i64]; omega
  go_wp2_with fail
  go_loopw [2, 3] (fun i j wr => ∃ k : Nat, (2 * k ≤ n + 1) ∧ i = .int .i64 k ∧ j = .int .i64 ((n : Int) - 1 - (k : Int)) ∧ Hid (Own8 wr B (.slice q n cap) (revK L k)) ∧ Hid (Below B w wr)) (fun i _ _ => n - (intOf i).toNat)
  case atStart => exact ⟨0, by omega, rfl, by simp, Lib.hid (by rw [revK_zero]; exact HO.out), Lib.hid (Below.refl _ _)⟩
  case round =>
    obtain ⟨k, hk, rfl, rfl, ho2, hb2⟩ := hrel
    by_cases hlt : 2 * k + 1 < n
    · obtain ⟨j, hj⟩ : ∃ j : Nat, j = n - 1 - k := ⟨_, rfl⟩
      have hji : (n : Int) - 1 - (k : Int) = (j : Int) := by omega
      obtain ⟨g, cap', he, hgB, hgl, hcc, hcells, hfz⟩ := ho2.out.some (fun e => by have h1 := congrArg List.length e; rw [revK_len, ← HN.out] at h1; simp only [List.length_nil] at h1; omega)
      obtain rfl : q = some ⟨g, 0, none⟩ := by injection he
      obtain ⟨x, hx⟩ : ∃ x, (revK L k)[k]? = some x := ⟨_, List.getElem?_eq_getElem (by rw [revK_len, ← HN.out]; omega)⟩
      obtain ⟨y, hy⟩ : ∃ y, (revK L k)[j]? = some y := ⟨_, List.getElem?_eq_getElem (by rw [revK_len, ← HN.out]; omega)⟩
      have hst : Hid (((revK L k).set k y).set j x = revK L (k + 1)) := Lib.hid (by
        have := HN.out
        subst this
        rw [hj]
        exact revK_step L k hlt x y hx (by rw [← hj]; exact hy))
      have ck := hcells k x hx
      have cj := hcells j y hy
      have fk := hfz k
      have fj := hfz j
      have hkj : (k : Int) < (j : Int) := by omega
      have hjn : (j : Int) < (n : Int) := by omega
      have hkn : (k : Int) < (n : Int) := by omega
      have HJ := Lib.hid hj
      have hw1 : IntKind.i64.wrap ((j : Int) - 1) = (n : Int) - 1 - ((k + 1 : Nat) : Int) := by rw [IntKind.wrap_i64]; omega
      rw [hji]
      clear hx hy hj hcells hfz he hcc hgl hji
      go_wp2_with fail
      go_region
      go_wp2
      go_roundw
      case rel => exact ⟨k + 1, by omega, by go_num, by go_num, Lib.hid (by rw [← hst.out]; exact ((ho2.out.put k y).put j x).drew), Lib.hid ((((hb2.out.setCell hgB _).setCell hgB _)).drew)⟩
      case measure => simp [intOf]; omega
    · have hge : ¬ (k : Int) < (n : Int) - 1 - (k : Int) := by omega
      go_wp2
      refine bodyPost_end (results_none rfl _ _ _) rfl ?_
      refine ⟨rfl, ?_, hb2.out⟩
      rw [← revK_all L k (by have := HN.out; omega)]
      exact ho2.out
end Go.Proofs.YtbkpgdfkjijagaaDoor
