/- sporran/script: Class. -/
import Derived.Test.YtlopmnepodbefaaScriptB
namespace Go.Proofs.Ytlopmnepodbefaa
open Go.RowKit

/-! ### plain -/
def clsData : List (BitVec 8) → Nat × List (BitVec 8)
  | [] => (0, [])
  | b :: r => if b = 106#8 then (6, r) else (0, [])
/-- the kinds from the last m on -/
def clsFrom (bs : List (BitVec 8)) : Nat → Nat × List (BitVec 8)
  | 0 => clsData bs
  | m + 1 => match mt (kindR (5 - m)) bs with
    | some t => (5 - m, t)
    | none => clsFrom bs m
def cls (bs : List (BitVec 8)) : Nat × List (BitVec 8) := clsFrom bs 5

/-- a kind and new bytes -/
def ClassPost (w : World) (x : Nat × List (BitVec 8)) (e : Ending) (w' : World) : Prop :=
  ∃ v, e = .returned (.tuple #[.int .i64 (x.1 : Int), v]) ∧ Own8 w' w.heap.size v x.2 ∧ Below w.heap.size w w'

set_option maxRecDepth 100000 in
set_option maxHeartbeats 2000000 in
theorem class_any (p : Option Addr) (n c : Nat) (bs : List (BitVec 8)) (w : World) (hr : Row8 w p bs) (hn : bs.length = n) (hl : n ≤ c) (hb : n ≤ 140737488355000) :
    Calls Try.prog 18 #[.slice p n c] w (ClassPost w (cls bs)) := by
  have HN := Lib.hid hn
  clear hn
  go_enter Try.func18, Try.ntmps18
  go_wp2
  go_loopw [4] (fun i wr => ∃ k : Nat, 1 ≤ k ∧ k ≤ 6 ∧ i = .int .i64 k ∧ Hid (cls bs = clsFrom bs (6 - k)) ∧ Below w.heap.size w wr) (fun i _ => 6 - (intOf i).toNat)
  case atStart => exact ⟨1, by omega, by omega, rfl, rfl, Below.refl _ _⟩
  case round =>
    obtain ⟨k, hk1, hk6, rfl, hcl, hbel⟩ := hrel
    by_cases hlt : k ≤ 5
    · go_wp2_with fail
      refine (pattern_any k _).mono ?_
      rintro e w1 ⟨rfl, hw1⟩
      subst hw1
      have hko : kindOf (k : Int) = k := by unfold kindOf; rw [if_pos (by omega)]; simp
      rw [hko]
      clear hko
      go_wp2_with fail
      refine (fits_any p _ c bs (patS k) (kindR k) _ (pat_any k hk1 hlt) (kindR_len k) (hr.below hbel (Nat.le_refl _)) HN.out (by omega)).mono ?_
      rintro e w2 ⟨v, ok, rfl, hb2, hm⟩
      have hb3 := hbel.trans (hb2.mono hbel.size)
      have hbs := hbel.size
      have hst : clsFrom bs (6 - k) = match mt (kindR k) bs with
          | some t => (k, t)
          | none => clsFrom bs (5 - k) := by
        rw [show 6 - k = (5 - k) + 1 by omega]
        simp only [clsFrom]
        rw [show 5 - (5 - k) = k by omega]
      clear hb2 hbel
      cases hmt : mt (kindR k) bs with
      | none =>
        rw [hmt] at hm hst
        dsimp only at hm
        subst hm
        rw [hst] at hcl
        clear hmt hst
        go_wp2
        go_roundw
        case rel => exact ⟨k + 1, by omega, by omega, by go_num, by rw [show 6 - (k + 1) = 5 - k by omega]; exact hcl, hb3⟩
        case measure => simp [intOf]; omega
      | some t =>
        rw [hmt] at hm hst
        dsimp only at hm
        obtain ⟨rfl, hown⟩ := hm
        rw [hst] at hcl
        clear hmt hst
        go_wp2
        go_ret2
        rw [hcl.out]
        exact ⟨v, rfl, hown.mono hbs, hb3⟩
    · obtain rfl : k = 6 := by omega
      clear hlt
      by_cases hn0 : n = 0
      · subst hn0
        have hbe : bs = [] := List.eq_nil_of_length_eq_zero HN.out
        subst hbe
        go_wp2
        go_ret2
        rw [hcl.out]
        exact ⟨_, rfl, Own8.nil _ _, hbel⟩
      · obtain ⟨b, r, rfl⟩ : ∃ b r, bs = b :: r := by
          cases bs with
          | nil => exact absurd HN.out.symm hn0
          | cons b r => exact ⟨b, r, rfl⟩
        have hrl : r.length = n - 1 := by have := HN.out; simp at this; omega
        obtain ⟨bb, of, rfl, hbl, hcell⟩ := hr (by simp)
        have hx : wr.cell? ⟨bb, of, none⟩ = some (.int .u8 (iv8 b)) := (hbel.cell (p := ⟨bb, of, none⟩) hbl).trans (hcell 0 b rfl)
        have hdr := (hr.drop (k := 1) (c := c) (by rw [HN.out]; exact hl)).below hbel (Nat.le_refl _)
        rw [List.drop_one, List.tail_cons] at hdr
        have hpos : (0 : Int) < (n : Int) := by omega
        have HRL := Lib.hid hrl
        clear hcell hrl hr
        by_cases h6 : b = 106#8
        · have h6b : (iv8 b == 106) = true := by rw [h6]; rfl
          have HC : Hid (cls (b :: r) = (6, r)) := Lib.hid (by rw [hcl.out]; simp [clsFrom, clsData, h6])
          clear h6 hcl
          by_cases hc1 : c = 1
          · rw [if_pos hc1] at hdr
            go_wp2_with fail
            refine (clone_any _ _ _ r _ hdr HRL.out (by omega) (fun h => by cases h)).mono ?_
            rintro e w2 ⟨v, rfl, hown, hb2⟩
            go_wp2
            go_ret2
            rw [HC.out]
            exact ⟨v, rfl, hown.mono hbel.size, hbel.trans (hb2.mono hbel.size)⟩
          · rw [if_neg hc1] at hdr
            go_wp2_with fail
            refine (clone_any _ _ _ r _ hdr HRL.out (by omega) (fun h => by cases h)).mono ?_
            rintro e w2 ⟨v, rfl, hown, hb2⟩
            go_wp2
            go_ret2
            rw [HC.out]
            exact ⟨v, rfl, hown.mono hbel.size, hbel.trans (hb2.mono hbel.size)⟩
        · have h6b : (iv8 b == 106) = false := by rw [beq_eq_false_iff_ne]; intro e; exact h6 (iv8_inj.1 (e.trans (by rfl)))
          have HC : Hid (cls (b :: r) = (0, [])) := Lib.hid (by rw [hcl.out]; simp [clsFrom, clsData, h6])
          clear h6 hcl
          go_wp2
          go_ret2
          rw [HC.out]
          exact ⟨_, rfl, Own8.nil _ _, hbel⟩
end Go.Proofs.Ytlopmnepodbefaa
