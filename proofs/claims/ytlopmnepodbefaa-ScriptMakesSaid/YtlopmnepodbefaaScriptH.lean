/- sporranlaw13.ScriptClasses: the walk. -/
import Derived.Test.YtlopmnepodbefaaScriptG
namespace Go.Proofs.Ytlopmnepodbefaa
open Go.RowKit

/-- a row of one's own that may be written: its cells are bytes -/
def Mine (w : World) (B : Nat) (p : Option Addr) (m : Nat) : Prop :=
  (p = none ∧ m = 0) ∨ ∃ g cs, p = some ⟨g, 0, none⟩ ∧ B ≤ g ∧ Blk w g 5 cs ∧ ∀ i, i < m → ∃ b : BitVec 8, cs[i]? = some (u8 b)
theorem Mine.of {w : World} {B : Nat} {v : Value} {bs : List (BitVec 8)} (h : Own8 w B v bs) : ∃ p c, v = .slice p bs.length c ∧ bs.length ≤ c ∧ c ≤ maxLen ∧ Row8 w p bs ∧ Mine w B p bs.length := by
  obtain ⟨p, c, hv, h1, h2, h3⟩ := h.row
  refine ⟨p, c, hv, h1, h2, h3, ?_⟩
  rcases h.2 with ⟨he, h0⟩ | ⟨g, cap, cur, he, hB, hg, _, _, hs, ht⟩
  · rw [hv] at he
    injection he with e1 _ _
    exact .inl ⟨e1, h0⟩
  · rw [hv] at he
    injection he with e1 _ _
    refine .inr ⟨g, cur, e1, hB, hg, fun i hi => ?_⟩
    have hi' : i < (bs.map u8).length := by simpa using hi
    have h4 := congrArg (·[i]?) ht
    simp only [List.getElem?_take, List.getElem?_map, Nat.mul_one] at h4
    rw [if_pos hi, Array.getElem?_toList] at h4
    exact ⟨bs[i], by rw [h4, List.getElem?_eq_getElem hi]; rfl⟩
theorem Mine.below {w w' : World} {B B' m : Nat} {p : Option Addr} (h : Mine w B p m) (hb : Below B' w w') (hB : w.heap.size ≤ B') : Mine w' B p m := by
  rcases h with h | ⟨g, cs, h1, h2, h3, h4⟩
  · exact .inl h
  · exact .inr ⟨g, cs, h1, h2, h3.below hb (Nat.lt_of_lt_of_le h3.lt hB), h4⟩

set_option maxRecDepth 100000 in
set_option maxHeartbeats 2000000 in
theorem scriptClasses_walk (p : Option Addr) (n c : Nat) (bs : List (BitVec 8)) (w : World)
    (hn : bs.length = n) (hl : n ≤ c) (hb : c ≤ 140737488351232) (hr : Row8 w p bs) (hp : p = none → c = 0) :
    Calls Try.prog 7 #[.slice p n c] w fun e w' => e = .returned (.bool true) ∧ Below w.heap.size w w' := by
  have HN := Lib.hid hn
  have HP := Lib.hid hp
  clear hn hp
  go_enter Try.func7, Try.ntmps7
  go_wp2_with fail
  refine (clone_any p n c bs _ hr HN.out (by omega) (fun h => by have := HP.out h; omega)).mono ?_
  rintro e w1 ⟨v1, rfl, hov1, hb1⟩
  obtain ⟨p1, c1, hv1, hc1, hm1, hr1⟩ := hov1.row
  rw [HN.out] at hv1 hc1
  subst hv1
  unfold maxLen at hm1
  clear hov1
  go_wp2_with fail
  refine (class_any p1 n c1 bs w1 hr1 HN.out hc1 (by omega)).mono ?_
  rintro e w2 ⟨v2, rfl, hov2, hb2⟩
  have hb02 := hb1.trans (hb2.mono hb1.size)
  obtain ⟨k, y, hky⟩ : ∃ k y, cls bs = (k, y) := ⟨_, _, rfl⟩
  have HKY := Lib.hid hky
  clear hky
  rw [HKY.out] at hov2 ⊢
  rw [show (k, y).2 = y by rfl] at hov2
  rw [show (k, y).1 = k by rfl]
  obtain ⟨p2, c2, rfl, hc2, hm2, hr2, hmine⟩ := Mine.of hov2
  unfold maxLen at hm2
  clear hov2
  go_wp2_with fail
  refine (refClass_any p n c bs w2 (hr.below hb02 (Nat.le_refl _)) HN.out hl (by omega) (by omega)).mono ?_
  rintro e w3 ⟨v3, rfl, hov3, hb3⟩
  rw [HKY.out] at hov3 ⊢
  rw [show (k, y).2 = y by rfl] at hov3
  rw [show (k, y).1 = k by rfl]
  obtain ⟨p3, c3, rfl, hc3, hm3, hr3⟩ := hov3.row
  clear hov3
  have hmine3 := hmine.below hb3 (Nat.le_refl _)
  have hr23 := hr2.below hb3 (Nat.le_refl _)
  have hbw := hb02.trans (hb3.mono hb02.size)
  have hb13 := hb2.trans (hb3.mono hb2.size)
  obtain ⟨m, hm⟩ : ∃ m, m = y.length := ⟨_, rfl⟩
  rw [← hm] at hc2 hc3 hmine3 ⊢
  have HM := Lib.hid hm
  have hs1 := hb1.size
  clear hm hmine hr2 hb02 hb2 hb3
  go_wp2_with fail
  refine (equal_any p2 p3 m c2 m c3 y y w3 hr23 hr3 HM.out.symm HM.out.symm).mono ?_
  rintro e w4 ⟨rfl, hw4⟩
  replace hw4 := hw4.symm
  subst hw4
  rw [decide_eq_true rfl]
  clear hr23 hr3 HKY
  go_wp2_with fail
  go_loopw [32] (fun i wr => ∃ j : Nat, j ≤ m ∧ i = .int .i64 j ∧ Mine wr w1.heap.size p2 m ∧ Below w1.heap.size w1 wr) (fun i _ => m - (intOf i).toNat)
  case atStart => exact ⟨0, by omega, rfl, hmine3, hb13⟩
  case round =>
    obtain ⟨j, hj, rfl, hmi, hbe⟩ := hrel
    by_cases hjm : j < m
    · rcases hmi with ⟨_, h0⟩ | ⟨g, cs, rfl, hg, hk, hcs⟩
      · omega
      · obtain ⟨b, hbj⟩ := hcs j hjm
        have hcell : wr.cell? ⟨g, j, none⟩ = some (.int .u8 (iv8 b)) := (hk.cell j).trans hbj
        have hfz := hk.frozen j
        have hlt : (j : Int) < (m : Int) := by omega
        have hjb : (j : Int) + 1 ≤ 9223372036854775807 := by omega
        have hx1 : bits BinOp.xor IntKind.u8 (iv8 b) 1 = iv8 (b ^^^ 1#8) := (xor8 b 1#8)
        go_wp2
        clear hlt hcell hfz hx1
        go_roundw
        case rel =>
          refine ⟨j + 1, by omega, by go_num, .inr ⟨g, _, rfl, hg, hk.set j _, fun i hi => ?_⟩, hbe.setCell hg _⟩
          by_cases hij : i = j
          · subst hij
            obtain ⟨hsz, _⟩ := Array.getElem?_eq_some_iff.1 hbj
            exact ⟨_, by rw [Array.getElem?_setIfInBounds, if_pos rfl, if_pos hsz]⟩
          · obtain ⟨b', hb'⟩ := hcs i hi
            exact ⟨b', by rw [Array.getElem?_setIfInBounds, if_neg (Ne.symm hij)]; exact hb'⟩
        case measure => simp [intOf]; omega
    · obtain rfl : j = m := by omega
      have hbf := hb1.trans (hbe.mono hs1)
      go_wp2_with fail
      refine (equal_any p1 p n c1 n c bs bs wr (hr1.below hbe (Nat.le_refl _)) (hr.below hbf (Nat.le_refl _)) HN.out HN.out).mono ?_
      rintro e w5 ⟨rfl, hw5⟩
      replace hw5 := hw5.symm
      subst hw5
      rw [decide_eq_true rfl]
      go_wp2_with fail
      refine (awake_any _).mono ?_
      rintro e w6 ⟨rfl, hb6⟩
      go_wp2
      go_ret
      exact ⟨rfl, hbf.trans (hb6.mono hbf.size)⟩
end Go.Proofs.Ytlopmnepodbefaa
