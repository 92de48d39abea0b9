/- sporranref05.ReadText: the walk. -/
import Derived.Test.YtamcmckfommlnaaSizeV
import Derived.Deep.RegionLaw
namespace Go.Proofs.Ytamcmckfommlnaa
open Go.RowKit

def RefReadPost (w : World) (x : List (BitVec 8) × List (BitVec 8) × Int) (e : Ending) (w' : World) : Prop :=
  ∃ q d v2, e = .returned (.tuple #[.slice q x.1.length d, v2, .int .i64 x.2.2]) ∧ x.1.length ≤ d ∧ Row8 w' q x.1 ∧ Own8 w' w.heap.size v2 x.2.1 ∧ Below w.heap.size w w'
theorem RefReadPost.bad {w w' : World} {x : List (BitVec 8) × List (BitVec 8) × Int} {k : Int} (h : Hid (x = ([], [], k))) (hb : Below w.heap.size w w') : RefReadPost w x (.returned (.tuple #[.slice none 0 0, .slice none 0 0, .int .i64 k])) w' := by
  rw [h.out]; exact ⟨none, 0, _, rfl, Nat.le_refl _, Row8.nil _ _, own_none _ _, hb⟩
theorem RefReadPost.good {w w' : World} {x : List (BitVec 8) × List (BitVec 8) × Int} {l r : List (BitVec 8)} {q : Option Addr} {j d : Nat} {v2 : Value} (h : Hid (x = (l, r, 0))) (hj : Hid (l.length = j)) (hd : j ≤ d) (h1 : Row8 w' q l) (h2 : Own8 w' w.heap.size v2 r) (hb : Below w.heap.size w w') :
    RefReadPost w x (.returned (.tuple #[.slice q j d, v2, .int .i64 0])) w' := by
  rw [h.out, ← hj.out]; exact ⟨_, _, _, rfl, by rw [hj.out]; exact hd, h1, h2, hb⟩

set_option maxRecDepth 100000 in
set_option maxHeartbeats 2000000 in
theorem refReadText_any (p : Option Addr) (n c : Nat) (bs : List (BitVec 8)) (most : Int) (w : World) (hr : Row8 w p bs) (hn : bs.length = n) (hl : n ≤ c) (hbig : n ≤ 140737488355328)
    (hm0 : -9223372036854775808 ≤ most) (hm1 : most ≤ 9223372036854775807) :
    Calls Try.prog 24 #[.slice p n c, .int .i64 most] w (RefReadPost w (textP bs most)) := by
  have HN := Lib.hid hn
  clear hn
  obtain ⟨t, ht⟩ : ∃ t, t = textP bs most := ⟨_, rfl⟩
  rw [← ht]
  have HT := Lib.hid ht
  clear ht
  go_enter Try.func24, Try.ntmps24
  go_wp2_with fail
  refine (refDecode_any p n c bs _ hr HN.out hl hbig).mono ?_
  rintro e w1 ⟨v, rfl, hown, hb1⟩
  have hcs := cutP_short bs
  rw [HN.out] at hcs
  obtain ⟨x, hx⟩ : ∃ x, x = cutP bs := ⟨_, rfl⟩
  rw [← hx] at hown hcs ⊢
  have hT2 : t = textP bs most := HT.out
  unfold textP at hT2
  rw [← hx] at hT2
  obtain ⟨N, R, E⟩ := x
  obtain ⟨j, hj⟩ : ∃ j : Nat, j = N.toNat := ⟨_, rfl⟩
  have hiv : iv64 N = (j : Int) := by rw [hj]; rfl
  obtain ⟨m, hm⟩ : ∃ m, m = R.length := ⟨_, rfl⟩
  have HM : Hid (R.length = m) := Lib.hid hm.symm
  dsimp only at hown hcs hT2 ⊢
  obtain ⟨q, d, rfl, hd, hd2, hq⟩ := hown.row
  unfold maxLen at hd2
  rw [hiv, ← hj] at hT2
  rw [← hm] at hd hcs hT2 ⊢
  rw [hiv]
  have hj18 : j < 18446744073709551616 := by rw [hj]; exact N.isLt
  have hsz := hb1.size
  clear HT hx hj hiv hm HN hown
  by_cases hE : E = 0
  · subst hE
    rw [if_neg (by simp)] at hT2
    have hwm : IntKind.u64.wrap (m : Int) = (m : Int) := by rw [wrapU64]; omega
    obtain ⟨B, hB⟩ : ∃ B : Int, B = if most < 0 then 0 else most := ⟨_, rfl⟩
    have hmx : max most 0 = B := by rw [hB]; split <;> omega
    have hB0 : 0 ≤ B := by rw [hB]; split <;> omega
    have hB1 : B ≤ 9223372036854775807 := by rw [hB]; split <;> omega
    have hwo : IntKind.u64.wrap B = B := by rw [wrapU64]; omega
    have HB := Lib.hid hB
    by_cases hN : B < (j : Int)
    · rw [if_pos (by rw [HB.out] at hN; split at hN <;> omega)] at hT2
      have HP := Lib.hid hT2
      clear hT2 hB
      go_wp2
      go_ret3
      exact RefReadPost.bad HP hb1
    · rw [if_neg (by rw [HB.out] at hN; split at hN <;> omega)] at hT2
      clear hB
      by_cases hmj : (m : Int) < (j : Int)
      · rw [if_pos hmj] at hT2
        have HP := Lib.hid hT2
        clear hT2
        go_wp2
        go_ret3
        exact RefReadPost.bad HP hb1
      · rw [if_neg hmj] at hT2
        have HP := Lib.hid hT2
        clear hT2
        have hjm : j ≤ m := by omega
        have hjd : (j : Int) ≤ (d : Int) := by omega
        have hj0 : (0 : Int) ≤ (j : Int) := by omega
        have hmd : (m : Int) ≤ (d : Int) := by omega
        have hlt : Hid ((R.take j).length = j) := Lib.hid (by rw [List.length_take, HM.out]; omega)
        have hld : Hid ((R.drop j).length = m - j) := Lib.hid (by rw [List.length_drop, HM.out])
        have hrt := hq.take j
        have hrd := hq.drop (k := j) (c := d) (by rw [HM.out]; exact hd)
        have ho := own_nothing w1 w1.heap.size (Nat.le_refl _)
        have hb0 : Below w1.heap.size w1 (w1.alloc (.cells #[] 5)).drew := ((Below.refl _ _).alloc (Nat.le_refl _) _).drew
        by_cases hdj : d = j
        · rw [if_pos hdj] at hrd
          go_wp2_with fail
          go_region_law (first
            | (refine step_append8 (o := ⟨some 37, _, _, _, _, _⟩) rfl (.tmp 33) (.tmp 36) rfl w1.heap.size (.slice (some ⟨w1.heap.size, 0, none⟩) 0 0) [] rfl ho.drew q (m - j) (0) (R.drop j) rfl hld.out (hrd.below hb0 (Nat.le_refl _)) (by rw [hld.out]; simp only [List.length_nil]; omega) hb0.size w1.heap.size w1 hb0 (Nat.le_refl _) ?_
               intro v3 w3 ho3 hb3 hg3 _)
            | fail)
          all_goals (go_wp2; go_ret3; exact RefReadPost.good HP hlt (by omega) (hrt.below hb3 (Nat.le_refl _)) (ho3.mono hsz) (hb1.trans (hb3.mono hsz)))
        · rw [if_neg hdj] at hrd
          go_wp2_with fail
          go_region_law (first
            | (refine step_append8 (o := ⟨some 37, _, _, _, _, _⟩) rfl (.tmp 33) (.tmp 36) rfl w1.heap.size (.slice (some ⟨w1.heap.size, 0, none⟩) 0 0) [] rfl ho.drew (q.map (·.add j)) (m - j) (d - j) (R.drop j) rfl hld.out (hrd.below hb0 (Nat.le_refl _)) (by rw [hld.out]; simp only [List.length_nil]; omega) hb0.size w1.heap.size w1 hb0 (Nat.le_refl _) ?_
               intro v3 w3 ho3 hb3 hg3 _)
            | fail)
          all_goals (go_wp2; go_ret3; exact RefReadPost.good HP hlt (by omega) (hrt.below hb3 (Nat.le_refl _)) (ho3.mono hsz) (hb1.trans (hb3.mono hsz)))
  · rw [if_pos hE] at hT2
    have HP := Lib.hid hT2
    have hEb : (E == 0) = false := by simpa using hE
    clear hT2
    go_wp2
    go_ret3
    exact RefReadPost.bad HP hb1
end Go.Proofs.Ytamcmckfommlnaa
