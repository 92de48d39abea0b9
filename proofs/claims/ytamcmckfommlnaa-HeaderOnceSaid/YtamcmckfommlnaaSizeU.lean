/- sporran/size.ReadText: the walk. -/
import Derived.Test.YtamcmckfommlnaaSizeE
import Derived.Test.YtamcmckfommlnaaSizeT
import Derived.Deep.RegionWith
namespace Go.Proofs.Ytamcmckfommlnaa
open Go.RowKit

def ReadPost (w : World) (x : List (BitVec 8) × List (BitVec 8) × Int) (e : Ending) (w' : World) : Prop :=
  ∃ v1 v2, e = .returned (.tuple #[v1, v2, .int .i64 x.2.2]) ∧ Own8 w' w.heap.size v1 x.1 ∧ Own8 w' w.heap.size v2 x.2.1 ∧ Below w.heap.size w w'
theorem own_none (w : World) (B : Nat) : Own8 w B (.slice none 0 0) [] := ⟨rfl, .inl ⟨rfl, rfl⟩⟩
theorem ReadPost.bad {w w' : World} {x : List (BitVec 8) × List (BitVec 8) × Int} {k : Int} (h : Hid (x = ([], [], k))) (hb : Below w.heap.size w w') : ReadPost w x (.returned (.tuple #[.slice none 0 0, .slice none 0 0, .int .i64 k])) w' := by
  rw [h.out]; exact ⟨_, _, rfl, own_none _ _, own_none _ _, hb⟩
theorem ReadPost.good {w w' : World} {x : List (BitVec 8) × List (BitVec 8) × Int} {l r : List (BitVec 8)} {v1 v2 : Value} (h : Hid (x = (l, r, 0))) (h1 : Own8 w' w.heap.size v1 l) (h2 : Own8 w' w.heap.size v2 r) (hb : Below w.heap.size w w') :
    ReadPost w x (.returned (.tuple #[v1, v2, .int .i64 0])) w' := by
  rw [h.out]; exact ⟨_, _, rfl, h1, h2, hb⟩

theorem below_drew (w : World) : Below w.heap.size w w.drew := ⟨rfl, rfl, rfl, Nat.le_refl _, fun _ _ => rfl⟩

set_option maxRecDepth 100000 in
set_option maxHeartbeats 2000000 in
theorem readText_any (p : Option Addr) (n c : Nat) (bs : List (BitVec 8)) (most : Int) (w : World) (hr : Row8 w p bs) (hn : bs.length = n) (hl : n ≤ c) (hb : c ≤ 9223372036854775807) (hbig : n ≤ 140737488355328)
    (hm0 : -9223372036854775808 ≤ most) (hm1 : most ≤ 9223372036854775807) :
    Calls Try.prog 22 #[.slice p n c, .int .i64 most] w (ReadPost w (textP bs most)) := by
  have HN := Lib.hid hn
  clear hn
  obtain ⟨t, ht⟩ : ∃ t, t = textP bs most := ⟨_, rfl⟩
  rw [← ht]
  have HT := Lib.hid ht
  clear ht
  go_enter Try.func22, Try.ntmps22
  go_wp2_with fail
  refine (cut_any p n c bs _ hr HN.out hl hb).mono ?_
  rintro e w1 ⟨q, d, rfl, hd, hq, hb1⟩
  have hcs := cutP_short bs
  rw [HN.out] at hcs
  obtain ⟨x, hx⟩ : ∃ x, x = cutP bs := ⟨_, rfl⟩
  rw [← hx] at hd hq hcs ⊢
  have hT2 : t = textP bs most := HT.out
  unfold textP at hT2
  rw [← hx] at hT2
  obtain ⟨N, R, E⟩ := x
  obtain ⟨j, hj⟩ : ∃ j : Nat, j = N.toNat := ⟨_, rfl⟩
  have hiv : iv64 N = (j : Int) := by rw [hj]; rfl
  obtain ⟨m, hm⟩ : ∃ m, m = R.length := ⟨_, rfl⟩
  have HM : Hid (R.length = m) := Lib.hid hm.symm
  dsimp only at hd hq hcs hT2 ⊢
  rw [hiv, ← hj] at hT2
  rw [← hm] at hd hcs hT2 ⊢
  rw [hiv]
  have hj18 : j < 18446744073709551616 := by rw [hj]; exact N.isLt
  clear HT hx hj hiv hm HN
  by_cases hE : E = 0
  · subst hE
    rw [if_neg (by simp)] at hT2
    have hwm : IntKind.u64.wrap (m : Int) = (m : Int) := by rw [wrapU64]; omega
    by_cases hmo : most < 0
    · have hge : ¬ (0 ≤ most) := by omega
      by_cases hN : 0 < (j : Int)
      · rw [if_pos (by omega)] at hT2
        have HP := Lib.hid hT2
        clear hT2
        go_wp2
        go_ret3
        exact ReadPost.bad HP hb1
      · have hmj : ¬ (m : Int) < (j : Int) := by omega
        rw [if_neg (by omega), if_neg hmj] at hT2
        have HP := Lib.hid hT2
        clear hT2
        have hjm : j ≤ m := by omega
        have hjd : (j : Int) ≤ (d : Int) := by omega
        have hj0 : (0 : Int) ≤ (j : Int) := by omega
        have hmd : (m : Int) ≤ (d : Int) := by omega
        have hlt : Hid ((R.take j).length = j) := Lib.hid (by rw [List.length_take, HM.out]; omega)
        have hld : Hid ((R.drop j).length = m - j) := Lib.hid (by rw [List.length_drop, HM.out])
        have hrt := hq.take j
        have hrd := hq.drop (k := j) (c := d) (by rw [HM.out]; exact hd)
        have hqn : q = none → j = 0 := fun e => by have := hq.none_len e; have := HM.out; omega
        by_cases hdj : d = j
        · rw [if_pos hdj] at hrd
          have hqn2 : q = none → m - j = 0 := fun e => by have := hq.none_len e; have := HM.out; omega
          go_wp2_with fail
          go_region_with (first
            | (refine (clone_any q j j (R.take j) w1.drew (hrt.below (below_drew _) (Nat.le_refl _)) hlt.out (by omega) hqn).mono ?_
               rintro e w2 ⟨v1, rfl, ho1, hb2⟩
               have hrd2 := (hrd.below (below_drew _) (Nat.le_refl _)).below hb2 (Nat.le_refl _))
            | (refine (clone_any q (m - j) 0 (R.drop j) w2 hrd2 hld.out (by omega) hqn2).mono ?_
               rintro e w3 ⟨v2, rfl, ho2, hb3⟩))
          all_goals (go_wp2; go_ret3; exact ReadPost.good HP ((ho1.below hb3 (Nat.le_refl _)).mono hb1.size) (ho2.mono (Nat.le_trans hb1.size hb2.size)) ((hb1.trans (((below_drew _).trans hb2).mono hb1.size)).trans (hb3.mono (Nat.le_trans hb1.size hb2.size))))
        · rw [if_neg hdj] at hrd
          have hqn2 : q.map (·.add j) = none → m - j = 0 := fun e => by have := hq.none_len (by cases q with | none => rfl | some _ => cases e); have := HM.out; omega
          go_wp2_with fail
          go_region_with (first
            | (refine (clone_any q j j (R.take j) w1.drew (hrt.below (below_drew _) (Nat.le_refl _)) hlt.out (by omega) hqn).mono ?_
               rintro e w2 ⟨v1, rfl, ho1, hb2⟩
               have hrd2 := (hrd.below (below_drew _) (Nat.le_refl _)).below hb2 (Nat.le_refl _))
            | (refine (clone_any (q.map (·.add j)) (m - j) (d - j) (R.drop j) w2 hrd2 hld.out (by omega) hqn2).mono ?_
               rintro e w3 ⟨v2, rfl, ho2, hb3⟩))
          all_goals (go_wp2; go_ret3; exact ReadPost.good HP ((ho1.below hb3 (Nat.le_refl _)).mono hb1.size) (ho2.mono (Nat.le_trans hb1.size hb2.size)) ((hb1.trans (((below_drew _).trans hb2).mono hb1.size)).trans (hb3.mono (Nat.le_trans hb1.size hb2.size))))
    · have hwo : IntKind.u64.wrap most = most := by rw [wrapU64]; omega
      have hge : 0 ≤ most := by omega
      by_cases hN : most < (j : Int)
      · rw [if_pos (by omega)] at hT2
        have HP := Lib.hid hT2
        clear hT2
        go_wp2
        go_ret3
        exact ReadPost.bad HP hb1
      · rw [if_neg (by omega)] at hT2
        by_cases hmj : (m : Int) < (j : Int)
        · rw [if_pos hmj] at hT2
          have HP := Lib.hid hT2
          clear hT2
          go_wp2
          go_ret3
          exact ReadPost.bad HP hb1
        · rw [if_neg hmj] at hT2
          have HP := Lib.hid hT2
          clear hT2
          have hjm : j ≤ m := by omega
          have hjd : (j : Int) ≤ (d : Int) := by omega
          have hj0 : (0 : Int) ≤ (j : Int) := by omega
          have hmd : (m : Int) ≤ (d : Int) := by omega
          have hlt : Hid ((R.take j).length = j) := Lib.hid (by rw [List.length_take, HM.out]; omega)
          have hld : Hid ((R.drop j).length = m - j) := Lib.hid (by rw [List.length_drop, HM.out])
          have hrt := hq.take j
          have hrd := hq.drop (k := j) (c := d) (by rw [HM.out]; exact hd)
          have hqn : q = none → j = 0 := fun e => by have := hq.none_len e; have := HM.out; omega
          by_cases hdj : d = j
          · rw [if_pos hdj] at hrd
            have hqn2 : q = none → m - j = 0 := fun e => by have := hq.none_len e; have := HM.out; omega
            go_wp2_with fail
            go_region_with (first
              | (refine (clone_any q j j (R.take j) w1.drew (hrt.below (below_drew _) (Nat.le_refl _)) hlt.out (by omega) hqn).mono ?_
                 rintro e w2 ⟨v1, rfl, ho1, hb2⟩
                 have hrd2 := (hrd.below (below_drew _) (Nat.le_refl _)).below hb2 (Nat.le_refl _))
              | (refine (clone_any q (m - j) 0 (R.drop j) w2 hrd2 hld.out (by omega) hqn2).mono ?_
                 rintro e w3 ⟨v2, rfl, ho2, hb3⟩))
            all_goals (go_wp2; go_ret3; exact ReadPost.good HP ((ho1.below hb3 (Nat.le_refl _)).mono hb1.size) (ho2.mono (Nat.le_trans hb1.size hb2.size)) ((hb1.trans (((below_drew _).trans hb2).mono hb1.size)).trans (hb3.mono (Nat.le_trans hb1.size hb2.size))))
          · rw [if_neg hdj] at hrd
            have hqn2 : q.map (·.add j) = none → m - j = 0 := fun e => by have := hq.none_len (by cases q with | none => rfl | some _ => cases e); have := HM.out; omega
            go_wp2_with fail
            go_region_with (first
              | (refine (clone_any q j j (R.take j) w1.drew (hrt.below (below_drew _) (Nat.le_refl _)) hlt.out (by omega) hqn).mono ?_
                 rintro e w2 ⟨v1, rfl, ho1, hb2⟩
                 have hrd2 := (hrd.below (below_drew _) (Nat.le_refl _)).below hb2 (Nat.le_refl _))
              | (refine (clone_any (q.map (·.add j)) (m - j) (d - j) (R.drop j) w2 hrd2 hld.out (by omega) hqn2).mono ?_
                 rintro e w3 ⟨v2, rfl, ho2, hb3⟩))
            all_goals (go_wp2; go_ret3; exact ReadPost.good HP ((ho1.below hb3 (Nat.le_refl _)).mono hb1.size) (ho2.mono (Nat.le_trans hb1.size hb2.size)) ((hb1.trans (((below_drew _).trans hb2).mono hb1.size)).trans (hb3.mono (Nat.le_trans hb1.size hb2.size))))
  · rw [if_pos hE] at hT2
    have HP := Lib.hid hT2
    have hEb : (E == 0) = false := by simpa using hE
    clear hT2
    go_wp2
    go_ret3
    exact ReadPost.bad HP hb1
end Go.Proofs.Ytamcmckfommlnaa
