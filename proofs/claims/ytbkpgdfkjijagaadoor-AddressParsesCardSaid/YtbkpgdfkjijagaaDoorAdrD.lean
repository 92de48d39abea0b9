/- AddressDigits, AddressBase: what the statements' function awake tells; the walks. -/
import Derived.Test.YtbkpgdfkjijagaaDoorAdrB
namespace Go.Proofs.YtbkpgdfkjijagaaDoor
open Go.RowKit
set_option linter.unusedVariables false

theorem b58_wake : b58 [0#8, 57#8] = [49#8, 122#8] := by
  unfold b58
  rw [if_neg (by decide), show lead (nats [0#8, 57#8]) = 1 from rfl, show valN 256 (nats [0#8, 57#8]) = 57 from rfl, digs_pos (by decide) (by decide), show 57 / 58 = 0 from rfl, digs_zero]
  decide +kernel
set_option maxRecDepth 100000 in
set_option maxHeartbeats 4000000 in
theorem awake14_any (w : World) : Calls Tryd.prog 11 #[] w fun e w' => e = .returned (.bool true) ∧ Below w.heap.size w w' := by
  have hbn := below_new w (.cells #[.int .u8 0, .int .u8 57] 5)
  have hrow : Row8 (w.alloc (.cells #[.int .u8 0, .int .u8 57] 5)) (some ⟨w.heap.size, 0, none⟩) [0#8, 57#8] := fun _ => ⟨_, 0, rfl, by simp, fun i x hx => by
    rw [(Blk.new w _ _).cell]
    match i, hx with
    | 0, hx => injection hx with hx; subst hx; rfl
    | 1, hx => injection hx with hx; subst hx; rfl⟩
  have hc := base58_any (some ⟨w.heap.size, 0, none⟩) 2 2 [0#8, 57#8] _ hrow rfl (Nat.le_refl _)
  rw [b58_wake, show strB [49#8, 122#8] = ⟨#[49, 122]⟩ from rfl] at hc
  go_enter Tryd.func11, Tryd.ntmps11
  go_wp2_with fail
  refine hc.mono ?_
  rintro e w1 ⟨rfl, hb1⟩
  clear hc
  go_wp2_with fail
  go_ret
  exact ⟨rfl, below_fut hbn hb1 (Nat.le_refl _)⟩

set_option maxRecDepth 100000 in
set_option maxHeartbeats 4000000 in
theorem addressDigits_walk (p : Option Addr) (n c : Nat) (bs : List (BitVec 8)) (s : List (BitVec 8)) (W : World) (hn : bs.length = n) (hl : n ≤ c) (hb : c ≤ 140737488351232) (hr : Row8 W p bs) (hp : p = none → c = 0) :
    Calls Tryd.prog 3 #[.slice p n c, .string (strB s)] W fun e w' => e = .returned (.bool true) ∧ Below W.heap.size W w' := by
  have HU := fun V => unbase58_any s V
  have HV := fun V => refUnbase58_any s V
  have HB := Lib.hid (fun V h => base58_any p n c bs V h hn hl)
  have HC := Lib.hid (fun V h => refBase58_any p n c bs V h hn)
  have HR := Lib.hid hr
  obtain ⟨S, hS⟩ : ∃ S, S = strB s := ⟨_, rfl⟩
  obtain ⟨x, hx⟩ : ∃ x, x = unb58 s := ⟨_, rfl⟩
  obtain ⟨D, hD⟩ : ∃ D, D = strB (b58 bs) := ⟨_, rfl⟩
  rw [← hS]
  simp only [← hS, ← hx] at HU HV
  rw [← hD] at HB HC
  obtain ⟨U, k⟩ := x
  have HU := Lib.hid HU
  have HV := Lib.hid HV
  have hse : (D.toList == D.toList) = true := by simp
  have hkk : (k == k) = true := by simp
  clear hn hr hS hx hD hp hl hb
  go_enter Tryd.func3, Tryd.ntmps3
  go_wp2_with fail
  refine (HU.out W).mono ?_
  rintro e w1 ⟨v1, rfl, ho1, hb1⟩
  have HO1 := Lib.hid ho1
  clear ho1
  go_wp2_with fail
  refine (HV.out w1).mono ?_
  rintro e w2 ⟨v2, rfl, ho2, hb2⟩
  have HO2 := Lib.hid ho2
  have hbw2 := below_fut hb1 hb2 (Nat.le_refl _)
  have HO1 := Lib.hid (HO1.out.fut hb2)
  clear ho2 hb1 hb2
  go_wp2_with fail
  refine (HB.out w2 (HR.out.fut hbw2)).mono ?_
  rintro e w3 ⟨rfl, hb3⟩
  have hbw3 := below_fut hbw2 hb3 (Nat.le_refl _)
  have HO1 := Lib.hid (HO1.out.fut hb3)
  have HO2 := Lib.hid (HO2.out.fut hb3)
  clear hbw2 hb3
  go_wp2_with fail
  refine (HC.out w3 (HR.out.fut hbw3)).mono ?_
  rintro e w4 ⟨rfl, hb4⟩
  have hbw4 := below_fut hbw3 hb4 (Nat.le_refl _)
  obtain ⟨q1, n1, c1, rfl, hn1, _, _, hr1⟩ := (HO1.out.fut hb4).open
  obtain ⟨q2, n2, c2, rfl, hn2, _, _, hr2⟩ := (HO2.out.fut hb4).open
  clear hbw3 hb4 HO1 HO2
  go_wp2_with fail
  refine (equal_same _ _ _ _ _ _ U _ hr1 hr2 hn1.out hn2.out).mono ?_
  rintro e w5 ⟨rfl, hw5⟩
  replace hw5 := hw5.symm
  subst hw5
  clear hr1 hr2
  go_wp2_with fail
  refine (awake14_any w4).mono ?_
  rintro e w6 ⟨rfl, hb6⟩
  go_wp2_with fail
  go_ret
  exact ⟨rfl, below_fut hbw4 hb6 (Nat.le_refl _)⟩

set_option maxRecDepth 100000 in
set_option maxHeartbeats 4000000 in
theorem addressBase_walk (p : Option Addr) (n c : Nat) (bs : List (BitVec 8)) (s : List (BitVec 8)) (W : World) (hn : bs.length = n) (hl : n ≤ c) (hb : c ≤ 140737488351232) (hr : Row8 W p bs) (hp : p = none → c = 0) :
    Calls Tryd.prog 4 #[.slice p n c, .string (strB s)] W fun e w' => e = .returned (.bool true) ∧ Below W.heap.size W w' := by
  obtain ⟨m, hm⟩ : ∃ m, m = min n 200 := ⟨_, rfl⟩
  have hmn : m ≤ n := by omega
  obtain ⟨B, hB⟩ : ∃ B, B = bs.take m := ⟨_, rfl⟩
  have hBl : B.length = m := by rw [hB, List.length_take]; omega
  have hB200 : B.length ≤ 200 := by rw [hBl]; omega
  have HRB : Hid (Row8 W p B) := Lib.hid (by rw [hB]; exact hr.take m)
  have HB := Lib.hid (fun V h => base58_any p m c B V h hBl (by omega))
  have HUB := Lib.hid (fun V => unbase58_any (b58 B) V)
  rw [unb58_b58 B hB200] at HUB
  have HBL := Lib.hid hBl
  have HY := Lib.hid (fun V => unbase58_any s V)
  have HM := Lib.hid hm.symm
  obtain ⟨x, hx⟩ : ∃ x, x = unb58 s := ⟨_, rfl⟩
  have HXB : Hid ((unb58 s).2 = 0 → (unb58 s).1.length ≤ 200 → b58 (unb58 s).1 = s) := Lib.hid (b58_unb58 s)
  obtain ⟨S, hS⟩ : ∃ S, S = strB s := ⟨_, rfl⟩
  have HSS := Lib.hid hS
  rw [← hS, ← hx] at HY
  rw [← hx] at HXB
  rw [← hS]
  obtain ⟨Y, k⟩ := x
  simp only at HXB
  obtain ⟨T, hT⟩ : ∃ T, T = strB (b58 B) := ⟨_, rfl⟩
  rw [← hT] at HB HUB
  have hmin : min (n : Int) 200 = (m : Int) := by omega
  have hmc : m ≤ c := by omega
  clear hm hB hBl hr hx hS hT hn hp
  go_enter Tryd.func4, Tryd.ntmps4
  go_upto_region 2 with fail
  try rw [HM.out]
  clear hmin
  go_wp2_with fail
  refine (HB.out W HRB.out).mono ?_
  rintro e w1 ⟨rfl, hb1⟩
  go_wp2_with fail
  refine (HUB.out w1).mono ?_
  rintro e w2 ⟨v2, rfl, ho2, hb2⟩
  have hbw2 := below_fut hb1 hb2 (Nat.le_refl _)
  obtain ⟨q2, n2, c2, rfl, hn2, _, _, hr2⟩ := ho2.open
  clear ho2 hb1 hb2
  go_wp2_with fail
  refine (equal_same q2 p n2 c2 m c B _ hr2 (HRB.out.fut hbw2) hn2.out HBL.out).mono ?_
  rintro e w3 ⟨rfl, hw3⟩
  replace hw3 := hw3.symm
  subst hw3
  clear hr2
  go_wp2_with fail
  refine (HY.out w2).mono ?_
  rintro e w4 ⟨v4, rfl, ho4, hb4⟩
  have hbw4 := below_fut hbw2 hb4 (Nat.le_refl _)
  obtain ⟨q4, n4, c4, rfl, hn4, hl4, _, hr4⟩ := ho4.open
  clear ho4 hbw2 hb4
  by_cases hk : k = 0
  case neg =>
    have hk1 : (k != 0) = true := by rw [bne_iff_ne]; exact hk
    clear hk
    go_wp2_with fail
    go_ret
    exact ⟨rfl, hbw4⟩
  subst hk
  by_cases hlen : 200 < n4
  · have hl5 : (200 : Int) < (n4 : Int) := by omega
    clear hlen
    go_wp2_with fail
    go_ret
    exact ⟨rfl, hbw4⟩
  have hl5 : ¬ (200 : Int) < (n4 : Int) := by omega
  have HE : Hid (strB (b58 Y) = S) := Lib.hid (by rw [HXB.out rfl (by rw [hn4.out]; omega), HSS.out])
  have hc4 := base58_any q4 n4 c4 Y w4 hr4 hn4.out hl4
  rw [HE.out] at hc4
  have hse : (S.toList == S.toList) = true := by simp
  clear hlen hr4
  go_wp2_with fail
  refine hc4.mono ?_
  rintro e w5 ⟨rfl, hb5⟩
  have hbw5 := below_fut hbw4 hb5 (Nat.le_refl _)
  clear hc4 hbw4 hb5
  go_wp2_with fail
  refine (awake14_any w5).mono ?_
  rintro e w6 ⟨rfl, hb6⟩
  go_wp2_with fail
  go_ret
  exact ⟨rfl, below_fut hbw5 hb6 (Nat.le_refl _)⟩
end Go.Proofs.YtbkpgdfkjijagaaDoor
