/- sporranlaw14.AddressParses: the walk. -/
import Derived.Test.YtbkpgdfkjijagaaDoorPrsP
import Derived.Test.YtbkpgdfkjijagaaDoorAdrD
namespace Go.Proofs.YtbkpgdfkjijagaaDoor
open Go.RowKit
set_option linter.unusedVariables false

theorem sized_str {H : Type} {ts : List TypeId} {ds : List (DataW H)} (h : (DataW.weightsEach Tryd.prog ts ds).all (· ≤ reachBytes) = true) {j : Nat} {ss : List (BitVec 8)} (ht : ts[j]? = some 9) (hd : ds[j]? = some (.lit (.string (strB ss).data.toList))) : ss.length ≤ 140737488351232 := by
  have := List.all_eq_true.1 h _ (DataW.weights_mem_each ht hd (strB ss).data.toList.length (by simp [DataW.weights]))
  have e := strB_size ss
  have e2 : (strB ss).data.toList.length = (strB ss).size := rfl
  have h2 := of_decide_eq_true this
  simp only [reachBytes] at h2
  omega
set_option maxRecDepth 100000 in
set_option maxHeartbeats 4000000 in
theorem addressParses_walk (s : List (BitVec 8)) (W : World) (hK : Laid W) (hs : s.length ≤ 140737488351232) :
    Calls Tryd.prog 5 #[.string (strB s)] W fun e w' => e = .returned (.bool true) ∧ Below W.heap.size W w' := by
  have HU := Lib.hid (parse_any s W hK (by omega))
  have HV := fun V => refParse_any s V (by omega)
  obtain ⟨S, hS⟩ : ∃ S, S = strB s := ⟨_, rfl⟩
  obtain ⟨x, hx⟩ : ∃ x, x = prsP s := ⟨_, rfl⟩
  rw [prs_same] at HV
  rw [← hS, ← hx] at HU
  simp only [← hS, ← hx] at HV
  rw [← hS]
  obtain ⟨U, k⟩ := x
  have HV := Lib.hid HV
  have hkk : (k == k) = true := by simp
  clear hS hx hK hs
  go_enter Tryd.func5, Tryd.ntmps5
  go_wp2_with fail
  refine HU.out.mono ?_
  rintro e w1 ⟨v1, rfl, ho1, hb1⟩
  have HO1 := Lib.hid ho1
  clear ho1 HU
  go_wp2_with fail
  refine (HV.out w1).mono ?_
  rintro e w2 ⟨p2, n2, c2, rfl, hr2, hn2, hb2⟩
  have hbw2 := below_fut hb1 hb2 (Nat.le_refl _)
  obtain ⟨q1, n1, c1, rfl, hn1, _, _, hr1⟩ := (HO1.out.fut hb2).open
  have HN2 := Lib.hid hn2
  have HR1 := Lib.hid hr1
  have HR2 := Lib.hid hr2
  clear hb1 hb2 HO1 hr1 hr2 hn2 HV
  go_wp2_with fail
  refine (equal_same _ _ _ _ _ _ U _ HR1.out HR2.out hn1.out HN2.out).mono ?_
  rintro e w5 ⟨rfl, hw5⟩
  replace hw5 := hw5.symm
  subst hw5
  clear HR1 HR2
  go_wp2_with fail
  refine (awake14_any _).mono ?_
  rintro e w6 ⟨rfl, hb6⟩
  go_wp2_with fail
  go_ret
  exact ⟨rfl, below_fut hbw2 hb6 (Nat.le_refl _)⟩
end Go.Proofs.YtbkpgdfkjijagaaDoor
