/- address.Parse: the walk. -/
import Derived.Test.YtbkpgdfkjijagaaDoorSumd
namespace Go.Proofs.YtbkpgdfkjijagaaDoor
open Go.RowKit
set_option linter.unusedVariables false

/-- the script of a text, or the error: as the program has it -/
def prsP (s : List (BitVec 8)) : List (BitVec 8) × Int := match sumP s with
  | some x => (x, 0)
  | none => match bitsP s with
    | some x => (x, 0)
    | none => ([], 140)
set_option maxRecDepth 100000 in
set_option maxHeartbeats 8000000 in
theorem parse_any (s : List (BitVec 8)) (w : World) (hK : Laid w) (hs : s.length ≤ 140737488355328) : Calls Tryd.prog 12 #[.string (strB s)] w (DecB w (prsP s)) := by
  have HS := Lib.hid (summed_any s w hK)
  have HB := Lib.hid (fun W => bits_any s W hs)
  obtain ⟨x, hx⟩ : ∃ x, x = prsP s := ⟨_, rfl⟩
  have HX : Hid (x = match sumP s with | some x => (x, 0) | none => match bitsP s with | some x => (x, 0) | none => ([], 140)) := Lib.hid hx
  rw [← hx]
  obtain ⟨S, hS⟩ : ∃ S, S = strB s := ⟨_, rfl⟩
  rw [← hS] at HS HB ⊢
  clear hx hS hK
  obtain ⟨O, hO⟩ : ∃ O, O = sumP s := ⟨_, rfl⟩
  obtain ⟨O2, hO2⟩ : ∃ O2, O2 = bitsP s := ⟨_, rfl⟩
  rw [← hO] at HS HX
  rw [← hO2] at HB HX
  clear hO hO2
  go_enter Tryd.func12, Tryd.ntmps12
  go_wp2_with fail
  refine HS.out.mono ?_
  intro e2 w2 h2
  obtain ⟨hb2, h2⟩ := h2
  clear HS
  cases O with
  | some t =>
    obtain ⟨v2, rfl, ho2⟩ := h2
    have HE : Hid (x = (t, 0)) := Lib.hid HX.out
    have HO := Lib.hid ho2
    clear ho2 HX
    go_wp2_with fail
    go_ret2
    rw [HE.out]
    exact ⟨v2, rfl, HO.out, hb2⟩
  | none =>
    obtain rfl : e2 = _ := h2
    go_wp2_with fail
    refine (HB.out w2).mono ?_
    intro e3 w3 h3
    replace h3 := MakePost.later hb2 h3
    obtain ⟨hb3, h3⟩ := h3
    clear HB
    cases O2 with
    | some t =>
      obtain ⟨v3, rfl, ho3⟩ := h3
      have HE : Hid (x = (t, 0)) := Lib.hid HX.out
      have HO := Lib.hid ho3
      clear ho3 HX
      go_wp2_with fail
      go_ret2
      rw [HE.out]
      exact ⟨v3, rfl, HO.out, hb3⟩
    | none =>
      obtain rfl : e3 = _ := h3
      have HE : Hid (x = ([], 140)) := Lib.hid HX.out
      clear HX
      go_wp2_with fail
      go_ret2
      rw [HE.out]
      exact ⟨_, rfl, Own8.nil _ _, hb3⟩
end Go.Proofs.YtbkpgdfkjijagaaDoor
