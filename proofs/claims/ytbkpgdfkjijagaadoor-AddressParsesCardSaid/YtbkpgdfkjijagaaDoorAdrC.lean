/- sporranref14.Parse: kinds, the cuts of them. -/
import Derived.Test.YtbkpgdfkjijagaaDoorAdrZ
namespace Go.Proofs.YtbkpgdfkjijagaaDoor
open Go.RowKit
set_option linter.unusedVariables false

theorem kinds_any (w : World) : Calls Tryd.prog 26 #[] w fun e w' => ∃ p c, e = .returned (.slice p 5 c) ∧ 5 ≤ c ∧ RowZ w' p [1, 2, 3, 4, 5] ∧ Below w.heap.size w w' := by
  go_enter Tryd.func26, Tryd.ntmps26
  go_wp2_with fail
  go_ret
  exact ⟨_, _, rfl, Nat.le_refl _, row_litZ w [1, 2, 3, 4, 5] (by decide), below_new _ _⟩
theorem slice_twoZ (w : World) (p : Option Addr) (m c : Nat) (h : 2 ≤ m) :
    (Instr.sliceAt 51 (.slice p m c) (some (.int .i64 2)) none none).run Tryd.prog w = .ok (.slice (cutA p c 2) (m - 2) (c - 2)) w := by
  have hs : (sizeOf (Tryd.prog.elem 51)).run Tryd.prog w = .ok 1 w := by kernel_rfl
  have hu : Tryd.prog.underlying 51 = some (.slice (Tryd.prog.elem 51)) := by kernel_rfl
  rw [run_sliceAt_slice w _ _ _ _ _ hu, run_slice_l w _ _ _ _ hu _ _ (by omega) (by omega), hs]
  simp [Result.andThen, sliced, cutA]
theorem addr_addz (a : Addr) : a.add 0 = a := by cases a; rfl
theorem slice_toZ (w : World) (p : Option Addr) (m c : Nat) (h : 2 ≤ c) :
    (Instr.sliceAt 51 (.slice p m c) none (some (.int .i64 2)) none).run Tryd.prog w = .ok (.slice p 2 c) w := by
  have hs : (sizeOf (Tryd.prog.elem 51)).run Tryd.prog w = .ok 1 w := by kernel_rfl
  have hu : Tryd.prog.underlying 51 = some (.slice (Tryd.prog.elem 51)) := by kernel_rfl
  rw [run_sliceAt_slice w _ _ _ _ _ hu, run_slice_h w _ _ _ _ hu _ _ (by omega) (by omega), hs]
  have e : p.map (fun x => x.add 0) = p := by
    cases p with
    | none => rfl
    | some a => rw [Option.map_some, addr_addz]
  simp [Result.andThen, sliced, e]
end Go.Proofs.YtbkpgdfkjijagaaDoor
