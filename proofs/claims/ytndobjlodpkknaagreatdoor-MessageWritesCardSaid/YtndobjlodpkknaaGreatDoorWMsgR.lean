/- message's reader, which keeps its first error: take.  -/
import Derived.Test.YtndobjlodpkknaaGreatDoorWGE
import Derived.Test.YtndobjlodpkknaaGreatDoorWMsgW
namespace Go.Proofs.YtndobjlodpkknaaGreatDoor
open Go Go.RowKit
set_option linter.unusedVariables false
def MRd (T D B g : Nat) (w : World) (er : Int) (s : Bs) : Prop := ∃ v, Blk w g T #[v, .int .i64 er] ∧ Dat D g w v s ∧ s.length ≤ 140737488355328 ∧ g < B ∧ B ≤ w.heap.size
theorem MRd.stays {T D B g : Nat} {w w' : World} {er : Int} {s : Bs} {S : Nat → Prop} (h : MRd T D B g w er s) (hs : Stays S w w') (hS : Rw D g w S) (hg : ¬ S g) : MRd T D B g w' er s := by
  obtain ⟨v, h1, h2, h3, h4, h5⟩ := h
  exact ⟨v, h1.stays hs hg, h2.stays hs hS, h3, h4, Nat.le_trans h5 hs.size⟩
theorem MRd.fut {T D B g : Nat} {w w' : World} {er : Int} {s : Bs} (h : MRd T D B g w er s) (hb : Below w.heap.size w w') : MRd T D B g w' er s :=
  h.stays (Stays.of_below hb (Nat.le_refl _) (fun _ => False)) (fun _ h => h.elim) id
def CntG {β : Type} (R : Except Int (β × Bs)) (er : Int) (y : Except Int (β × Bs)) : Prop := if er = 0 then R = y else R = .error er
theorem CntG.done {α : Type} {p : Pz α} {n : Nat} {s0 s : Bs} {xs : List α} {er : Int} {m : Nat} (h : CntG (manyZ p n s0) er (contM xs p m s)) (hm : m = 0 ∨ er ≠ 0) : Step (manyZ p n) 0 s0 xs er s := by
  unfold CntG at h
  unfold Step
  rw [if_pos rfl]
  by_cases he : er = 0
  · rw [if_pos he] at h
    rcases hm with hm | hm
    · subst hm
      rw [contM_end] at h
      rw [h]
      exact ⟨he, rfl, rfl⟩
    · exact absurd he hm
  · rw [if_neg he] at h
    rw [h]
    exact ⟨rfl, he⟩
end Go.Proofs.YtndobjlodpkknaaGreatDoor
