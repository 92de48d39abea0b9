/- sporranref10.reader: list, headers: the walks.  -/
import Derived.Test.YtjbijcjcejfpcaaGreatDoorLMsgR
import Derived.Test.YtjbijcjcejfpcaaGreatDoorLMsgG
import Derived.Test.YtjbijcjcejfpcaaGreatDoorLGH
namespace Go.Proofs.YtjbijcjcejfpcaaGreatDoor
open Go Go.RowKit
set_option linter.unusedVariables false
theorem AheadB.call {T D B g : Nat} {w w' : World} {pa : Option Addr} {a : Bs} {er : Int} {s : Bs} (h : AheadB w pa a) (hr : MRd T D B g w er s) (hT : T ≠ 5) (hs : Stays (· = g) w w') : AheadB w' pa a := by
  obtain ⟨v, hg, _⟩ := hr
  exact h.stays hs fun k hk => ⟨T, _, (show k = g from hk) ▸ hg, hT⟩
theorem AheadB.apart {T D B g : Nat} {w : World} {pa : Option Addr} {a : Bs} {er : Int} {s : Bs} (h : AheadB w pa a) (hr : MRd T D B g w er s) (hT : T ≠ 5) : a ≠ [] → ∀ x, pa = some x → x.block ≠ g := fun h0 x hx e => by
  obtain ⟨v, hg, _⟩ := hr
  obtain ⟨cs, h1⟩ := h.2 h0 x hx
  rw [e] at h1
  exact hT (hg.inj h1).1
def LoopC {β : Type} (er1 : Int) (R : Except Int (β × Bs)) (er : Int) (X : Except Int (β × Bs)) : Prop := if er1 = 0 then CntG R er X else er = er1
theorem LoopC.start {α : Type} (er1 : Int) (p : Pz α) (n : Nat) (s : Bs) : LoopC er1 (manyZ p n s) er1 (contM [] p n s) := by
  unfold LoopC
  split
  · rename_i h; rw [h]; exact CntG.start p n s
  · rfl
theorem LoopC.step {α : Type} {er1 : Int} {R : Except Int (List α × Bs)} {xs : List α} {p : Pz α} {m : Nat} {s r : Bs} {a : α} {er' : Int} (h : LoopC er1 R 0 (contM xs p (m + 1) s)) (h2 : Step p 0 s a er' r) : LoopC er1 R er' (contM (xs ++ [a]) p m r) := by
  unfold LoopC at h ⊢
  by_cases h1 : er1 = 0
  · rw [if_pos h1] at h ⊢; exact h.step h2
  · rw [if_neg h1] at h; exact absurd h.symm h1
theorem LoopC.done {α : Type} {p : Pz α} {n : Nat} {s0 s : Bs} {xs : List α} {er1 er : Int} {m : Nat} (h : LoopC er1 (manyZ p n s0) er (contM xs p m s)) (hm : m = 0 ∨ er ≠ 0) : Step (manyZ p n) er1 s0 xs er s := by
  unfold LoopC at h
  by_cases h1 : er1 = 0
  · rw [if_pos h1] at h; rw [h1]; exact h.done hm
  · rw [if_neg h1] at h
    unfold Step
    rw [if_neg h1]
    exact h
end Go.Proofs.YtjbijcjcejfpcaaGreatDoor
