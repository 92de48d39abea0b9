/- sporranlaw13.ScriptSizes: the walk. -/
import Derived.Test.YtbkpgdfkjijagaaDoorScriptE
namespace Go.Proofs.YtbkpgdfkjijagaaDoor
open Go.RowKit

theorem made_kind (k : Nat) (h1 : 1 ≤ k) (h5 : k ≤ 5) (b : List (BitVec 8)) : made (k : Int) b = if b.length = kindLen k then some (bytesOfR (kindPre k) ++ (b ++ bytesOfR (kindPost k))) else none := by
  have hk0 : kindOf (k : Int) = k := by unfold kindOf; rw [if_pos (by omega)]; simp
  unfold made
  rw [if_neg (by omega), hk0, if_neg (by omega), mk_kind]
theorem made_long (k : Nat) (h1 : 1 ≤ k) (h5 : k ≤ 5) (b t : List (BitVec 8)) (h : made (k : Int) b = some t) : b.length < t.length := by
  rw [made_kind k h1 h5] at h
  split at h
  · injection h with h
    subst h
    have : 0 < (bytesOfR (kindPre k)).length := by
      rcases (show k = 1 ∨ k = 2 ∨ k = 3 ∨ k = 4 ∨ k = 5 by omega) with rfl | rfl | rfl | rfl | rfl <;> decide
    simp only [List.length_append]; omega
  · cases h
theorem zeros_row (w : World) (n : Nat) (t : TypeId) : Row8 (w.alloc (.cells (Array.replicate n (.int .u8 0)) t)) (some ⟨w.heap.size, 0, none⟩) (List.replicate n 0#8) := by
  intro _
  refine ⟨_, _, rfl, by simp, fun i x hx => ?_⟩
  rw [List.getElem?_replicate] at hx
  split at hx
  · rename_i hi
    injection hx with hx
    subst hx
    rw [Nat.zero_add, (Blk.new w t _).cell i]
    simp [hi]; rfl
  · cases hx

end Go.Proofs.YtbkpgdfkjijagaaDoor
