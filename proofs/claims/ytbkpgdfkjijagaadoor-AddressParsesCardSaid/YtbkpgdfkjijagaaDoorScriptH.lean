/- sporranlaw13.ScriptClasses: the walk. -/
import Derived.Test.YtbkpgdfkjijagaaDoorScriptG
namespace Go.Proofs.YtbkpgdfkjijagaaDoor
open Go.RowKit

/-- a row of one's own that may be written: its cells are bytes -/
def Mine (w : World) (B : Nat) (p : Option Addr) (m : Nat) : Prop :=
  (p = none ∧ m = 0) ∨ ∃ g cs, p = some ⟨g, 0, none⟩ ∧ B ≤ g ∧ Blk w g 5 cs ∧ ∀ i, i < m → ∃ b : BitVec 8, cs[i]? = some (u8 b)
theorem Mine.of {w : World} {B : Nat} {v : Value} {bs : List (BitVec 8)} (h : Own8 w B v bs) : ∃ p c, v = .slice p bs.length c ∧ bs.length ≤ c ∧ c ≤ maxLen ∧ Row8 w p bs ∧ Mine w B p bs.length := by
  obtain ⟨p, c, hv, h1, h2, h3⟩ := h.row
  refine ⟨p, c, hv, h1, h2, h3, ?_⟩
  rcases h.2 with ⟨he, h0⟩ | ⟨g, cap, cur, he, hB, hg, _, _, hs, ht⟩
  · rw [hv] at he
    injection he with e1 _ _
    exact .inl ⟨e1, h0⟩
  · rw [hv] at he
    injection he with e1 _ _
    refine .inr ⟨g, cur, e1, hB, hg, fun i hi => ?_⟩
    have hi' : i < (bs.map u8).length := by simpa using hi
    have h4 := congrArg (·[i]?) ht
    simp only [List.getElem?_take, List.getElem?_map, Nat.mul_one] at h4
    rw [if_pos hi, Array.getElem?_toList] at h4
    exact ⟨bs[i], by rw [h4, List.getElem?_eq_getElem hi]; rfl⟩
theorem Mine.below {w w' : World} {B B' m : Nat} {p : Option Addr} (h : Mine w B p m) (hb : Below B' w w') (hB : w.heap.size ≤ B') : Mine w' B p m := by
  rcases h with h | ⟨g, cs, h1, h2, h3, h4⟩
  · exact .inl h
  · exact .inr ⟨g, cs, h1, h2, h3.below hb (Nat.lt_of_lt_of_le h3.lt hB), h4⟩

end Go.Proofs.YtbkpgdfkjijagaaDoor
