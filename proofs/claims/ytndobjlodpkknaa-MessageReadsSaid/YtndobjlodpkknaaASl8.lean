/- append on a row of one's own that may bear the run-time's mark ('[]byte(s)'): bytes, and the bytes of a string.  -/
import Derived.ArgAppend
import Derived.Laws.IdiomStrings
import Derived.Lib.AppendStr
import Derived.Test.YtndobjlodpkknaaAStr
namespace Go.Proofs.Ytndobjlodpkknaa
open Go.RowKit
def Sl8 (w : World) (B : Nat) (v : Value) (bs : List (BitVec 8)) : Prop :=
  ∃ g cap, v = .slice (some ⟨g, 0, none⟩) bs.length cap ∧ B ≤ g ∧ g < w.heap.size ∧ bs.length ≤ cap ∧ cap ≤ maxLen ∧ (∀ j u, (bs.map u8)[j]? = some u → w.cell? ⟨g, j, none⟩ = some u) ∧
    (∀ j, j < cap → (w.cell? ⟨g, j, none⟩).isSome = true) ∧ (∀ j, j < cap → w.frozen? ⟨g, j, none⟩ = false)
theorem Sl8.of {w : World} {B : Nat} {v : Value} {bs : List (BitVec 8)} (h : Own8 w B v bs) (hne : bs ≠ []) : Sl8 w B v bs := by
  have hc := fun (g : Nat) hg => World.ownsRow.cells h (g := g) hg
  rcases h.2 with ⟨_, h0⟩ | ⟨g, cap, cur, rfl, hB, hg, h1, h2, hs, ht⟩
  · exact absurd (List.eq_nil_of_length_eq_zero h0) hne
  · have hk : Blk w g 5 cur := hg
    refine ⟨g, cap, rfl, hB, hk.lt, h1, h2, fun j u hu => ?_, fun j hj => ?_, fun j _ => hk.frozen j⟩
    · have := hc g rfl j u hu
      rw [Addr.add_lit, Nat.zero_add] at this
      exact this
    · rw [hk.cell j, Array.getElem?_eq_getElem (by omega)]; rfl
theorem Sl8.row {w : World} {B : Nat} {v : Value} {bs : List (BitVec 8)} (h : Sl8 w B v bs) : ∃ p c, v = .slice p bs.length c ∧ bs.length ≤ c ∧ Row8 w p bs := by
  obtain ⟨g, cap, rfl, _, hg, hl, _, hc, _⟩ := h
  refine ⟨_, _, rfl, hl, fun _ => ⟨g, 0, rfl, hg, fun i x hx => ?_⟩⟩
  rw [Nat.zero_add]
  exact hc i _ (by rw [List.getElem?_map, hx]; rfl)
end Go.Proofs.Ytndobjlodpkknaa
