/- A row of one's own is a slice over its bytes. -/
import Derived.Test.YthglocpbdfcfnaaGB
import Derived.Test.YthglocpbdfcfnaaGA
namespace Go.Proofs.Ythglocpbdfcfnaa
open Go.RowKit

theorem Own8.sl {w : World} {B : Nat} {v : Value} {bs : List (BitVec 8)} (h : Own8 w B v bs) : Sl w v bs := by
  obtain ⟨p, c, rfl, h1, h2, h3⟩ := h.row
  refine ⟨p, _, c, rfl, rfl, h1, h2, h3, fun hp => ?_⟩
  subst hp
  rcases h.2 with ⟨e, _⟩ | ⟨g, cap, cur, e, _⟩
  · injection e
  · injection e with e; cases e
theorem Sl.fut {w w' : World} {v : Value} {bs : List (BitVec 8)} (h : Sl w v bs) (hb : Below w.heap.size w w') : Sl w' v bs := h.below hb (Nat.le_refl _)
end Go.Proofs.Ythglocpbdfcfnaa
