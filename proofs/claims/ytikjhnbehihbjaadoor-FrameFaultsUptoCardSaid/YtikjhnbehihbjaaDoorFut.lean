/- What stays in every world that grows out of this one: one name ('fut') for each kind of fact. -/
import Derived.Test.YtikjhnbehihbjaaDoorAppend
namespace Go.Proofs.YtikjhnbehihbjaaDoor
open Go.RowKit
section
variable {w w' : World}
theorem Blk.fut {g : Nat} {t : TypeId} {cs : Array Value} (h : Blk w g t cs) (hb : Below w.heap.size w w') : Blk w' g t cs := h.below hb h.lt
theorem Row8.fut {p : Option Addr} {bs : List (BitVec 8)} (h : Row8 w p bs) (hb : Below w.heap.size w w') : Row8 w' p bs := h.below hb (Nat.le_refl _)
theorem Own8.fut {B : Nat} {v : Value} {bs : List (BitVec 8)} (h : Own8 w B v bs) (hb : Below w.heap.size w w') : Own8 w' B v bs := h.below hb (Nat.le_refl _)
theorem below_fut {B : Nat} {w0 : World} (h : Below B w0 w) (hb : Below w.heap.size w w') (hB : B ≤ w0.heap.size) : Below B w0 w' := h.trans (hb.mono (Nat.le_trans hB h.size))
theorem below_new (w : World) (o : Obj) : Below w.heap.size w (w.alloc o) := (Below.refl _ _).alloc (Nat.le_refl _) o
theorem below_draws (w : World) (k : Nat) : Below w.heap.size w (w.drewN k) := below_drewN (Below.refl _ _) k
end
end Go.Proofs.YtikjhnbehihbjaaDoor
