/- message.writer: num, list: the walks.  -/
import Derived.Test.YtndobjlodpkknaaAMsgK
import Derived.Test.YtndobjlodpkknaaAAppZ
import Derived.Test.YtndobjlodpkknaaAGB
import Derived.Test.YtndobjlodpkknaaAGA
import Derived.Test.YtndobjlodpkknaaAGD
import Derived.Test.YtndobjlodpkknaaAGZ
import Derived.Test.YtndobjlodpkknaaAMsgP
import Derived.Test.YtndobjlodpkknaaAGS
namespace Go.Proofs.Ytndobjlodpkknaa
open Go Go.RowKit
set_option linter.unusedVariables false
structure WrM (g : Nat) (w : World) (v : Value) (ys : List (BitVec 8)) : Prop where
  blk : Blk w g 87 #[v]
  own : Own8 w (g + 1) v ys
theorem WrM.lt {g : Nat} {w : World} {v : Value} {ys : List (BitVec 8)} (h : WrM g w v ys) : g + 1 ≤ w.heap.size := h.blk.lt
theorem WrM.fut {g : Nat} {w w' : World} {v : Value} {ys : List (BitVec 8)} (h : WrM g w v ys) (hb : Below w.heap.size w w') : WrM g w' v ys := ⟨h.blk.fut hb, h.own.fut hb⟩
theorem WrM.put {g : Nat} {w : World} {v v' : Value} {zs : List (BitVec 8)} (hb : Blk w g 87 #[v]) (ho : Own8 w (g + 1) v' zs) : WrM g (w.setCell ⟨g, 0, none⟩ v') v' zs := by
  refine ⟨?_, ho.setFar (fun e => by have := (World.ownsRow.lt ho _ e).1; simp only at this; omega) v'⟩
  have := hb.set 0 v'
  simpa using this
theorem below_grown {g : Nat} {w w' : World} {v : Value} {ys : List (BitVec 8)} (ho : Own8 w (g + 1) v ys) (hl : g ≤ w.heap.size) (hg : w.grownBy w' v.ownBlock) : Below g w w' :=
  (Below.refl g w).grown hg hl fun k hk => by have := (World.ownsRow.lt ho k hk).1; omega
structure WF (g : Nat) (w1 : World) (v0 : Value) (W : World) : Prop where
  blk : Blk W g 87 #[v0]
  bel : Below g w1 W
theorem WF.fut {g : Nat} {w1 W W' : World} {v0 : Value} (h : WF g w1 v0 W) (hb : Below W.heap.size W W') : WF g w1 v0 W' := ⟨h.blk.fut hb, h.bel.trans (hb.mono (Nat.le_of_lt h.blk.lt))⟩
theorem WF.size {g : Nat} {w1 W : World} {v0 : Value} (h : WF g w1 v0 W) : g + 1 ≤ W.heap.size := h.blk.lt
theorem WF.app {g : Nat} {w1 W W' : World} {v0 v : Value} {ys : List (BitVec 8)} (h : WF g w1 v0 W) (ho : Own8 W (g + 1) v ys) (hg : W.grownBy W' v.ownBlock) : WF g w1 v0 W' := by
  refine ⟨h.blk.stays (Stays.of_grown (S := fun k => v.ownBlock = some k) hg fun k h => h) (fun e => by have := (World.ownsRow.lt ho _ e).1; omega), h.bel.trans (below_grown ho (Nat.le_of_lt h.blk.lt) hg)⟩
def Ahead (g : Nat) (w : World) (pa : Option Addr) (a : Bs) (v : Value) : Prop := Row8 w pa a ∧ (a ≠ [] → ∀ x, pa = some x → v.ownBlock ≠ some x.block ∧ x.block < w.heap.size ∧ x.block ≠ g)
theorem Ahead.fut {g : Nat} {w w' : World} {pa : Option Addr} {a : Bs} {v : Value} (h : Ahead g w pa a v) (hb : Below w.heap.size w w') : Ahead g w' pa a v :=
  ⟨h.1.below hb (Nat.le_refl _), fun h0 x hx => by obtain ⟨h1, h2, h3⟩ := h.2 h0 x hx; exact ⟨h1, Nat.lt_of_lt_of_le h2 hb.size, h3⟩⟩
theorem Ahead.stays {g : Nat} {w w' : World} {S : Nat → Prop} {pa : Option Addr} {a : Bs} {v v' : Value} (h : Ahead g w pa a v) (hs : Stays S w w') (hS : ∀ x, pa = some x → a ≠ [] → ¬ S x.block) (hv : ∀ x, pa = some x → a ≠ [] → v'.ownBlock ≠ some x.block) : Ahead g w' pa a v' :=
  ⟨h.1.stays hs (fun h0 x hx => hS x hx h0), fun h0 x hx => by obtain ⟨h1, h2, h3⟩ := h.2 h0 x hx; exact ⟨hv x hx h0, Nat.lt_of_lt_of_le h2 hs.size, h3⟩⟩
theorem Ahead.app {g : Nat} {w w' : World} {pa : Option Addr} {a : Bs} {v v' : Value} (h : Ahead g w pa a v) (hg : w.grownBy w' v.ownBlock) (hk : v'.ownBlock = v.ownBlock ∨ v'.ownBlock = some w.heap.size) : Ahead g w' pa a v' :=
  h.stays (Stays.of_grown (S := fun k => v.ownBlock = some k) hg fun k h => h) (fun x hx h0 => (h.2 h0 x hx).1) (fun x hx h0 e => by
    obtain ⟨h1, h2, _⟩ := h.2 h0 x hx
    rcases hk with hk | hk
    · exact h1 (hk ▸ e)
    · rw [hk] at e; injection e with e; omega)
theorem Ahead.poke {g : Nat} {w : World} {pa : Option Addr} {a : Bs} {v : Value} (h : Ahead g w pa a v) (u : Value) : Ahead g (w.setCell ⟨g, 0, none⟩ u) pa a v :=
  h.stays (Stays.set w g 0 u) (fun x hx h0 e => (h.2 h0 x hx).2.2 e) (fun x hx h0 => (h.2 h0 x hx).1)
theorem zHash : ∀ w, (zeroValue 29).run Try.prog w = .ok (.agg (hCells (nulls 32)).toArray) w := zero_ofM (by kernel_rfl)
end Go.Proofs.Ytndobjlodpkknaa
