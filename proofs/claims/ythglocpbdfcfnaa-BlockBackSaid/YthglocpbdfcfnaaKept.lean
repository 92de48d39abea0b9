/- What stays where one block is written; slices cut at a place. -/
import Derived.Test.YthglocpbdfcfnaaGA
import Derived.Test.YthglocpbdfcfnaaGB
namespace Go.Proofs.Ythglocpbdfcfnaa
open Go.RowKit

theorem Blk.kept {w w' : World} {g H : Nat} {t : TypeId} {cs : Array Value} (h : Blk w g t cs) (hg : w.grownBy w' (some H)) (hne : g ≠ H) : Blk w' g t cs :=
  (hg.block g h.lt (by intro e; injection e with e; exact hne e)).trans h
theorem grown_setCell {w w' : World} {H : Nat} (h : w.grownBy w' (some H)) (i : Nat) (v : Value) : w.grownBy (w'.setCell ⟨H, i, none⟩ v) (some H) :=
  ⟨h.os, h.tape, h.output, by have := h.size; simpa [World.setCell] using this, fun k hk hne => by
    rw [Below.heap_setCell w' ⟨H, i, none⟩ v k (by intro e; exact hne (by rw [e]))]
    exact h.block k hk hne⟩
theorem grown_drewN {w w' : World} {r : Option Nat} (h : w.grownBy w' r) (n : Nat) : w.grownBy (w'.drewN n) r := ⟨h.os, h.tape, h.output, h.size, h.block⟩
theorem grown_below {w w' : World} {B : Nat} {r : Option Nat} (h : Below B w w') (hB : w.heap.size ≤ B) : w.grownBy w' r := ⟨h.os, h.tape, h.output, h.size, fun k hk _ => h.block k (by omega)⟩
theorem grown_trans {w w1 w2 : World} {r : Option Nat} (h : w.grownBy w1 r) (h2 : w1.grownBy w2 r) : w.grownBy w2 r :=
  ⟨h2.os.trans h.os, h2.tape.trans h.tape, h2.output.trans h.output, Nat.le_trans h.size h2.size, fun k hk hn => (h2.block k (Nat.lt_of_lt_of_le hk h.size) hn).trans (h.block k hk hn)⟩
/-- a slice's first address lies elsewhere -/
def Far (p : Option Addr) (H : Nat) : Prop := ∀ a, p = some a → a.block ≠ H
theorem Row8.kept {w w' : World} {p : Option Addr} {bs : List (BitVec 8)} {H : Nat} (h : Row8 w p bs) (hg : w.grownBy w' (some H)) (hne : bs ≠ [] → Far p H) : Row8 w' p bs := fun hn => by
  obtain ⟨b, off, rfl, hlt, hc⟩ := h hn
  exact ⟨b, off, rfl, Nat.lt_of_lt_of_le hlt hg.size, fun i x hx => (World.cell?_of_block (a := ⟨b, off + i, none⟩) (hg.block b hlt (by intro e; injection e with e; exact hne hn _ rfl e))).trans (hc i x hx)⟩
theorem Row8.far {w : World} {p : Option Addr} {bs : List (BitVec 8)} {H : Nat} (h : Row8 w p bs) (hH : w.heap.size ≤ H) : bs ≠ [] → Far p H := fun hn a ha => by
  obtain ⟨b, off, rfl, hlt, hc⟩ := h hn
  injection ha with ha
  subst ha
  show b ≠ H
  omega
theorem Far.drop {p : Option Addr} {H k c : Nat} (h : Far p H) : Far (if c = k then p else p.map (·.add k)) H := by
  split
  · exact h
  · intro a ha
    cases p with
    | none => cases ha
    | some b => injection ha with ha; subst ha; have := h b rfl; unfold Addr.add; split <;> simpa using this

/-- where a slice cut at k begins -/
def cutAt (p : Option Addr) (c k : Nat) : Option Addr := if c = k then p else p.map (·.add k)
theorem slice_from8 (w : World) (p : Option Addr) (m c k : Nat) (h : k ≤ m) :
    (Instr.sliceAt 27 (.slice p m c) (some (.int .i64 (k : Int))) none none).run Try.prog w = .ok (.slice (cutAt p c k) (m - k) (c - k)) w := by
  have hs : (sizeOf (Try.prog.elem 27)).run Try.prog w = .ok 1 w := by kernel_rfl
  have hu : Try.prog.underlying 27 = some (.slice (Try.prog.elem 27)) := by kernel_rfl
  rw [run_sliceAt_slice w _ _ _ _ _ hu, run_slice_l w _ _ _ _ hu _ _ (by omega) (by omega), hs]
  simp [Result.andThen, sliced, cutAt]
theorem Far.cut {p : Option Addr} {H k c : Nat} (h : Far p H) : Far (cutAt p c k) H := h.drop
theorem Row8.cut {w : World} {p : Option Addr} {bs : List (BitVec 8)} (h : Row8 w p bs) {k c : Nat} (hc : bs.length ≤ c) : Row8 w (cutAt p c k) (bs.drop k) := h.drop hc
end Go.Proofs.Ythglocpbdfcfnaa
