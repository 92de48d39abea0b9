/- Slice literals ('[]T{x, ..}'), of elements of any size, all places written. -/
import Derived.Test.YthglocpbdfcfnaaBld
import Derived.Test.YthglocpbdfcfnaaHC
import Derived.Great.BuildSlice
namespace Go.Proofs.Ythglocpbdfcfnaa
open Go Go.RowKit

theorem wp_lit {P : Program} {ops : Array Oper} {rest : List Oper} {o : Oper} {a : Act} {w : World} {Q : Exit → Act → World → Prop} (hgd : o.guard = none) (t e : TypeId) (len : Nat) (parts : Array (Nat × Operand)) (ho : o.op = .buildSlice t len parts)
    (vs : List Value) (hv : parts.toList.map (fun x => (x.1, a.eval x.2)) = (vs.zipIdx 0).map fun x => (x.2, x.1)) (N bytes : Nat) (z : Value) (ht : P.underlying t = some (.slice e)) (hinfo : (P.info? e).map (fun i => (i.zero, i.size, i.bytes)) = some (some z, N, bytes))
    (hN : 0 < N) (hs : ∀ v ∈ vs, v.cells.size = N) (hlen : vs.length = len) (hpos : 0 < len) (hsmall : len * N ≤ 16777216)
    (h : wpList P ops Q rest (a.put o.dst (.slice (some ⟨w.heap.size, 0, none⟩) len len)) (w.alloc (.cells (vs.flatMap fun v => v.cells.toList).toArray e))) : wpList P ops Q (o :: rest) a w := by
  cases hi : P.info? e with
  | none => rw [hi] at hinfo; cases hinfo
  | some i0 =>
    rw [hi] at hinfo
    simp only [Option.map_some, Option.some.injEq, Prod.mk.injEq] at hinfo
    obtain ⟨hz, hsz, _⟩ := hinfo
    refine wpList_buildSlice hgd t e len parts ho _ i0 z ht hi hz (by rw [hsz]; omega) (by rw [hsz]; have := Nat.mul_pos hpos hN; omega) ?_ h
    rw [Array.toList_map, hsz]
    have : List.map (fun x : Nat × Operand => (x.1, a.eval x.2)) parts.toList = (vs.zipIdx 0).map fun x => (x.2, x.1) := hv
    refine (congrArg _ this).trans ?_
    exact Great.fill_whole hN vs _ hs (by rw [hlen]; simp)
/-- a build, its guard met -/
theorem wp_buildGd {P : Program} {ops : Array Oper} {rest : List Oper} {o : Oper} {a : Act} {w : World} {Q : Exit → Act → World → Prop} (hw : Region.wanted o (yielded ops a.tmps) = true) (t : TypeId) (parts : Array (Nat × Operand)) (ho : o.op = .build t parts) (vals : List (Nat × Value)) (hv : parts.toList.map (fun x => (x.1, a.eval x.2)) = vals) (cells : Array Value)
    (hf : P.built t vals = some cells) (h : wpList P ops Q rest (a.put o.dst (.agg cells)) w) : wpList P ops Q (o :: rest) a w := by
  subst hv
  replace hf : P.built t (parts.map fun (i, x) => (i, a.eval x)).toList = some cells := by rw [Array.toList_map]; exact hf
  unfold wpList
  rw [if_pos hw]
  refine .inl ?_
  unfold Oper.wp execOp
  simp only [ho, Sem.run_bind, run_build w t _ cells hf, Result.andThen_ok]
  exact h

theorem hCells_size {l : List (BitVec 8)} (h : l.length = 32) : (hCells l).toArray.size = 32 := by rw [List.size_toArray, hCells, List.length_map, h]
def AnyW (_ : World) : Prop := True
theorem anyW (w : World) : AnyW w := trivial
end Go.Proofs.Ythglocpbdfcfnaa
