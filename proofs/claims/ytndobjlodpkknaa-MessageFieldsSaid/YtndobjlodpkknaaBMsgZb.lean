/- Hashes read as data. -/
import Derived.Test.YtndobjlodpkknaaBMsgZa
namespace Go.Proofs.Ytndobjlodpkknaa
open Go Go.ChangeShapes Go.WideShapes Go.ChangeAt Go.RowKit
set_option linter.unusedVariables false

theorem okWide_arr {P : Program} {w : World} {r : Reach} {base : Nat} {t : TypeId} {v : Value} {n : Nat} {e : TypeId} (ht : P.underlying t = some (.array n e)) (h : Value.okWide P w r base t v) : ∃ cs, v = .agg cs := by
  simp only [Value.okWide, ht] at h
  obtain ⟨cs, h1, _⟩ := h
  exact ⟨cs, h1⟩
theorem open_hashE {H : Type} {enc : TypeId × Value → H} {W : World} {cs : Array Value} {d0 : DataW H} {p : List MemPlace}
    (h0 : DataW.Trod enc Try.prog W 0 (fun _ => true) true 29 (.agg cs) d0 p) : ∃ y : Bs, y.length = 32 ∧ cs = (hCells y).toArray := by
  obtain ⟨fuel, hf⟩ := h0
  obtain ⟨_, y, e, hy⟩ := hash_cellsE hf
  have e' : cs.toList = hCells y := e
  exact ⟨y, hy, by rw [← e', Array.toArray_toList]⟩
theorem open_hashesE {H : Type} {enc : TypeId × Value → H} {W : World} {a : Option Addr} {l c : Nat} {d0 : DataW H} {p : List MemPlace}
    (h0 : DataW.Trod enc Try.prog W 0 (fun _ => true) true 30 (.slice a l c) d0 p) : ∃ hs, ESl HashE 32 W (.slice a l c) hs :=
  open_rowsE HashE (by omega) Try.underlying30 (by kernel_rfl) (fun fuel cs x h => hash_cellsE h) h0
end Go.Proofs.Ytndobjlodpkknaa
