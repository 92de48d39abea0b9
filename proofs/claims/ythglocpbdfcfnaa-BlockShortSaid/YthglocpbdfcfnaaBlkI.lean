/- A block read as data (a row's argument). -/
import Derived.Test.YthglocpbdfcfnaaHdrD
import Derived.Test.YthglocpbdfcfnaaTxI
import Derived.Test.YthglocpbdfcfnaaBlkP
namespace Go.Proofs.Ythglocpbdfcfnaa
open Go Go.ChangeShapes Go.WideShapes Go.ChangeAt Go.RowKit
set_option linter.unusedVariables false

theorem blk_cells {H : Type} {enc : TypeId × Value → H} {W : World} {fuel : Nat} {cs : List Value} {x : DataW H × List MemPlace} (h : DataW.trod enc Try.prog W 0 (fun _ => true) true fuel 48 cs = some x) : cs.length = 69 ∧ ∃ b, BlkC W b cs := by
  have hl : cs.length = 69 := by rw [trod_len Try.underlying48 h]; kernel_rfl
  obtain ⟨n0, y0, h0⟩ := trod_fieldH Try.underlying48 h 0 _ rfl 68 (by kernel_rfl)
  obtain ⟨n1, y1, h1⟩ := trod_fieldH Try.underlying48 h 1 _ rfl 1 (by kernel_rfl)
  obtain ⟨hd, hk, e0⟩ := header_cells h0
  obtain ⟨a1, l1, c1, e1⟩ := slice_cell Try.underlying42 h1
  have e1' : (cs.drop 68).take 1 = [.slice a1 l1 c1] := e1
  have h1' : DataW.trod enc Try.prog W 0 (fun _ => true) true n1 42 ((cs.drop 68).take 1) = some y1 := h1
  rw [e1'] at h1'
  obtain ⟨ts, ht⟩ := open_rowsE (enc := enc) (W := W) (d0 := y1.1) (p := y1.2) TxC (by omega) Try.underlying42 (by kernel_rfl) (fun fuel cs x h => tx_cells h) ⟨n1, h1'⟩
  refine ⟨hl, ⟨hd, ts⟩, _, ?_, hk, ht⟩
  have q1 := parts2 cs 68 1 (by omega)
  have a0 : (cs.drop 0).take 68 = hd.cells := e0
  rw [a0, e1'] at q1
  exact q1
theorem open_block {H : Type} {enc : TypeId × Value → H} {W : World} {cs : Array Value} {d0 : DataW H} {p : List MemPlace} (h0 : DataW.Trod enc Try.prog W 0 (fun _ => true) true 48 (.agg cs) d0 p) : ∃ b, BlkC W b cs.toList := by
  obtain ⟨fuel, hf⟩ := h0
  exact (blk_cells hf).2
end Go.Proofs.Ythglocpbdfcfnaa
