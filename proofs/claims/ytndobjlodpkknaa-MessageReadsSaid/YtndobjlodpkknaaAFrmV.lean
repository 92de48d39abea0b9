/- A row's argument of the type api.Frame, opened, with its size.  -/
import Derived.ChangeMaps5
import Derived.Test.YtndobjlodpkknaaATxJ
import Derived.Test.YtndobjlodpkknaaAGA
import Derived.Test.YtndobjlodpkknaaAStrB
namespace Go.Proofs.Ytndobjlodpkknaa
open Go Go.ChangeShapes Go.WideShapes Go.ChangeAt Go.RowKit
set_option linter.unusedVariables false
set_option maxRecDepth 100000 in
theorem open_frameW {H : Type} {enc : TypeId × Value → H} {W : World} {cs : Array Value} {d0 : DataW H} {p : List MemPlace} (h0 : DataW.Trod enc Try.prog W 0 (fun _ => true) true 24 (.agg cs) d0 p) (hw : Wts 24 d0) :
    ∃ (cmd bs : List (BitVec 8)) (a : Option Addr) (len cap : Nat) (d1 : DataW H), cs = #[.string (strB cmd), .slice a len cap] ∧ bs.length = len ∧ len ≤ cap ∧ cap ≤ 140737488351232 ∧ Row8 W a bs ∧ (a = none → cap = 0) ∧ d0 = .agg [.lit (.string (strB cmd).data.toList), d1] := by
  obtain ⟨fuel, hf⟩ := h0
  obtain ⟨y0, y1, n, hx, hl, h0, h1⟩ := trod_struct2 Try.underlying24 hf
  obtain ⟨s, e0, hx0, hs⟩ := DataW.trod_string Try.underlying9 h0
  have e0' : ((Value.agg cs).cells.toList.drop 0).take 1 = [.string s] := e0
  have hl2 : cs.toList.length = 2 := by have : (Value.agg cs).cells.toList.length = 2 := by rw [hl]; kernel_rfl
                                        exact this
  obtain ⟨cmd, rfl⟩ := strB_all s
  obtain ⟨a, b, hab⟩ : ∃ a b, cs.toList = [a, b] := by
    match h : cs.toList, hl2 with
    | [a, b], _ => exact ⟨a, b, rfl⟩
  have e0'' : (cs.toList.drop 0).take 1 = [.string (strB cmd)] := e0'
  have h1' : DataW.trod enc Try.prog W 0 (fun _ => true) true n 22 ((cs.toList.drop 1).take 1) = some y1 := h1
  rw [hab] at e0'' h1'
  simp only [List.drop_zero, List.take_succ_cons, List.take_zero, List.drop_succ_cons, List.cons.injEq, and_true] at e0'' h1'
  subst e0''
  have hb : ∃ a len cap, b = .slice a len cap := by
    rcases open_ints Try.underlying22 Try.underlying5 (by kernel_rfl) h1' with ⟨hcs, _⟩ | ⟨a, len', cap', zs, hcs, _⟩
    · injection hcs with h _; exact ⟨_, _, _, h⟩
    · injection hcs with h _; exact ⟨_, _, _, h⟩
  obtain ⟨a, len, cap, rfl⟩ := hb
  obtain ⟨bs, q1, q2, _, q4, q5, q6⟩ := open_bytes (enc := enc) (W := W) (d0 := y1.1) (p := y1.2) Try.underlying22 Try.underlying5 (by kernel_rfl) ⟨n, h1'⟩
  have hd0 : d0 = .agg [.lit (.string (strB cmd).data.toList), y1.1] := by
    injection hx with hx _
    rw [hx, hx0]
  have q3 : cap ≤ 140737488351232 := by
    rcases q6 with h | ⟨els, sp, e1, e2⟩
    · omega
    · rw [hd0] at hw
      have hw1 := wts_field Try.underlying24 hw (i := 1) rfl rfl
      rw [e1] at hw1
      have h3 := (wts_slice Try.underlying22 hw1).1
      rw [show Try.prog.bytesOf 5 = 1 from by kernel_rfl] at h3
      unfold maxB at h3
      omega
  refine ⟨cmd, bs, a, len, cap, y1.1, ?_, q1, q2, q3, q4, q5, hd0⟩
  rw [← Array.toArray_toList (xs := cs), hab]
end Go.Proofs.Ytndobjlodpkknaa
