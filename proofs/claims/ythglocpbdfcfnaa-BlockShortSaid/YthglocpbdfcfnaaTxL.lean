/- A small transaction is written (the laws' awake). -/
import Derived.Test.YthglocpbdfcfnaaTxH
import Derived.Test.YthglocpbdfcfnaaTxS
namespace Go.Proofs.Ythglocpbdfcfnaa
open Go Go.RowKit
set_option linter.unusedVariables false

def x0 : TIn := ⟨List.replicate 32 0#8, 0#32, [], 0#32, []⟩
def t0 : TTx := ⟨0#32, [x0], [], 0#32⟩
def ZIn0 : List Value := List.replicate 32 (Value.int .u8 0) ++ [Value.int .u32 0, Value.slice none 0 0, Value.int .u32 0, Value.slice none 0 0]
theorem zIn0_cells : ZIn0 = hCells x0.id ++ [u32 x0.ix, .slice none 0 0, u32 x0.sq, .slice none 0 0] := by rfl
theorem t0_bytes : (txP t0 true).2 = 0 ∧ (txP t0 true).1.length = 51 := by
  constructor <;> decide
theorem built_in0 : Try.prog.built 67 [] = some ZIn0.toArray := by kernel_rfl
theorem built_t0 (g : Nat) : Try.prog.built 26 [(1, .slice (some ⟨g, 0, none⟩) 1 1)] = some #[.int .u32 0, .slice (some ⟨g, 0, none⟩) 1 1, .slice none 0 0, .int .u32 0] := by kernel_rfl
theorem sl_nil (w : World) : Sl w (.slice none 0 0) [] := ⟨none, 0, 0, rfl, rfl, Nat.le_refl _, by unfold maxLen; omega, Row8.nil _ _, fun _ => rfl⟩
theorem esl_nil {α : Type} (E : World → α → List Value → Prop) (N : Nat) (w : World) : ESl E N w (.slice none 0 0) [] := ⟨none, 0, 0, rfl, rfl, Nat.le_refl _, by unfold maxLen; omega, fun h => absurd rfl h, fun _ => rfl⟩
theorem t0_c (w : World) (g : Nat) (h : Blk w g 67 ZIn0.toArray) : TxC w t0 [.int .u32 0, .slice (some ⟨g, 0, none⟩) 1 1, .slice none 0 0, .int .u32 0] := by
  refine ⟨.slice (some ⟨g, 0, none⟩) 1 1, .slice none 0 0, rfl, ⟨some ⟨g, 0, none⟩, 1, 1, rfl, rfl, Nat.le_refl _, by unfold maxLen; omega, fun _ => ⟨g, 0, rfl, h.lt, fun i x hx => ?_⟩, fun h => by cases h⟩, esl_nil _ _ _⟩
  have hi : i = 0 := by
    have := (List.getElem?_eq_some_iff.1 hx).1
    have hl : t0.is.length = 1 := rfl
    omega
  subst hi
  have hx' : x = x0 := by
    have h0 : t0.is[0]? = some x0 := rfl
    rw [h0] at hx
    injection hx with hx
    exact hx.symm
  subst hx'
  exact ⟨ZIn0, ⟨.slice none 0 0, .slice none 0 0, zIn0_cells, rfl, sl_nil w, esl_nil _ _ _⟩, by have := blk_range h; simpa using this⟩
set_option maxRecDepth 100000 in
set_option maxHeartbeats 8000000 in
theorem awake_any (w : World) : Calls Try.prog 12 #[] w fun e w' => e = .returned (.bool true) ∧ Below w.heap.size w w' := by
  have hb0 := built_in0
  have hb1 := built_t0 w.heap.size
  have hcall := txEncode_any t0 _ true _ (t0_c _ _ (Blk.new w 67 ZIn0.toArray))
  have hbn := below_new w (.cells ZIn0.toArray 67)
  obtain ⟨h51a, h51b⟩ := t0_bytes
  obtain ⟨x, hx⟩ : ∃ x, x = txP t0 true := ⟨_, rfl⟩
  rw [← hx] at hcall h51a h51b
  obtain ⟨b, k⟩ := x
  simp only at h51a h51b
  subst h51a
  have HC := Lib.hid hcall
  have HBN := Lib.hid hbn
  have H51 := Lib.hid h51b
  have hsz : ZIn0.length = 36 := rfl
  clear hx hcall hbn h51b
  go_enter Try.func12, Try.ntmps12
  go_wp2_with (first
    | (with_reducible refine wp_build (o := ⟨some 4, _, _, _, _, _⟩) ?_ 67 #[] ?_ [] ?_ ZIn0.toArray hb0 ?_
       · rfl
       · rfl
       · rfl)
    | (with_reducible refine wp_lit (o := ⟨some 5, _, _, _, _, _⟩) ?_ 23 67 1 #[(0, .tmp 4)] ?_ [.agg ZIn0.toArray] ?_ 36 96 _ Try.underlying23 in_info ?_ ?_ ?_ ?_ ?_ ?_
       · rfl
       · rfl
       · rfl
       · omega
       · exact (fun v hv => by rw [List.mem_singleton.1 hv]; exact hsz)
       · rfl
       · omega
       · omega
       simp only [List.flatMap_cons, List.flatMap_nil, List.append_nil, Value.cells])
    | (with_reducible refine wp_build (o := ⟨some 6, _, _, _, _, _⟩) ?_ 26 #[(1, .tmp 5)] ?_ [(1, .slice (some ⟨w.heap.size, 0, none⟩) 1 1)] ?_ #[.int .u32 0, .slice (some ⟨w.heap.size, 0, none⟩) 1 1, .slice none 0 0, .int .u32 0] hb1 ?_
       · rfl
       · rfl
       · rfl)
    | (refine HC.out.mono ?_; rintro e w' ⟨v, rfl, ho, hb⟩; obtain ⟨p, n, c, rfl, hn, hnc, hcm, _⟩ := Own8.open ho; obtain rfl : n = 51 := (hn.out.symm.trans H51.out)))
  have HB := Lib.hid (below_fut HBN.out hb (Nat.le_refl _))
  go_ret
  exact ⟨rfl, HB.out⟩
end Go.Proofs.Ythglocpbdfcfnaa
