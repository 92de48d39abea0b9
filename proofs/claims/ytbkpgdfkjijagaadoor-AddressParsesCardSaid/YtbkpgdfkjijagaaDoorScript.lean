/- sporran/script: patterns as lists of runes; whether a script fits one. -/
import Derived.Test.YtbkpgdfkjijagaaDoorGA
import Derived.Laws.RangeAny
import Derived.Lib.OthersKept
import Derived.Deep.LoopGhost
namespace Go.Proofs.YtbkpgdfkjijagaaDoor
open Go.RowKit

/-! ### plain: a script against a pattern's runes (120 stands for a byte of its own) -/
def mt : List Nat → List (BitVec 8) → Option (List (BitVec 8))
  | [], [] => some []
  | [], _ :: _ => none
  | _ :: _, [] => none
  | r :: R, b :: s => if r = 120 then (mt R s).map (b :: ·) else if b.toNat = r then mt R s else none

/-- what k runes have come to: the rest decides, these bytes ahead -/
def MtAt (R : List Nat) (bs : List (BitVec 8)) (k : Nat) (A : List (BitVec 8)) : Prop :=
  k ≤ bs.length ∧ A.length ≤ k ∧ mt R bs = (mt (R.drop k) (bs.drop k)).map (A ++ ·)
theorem MtAt.start (R : List Nat) (bs : List (BitVec 8)) : MtAt R bs 0 [] := ⟨Nat.zero_le _, by simp, by simp⟩
theorem MtAt.short {R : List Nat} {bs : List (BitVec 8)} {k : Nat} {A : List (BitVec 8)} (h : MtAt R bs k A) (hk : k < R.length) (he : bs.length = k) : mt R bs = none := by
  have h1 : bs.drop k = [] := List.drop_eq_nil_of_le (by omega)
  rw [h.2.2, List.drop_eq_getElem_cons hk, h1]; rfl
theorem MtAt.takes {R : List Nat} {bs : List (BitVec 8)} {k : Nat} {A : List (BitVec 8)} (h : MtAt R bs k A) (hk : k < R.length) (hb : k < bs.length) (hr : R[k] = 120) : MtAt R bs (k + 1) (A ++ [bs[k]]) := by
  refine ⟨by omega, by have := h.2.1; simp; omega, ?_⟩
  rw [h.2.2, List.drop_eq_getElem_cons hk, List.drop_eq_getElem_cons hb]
  simp [mt, hr, Function.comp_def]
theorem MtAt.same {R : List Nat} {bs : List (BitVec 8)} {k : Nat} {A : List (BitVec 8)} (h : MtAt R bs k A) (hk : k < R.length) (hb : k < bs.length) (hr : R[k] ≠ 120) (he : bs[k].toNat = R[k]) : MtAt R bs (k + 1) A := by
  refine ⟨by omega, by have := h.2.1; omega, ?_⟩
  rw [h.2.2, List.drop_eq_getElem_cons hk, List.drop_eq_getElem_cons hb]
  simp [mt, hr, he]
theorem MtAt.other {R : List Nat} {bs : List (BitVec 8)} {k : Nat} {A : List (BitVec 8)} (h : MtAt R bs k A) (hk : k < R.length) (hb : k < bs.length) (hr : R[k] ≠ 120) (he : bs[k].toNat ≠ R[k]) : mt R bs = none := by
  rw [h.2.2, List.drop_eq_getElem_cons hk, List.drop_eq_getElem_cons hb]
  simp [mt, hr, he]
theorem MtAt.whole {R : List Nat} {bs : List (BitVec 8)} {A : List (BitVec 8)} (h : MtAt R bs R.length A) (he : bs.length = R.length) : mt R bs = some A := by
  have h1 : bs.drop R.length = [] := List.drop_eq_nil_of_le (by omega)
  rw [h.2.2, List.drop_eq_nil_of_le (Nat.le_refl R.length), h1]; simp [mt]
theorem MtAt.long {R : List Nat} {bs : List (BitVec 8)} {A : List (BitVec 8)} (h : MtAt R bs R.length A) (he : bs.length ≠ R.length) : mt R bs = none := by
  have hlt : R.length < bs.length := by have := h.1; omega
  rw [h.2.2, List.drop_eq_nil_of_le (Nat.le_refl R.length), List.drop_eq_getElem_cons hlt]; rfl

/-! ### a text's runes -/
def posAt (s : ByteArray) : Nat → Nat
  | 0 => 0
  | k + 1 => posAt s k + (Utf8.decode s (posAt s k)).2
def patB (s : ByteArray) (R : List Nat) : Bool := (List.range R.length).all (fun k => decide (posAt s k < s.size) && ((Utf8.decode s (posAt s k)).1 == R.getD k 0)) && !decide (posAt s R.length < s.size) && R.all (fun r => decide (r < 256))
structure Pat (s : ByteArray) (R : List Nat) : Prop where
  lt : ∀ k, k < R.length → posAt s k < s.size
  rune : ∀ k (h : k < R.length), (Utf8.decode s (posAt s k)).1 = R[k]
  ends : ¬ posAt s R.length < s.size
  small : ∀ k (h : k < R.length), R[k] < 256
theorem pat_of {s : ByteArray} {R : List Nat} (h : patB s R = true) : Pat s R := by
  simp only [patB, Bool.and_eq_true, List.all_eq_true, List.mem_range, decide_eq_true_eq, beq_iff_eq, Bool.not_eq_true', decide_eq_false_iff_not] at h
  obtain ⟨⟨h1, h2⟩, h3⟩ := h
  refine ⟨fun k hk => (h1 k hk).1, fun k hk => ?_, h2, fun k hk => h3 _ (List.getElem_mem hk)⟩
  rw [(h1 k hk).2]; simp [List.getD, hk]

/-- whether it fits, and the bytes of its own -/
def FitsPost (w : World) (o : Option (List (BitVec 8))) (e : Ending) (w' : World) : Prop :=
  ∃ v ok, e = .returned (.tuple #[v, .bool ok]) ∧ Below w.heap.size w w' ∧ (match o with | none => ok = false | some t => ok = true ∧ Own8 w' w.heap.size v t)

/-- an iterator's step, whatever else there is -/
theorem iter_step {P : Program} {w : World} {k : Nat} {s : ByteArray} {R : List Nat} (hP : Pat s R) {j : Nat} (hj : j < R.length) (hk : w.heap[k]? = some (.stringIter s (posAt s j))) :
    ∃ w2, (∀ ty, (Instr.next (.pointer (some ⟨k, 0, none⟩)) true ty).run P w = .ok (.tuple #[.bool true, .int .i64 (posAt s j : Nat), .int .i32 (R[j] : Nat)]) w2) ∧ w2.heap[k]? = some (.stringIter s (posAt s (j + 1))) ∧
      (∀ B a, Below B a w → B ≤ k → Below B a w2) ∧ (∀ B v bs, Own8 w B v bs → Own8 w2 B v bs) ∧ w2.heap.size = w.heap.size := by
  refine ⟨w.iterAt k s (posAt s j + (Utf8.decode s (posAt s j)).2), fun ty => ?_, Lib.iterAt_heap w k s _ _ hk, fun B a hb hB => Lib.below_iterAt hb hB _ _, fun B v bs h => ?_, Lib.iterAt_size _ _ _ _⟩
  · rw [Lib.run_next_any_at w k s _ ty hk (hP.lt j hj), hP.rune j hj]
  · refine ⟨h.1, ?_⟩
    rcases h.2 with h0 | ⟨g, cap, cur, rfl, hg, hh, hr⟩
    · exact .inl h0
    · have hne : g ≠ k := fun e => by rw [e, hk] at hh; cases hh
      exact .inr ⟨g, cap, cur, rfl, hg, (Lib.iterAt_other w k g s _ hne).trans hh, hr⟩
theorem iter_grown {w w' : World} {B : Nat} {v : Value} {bs : List (BitVec 8)} {k : Nat} {s : ByteArray} {pos : Nat} (h : Own8 w B v bs) (hg : w.grownBy w' v.ownBlock) (hk : w.heap[k]? = some (.stringIter s pos)) : w'.heap[k]? = some (.stringIter s pos) := by
  refine (hg.block k (Array.getElem?_eq_some_iff.1 hk).1 fun e => ?_).trans hk
  rcases h.2 with ⟨rfl, _⟩ | ⟨g, cap, cur, rfl, _, hh, _⟩
  · simp [Value.ownBlock] at e
  · simp [Value.ownBlock] at e
    rw [← e, hk] at hh; cases hh
theorem iter_alloc {w : World} {k : Nat} {s : ByteArray} {pos : Nat} (hk : w.heap[k]? = some (.stringIter s pos)) (o : Obj) : (w.alloc o).heap[k]? = some (.stringIter s pos) :=
  (heap_alloc_old w o (Array.getElem?_eq_some_iff.1 hk).1).trans hk

end Go.Proofs.YtbkpgdfkjijagaaDoor
