/- A row of cells stored in the midst of a block; the tree of hashes, plain. -/
import Derived.Test.YtifanifgbkpdgaaDoorMerk
import Derived.Test.YtifanifgbkpdgaaDoorAppRow
namespace Go.Proofs.YtifanifgbkpdgaaDoor
open Go.RowKit

theorem grown_setCells (b : Nat) : ∀ (vs : List Value) (o : Nat) (w w' : World), w.grownBy w' (some b) → w.grownBy (w'.setCells b o vs) (some b) ∧ (w'.setCells b o vs).heap.size = w'.heap.size
  | [], _, _, _, h => ⟨h, rfl⟩
  | v :: r, o, w, w', h => by
    have := grown_setCells b r (o + 1) w (w'.setCell ⟨b, o, none⟩ v) (grown_setCell h o v)
    exact ⟨this.1, this.2.trans (by simp [World.setCell])⟩
/-- a row of cells stored in the midst of a block: what is known of the world behind it -/
theorem wp_store_row {P : Program} {ops : Array Oper} {rest : List Oper} {op : Oper} {a : Act} {w : World} {Q : Exit → Act → World → Prop} (hgd : op.guard = none) (ty : TypeId) (x y : Operand) (ho : op.op = .store ty x y)
    (b o : Nat) (cells : Array Value) (hx : a.eval x = .pointer (some ⟨b, o, none⟩)) (hy : a.eval y = .agg cells)
    (ht : w.there b o cells.size) (hi : (P.info? ty).map (·.size) = some cells.size) (h1 : cells.all (·.oneCell') = true)
    (h : ∀ w', w'.rangeAt b o cells.toList → (∀ o' cs, w.rangeAt b o' cs → (o' + cs.length ≤ o ∨ o + cells.size ≤ o') → w'.rangeAt b o' cs) → (∀ o' n, w.there b o' n → w'.there b o' n) → w.grownBy w' (some b) → w'.heap.size = w.heap.size → wpList P ops Q rest (a.put op.dst undef) w') : wpList P ops Q (op :: rest) a w :=
  wpList_store_mid hgd ty x y ho b o cells hx hy ht hi h1
    (h _ (World.rangeAt_setCells_same w b o cells.toList (by simpa using ht)) (fun o' cs hr hap => World.rangeAt_setCells_apart hr b o cells.toList (.inr (by simpa using hap))) (fun o' n hh => World.there_setCells hh b o cells.toList)
      (grown_setCells b cells.toList o w w (World.grownBy.refl w _)).1 (grown_setCells b cells.toList o w w (World.grownBy.refl w _)).2)

def hA (l : List (List (BitVec 8))) (i : Nat) : List (BitVec 8) := l[i]?.getD (noughts 32)
/-- the hash over pair j -/
def upAt (l : List (List (BitVec 8))) (j : Nat) : List (BitVec 8) := pairH (hA l (2 * j)) (hA l (min (2 * j + 1) (l.length - 1)))
def upTo (l : List (List (BitVec 8))) (j : Nat) : List (List (BitVec 8)) := (List.range j).map (upAt l)
def up (l : List (List (BitVec 8))) : List (List (BitVec 8)) := upTo l ((l.length + 1) / 2)
/-- whether pair j is of two equal ones -/
def othAt (l : List (List (BitVec 8))) (j : Nat) : Bool := decide (2 * j + 1 < l.length) && decide (hA l (2 * j) = hA l (2 * j + 1))
def othTo (l : List (List (BitVec 8))) (j : Nat) : Bool := (List.range j).any (othAt l)
def oth (l : List (List (BitVec 8))) : Bool := othTo l ((l.length + 1) / 2)
def merkN : Nat → List (List (BitVec 8)) → Bool → List (BitVec 8) × Bool
  | 0, l, o => (hA l 0, o)
  | f + 1, l, o => if l.length ≤ 1 then (hA l 0, o) else merkN f (up l) (o || oth l)
/-- the root of hashes, and whether it may be of others -/
def merkP (l : List (List (BitVec 8))) : List (BitVec 8) × Bool := if l.length = 0 then (noughts 32, false) else merkN l.length l false
theorem upTo_len (l : List (List (BitVec 8))) (j : Nat) : (upTo l j).length = j := by simp [upTo]
theorem up_len (l : List (List (BitVec 8))) : (up l).length = (l.length + 1) / 2 := upTo_len _ _
theorem upTo_succ (l : List (List (BitVec 8))) (j : Nat) : upTo l (j + 1) = upTo l j ++ [upAt l j] := by simp [upTo, List.range_succ]
theorem othTo_succ (l : List (List (BitVec 8))) (j : Nat) : othTo l (j + 1) = (othTo l j || othAt l j) := by unfold othTo; rw [List.range_succ, List.any_append]; simp
theorem upTo_ok (l : List (List (BitVec 8))) (j : Nat) : ∀ x ∈ upTo l j, x.length = 32 := fun x hx => by
  obtain ⟨k, _, rfl⟩ := List.mem_map.1 hx
  exact pairH_len _ _
theorem hA_len {l : List (List (BitVec 8))} (h : ∀ x ∈ l, x.length = 32) (i : Nat) : (hA l i).length = 32 := by
  unfold hA
  cases hx : l[i]? with
  | none => rfl
  | some x => exact h x (List.mem_of_getElem? hx)
theorem hA_some {l : List (List (BitVec 8))} {i : Nat} (h : i < l.length) : l[i]? = some (hA l i) := by unfold hA; rw [List.getElem?_eq_getElem h]; rfl
/-- enough fuel is enough -/
theorem merkN_fuel : ∀ (f g : Nat) (l : List (List (BitVec 8))) (o : Bool), l.length ≤ f → l.length ≤ g → merkN f l o = merkN g l o
  | 0, 0, _, _, _, _ => rfl
  | 0, g + 1, l, o, hf, _ => by unfold merkN; rw [if_pos (by omega)]
  | f + 1, 0, l, o, _, hg => by unfold merkN; rw [if_pos (by omega)]
  | f + 1, g + 1, l, o, hf, hg => by
    unfold merkN
    split
    · rfl
    · exact merkN_fuel f g (up l) _ (by rw [up_len]; omega) (by rw [up_len]; omega)
theorem merkN_or : ∀ (f : Nat) (l : List (List (BitVec 8))) (o : Bool), merkN f l o = ((merkN f l false).1, o || (merkN f l false).2)
  | 0, l, o => by simp [merkN]
  | f + 1, l, o => by
    unfold merkN
    split
    · simp
    · rw [merkN_or f (up l) (o || oth l), merkN_or f (up l) (false || oth l)]
      simp [Bool.or_assoc]
theorem merkN_step {f : Nat} {l : List (List (BitVec 8))} {o : Bool} (h1 : 1 < l.length) (hf : l.length ≤ f) : merkN f l o = merkN f (up l) (o || oth l) := by
  obtain ⟨g, rfl⟩ : ∃ g, f = g + 1 := ⟨f - 1, by omega⟩
  rw [show merkN (g + 1) l o = merkN g (up l) (o || oth l) by rw [merkN, if_neg (by omega)]]
  exact merkN_fuel _ _ _ _ (by rw [up_len]; omega) (by rw [up_len]; omega)
end Go.Proofs.YtifanifgbkpdgaaDoor
