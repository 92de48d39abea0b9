/- Aggregates (arrays, structs) loaded from and stored into memory as a whole; arrays of bytes read as data. -/
import Derived.Test.YtikjhnbehihbjaaDoorKit
import Derived.Deep.MidRow
import Derived.Deep.Slices
import Derived.OpenShut
namespace Go.Proofs.YtikjhnbehihbjaaDoor
open Go.RowKit Go.ChangeShapes Go.WideShapes

/-- an aggregate stored over a block that is known whole: the world behind it is some world of which just that is known -/
theorem wp_store_blk {P : Program} {ops : Array Oper} {rest : List Oper} {o : Oper} {a : Act} {w : World} {Q : Exit → Act → World → Prop} (hgd : o.guard = none) (ty : TypeId) (x y : Operand) (ho : o.op = .store ty x y)
    (g : Nat) (t : TypeId) (old cells : Array Value) (hx : a.eval x = .pointer (some ⟨g, 0, none⟩)) (hy : a.eval y = .agg cells) (hg : Blk w g t old) (hi : (P.info? ty).map (·.size) = some cells.size)
    (hold : old.size = cells.size) (h1 : cells.all (·.oneCell') = true) (B : Nat) (w0 : World) (hb : Below B w0 w) (hB : B ≤ g)
    (h : ∀ w', Hid (Blk w' g t cells) → Below B w0 w' → Hid (w.grownBy w' (some g)) → Hid (w'.heap.size = w.heap.size) → wpList P ops Q rest (a.put o.dst undef) w') : wpList P ops Q (o :: rest) a w :=
  wpList_store_row hgd ty x y ho g cells hx hy t old hg hi hold h1
    (h _ (setRow_heap w g old cells t _ hg) (below_setRow hb hB _) ⟨rfl, rfl, rfl, by simp, fun k _ hk => by
      simp [World.setRow, Array.getElem?_modify]; intro e; exact absurd (by rw [e]) hk⟩ (size_setRow _ _ _))

theorem u8_of_all (cs : List Value) (h : ∀ i, i < cs.length → ∃ b : BitVec 8, cs[i]? = some (u8 b)) : ∃ bs : List (BitVec 8), cs = bs.map u8 := by
  induction cs with
  | nil => exact ⟨[], rfl⟩
  | cons c cs ih =>
    obtain ⟨b, hb⟩ := h 0 (by simp)
    obtain ⟨bs, rfl⟩ := ih (fun i hi => by
      obtain ⟨b, hb⟩ := h (i + 1) (by simp; omega)
      exact ⟨b, by simpa using hb⟩)
    simp at hb
    exact ⟨b :: bs, by simp [hb]⟩
/-- a list in three parts -/
theorem parts2 {α : Type} (cs : List α) (a b : Nat) (h : cs.length = a + b) : cs = (cs.drop 0).take a ++ (cs.drop a).take b := by
  rw [List.drop_zero, List.take_of_length_le (l := cs.drop a) (by simp; omega), List.take_append_drop]
theorem parts3 {α : Type} (cs : List α) (a b c : Nat) (h : cs.length = a + b + c) : cs = (cs.drop 0).take a ++ ((cs.drop a).take b ++ (cs.drop (a + b)).take c) := by
  have h1 := parts2 (cs.drop a) b c (by simp; omega)
  rw [List.drop_zero, List.drop_drop] at h1
  rw [List.drop_zero, ← h1, List.take_append_drop]

section
variable {H : Type} {enc : TypeId × Value → H} {P : Program} {w : World} {base : Nat} {spare : Nat → Bool} {held : Bool}
/-- an array of bytes, read as data -/
theorem trod_bytes {t e n : Nat} {fuel : Nat} {cs : List Value} {x : DataW H × List MemPlace} (ht : P.underlying t = some (.array n e)) (he : P.underlying e = some (.int .u8)) (hc : P.cellsOf t = n) (hc1 : P.cellsOf e = 1)
    (h : DataW.trod enc P w base spare held fuel t cs = some x) : ∃ bs : List (BitVec 8), bs.length = n ∧ cs = bs.map u8 := by
  obtain ⟨xs, m, _, _, hl, hxl, hi⟩ := DataW.trod_array ht h
  rw [hc] at hl
  have key : ∀ i, i < n → ∃ b : BitVec 8, cs[i]? = some (u8 b) := by
    intro i hin
    have := hi i hin
    rw [hc1, Nat.mul_one] at this
    have hx : xs[i]? = some (xs[i]'(by omega)) := List.getElem?_eq_getElem (by omega)
    rw [hx] at this
    obtain ⟨k, hk, _, hw⟩ := DataW.trod_int he this
    obtain ⟨b, rfl⟩ := of8 k hw
    refine ⟨b, ?_⟩
    have h2 : ((cs.drop i).take 1)[0]? = some (u8 b) := by rw [hk]; rfl
    rw [List.getElem?_take, if_pos (by omega), List.getElem?_drop] at h2
    simpa using h2
  obtain ⟨bs, rfl⟩ := u8_of_all cs (fun i h => key i (by omega))
  exact ⟨bs, by simpa using hl, rfl⟩
end
end Go.Proofs.YtikjhnbehihbjaaDoor
