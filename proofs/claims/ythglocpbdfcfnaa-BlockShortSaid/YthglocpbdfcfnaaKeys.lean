/- Comparable values: the literals they are of. -/
import Derived.Test.YthglocpbdfcfnaaGB
import Derived.DeepKeys
import Derived.Laws.StructEq
namespace Go.Proofs.Ythglocpbdfcfnaa
open Go Go.ChangeShapes Go.WideShapes Go.ChangeAt Go.RowKit

theorem keyFn {α : Type} (p : List α) (n : Nat) (h : p.length = n) : ∃ x : Fin n → α, p = List.ofFn x := by
  subst h
  exact ⟨fun i => p[i], List.ofFn_getElem.symm⟩
/-- a value of a type that can be compared, with itself -/
theorem equalIn_same {P : Program} {m : Nat} (hm : m ≤ 10000) {t : TypeId} (hk : P.keyTypeAt m t = true) {x : Value} {D : Nat} {la : List Lit} (hf : x.formed P t = true) (hl : P.keyLits D t x.cells.toList = some la) (w : World) : (Op.equalIn 10000 t x x).run P w = .ok true w := by
  obtain ⟨r, hr, hiff⟩ := run_equalIn_deep (10000 - m) m t hk w D D x x la la hf hf hl hl
  rw [show 10000 - m + m = 10000 by omega] at hr
  rw [hr, hiff.2 rfl]
theorem mapM_some {α β : Type} {f : α → Option β} (g : α → β) : ∀ (l : List α), (∀ i ∈ l, f i = some (g i)) → l.mapM f = some (l.map g)
  | [], _ => rfl
  | i :: l, h => by
    rw [List.mapM_cons, h i (by simp), mapM_some g l (fun j hj => h j (by simp [hj]))]
    rfl
theorem lits_u8 (d : Nat) (x : BitVec 8) : Try.prog.keyLits (d + 1) 5 [u8 x] = some [.int .u8 (iv8 x)] := by
  unfold Program.keyLits
  rw [Try.underlying5]
  simp only [wf8 x, and_self, if_true]
theorem lits_u32 (d : Nat) (x : BitVec 32) : Try.prog.keyLits (d + 1) 22 [u32 x] = some [.int .u32 (iv32 x)] := by
  unfold Program.keyLits
  rw [Try.underlying22]
  simp only [wf32 x, and_self, if_true]
theorem lits_hash (d : Nat) (p : List (BitVec 8)) (hp : p.length = 32) : Try.prog.keyLits (d + 2) 44 (p.map u8) = some (p.map (fun x => .int .u8 (iv8 x))) := by
  unfold Program.keyLits
  rw [Try.underlying44]
  simp only [hashH_cells, byteH_cells, List.length_map, hp, if_true]
  rw [mapM_some (fun i => [Lit.int .u8 (iv8 (p[i]?.getD 0#8))]) (List.range 32) (fun i hi => by
    have hi' : i < 32 := List.mem_range.1 hi
    have hx : p[i]? = some (p[i]'(by omega)) := List.getElem?_eq_getElem (by omega)
    have e : ((p.map u8).drop (i * 1)).take 1 = [u8 (p[i]'(by omega))] := by
      rw [Nat.mul_one, List.drop_eq_getElem_cons (by simp; omega)]
      simp
    rw [e, lits_u8, hx]
    rfl)]
  obtain ⟨x, rfl⟩ := keyFn p 32 hp
  kernel_rfl
end Go.Proofs.Ythglocpbdfcfnaa
