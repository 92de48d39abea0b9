/- Rows of structs: one row appended to another. -/
import Derived.Test.YtikjhnbehihbjaaDoorGB
namespace Go.Proofs.YtikjhnbehihbjaaDoor
open Go Go.RowKit
set_option linter.unusedVariables false

theorem run_rowsapp {P : Program} (w : World) (ty t e : TypeId) (z : Value) (N bytes : Nat) (ht : P.underlying t = some (.slice e)) (hinfo : (P.info? e).map (fun i => (i.zero, i.size, i.bytes)) = some (some z, N, bytes))
    (hzs : z.cells.size = N) (hN : 0 < N) (hby : bytes ≤ 1000) (B : Nat) (v : Value) (n : Nat) (xs : List Value) (hown : w.ownsRow B e N v n xs) (B' : Nat) (l : Value) (m : Nat) (ys : List Value) (hl : w.ownsRow B' e N l m ys) (h1 : ∀ u ∈ ys, u.oneCell' = true)
    (hn : n + m ≤ 100000000000) (hB : B ≤ w.heap.size) :
    ∃ v' w', (Builtin.append_ #[t, t] ty #[v, l]).run P w = .ok v' w' ∧ w'.ownsRow B e N v' (n + m) (xs ++ ys) ∧ w.grownBy w' v.ownBlock ∧ (v'.ownBlock = v.ownBlock ∨ v'.ownBlock = some w.heap.size) := by
  obtain ⟨i0, hi, hz0, hz1, hz2⟩ := info_parts hinfo
  rcases hl.2 with ⟨rfl, rfl⟩ | ⟨g, cap, cur, rfl, _, hh, hc, _, _, _⟩
  · have hys : ys = [] := List.eq_nil_of_length_eq_zero (by have := hl.1; omega)
    subst hys
    refine ⟨v, w, ?_, by simpa using hown, World.grownBy.refl w _, .inl rfl⟩
    rcases hown.2 with ⟨rfl, rfl⟩ | ⟨g, cap, cur, rfl, _, _, hnc, _⟩
    · simp [Builtin.append_, run_underlying ht, sizeOf, typeInfo, hi, Builtin.lenOf, Builtin.firstCells]
    · simp [Builtin.append_, run_underlying ht, sizeOf, typeInfo, hi, Builtin.lenOf, Builtin.firstCells, hnc, storeCells]
  · have hcs := World.ownsRow.cells hl (g := g) rfl
    obtain ⟨v', w', hr, h2, h3, _, h5⟩ := run_append_own_at (P := P) w B t ty e i0 z N bytes ht hi hz0 hz1 hz2 hzs hN v n xs hown ⟨g, 0, none⟩ m cap ys hl.1 hcs h1 (by simp only [maxLen]; omega) (by have := Nat.mul_le_mul hn hby; omega) hB
    exact ⟨v', w', hr, h2, h3, h5⟩
/-- an arm, guarded or not -/
theorem wp_rowsapp {P : Program} {ops : Array Oper} {rest : List Oper} {o : Oper} {a : Act} {Q : Exit → Act → World → Prop} {w : World} (hw : Region.wanted o (yielded ops a.tmps) = true) (s x : Operand) (t e : TypeId)
    (ho : o.op = .call { callee := .builtin .append, args := #[s, x], argTypes := #[t, t] }) (z : Value) (N bytes : Nat) (ht : P.underlying t = some (.slice e)) (hinfo : (P.info? e).map (fun i => (i.zero, i.size, i.bytes)) = some (some z, N, bytes))
    (hzs : z.cells.size = N) (hN : 0 < N) (hby : bytes ≤ 1000) (B : Nat) (v : Value) (n : Nat) (xs : List Value) (hs : a.eval s = v) (hown : w.ownsRow B e N v n xs) (B' : Nat) (l : Value) (m : Nat) (ys : List Value) (hx : a.eval x = l) (hl : w.ownsRow B' e N l m ys) (h1 : ∀ u ∈ ys, u.oneCell' = true)
    (hn : n + m ≤ 100000000000) (hB : B ≤ w.heap.size)
    (h : ∀ v' w', w'.ownsRow B e N v' (n + m) (xs ++ ys) → w.grownBy w' v.ownBlock → (v'.ownBlock = v.ownBlock ∨ v'.ownBlock = some w.heap.size) → wpList P ops Q rest (a.put o.dst v') w') : wpList P ops Q (o :: rest) a w := by
  obtain ⟨v', w', hrun, h2, h3, h4⟩ := run_rowsapp (P := P) w o.type t e z N bytes ht hinfo hzs hN hby B v n xs hown B' l m ys hl h1 hn hB
  unfold wpList
  rw [if_pos hw]
  refine .inl ?_
  unfold Oper.wp execOp
  simp only [ho, resolve, invoke, builtin, Sem.run_bind, Sem.run_pure, Result.andThen_ok, List.map_toArray, List.map_cons, List.map_nil, hs, hx, hrun]
  exact h v' w' h2 h3 h4
end Go.Proofs.YtikjhnbehihbjaaDoor
