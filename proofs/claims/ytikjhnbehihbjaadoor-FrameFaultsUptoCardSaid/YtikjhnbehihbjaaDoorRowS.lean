/- Rows of structs of the call's own: append of elements that lie in a block just made; worlds below. -/
import Derived.Test.YtikjhnbehihbjaaDoorBuf
import Derived.Maps.AppendAt
namespace Go.Proofs.YtikjhnbehihbjaaDoor
open Go.RowKit
set_option linter.unusedVariables false

theorem ownsRow_stays {S : Nat → Prop} {w w' : World} {B : Nat} {e : TypeId} {N : Nat} {v : Value} {n : Nat} {xs : List Value} (h : w.ownsRow B e N v n xs) (hs : Stays S w w') (hn : ∀ k, v.ownBlock = some k → ¬ S k) : w'.ownsRow B e N v n xs := by
  refine ⟨h.1, ?_⟩
  rcases h.2 with h0 | ⟨g, cap, cur, rfl, hg, hh, hr⟩
  · exact .inl h0
  · exact .inr ⟨g, cap, cur, rfl, hg, Blk.stays (t := e) (cs := cur) hh hs (hn g rfl), hr⟩
theorem ownsRow_fut {w w' : World} {B : Nat} {e : TypeId} {N : Nat} {v : Value} {n : Nat} {xs : List Value} (h : w.ownsRow B e N v n xs) (hb : Below w.heap.size w w') : w'.ownsRow B e N v n xs :=
  ownsRow_stays h (Stays.of_below hb (Nat.le_refl _) (fun _ => False)) (fun _ _ h => h)
theorem ownsRow_mono {w : World} {B B' : Nat} {e : TypeId} {N : Nat} {v : Value} {n : Nat} {xs : List Value} (h : w.ownsRow B e N v n xs) (hB : B' ≤ B) : w.ownsRow B' e N v n xs := by
  refine ⟨h.1, ?_⟩
  rcases h.2 with h0 | ⟨g, cap, cur, rfl, hg, hr⟩
  · exact .inl h0
  · exact .inr ⟨g, cap, cur, rfl, Nat.le_trans hB hg, hr⟩
theorem ownsRow_open {w : World} {B : Nat} {e : TypeId} {N : Nat} {v : Value} {n : Nat} {xs : List Value} (h : w.ownsRow B e N v n xs) : ∃ p c, v = .slice p n c ∧ n ≤ c ∧ c ≤ 9223372036854775807 ∧ (p = none → c = 0) ∧
    (n = 0 ∨ ∃ g, p = some ⟨g, 0, none⟩ ∧ B ≤ g ∧ g < w.heap.size ∧ ∀ j u, xs[j]? = some u → w.cell? ⟨g, j, none⟩ = some u) := by
  have hc := fun (g : Nat) hg => World.ownsRow.cells h (g := g) hg
  rcases h.2 with ⟨rfl, rfl⟩ | ⟨g, cap, cur, rfl, hg, hh, h1, h2, h3⟩
  · exact ⟨none, 0, rfl, Nat.le_refl _, by omega, fun _ => rfl, .inl rfl⟩
  · refine ⟨_, cap, rfl, h1, h2, (fun h => by cases h), .inr ⟨g, rfl, hg, Blk.lt (t := e) (cs := cur) hh, fun j u hu => ?_⟩⟩
    have := hc g rfl j u hu
    rwa [Addr.add_lit, Nat.zero_add] at this

/-- append of elements out of a block that is known whole -/
theorem wp_rowapp {P : Program} {ops : Array Oper} {rest : List Oper} {o : Oper} {a : Act} {Q : Exit → Act → World → Prop} {w : World} (hgd : o.guard = none) (s x : Operand) (t e : TypeId)
    (ho : o.op = .call { callee := .builtin .append, args := #[s, x], argTypes := #[t, t] }) (z : Value) (N bytes : Nat) (ht : P.underlying t = some (.slice e)) (hinfo : (P.info? e).map (fun i => (i.zero, i.size, i.bytes)) = some (some z, N, bytes))
    (hzs : z.cells.size = N) (hN : 0 < N) (hby : bytes ≤ 1000) (B : Nat) (v : Value) (n : Nat) (xs : List Value) (hs : a.eval s = v) (hown : w.ownsRow B e N v n xs)
    (g m c : Nat) (cs : List Value) (hx : a.eval x = .slice (some ⟨g, 0, none⟩) m c) (hg : Blk w g e cs.toArray) (hm : cs.length = m * N) (h1 : ∀ u ∈ cs, u.oneCell' = true)
    (hn : n + m ≤ 100000000000) (hB : B ≤ w.heap.size)
    (h : ∀ v' w', w'.ownsRow B e N v' (n + m) (xs ++ cs) → w.grownBy w' v.ownBlock → (v'.ownBlock = v.ownBlock ∨ v'.ownBlock = some w.heap.size) → wpList P ops Q rest (a.put o.dst v') w') : wpList P ops Q (o :: rest) a w := by
  obtain ⟨i0, hi, hz0, hz1, hz2⟩ := info_parts hinfo
  refine wpList_append_own_at (P := P) (w := w) hgd s x t ho B e i0 z N bytes ht hi hz0 hz1 hz2 hzs hN v n xs hs hown ⟨g, 0, none⟩ m c cs hx hm (fun j u hu => ?_) h1 (by simp only [maxLen]; omega) ?_ hB (fun v' w' h2 h3 _ h4 => h v' w' h2 h3 h4)
  · rw [Addr.add_lit, Nat.zero_add, hg.cell, List.getElem?_toArray]; exact hu
  · have := Nat.mul_le_mul hn hby
    omega
end Go.Proofs.YtikjhnbehihbjaaDoor
