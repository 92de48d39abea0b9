/- Append of elements out of a block that is known whole, bounded in bytes. -/
import Derived.Test.YthglocpbdfcfnaaDoorGB
namespace Go.Proofs.YthglocpbdfcfnaaDoor
open Go Go.RowKit
/-- the same, with the bound in bytes -/
theorem wp_rowappB {P : Program} {ops : Array Oper} {rest : List Oper} {o : Oper} {a : Act} {Q : Exit → Act → World → Prop} {w : World} (hgd : o.guard = none) (s x : Operand) (t e : TypeId)
    (ho : o.op = .call { callee := .builtin .append, args := #[s, x], argTypes := #[t, t] }) (z : Value) (N bytes : Nat) (ht : P.underlying t = some (.slice e)) (hinfo : (P.info? e).map (fun i => (i.zero, i.size, i.bytes)) = some (some z, N, bytes))
    (hzs : z.cells.size = N) (hN : 0 < N) (B : Nat) (v : Value) (n : Nat) (xs : List Value) (hs : a.eval s = v) (hown : w.ownsRow B e N v n xs)
    (g m c : Nat) (cs : List Value) (hx : a.eval x = .slice (some ⟨g, 0, none⟩) m c) (hg : Blk w g e cs.toArray) (hm : cs.length = m * N) (h1 : ∀ u ∈ cs, u.oneCell' = true)
    (hn : n + m ≤ 9223372036854775807) (hby : (n + m) * bytes ≤ 140737488355328) (hB : B ≤ w.heap.size)
    (h : ∀ v' w', w'.ownsRow B e N v' (n + m) (xs ++ cs) → w.grownBy w' v.ownBlock → (v'.ownBlock = v.ownBlock ∨ v'.ownBlock = some w.heap.size) → wpList P ops Q rest (a.put o.dst v') w') : wpList P ops Q (o :: rest) a w := by
  obtain ⟨i0, hi, hz0, hz1, hz2⟩ := info_parts hinfo
  refine wpList_append_own_at (P := P) (w := w) hgd s x t ho B e i0 z N bytes ht hi hz0 hz1 hz2 hzs hN v n xs hs hown ⟨g, 0, none⟩ m c cs hx hm (fun j u hu => ?_) h1 (by simp only [maxLen]; omega) ?_ hB (fun v' w' h2 h3 _ h4 => h v' w' h2 h3 h4)
  · rw [Addr.add_lit, Nat.zero_add, hg.cell, List.getElem?_toArray]; exact hu
  · omega
end Go.Proofs.YthglocpbdfcfnaaDoor
