/- A guarded append of bytes to a row of one's own, whose guard is met. -/
import Derived.BigFrame
import Derived.Test.YthglocpbdfcfnaaGA
namespace Go.Proofs.Ythglocpbdfcfnaa
open Go Go.RowKit
theorem wp_append8G {ops : Array Oper} {rest : List Oper} {o : Oper} {a : Act} {Q : Exit → Act → World → Prop} {w : World} (hw : Region.wanted o (yielded ops a.tmps) = true) (s x : Operand)
    (ho : o.op = .call { callee := .builtin .append, args := #[s, x], argTypes := #[27, 27] }) (B : Nat) (v : Value) (as1 : List (BitVec 8)) (hs : a.eval s = v) (hown : Own8 w B v as1)
    (p : Option Addr) (m c : Nat) (bs : List (BitVec 8)) (hx : a.eval x = .slice p m c) (hm : bs.length = m) (hr : Row8 w p bs)
    (hlen : as1.length + bs.length ≤ 140737488355328) (hB : B ≤ w.heap.size) (B0 : Nat) (w0 : World) (hb : Below B0 w0 w) (hB0 : B0 ≤ B)
    (h : ∀ v' w', Own8 w' B v' (as1 ++ bs) → Below B0 w0 w' → w.grownBy w' v.ownBlock → (v'.ownBlock = v.ownBlock ∨ v'.ownBlock = some w.heap.size) → wpList Try.prog ops Q rest (a.put o.dst v') w') : wpList Try.prog ops Q (o :: rest) a w := by
  subst hm
  obtain ⟨v', w', hrun, h2, h3, h4⟩ := run_append8 w o.type B v as1 hown p c bs hr hlen hB
  refine BigFrame.wpList_want hw fun K hK => ?_
  unfold Oper.wp execOp
  simp only [ho, resolve, invoke, builtin, Sem.run_bind, Sem.run_pure, Result.andThen_ok, List.map_toArray, List.map_cons, List.map_nil, hs, hx, hrun]
  refine hK _ _ (h v' w' h2 (hb.grown h3 (Nat.le_trans hB0 hB) fun k hk => ?_) h3 h4)
  exact Nat.le_trans hB0 (World.ownsRow.lt hown k hk).1
end Go.Proofs.Ythglocpbdfcfnaa
