/- append on a []byte that the call itself made, the source nil, empty or not. -/
import Derived.Test.YtikjhnbehihbjaaDoorBytes
import Derived.Maps.AppendAt
namespace Go.Proofs.YtikjhnbehihbjaaDoor
open Go.RowKit

theorem u8info : (Tryd.prog.info? 5).map (fun i => (i.zero, i.size, i.bytes)) = some (some (.int .u8 0), 1, 1) := by kernel_rfl

section
variable {w w' : World} {B : Nat} {v : Value} {bs : List (BitVec 8)}
theorem Own8.nil (w : World) (B : Nat) : Own8 w B (.slice none 0 0) [] := ⟨rfl, .inl ⟨rfl, rfl⟩⟩
theorem Own8.alloc (h : Own8 w B v bs) (o : Obj) : Own8 (w.alloc o) B v bs := World.ownsRow.alloc h o
theorem Own8.drew (h : Own8 w B v bs) : Own8 w.drew B v bs := h
theorem Own8.drewN (h : Own8 w B v bs) (n : Nat) : Own8 (w.drewN n) B v bs := h
theorem Own8.kept {row : Option Nat} (h : Own8 w B v bs) (hg : w.grownBy w' row) (hne : v.ownBlock = none ∨ v.ownBlock ≠ row) : Own8 w' B v bs := World.ownsRow.kept h hg hne
theorem Own8.below {B' : Nat} (h : Own8 w B v bs) (hb : Below B' w w') (hB : w.heap.size ≤ B') : Own8 w' B v bs := by
  refine ⟨h.1, ?_⟩
  rcases h.2 with h0 | ⟨g, cap, cur, rfl, hg, hh, hr⟩
  · exact .inl h0
  · exact .inr ⟨g, cap, cur, rfl, hg, Blk.below hh hb (Nat.lt_of_lt_of_le (Blk.lt hh) hB), hr⟩
theorem Own8.mono {B' : Nat} (h : Own8 w B v bs) (hB : B' ≤ B) : Own8 w B' v bs := by
  refine ⟨h.1, ?_⟩
  rcases h.2 with h0 | ⟨g, cap, cur, rfl, hg, hr⟩
  · exact .inl h0
  · exact .inr ⟨g, cap, cur, rfl, Nat.le_trans hB hg, hr⟩
theorem Own8.setFar (h : Own8 w B v bs) {a : Addr} (ha : v.ownBlock ≠ some a.block) (u : Value) : Own8 (w.setCell a u) B v bs := by
  refine ⟨h.1, ?_⟩
  rcases h.2 with h0 | ⟨g, cap, cur, rfl, hg, hh, hr⟩
  · exact .inl h0
  · exact .inr ⟨g, cap, cur, rfl, hg, Blk.far hh (fun e => ha (by rw [e]; rfl)) u, hr⟩
end

set_option maxRecDepth 100000 in
theorem run_append8 (w : World) (ty : TypeId) (B : Nat) (v : Value) (as1 : List (BitVec 8)) (hown : Own8 w B v as1) (p : Option Addr) (c : Nat) (bs : List (BitVec 8)) (hr : Row8 w p bs)
    (hlen : as1.length + bs.length ≤ 140737488355328) (hB : B ≤ w.heap.size) :
    ∃ v' w', (Builtin.append_ #[22, 22] ty #[v, .slice p bs.length c]).run Tryd.prog w = .ok v' w' ∧ Own8 w' B v' (as1 ++ bs) ∧ w.grownBy w' v.ownBlock ∧ (v'.ownBlock = v.ownBlock ∨ v'.ownBlock = some w.heap.size) := by
  obtain ⟨i0, hi, hz0, hz1, hz2⟩ := info_parts u8info
  cases p with
  | none =>
    have hn : bs = [] := by
      by_cases h : bs = []
      · exact h
      · obtain ⟨b, off, e, _⟩ := hr h
        cases e
    subst hn
    refine ⟨v, w, ?_, by simpa using hown, World.grownBy.refl w _, .inl rfl⟩
    rcases hown.2 with ⟨rfl, h0⟩ | ⟨g, cap, cur, rfl, _, _, hnc, _⟩
    · simp [Builtin.append_, run_underlying Tryd.underlying22, sizeOf, typeInfo, hi, Builtin.lenOf, Builtin.firstCells]
    · simp [Builtin.append_, run_underlying Tryd.underlying22, sizeOf, typeInfo, hi, Builtin.lenOf, Builtin.firstCells, hnc, storeCells]
  | some ad =>
    have hcells : ∀ j u, (bs.map u8)[j]? = some u → w.cell? (ad.add j) = some u := by
      intro j u hu
      have hj : j < bs.length := by
        rcases Nat.lt_or_ge j bs.length with h | h
        · exact h
        · rw [List.getElem?_eq_none (by simpa using h)] at hu; cases hu
      obtain ⟨b, off, e, _, hc⟩ := hr (fun e => by rw [e] at hj; simp at hj)
      injection e with e
      subst e
      rw [List.getElem?_map, List.getElem?_eq_getElem hj] at hu
      simp at hu
      rw [Addr.add_lit, hc j bs[j] (List.getElem?_eq_getElem hj), ← hu]
    obtain ⟨v', w', hrun, h2, h3, _, h5⟩ := run_append_own_at (P := Tryd.prog) w B 22 ty 5 i0 (.int .u8 0) 1 1 Tryd.underlying22 hi hz0 hz1 hz2 rfl (by decide) v as1.length (as1.map u8) hown ad bs.length c (bs.map u8) (by simp) hcells
      (map_u8_one _) (by simp only [maxLen]; omega) (by omega) hB
    refine ⟨v', w', hrun, ?_, h3, h5⟩
    unfold Own8
    rw [List.length_append, List.map_append]
    exact h2

/-- append in a plain region -/
theorem wp_append8 {ops : Array Oper} {rest : List Oper} {o : Oper} {a : Act} {Q : Exit → Act → World → Prop} {w : World} (hgd : o.guard = none) (s x : Operand)
    (ho : o.op = .call { callee := .builtin .append, args := #[s, x], argTypes := #[22, 22] }) (B : Nat) (v : Value) (as1 : List (BitVec 8)) (hs : a.eval s = v) (hown : Own8 w B v as1)
    (p : Option Addr) (m c : Nat) (bs : List (BitVec 8)) (hx : a.eval x = .slice p m c) (hm : bs.length = m) (hr : Row8 w p bs)
    (hlen : as1.length + bs.length ≤ 140737488355328) (hB : B ≤ w.heap.size) (B0 : Nat) (w0 : World) (hb : Below B0 w0 w) (hB0 : B0 ≤ B)
    (h : ∀ v' w', Own8 w' B v' (as1 ++ bs) → Below B0 w0 w' → w.grownBy w' v.ownBlock → (v'.ownBlock = v.ownBlock ∨ v'.ownBlock = some w.heap.size) → wpList Tryd.prog ops Q rest (a.put o.dst v') w') : wpList Tryd.prog ops Q (o :: rest) a w := by
  subst hm
  obtain ⟨v', w', hrun, h2, h3, h4⟩ := run_append8 w o.type B v as1 hown p c bs hr hlen hB
  refine wpList_plain hgd fun K hK => ?_
  unfold Oper.wp execOp
  simp only [ho, resolve, invoke, builtin, Sem.run_bind, Sem.run_pure, Result.andThen_ok, List.map_toArray, List.map_cons, List.map_nil, hs, hx, hrun]
  refine hK _ _ (h v' w' h2 (hb.grown h3 (Nat.le_trans hB0 hB) fun k hk => ?_) h3 h4)
  exact Nat.le_trans hB0 (World.ownsRow.lt hown k hk).1

/-- append in a region that draws its order ('go_region_law') -/
theorem step_append8 {ops : Array Oper} {o : Oper} {a : Act} {K : Act → World → Prop} {Q : Exit → Act → World → Prop} {E : Prop} {w : World} (hgd : o.guard = none) (s x : Operand)
    (ho : o.op = .call { callee := .builtin .append, args := #[s, x], argTypes := #[22, 22] }) (B : Nat) (v : Value) (as1 : List (BitVec 8)) (hs : a.eval s = v) (hown : Own8 w B v as1)
    (p : Option Addr) (m c : Nat) (bs : List (BitVec 8)) (hx : a.eval x = .slice p m c) (hm : bs.length = m) (hr : Row8 w p bs)
    (hlen : as1.length + bs.length ≤ 140737488355328) (hB : B ≤ w.heap.size) (B0 : Nat) (w0 : World) (hb : Below B0 w0 w) (hB0 : B0 ≤ B)
    (h : ∀ v' w', Own8 w' B v' (as1 ++ bs) → Below B0 w0 w' → w.grownBy w' v.ownBlock → (v'.ownBlock = v.ownBlock ∨ v'.ownBlock = some w.heap.size) → K (a.put o.dst v') w') :
    if Region.wanted o (yielded ops a.tmps) = true then Oper.wp Tryd.prog o a w K Q else E := by
  subst hm
  have hw : Region.wanted o (yielded ops a.tmps) = true := by simp [Region.wanted, hgd]
  rw [if_pos hw]
  obtain ⟨v', w', hrun, h2, h3, h4⟩ := run_append8 w o.type B v as1 hown p c bs hr hlen hB
  unfold Oper.wp execOp
  simp only [ho, resolve, invoke, builtin, Sem.run_bind, Sem.run_pure, Result.andThen_ok, List.map_toArray, List.map_cons, List.map_nil, hs, hx, hrun]
  refine h v' w' h2 (hb.grown h3 (Nat.le_trans hB0 hB) fun k hk => ?_) h3 h4
  exact Nat.le_trans hB0 (World.ownsRow.lt hown k hk).1
end Go.Proofs.YtikjhnbehihbjaaDoor
