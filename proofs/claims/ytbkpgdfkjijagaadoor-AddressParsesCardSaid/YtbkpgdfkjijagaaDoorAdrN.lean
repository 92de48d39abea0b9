/- Rows of whole numbers ([]int) of the call's own: append. -/
import Derived.Test.YtbkpgdfkjijagaaDoorAdrR
namespace Go.Proofs.YtbkpgdfkjijagaaDoor
open Go.RowKit
set_option linter.unusedVariables false

abbrev zI (z : Int) : Value := .int .i64 z
theorem intInfo : (Tryd.prog.info? 3).map (fun i => (i.zero, i.size, i.bytes)) = some (some (.int .i64 0), 1, 8) := by kernel_rfl
theorem map_zI_one (l : List Int) : ∀ u ∈ l.map zI, u.oneCell' = true := fun u hu => by obtain ⟨z, _, rfl⟩ := List.mem_map.1 hu; rfl
/-- the numbers that a slice leads to -/
def RowZ (w : World) (p : Option Addr) (l : List Int) : Prop := l ≠ [] → ∃ b o, p = some ⟨b, o, none⟩ ∧ b < w.heap.size ∧ ∀ i z, l[i]? = some z → w.cell? ⟨b, o + i, none⟩ = some (.int .i64 z)
theorem RowZ.nil (w : World) (p : Option Addr) : RowZ w p [] := fun h => absurd rfl h
theorem RowZ.below {w w' : World} {B : Nat} {p : Option Addr} {l : List Int} (h : RowZ w p l) (hb : Below B w w') (hB : w.heap.size ≤ B) : RowZ w' p l := fun hn => by
  obtain ⟨b, o, rfl, hlt, hc⟩ := h hn
  exact ⟨b, o, rfl, Nat.lt_of_lt_of_le hlt hb.size, fun i z hz => (hb.cell (p := ⟨b, o + i, none⟩) (Nat.lt_of_lt_of_le hlt hB)).trans (hc i z hz)⟩
theorem RowZ.fut {w w' : World} {p : Option Addr} {l : List Int} (h : RowZ w p l) (hb : Below w.heap.size w w') : RowZ w' p l := h.below hb (Nat.le_refl _)
theorem RowZ.cut {w : World} {p : Option Addr} {l : List Int} (h : RowZ w p l) {k c : Nat} (hc : l.length ≤ c) : RowZ w (if c = k then p else p.map (·.add k)) (l.drop k) := fun hn => by
  have hk : k < l.length := by
    rcases Nat.lt_or_ge k l.length with h | h
    · exact h
    · exact absurd (List.drop_eq_nil_of_le h) hn
  obtain ⟨b, o, rfl, hlt, hcl⟩ := h (fun e => by rw [e] at hk; simp at hk)
  rw [if_neg (by omega)]
  exact ⟨b, o + k, by rw [Option.map_some, Addr.add_lit], hlt, fun i z hz => by rw [List.getElem?_drop] at hz; rw [Nat.add_assoc]; exact hcl _ z hz⟩
theorem RowZ.take {w : World} {p : Option Addr} {l : List Int} (h : RowZ w p l) (k : Nat) : RowZ w p (l.take k) := fun hn => by
  obtain ⟨b, o, rfl, hlt, hcl⟩ := h (fun e => by rw [e] at hn; simp at hn)
  exact ⟨b, o, rfl, hlt, fun i z hz => by
    rw [List.getElem?_take] at hz
    split at hz
    · exact hcl i z hz
    · cases hz⟩
/-- a row of numbers of one's own -/
def OwnZ (w : World) (B : Nat) (v : Value) (l : List Int) : Prop := w.ownsRow B 3 1 v l.length (l.map zI)
theorem OwnZ.nil (w : World) (B : Nat) : OwnZ w B (.slice none 0 0) [] := ⟨rfl, .inl ⟨rfl, rfl⟩⟩
theorem OwnZ.alloc {w : World} {B : Nat} {v : Value} {l : List Int} (h : OwnZ w B v l) (o : Obj) : OwnZ (w.alloc o) B v l := World.ownsRow.alloc h o
theorem OwnZ.below {w w' : World} {B B' : Nat} {v : Value} {l : List Int} (h : OwnZ w B v l) (hb : Below B' w w') (hB : w.heap.size ≤ B') : OwnZ w' B v l := by
  refine ⟨h.1, ?_⟩
  rcases h.2 with h0 | ⟨g, cap, cur, rfl, hg, hh, hr⟩
  · exact .inl h0
  · exact .inr ⟨g, cap, cur, rfl, hg, Blk.below (t := 3) hh hb (Nat.lt_of_lt_of_le (Blk.lt (t := 3) hh) hB), hr⟩
theorem OwnZ.fut {w w' : World} {B : Nat} {v : Value} {l : List Int} (h : OwnZ w B v l) (hb : Below w.heap.size w w') : OwnZ w' B v l := h.below hb (Nat.le_refl _)
theorem OwnZ.mono {w : World} {B B' : Nat} {v : Value} {l : List Int} (h : OwnZ w B v l) (hB : B' ≤ B) : OwnZ w B' v l := by
  refine ⟨h.1, ?_⟩
  rcases h.2 with h0 | ⟨g, cap, cur, rfl, hg, hr⟩
  · exact .inl h0
  · exact .inr ⟨g, cap, cur, rfl, Nat.le_trans hB hg, hr⟩
theorem OwnZ.open {w : World} {B : Nat} {v : Value} {l : List Int} (h : OwnZ w B v l) : ∃ p n c, v = .slice p n c ∧ Hid (l.length = n) ∧ n ≤ c ∧ c ≤ 9223372036854775807 ∧ RowZ w p l := by
  rcases h.2 with ⟨e, h0⟩ | ⟨g, cap, cur, e, hB, hh, hc, hm, hs, ht⟩
  · refine ⟨none, 0, 0, e, Lib.hid h0, Nat.le_refl _, by omega, ?_⟩
    rw [List.eq_nil_of_length_eq_zero h0]; exact RowZ.nil _ _
  · refine ⟨_, _, _, e, Lib.hid rfl, hc, by unfold maxLen at hm; omega, fun hn => ⟨g, 0, rfl, Blk.lt (t := 3) hh, fun i x hx => ?_⟩⟩
    rw [Blk.cell (t := 3) hh (0 + i), Nat.zero_add]
    have h4 := congrArg (·[i]?) ht
    simp only [List.getElem?_take, List.getElem?_map, Nat.mul_one] at h4
    rw [if_pos (List.getElem?_eq_some_iff.1 hx).1, Array.getElem?_toList, hx] at h4
    exact h4
theorem new_oneZ (w : World) (z : Int) : RowZ (w.alloc (.cells #[.int .i64 z] 3)) (some ⟨w.heap.size, 0, none⟩) [z] := fun _ =>
  ⟨_, 0, rfl, by simp, fun i x hx => by
    rw [(Blk.new w _ _).cell]
    cases i with
    | zero => simp at hx ⊢; rw [hx]
    | succ i => simp at hx⟩
/-- a slice literal -/
theorem own_litZ (w : World) (B : Nat) (cs : List Int) (hB : B ≤ w.heap.size) (hl : cs.length ≤ 1000) : OwnZ (w.alloc (.cells (cs.map zI).toArray 3)) B (.slice (some ⟨w.heap.size, 0, none⟩) cs.length cs.length) cs :=
  ⟨by simp, .inr ⟨w.heap.size, cs.length, _, rfl, hB, Blk.new w _ _, Nat.le_refl _, by unfold maxLen; omega, by simp, by rw [Nat.mul_one]; exact List.take_of_length_le (by simp)⟩⟩

set_option maxRecDepth 100000 in
theorem run_appendZ (w : World) (ty : TypeId) (B : Nat) (v : Value) (as1 : List Int) (hown : OwnZ w B v as1) (p : Option Addr) (c : Nat) (bs : List Int) (hr : RowZ w p bs)
    (hlen : as1.length + bs.length ≤ 1000000) (hB : B ≤ w.heap.size) :
    ∃ v' w', (Builtin.append_ #[51, 51] ty #[v, .slice p bs.length c]).run Tryd.prog w = .ok v' w' ∧ OwnZ w' B v' (as1 ++ bs) ∧ w.grownBy w' v.ownBlock ∧ (v'.ownBlock = v.ownBlock ∨ v'.ownBlock = some w.heap.size) := by
  obtain ⟨i0, hi, hz0, hz1, hz2⟩ := info_parts intInfo
  cases p with
  | none =>
    have hn : bs = [] := by
      by_cases h : bs = []
      · exact h
      · obtain ⟨b, off, e, _⟩ := hr h
        cases e
    subst hn
    refine ⟨v, w, ?_, by simpa using hown, World.grownBy.refl w _, .inl rfl⟩
    rcases hown.2 with ⟨rfl, h0⟩ | ⟨g, cap, cur, rfl, _, _, hnc, _⟩
    · simp [Builtin.append_, run_underlying Tryd.underlying51, sizeOf, typeInfo, hi, Builtin.lenOf, Builtin.firstCells]
    · simp [Builtin.append_, run_underlying Tryd.underlying51, sizeOf, typeInfo, hi, Builtin.lenOf, Builtin.firstCells, hnc, storeCells]
  | some ad =>
    have hcells : ∀ j u, (bs.map zI)[j]? = some u → w.cell? (ad.add j) = some u := by
      intro j u hu
      have hj : j < bs.length := by
        rcases Nat.lt_or_ge j bs.length with h | h
        · exact h
        · rw [List.getElem?_eq_none (by simpa using h)] at hu; cases hu
      obtain ⟨b, off, e, _, hc⟩ := hr (fun e => by rw [e] at hj; simp at hj)
      injection e with e
      subst e
      rw [List.getElem?_map, List.getElem?_eq_getElem hj] at hu
      simp at hu
      rw [Addr.add_lit, hc j bs[j] (List.getElem?_eq_getElem hj), ← hu]
    obtain ⟨v', w', hrun, h2, h3, _, h5⟩ := run_append_own_at (P := Tryd.prog) w B 51 ty 3 i0 (.int .i64 0) 1 8 Tryd.underlying51 hi hz0 hz1 hz2 rfl (by decide) v as1.length (as1.map zI) hown ad bs.length c (bs.map zI) (by simp) hcells
      (map_zI_one _) (by simp only [maxLen]; omega) (by omega) hB
    refine ⟨v', w', hrun, ?_, h3, h5⟩
    unfold OwnZ
    rw [List.length_append, List.map_append]
    exact h2
/-- append in a plain region -/
theorem wp_appendZ {ops : Array Oper} {rest : List Oper} {o : Oper} {a : Act} {Q : Exit → Act → World → Prop} {w : World} (hgd : o.guard = none) (s x : Operand)
    (ho : o.op = .call { callee := .builtin .append, args := #[s, x], argTypes := #[51, 51] }) (B : Nat) (v : Value) (as1 : List Int) (hs : a.eval s = v) (hown : OwnZ w B v as1)
    (p : Option Addr) (m c : Nat) (bs : List Int) (hx : a.eval x = .slice p m c) (hm : bs.length = m) (hr : RowZ w p bs)
    (hlen : as1.length + bs.length ≤ 1000000) (hB : B ≤ w.heap.size) (B0 : Nat) (w0 : World) (hb : Below B0 w0 w) (hB0 : B0 ≤ B)
    (h : ∀ v' w', OwnZ w' B v' (as1 ++ bs) → Below B0 w0 w' → wpList Tryd.prog ops Q rest (a.put o.dst v') w') : wpList Tryd.prog ops Q (o :: rest) a w := by
  subst hm
  obtain ⟨v', w', hrun, h2, h3, h4⟩ := run_appendZ w o.type B v as1 hown p c bs hr hlen hB
  have hsz : B0 ≤ w.heap.size := Nat.le_trans hB0 hB
  have hbl : Below B0 w0 w' := hb.grown h3 hsz (fun k e => by
    rcases hown.2 with ⟨rfl, _⟩ | ⟨g, cap, cur, rfl, hg, _⟩
    · cases e
    · injection e with e; rw [← e]; exact Nat.le_trans hB0 hg)
  refine wpList_plain hgd fun K hK => ?_
  unfold Oper.wp execOp
  simp only [ho, resolve, invoke, builtin, Sem.run_bind, Sem.run_pure, Result.andThen_ok, List.map_toArray, List.map_cons, List.map_nil, hs, hx, hrun]
  exact hK _ _ (h v' w' h2 hbl)
end Go.Proofs.YtbkpgdfkjijagaaDoor
