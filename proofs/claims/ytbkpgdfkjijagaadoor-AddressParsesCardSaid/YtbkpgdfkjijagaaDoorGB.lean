/- The builtin copy of bytes. · A result that lies in memory. · Cells of bytes. · A struct or an array built. · What stays where one block is written; slices cut at a place. -/
import Derived.Laws.Tables
import Derived.Test.YtbkpgdfkjijagaaDoorGA
namespace Go.Proofs.YtbkpgdfkjijagaaDoor
open Go.RowKit

/-- the builtin copy of bytes into a block that is known whole; all other blocks stay -/
theorem wp_copy8g {P : Program} {w : World} {ops : Array Oper} {rest : List Oper} {o : Oper} {a : Act} {Q : Exit → Act → World → Prop} (hgd : o.guard = none) (d s : Operand) (dT sT : TypeId)
    (ho : o.op = .call { callee := .builtin .copy, args := #[d, s], argTypes := #[dT, sT] }) (elem : TypeId) (hu : P.underlying dT = some (.slice elem)) (hsz : (P.info? elem).map (·.size) = some 1)
    (dLen dCap m sCap : Nat) (sp : Option Addr) (bs : List (BitVec 8)) (g off : Nat) (hd : a.eval d = .slice (some ⟨g, off, none⟩) dLen dCap) (hs : a.eval s = .slice sp m sCap) (hm : bs.length = m)
    (hr : Row8 w sp bs) (cur : List Value) (t : TypeId) (hg : Blk w g t cur.toArray) (n : Nat) (hn : n = min m dLen) (hfit : off + n ≤ cur.length)
    (h : ∀ w', Hid (Blk w' g t (splice cur off ((bs.take dLen).map u8)).toArray) → w.grownBy w' (some g) → w'.heap.size = w.heap.size → wpList P ops Q rest (a.put o.dst (goInt (n : Int))) w') :
    wpList P ops Q (o :: rest) a w := by
  subst hm
  have hl : ((bs.take dLen).map u8).length = n := by simp [hn, Nat.min_comm]
  by_cases h0 : ((bs.take dLen).map u8).length = 0
  · have he : (bs.take dLen).map u8 = [] := List.eq_nil_of_length_eq_zero h0
    refine wpList_copy_nothing hgd d s dT sT ho elem hu hsz _ sp dLen dCap bs.length sCap hd hs (by rw [← h0, hl, hn]) ?_
    have := h w (by rw [he]; show _ = _; simpa [splice, Blk] using hg) (World.grownBy.refl w _) rfl
    rw [← hl, h0] at this
    exact this
  · have hne : bs ≠ [] := fun e => h0 (by rw [e]; simp)
    obtain ⟨b, of, rfl, hlt, hc⟩ := hr hne
    refine wpList_copy_own hgd d s dT sT ho elem hu hsz g off dLen dCap ⟨b, of, none⟩ bs.length sCap hd hs cur.toArray t hg ((bs.take dLen).map u8) (by rw [hl, hn]) ?_ (by rw [hl]; simpa using hfit) (map_u8_one _) ?_
    · intro j v hj
      rw [List.getElem?_map, List.getElem?_take] at hj
      split at hj
      · cases hx : bs[j]? with
        | none => rw [hx] at hj; simp at hj
        | some x =>
          rw [hx] at hj
          simp at hj
          subst hj
          rw [Addr.add_lit]
          exact hc j x hx
      · simp at hj
    · have hG := setRow_heap w g cur.toArray (splice cur off ((bs.take dLen).map u8)).toArray t _ hg
      have := h _ hG ⟨rfl, rfl, rfl, by simp, fun k _ hk => by
        simp [World.setRow, Array.getElem?_modify]; intro e; exact absurd (by rw [e]) hk⟩ (size_setRow _ _ _)
      rw [← hl] at this
      exact this

end Go.Proofs.YtbkpgdfkjijagaaDoor
namespace Go.Proofs.YtbkpgdfkjijagaaDoor
open Go.RowKit

theorem results_cell1 {fn : Func} {p : Tmp} {ty : TypeId} (h : fn.results = #[.cell p ty]) (tmps : Array Value) (P : Program) (w : World) (g : Nat) (t : TypeId) (cs : List Value) (d : TypeDesc)
    (hp : tmps.getD p undef = .pointer (some ⟨g, 0, none⟩)) (hg : Blk w g t cs.toArray) (hu : P.underlying ty = some d) (hd : d.isRow = true) (hi : (P.info? ty).map (·.size) = some cs.length) :
    (results fn tmps).run P w = .ok (.agg cs.toArray) w := by
  have hp' : tmps[p]?.getD undef = .pointer (some ⟨g, 0, none⟩) := by simpa using hp
  have hr : w.rangeAt g 0 cs := fun j v hj => by rw [Nat.zero_add, hg.cell, List.getElem?_toArray]; exact hj
  simp [results, h, hp', asAddr, run_loadVar_mid w g 0 ty cs d hr hu hd hi]

end Go.Proofs.YtbkpgdfkjijagaaDoor
namespace Go.Proofs.YtbkpgdfkjijagaaDoor
open Go.RowKit

def hCells (l : List (BitVec 8)) : List Value := l.map u8
theorem hCells_one (l : List (BitVec 8)) : (hCells l).toArray.all (·.oneCell') = true := by
  rw [List.all_toArray, hCells]; simp [Value.oneCell']
theorem hCells_row {w : World} {g : Nat} {t : TypeId} {l : List (BitVec 8)} (h : Blk w g t (hCells l).toArray) : Row8 w (some ⟨g, 0, none⟩) l := fun _ =>
  ⟨g, 0, rfl, h.lt, fun i x hx => by rw [Nat.zero_add, h.cell, List.getElem?_toArray, hCells, List.getElem?_map, hx]; rfl⟩
end Go.Proofs.YtbkpgdfkjijagaaDoor
namespace Go.Proofs.YtbkpgdfkjijagaaDoor
open Go Go.RowKit

/-- a struct or an array built, at a plain region's list -/
theorem wp_build {P : Program} {ops : Array Oper} {rest : List Oper} {o : Oper} {a : Act} {w : World} {Q : Exit → Act → World → Prop} (hgd : o.guard = none) (t : TypeId) (parts : Array (Nat × Operand)) (ho : o.op = .build t parts) (vals : List (Nat × Value)) (hv : parts.toList.map (fun x => (x.1, a.eval x.2)) = vals) (cells : Array Value)
    (hf : P.built t vals = some cells) (h : wpList P ops Q rest (a.put o.dst (.agg cells)) w) : wpList P ops Q (o :: rest) a w := by
  subst hv
  replace hf : P.built t (parts.map fun (i, x) => (i, a.eval x)).toList = some cells := by rw [Array.toList_map]; exact hf
  refine wpList_plain hgd fun K hK => ?_
  unfold Oper.wp execOp
  simp only [ho, Sem.run_bind, run_build w t _ cells hf, Result.andThen_ok]
  exact hK _ _ h

end Go.Proofs.YtbkpgdfkjijagaaDoor
namespace Go.Proofs.YtbkpgdfkjijagaaDoor
open Go.RowKit

theorem Blk.kept {w w' : World} {g H : Nat} {t : TypeId} {cs : Array Value} (h : Blk w g t cs) (hg : w.grownBy w' (some H)) (hne : g ≠ H) : Blk w' g t cs :=
  (hg.block g h.lt (by intro e; injection e with e; exact hne e)).trans h
theorem grown_setCell {w w' : World} {H : Nat} (h : w.grownBy w' (some H)) (i : Nat) (v : Value) : w.grownBy (w'.setCell ⟨H, i, none⟩ v) (some H) :=
  ⟨h.os, h.tape, h.output, by have := h.size; simpa [World.setCell] using this, fun k hk hne => by
    rw [Below.heap_setCell w' ⟨H, i, none⟩ v k (by intro e; exact hne (by rw [e]))]
    exact h.block k hk hne⟩
theorem grown_drewN {w w' : World} {r : Option Nat} (h : w.grownBy w' r) (n : Nat) : w.grownBy (w'.drewN n) r := ⟨h.os, h.tape, h.output, h.size, h.block⟩
theorem grown_below {w w' : World} {B : Nat} {r : Option Nat} (h : Below B w w') (hB : w.heap.size ≤ B) : w.grownBy w' r := ⟨h.os, h.tape, h.output, h.size, fun k hk _ => h.block k (by omega)⟩
theorem grown_trans {w w1 w2 : World} {r : Option Nat} (h : w.grownBy w1 r) (h2 : w1.grownBy w2 r) : w.grownBy w2 r :=
  ⟨h2.os.trans h.os, h2.tape.trans h.tape, h2.output.trans h.output, Nat.le_trans h.size h2.size, fun k hk hn => (h2.block k (Nat.lt_of_lt_of_le hk h.size) hn).trans (h.block k hk hn)⟩
/-- a slice's first address lies elsewhere -/
def Far (p : Option Addr) (H : Nat) : Prop := ∀ a, p = some a → a.block ≠ H
theorem Row8.kept {w w' : World} {p : Option Addr} {bs : List (BitVec 8)} {H : Nat} (h : Row8 w p bs) (hg : w.grownBy w' (some H)) (hne : bs ≠ [] → Far p H) : Row8 w' p bs := fun hn => by
  obtain ⟨b, off, rfl, hlt, hc⟩ := h hn
  exact ⟨b, off, rfl, Nat.lt_of_lt_of_le hlt hg.size, fun i x hx => (World.cell?_of_block (a := ⟨b, off + i, none⟩) (hg.block b hlt (by intro e; injection e with e; exact hne hn _ rfl e))).trans (hc i x hx)⟩
theorem Row8.far {w : World} {p : Option Addr} {bs : List (BitVec 8)} {H : Nat} (h : Row8 w p bs) (hH : w.heap.size ≤ H) : bs ≠ [] → Far p H := fun hn a ha => by
  obtain ⟨b, off, rfl, hlt, hc⟩ := h hn
  injection ha with ha
  subst ha
  show b ≠ H
  omega
theorem Far.drop {p : Option Addr} {H k c : Nat} (h : Far p H) : Far (if c = k then p else p.map (·.add k)) H := by
  split
  · exact h
  · intro a ha
    cases p with
    | none => cases ha
    | some b => injection ha with ha; subst ha; have := h b rfl; unfold Addr.add; split <;> simpa using this

/-- where a slice cut at k begins -/
def cutAt (p : Option Addr) (c k : Nat) : Option Addr := if c = k then p else p.map (·.add k)
theorem slice_from8 (w : World) (p : Option Addr) (m c k : Nat) (h : k ≤ m) :
    (Instr.sliceAt 22 (.slice p m c) (some (.int .i64 (k : Int))) none none).run Tryd.prog w = .ok (.slice (cutAt p c k) (m - k) (c - k)) w := by
  have hs : (sizeOf (Tryd.prog.elem 22)).run Tryd.prog w = .ok 1 w := by kernel_rfl
  have hu : Tryd.prog.underlying 22 = some (.slice (Tryd.prog.elem 22)) := by kernel_rfl
  rw [run_sliceAt_slice w _ _ _ _ _ hu, run_slice_l w _ _ _ _ hu _ _ (by omega) (by omega), hs]
  simp [Result.andThen, sliced, cutAt]
theorem Far.cut {p : Option Addr} {H k c : Nat} (h : Far p H) : Far (cutAt p c k) H := h.drop
theorem Row8.cut {w : World} {p : Option Addr} {bs : List (BitVec 8)} (h : Row8 w p bs) {k c : Nat} (hc : bs.length ≤ c) : Row8 w (cutAt p c k) (bs.drop k) := h.drop hc
end Go.Proofs.YtbkpgdfkjijagaaDoor
