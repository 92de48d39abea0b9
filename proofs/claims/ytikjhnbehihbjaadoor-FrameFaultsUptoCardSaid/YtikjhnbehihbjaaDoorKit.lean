/- Small words for the walks: a region that draws its order, read as still steps and a forced tail; ends of a walk; worlds below a bound. -/
import Derived.WalkKit
import Derived.StillTailTactics
import Derived.Below
import Derived.Deep.QuietTactic
import Derived.BigQuiet
import Derived.Outline
import Derived.WalkLawsBesides
import Derived.WalkSpells
import Derived.Lib.Hide
import Derived.Laws.CopyOwn
import Derived.Test.YtikjhnbehihbjaaDoorBits
namespace Go.Proofs.YtikjhnbehihbjaaDoor
open Go.RowKit

theorem still_tail {P : Program} {id : Nat} {Q : Exit → Act → World → Prop} {a : Act} {w : World} {l : List Oper} (n : Nat) (hm : P.follows .mixedOrders = true) (hB : Region.lexTailB .any l.toArray n = true)
    (h : wpStill P l.toArray w.drew (fun a' => wpList P l.toArray Q (l.drop n) a' w.drew) (l.take n) a) : (Code.region id l.toArray true).wp P Q a w :=
  wp_region_still_tail n hm hB h

theorem ret_int {k : IntKind} {a b : Int} (h : a = b) : Ending.returned (.int k a) = Ending.returned (.int k b) := by rw [h]
theorem ret_val {a b : Value} (h : a = b) : Ending.returned a = Ending.returned b := by rw [h]

/-- what a world that is as it was below says of cells and marks -/
theorem bcell {W w1 : World} (hb : Below W.heap.size W w1) : (∀ b o, b < W.heap.size → w1.cell? ⟨b, o, none⟩ = W.cell? ⟨b, o, none⟩) ∧ (∀ b o, b < W.heap.size → w1.frozen? ⟨b, o, none⟩ = W.frozen? ⟨b, o, none⟩) :=
  ⟨fun b o h => hb.cell (p := ⟨b, o, none⟩) h, fun b o h => hb.frozen (p := ⟨b, o, none⟩) h⟩

/-- cell i of an array value (a name of its own, so that the walk leaves it standing) -/
def atA (cs : Array Value) (i : Nat) : Value := cs[i]?.getD undef
/-- an element of an array value, at an index that is reckoned -/
theorem run_index_arr {P : Program} (t e n : Nat) (ke : IntKind) (ti : TypeInfo) (hu : P.underlying t = some (.array n e)) (hu2 : P.underlying e = some (.int ke)) (hi : P.info? e = some ti) (hs : ti.size = 1)
    (w : World) (cs : Array Value) (k : IntKind) (i : Int) (h0 : 0 ≤ i) (h1 : i < n) (hn : cs.size = n) :
    (Instr.index t (.agg cs) (.int k i)).run P w = .ok (atA cs i.toNat) w := by
  have hl : i.toNat < cs.size := by omega
  simp [Instr.index, run_underlying hu, asIntOf, h0, h1, go_sem, sizeOf, typeInfo, hi, hs, part, isAgg, run_underlying hu2, hl, atA]

/-- what follows is asked of every world that is so -/
theorem wp_abst {P : Program} {c : Code} {Q : Exit → Act → World → Prop} {a : Act} {W : World} (R : World → Prop) (h1 : R W) (h2 : ∀ w', R w' → Code.wp P c Q a w') : Code.wp P c Q a W := h2 W h1

/-! ### a block known whole -/
/-- block g is just these cells, none frozen -/
def Blk (w : World) (g : Nat) (t : TypeId) (cs : Array Value) : Prop := w.heap[g]? = some (.cells cs t (0, 0))
section
variable {w w' : World} {g : Nat} {t : TypeId} {cs : Array Value}
theorem Blk.lt (h : Blk w g t cs) : g < w.heap.size := by
  rcases Nat.lt_or_ge g w.heap.size with hlt | hge
  · exact hlt
  · unfold Blk at h; rw [Array.getElem?_eq_none hge] at h; cases h
theorem Blk.cell (h : Blk w g t cs) (i : Nat) : w.cell? ⟨g, i, none⟩ = cs[i]? := cell_of_row w g i cs t (0, 0) h
theorem Blk.frozen (h : Blk w g t cs) (i : Nat) : w.frozen? ⟨g, i, none⟩ = false := by
  unfold Blk at h; simp [World.frozen?, h]
theorem Blk.new (w : World) (t : TypeId) (cs : Array Value) : Blk (w.alloc (.cells cs t)) w.heap.size t cs := heap_alloc_new w _
theorem Blk.new2 (w : World) (o : Obj) (t : TypeId) (cs : Array Value) : Blk ((w.alloc o).alloc (.cells cs t)) (w.heap.size + 1) t cs := by
  have := Blk.new (w.alloc o) t cs
  rwa [World.size_alloc] at this
theorem Blk.drew (h : Blk w g t cs) : Blk w.drew g t cs := h
theorem Blk.drewN (h : Blk w g t cs) (n : Nat) : Blk (w.drewN n) g t cs := h
theorem Blk.alloc (h : Blk w g t cs) (o : Obj) : Blk (w.alloc o) g t cs := (Below.heap_alloc w o g h.lt).trans h
theorem Blk.set (h : Blk w g t cs) (i : Nat) (u : Value) : Blk (w.setCell ⟨g, i, none⟩ u) g t (cs.setIfInBounds i u) := by
  unfold Blk at h ⊢
  simp [World.setCell, Array.getElem?_modify, h]
theorem Blk.far (h : Blk w g t cs) {p : Addr} (hp : g ≠ p.block) (u : Value) : Blk (w.setCell p u) g t cs := (Below.heap_setCell w p u g hp).trans h
theorem Blk.below {B : Nat} (h : Blk w g t cs) (hb : Below B w w') (hg : g < B) : Blk w' g t cs := (hb.block g hg).trans h
end

/-! ### bytes that a slice leads to -/
/-- from p on lie these bytes (of none: whatever p) -/
def Row8 (w : World) (p : Option Addr) (bs : List (BitVec 8)) : Prop :=
  bs ≠ [] → ∃ b off, p = some ⟨b, off, none⟩ ∧ b < w.heap.size ∧ ∀ i x, bs[i]? = some x → w.cell? ⟨b, off + i, none⟩ = some (u8 x)
section
variable {w w' : World} {p : Option Addr} {bs : List (BitVec 8)}
theorem Row8.nil (w : World) (p : Option Addr) : Row8 w p [] := fun h => absurd rfl h
theorem Row8.below {B : Nat} (h : Row8 w p bs) (hb : Below B w w') (hB : w.heap.size ≤ B) : Row8 w' p bs := fun hn => by
  obtain ⟨b, off, rfl, hlt, hc⟩ := h hn
  exact ⟨b, off, rfl, Nat.lt_of_lt_of_le hlt hb.size, fun i x hx => (hb.cell (p := ⟨b, off + i, none⟩) (Nat.lt_of_lt_of_le hlt hB)).trans (hc i x hx)⟩
theorem Row8.take (h : Row8 w p bs) (k : Nat) : Row8 w p (bs.take k) := fun hn => by
  obtain ⟨b, off, rfl, hlt, hc⟩ := h (fun e => hn (by rw [e]; simp))
  refine ⟨b, off, rfl, hlt, fun i x hx => hc i x ?_⟩
  rw [List.getElem?_take] at hx
  split at hx
  · exact hx
  · cases hx
theorem Row8.drop (h : Row8 w p bs) {k c : Nat} (hc : bs.length ≤ c) : Row8 w (if c = k then p else p.map (·.add k)) (bs.drop k) := fun hn => by
  have hlt : k < bs.length := by
    rcases Nat.lt_or_ge k bs.length with h1 | h1
    · exact h1
    · exact absurd (List.drop_eq_nil_of_le h1) hn
  obtain ⟨b, off, rfl, hb, hcell⟩ := h (fun e => by rw [e] at hlt; simp at hlt)
  rw [if_neg (by omega)]
  refine ⟨b, off + k, by simp [Addr.add], hb, fun i x hx => ?_⟩
  rw [List.getElem?_drop] at hx
  rw [Nat.add_assoc]
  exact hcell _ x hx
end
theorem map_u8_one (bs : List (BitVec 8)) : ∀ v ∈ bs.map u8, v.oneCell' = true := by
  intro v hv
  obtain ⟨x, _, rfl⟩ := List.mem_map.1 hv
  rfl
/-- the builtin copy of bytes into a row of the call's own -/
theorem wp_copy8 {P : Program} {w : World} {ops : Array Oper} {rest : List Oper} {o : Oper} {a : Act} {Q : Exit → Act → World → Prop} (hgd : o.guard = none) (d s : Operand) (dT sT : TypeId)
    (ho : o.op = .call { callee := .builtin .copy, args := #[d, s], argTypes := #[dT, sT] }) (elem : TypeId) (hu : P.underlying dT = some (.slice elem)) (hsz : (P.info? elem).map (·.size) = some 1)
    (dLen dCap sCap : Nat) (sp : Option Addr) (bs : List (BitVec 8)) (g off : Nat) (hd : a.eval d = .slice (some ⟨g, off, none⟩) dLen dCap) (hs : a.eval s = .slice sp bs.length sCap)
    (hr : Row8 w sp bs) (cur : List Value) (t : TypeId) (hg : Blk w g t cur.toArray) (n : Nat) (hn : n = min bs.length dLen) (hfit : off + n ≤ cur.length) (B : Nat) (w0 : World) (hb : Below B w0 w) (hBg : B ≤ g)
    (h : ∀ w', Hid (Blk w' g t (splice cur off ((bs.take dLen).map u8)).toArray) → Below B w0 w' → w'.heap.size = w.heap.size → wpList P ops Q rest (a.put o.dst (goInt (n : Int))) w') :
    wpList P ops Q (o :: rest) a w := by
  have hl : ((bs.take dLen).map u8).length = n := by simp [hn, Nat.min_comm]
  by_cases h0 : ((bs.take dLen).map u8).length = 0
  · have he : (bs.take dLen).map u8 = [] := List.eq_nil_of_length_eq_zero h0
    refine wpList_copy_nothing hgd d s dT sT ho elem hu hsz _ sp dLen dCap bs.length sCap hd hs (by rw [← h0, hl, hn]) ?_
    have := h w (by rw [he]; show _ = _; simpa [splice, Blk] using hg) hb rfl
    rw [← hl, h0] at this
    exact this
  · have hne : bs ≠ [] := fun e => h0 (by rw [e]; simp)
    obtain ⟨b, of, rfl, hlt, hc⟩ := hr hne
    refine wpList_copy_own hgd d s dT sT ho elem hu hsz g off dLen dCap ⟨b, of, none⟩ bs.length sCap hd hs cur.toArray t hg ((bs.take dLen).map u8) (by rw [hl, hn]) ?_ (by rw [hl]; simpa using hfit) (map_u8_one _) ?_
    · intro j v hj
      rw [List.getElem?_map, List.getElem?_take] at hj
      split at hj
      · cases hx : bs[j]? with
        | none => rw [hx] at hj; simp at hj
        | some x =>
          rw [hx] at hj
          simp at hj
          subst hj
          rw [Addr.add_lit]
          exact hc j x hx
      · simp at hj
    · have hG := setRow_heap w g cur.toArray (splice cur off ((bs.take dLen).map u8)).toArray t _ hg
      have := h _ hG (below_setRow hb hBg _) (size_setRow _ _ _)
      rw [← hl] at this
      exact this
end Go.Proofs.YtikjhnbehihbjaaDoor
