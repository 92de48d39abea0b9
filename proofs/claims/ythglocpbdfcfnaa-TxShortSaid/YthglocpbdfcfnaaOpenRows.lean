/- Slices of structs or arrays, read as data. -/
import Derived.Test.YthglocpbdfcfnaaGA
import Derived.Deep.Slices
namespace Go.Proofs.Ythglocpbdfcfnaa
open Go.ChangeShapes Go.WideShapes Go.ChangeAt Go.RowKit

/-- from p on lie these rows of cells, n cells each -/
def RowsN (n : Nat) (w : World) (p : Option Addr) (ls : List (List Value)) : Prop :=
  ls ≠ [] → ∃ b off, p = some ⟨b, off, none⟩ ∧ b < w.heap.size ∧ ∀ i cs, ls[i]? = some cs → cs.length = n ∧ w.rangeAt b (off + i * n) cs
theorem rangeAt_below {w w' : World} {b o B : Nat} {cs : List Value} (h : w.rangeAt b o cs) (hb : Below B w w') (hB : b < B) : w'.rangeAt b o cs := fun j v hj => by
  rw [hb.cell (p := ⟨b, o + j, none⟩) hB]; exact h j v hj
theorem rangeAt_kept {w w' : World} {b o H : Nat} {cs : List Value} (h : w.rangeAt b o cs) (hg : w.grownBy w' (some H)) (hlt : b < w.heap.size) (hne : b ≠ H) : w'.rangeAt b o cs := fun j v hj => by
  rw [World.cell?_of_block (a := ⟨b, o + j, none⟩) (hg.block b hlt (by intro e; injection e with e; exact hne e))]; exact h j v hj
theorem RowsN.below {n : Nat} {w w' : World} {p : Option Addr} {ls : List (List Value)} {B : Nat} (h : RowsN n w p ls) (hb : Below B w w') (hB : w.heap.size ≤ B) : RowsN n w' p ls := fun hn => by
  obtain ⟨b, off, rfl, hlt, hc⟩ := h hn
  exact ⟨b, off, rfl, Nat.lt_of_lt_of_le hlt hb.size, fun i cs hi => ⟨(hc i cs hi).1, rangeAt_below (hc i cs hi).2 hb (by omega)⟩⟩

/-- a slice of structs or arrays, read as data: if each element's cells are so, the slice is rows of such cells -/
theorem open_rows {H : Type} {enc : TypeId × Value → H} {W : World} {t e : TypeId} {n : Nat} {α : Type} (cells : α → List Value) (ok : α → Prop) (hlen : ∀ x, ok x → (cells x).length = n) (hn0 : 0 < n)
    (ht : Try.prog.underlying t = some (.slice e)) (hc : Try.prog.cellsOf e = n)
    (hel : ∀ (fuel : Nat) (cs : List Value) (x : DataW H × List MemPlace), DataW.trod enc Try.prog W 0 (fun _ => true) true fuel e cs = some x → ∃ y, ok y ∧ cs = cells y)
    {a0 : Option Addr} {len cap : Nat} {d0 : DataW H} {p : List MemPlace} (h0 : DataW.Trod enc Try.prog W 0 (fun _ => true) true t (.slice a0 len cap) d0 p) :
    ∃ ys : List α, ys.length = len ∧ (∀ y ∈ ys, ok y) ∧ len ≤ cap ∧ cap ≤ maxLen ∧ RowsN n W a0 (ys.map cells) ∧ (a0 = none → cap = 0) ∧ (cap = 0 ∨ ∃ els sp, d0 = .slice els sp ∧ els.length + sp.length = cap) := by
  obtain ⟨fuel, hf⟩ := h0
  rcases Go.Deep.open_slice ht hf with ⟨hcs, hx⟩ | ⟨a, l, c, m, k, D, Pl, hcs, hb, hl, hm, hmm, hx, hi⟩
  · simp [Value.cells] at hcs
    obtain ⟨rfl, rfl, rfl⟩ := hcs
    exact ⟨[], rfl, (fun y hy => by cases hy), Nat.le_refl _, by unfold maxLen; omega, fun h => absurd rfl h, fun _ => rfl, .inl rfl⟩
  · simp [Value.cells] at hcs
    obtain ⟨rfl, rfl, rfl⟩ := hcs
    simp only [if_true] at hmm
    subst hmm
    simp only [Prod.mk.injEq] at hx
    obtain ⟨rfl, _⟩ := hx
    rw [hc] at hi
    have key : ∀ k, k < len → ∃ y : α, ok y ∧ ∀ j, j < n → W.cell? ((a.add (k * n)).add j) = (cells y)[j]? := by
      intro k hk
      obtain ⟨cs, hcs, ht⟩ := hi k (by omega)
      obtain ⟨_, hcl, hat⟩ := World.cells?_some hcs
      obtain ⟨y, hy, rfl⟩ := hel _ _ _ ht
      exact ⟨y, hy, hat⟩
    have hsome : ∀ f : Nat → α, (∀ k, k < len → ok (f k) ∧ ∀ j, j < n → W.cell? ((a.add (k * n)).add j) = (cells (f k))[j]?) → RowsN n W (some a) (((List.range len).map f).map cells) := by
      intro f hf hne
      have hpos : 0 < len := by
        rcases Nat.eq_zero_or_pos len with h | h
        · subst h; simp at hne
        · exact h
      obtain ⟨b, off, spot⟩ := a
      have h00 := (hf 0 hpos).2 0 hn0
      rw [List.getElem?_eq_getElem (by rw [hlen _ (hf 0 hpos).1]; exact hn0)] at h00
      have hspot : spot = none := by
        have := World.cell?_spot h00
        simpa [Addr.add] using this
      subst hspot
      refine ⟨b, off, rfl, by simpa [Addr.add] using block_lt_of_cell h00, fun i cs hic => ?_⟩
      have hil : i < len := by
        rcases Nat.lt_or_ge i len with h | h
        · exact h
        · rw [List.getElem?_eq_none (by simpa using h)] at hic; cases hic
      rw [List.getElem?_map, List.getElem?_map, List.getElem?_range hil] at hic
      simp only [Option.map_some, Option.some.injEq] at hic
      subst hic
      refine ⟨hlen _ (hf i hil).1, fun j v hj => ?_⟩
      have hjn : j < n := by
        rcases Nat.lt_or_ge j n with h | h
        · exact h
        · rw [List.getElem?_eq_none (by rw [hlen _ (hf i hil).1]; exact h)] at hj; cases hj
      have := (hf i hil).2 j hjn
      rw [Addr.add_lit, Addr.add_lit] at this
      exact this.trans hj
    rcases Nat.eq_zero_or_pos len with h0 | hpos
    · subst h0
      exact ⟨[], rfl, (fun y hy => by cases hy), hl, hm, fun h => absurd rfl h, (fun h => by cases h), .inr ⟨_, _, rfl, by simp <;> omega⟩⟩
    · refine ⟨(List.range len).map fun k => if h : k < len then (key k h).choose else (key 0 hpos).choose, by simp, fun y hy => ?_, hl, hm, hsome _ (fun k hk => ?_), (fun h => by cases h), .inr ⟨_, _, rfl, by simp <;> omega⟩⟩
      · obtain ⟨k, hk, rfl⟩ := List.mem_map.1 hy
        have hk' := List.mem_range.1 hk
        simp only [dif_pos hk']
        exact (key k hk').choose_spec.1
      · simp only [dif_pos hk]
        exact (key k hk).choose_spec
section
variable {H : Type} {enc : TypeId × Value → H} {P : Program} {w : World} {base : Nat} {spare : Nat → Bool} {held : Bool}
/-- a struct's field, read as data -/
theorem trod_fieldH {t : TypeId} {fs : Array Field} {fuel : Nat} {cs : List Value} {x : DataW H × List MemPlace} (ht : P.underlying t = some (.struct fs)) (h : DataW.trod enc P w base spare held fuel t cs = some x) (i : Nat) (f : Field) (hf : fs[i]? = some f) (s : Nat) (hs : P.cellsOf f.type = s) :
    ∃ n y, DataW.trod enc P w base spare held n f.type ((cs.drop f.offset).take s) = some y := by
  obtain ⟨xs, n, _, _, _, hxl, hi⟩ := DataW.trod_struct ht h
  have h1 := hi i f hf
  rw [hs] at h1
  have hlt : i < xs.length := by rw [hxl]; exact (Array.getElem?_eq_some_iff.1 hf).1
  exact ⟨n, _, h1.trans (List.getElem?_eq_getElem hlt)⟩
end
theorem hashH_cells : Try.prog.cellsOf 44 = 32 := by kernel_rfl
theorem byteH_cells : Try.prog.cellsOf 5 = 1 := by kernel_rfl
end Go.Proofs.Ythglocpbdfcfnaa
