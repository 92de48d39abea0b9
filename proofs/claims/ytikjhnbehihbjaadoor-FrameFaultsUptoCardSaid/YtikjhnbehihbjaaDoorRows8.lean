/- A slice of slices of bytes, read as data: the lists, the cells, the bound on all their lengths. -/
import Derived.Test.YtikjhnbehihbjaaDoorRows
import Derived.Test.YtikjhnbehihbjaaDoorRow
import Derived.Deep.Slices
namespace Go.Proofs.YtikjhnbehihbjaaDoor
open Go.ChangeShapes Go.WideShapes Go.ChangeAt Go.RowKit

/-- a value that is a slice over just these bytes -/
def Sl (w : World) (v : Value) (bs : List (BitVec 8)) : Prop := ∃ p n c, v = .slice p n c ∧ bs.length = n ∧ n ≤ c ∧ c ≤ maxLen ∧ Row8 w p bs ∧ (p = none → c = 0)
/-- from p on lie slices over these lists -/
def Rows8 (w : World) (p : Option Addr) (ls : List (List (BitVec 8))) : Prop :=
  ls ≠ [] → ∃ b off, p = some ⟨b, off, none⟩ ∧ b < w.heap.size ∧ ∀ i bs, ls[i]? = some bs → ∃ v, w.cell? ⟨b, off + i, none⟩ = some v ∧ Sl w v bs
theorem Sl.below {w w' : World} {v : Value} {bs : List (BitVec 8)} {B : Nat} (h : Sl w v bs) (hb : Below B w w') (hB : w.heap.size ≤ B) : Sl w' v bs := by
  obtain ⟨p, n, c, h1, h2, h3, h4, h5, h6⟩ := h
  exact ⟨p, n, c, h1, h2, h3, h4, h5.below hb hB, h6⟩
theorem Rows8.below {w w' : World} {p : Option Addr} {ls : List (List (BitVec 8))} {B : Nat} (h : Rows8 w p ls) (hb : Below B w w') (hB : w.heap.size ≤ B) : Rows8 w' p ls := fun hn => by
  obtain ⟨b, off, rfl, hlt, hc⟩ := h hn
  refine ⟨b, off, rfl, Nat.lt_of_lt_of_le hlt hb.size, fun i bs hi => ?_⟩
  obtain ⟨v, hv, hs⟩ := hc i bs hi
  exact ⟨v, (hb.cell (p := ⟨b, off + i, none⟩) (Nat.lt_of_lt_of_le hlt hB)).trans hv, hs.below hb hB⟩
/-- all lengths -/
def lensSum : List (List (BitVec 8)) → Nat
  | [] => 0
  | b :: r => b.length + lensSum r
theorem lensSum_append (a b : List (List (BitVec 8))) : lensSum (a ++ b) = lensSum a + lensSum b := by
  induction a with
  | nil => simp [lensSum]
  | cons x a ih => simp only [List.cons_append, lensSum, ih]; omega
theorem lensSum_mem {ls : List (List (BitVec 8))} {b : List (BitVec 8)} (h : b ∈ ls) : b.length ≤ lensSum ls := by
  induction ls with
  | nil => cases h
  | cons x ls ih =>
    simp only [lensSum]
    rcases List.mem_cons.1 h with rfl | h
    · omega
    · have := ih h; omega
theorem lensSum_take (ls : List (List (BitVec 8))) (k : Nat) : lensSum (ls.take k) ≤ lensSum ls := by
  have := lensSum_append (ls.take k) (ls.drop k)
  rw [List.take_append_drop] at this
  omega
theorem upto_one {H : Type} (d : DataW H) : 1 ≤ Rows.uptoBulk d := by
  cases d with
  | lit l => cases l <;> simp [Rows.uptoBulk]
  | _ => simp [Rows.uptoBulk]
theorem upto_length {H : Type} (l : List (DataW H)) : l.length ≤ Rows.uptoBulkAll l := by
  induction l with
  | nil => exact Nat.zero_le _
  | cons d r ih =>
    have := upto_one d
    simp only [Rows.uptoBulkAll, List.length_cons]
    omega
theorem upto_lens {H : Type} (l : List Nat) (f : Nat → List (BitVec 8)) (D : Nat → DataW H) (h : ∀ i ∈ l, (f i).length ≤ Rows.uptoBulk (D i)) : lensSum (l.map f) ≤ Rows.uptoBulkAll (l.map D) := by
  induction l with
  | nil => exact Nat.zero_le _
  | cons i l ih =>
    have h1 := h i (by simp)
    have h2 := ih (fun j hj => h j (by simp [hj]))
    simp only [List.map_cons, lensSum, Rows.uptoBulkAll]
    omega

theorem open_byteses {H : Type} {enc : TypeId × Value → H} {W : World} {a0 : Option Addr} {len cap : Nat} {d0 : DataW H} {p : List MemPlace}
    (h0 : DataW.Trod enc Tryd.prog W 0 (fun _ => true) true 31 (.slice a0 len cap) d0 p) :
    ∃ ls : List (List (BitVec 8)), ls.length = len ∧ len ≤ cap ∧ cap ≤ maxLen ∧ Rows8 W a0 ls ∧ lensSum ls ≤ Rows.uptoBulk d0 := by
  obtain ⟨fuel, hf⟩ := h0
  rcases Go.Deep.open_slice1 Tryd.underlying31 (by kernel_rfl) hf with ⟨hcs, hx⟩ | ⟨a, l, c, m, n, V, D, Pl, hcs, _, hl, hm, hmm, hx, hi⟩
  · simp [Value.cells] at hcs
    obtain ⟨rfl, rfl, rfl⟩ := hcs
    exact ⟨[], rfl, Nat.le_refl _, by unfold maxLen; omega, fun h => absurd rfl h, Nat.zero_le _⟩
  · simp [Value.cells] at hcs
    obtain ⟨rfl, rfl, rfl⟩ := hcs
    simp only [if_true] at hmm
    subst hmm
    simp only [Prod.mk.injEq] at hx
    obtain ⟨rfl, _⟩ := hx
    have key : ∀ k, k < len → ∃ bs : List (BitVec 8), W.cell? (a.add k) = some (V k) ∧ Sl W (V k) bs ∧ bs.length ≤ Rows.uptoBulk (D k) := by
      intro k hk
      obtain ⟨hc, ht⟩ := hi k (by omega)
      have hv : ∃ q n' c', V k = .slice q n' c' := by
        rcases DataW.trod_slice Tryd.underlying22 ht with ⟨e, _⟩ | ⟨a, len, cap, el, re, m, _, e, _⟩
        · injection e with e; exact ⟨_, _, _, e⟩
        · injection e with e; exact ⟨_, _, _, e⟩
      obtain ⟨q, n', c', hv⟩ := hv
      rw [hv] at ht
      obtain ⟨bs, h1, h2, h3, h4, h5, h6⟩ := open_bytes (enc := enc) (P := Tryd.prog) (t := 22) (d0 := D k) (p := Pl k) Tryd.underlying22 Tryd.underlying5 (by kernel_rfl) ⟨n, ht⟩
      refine ⟨bs, hc, ⟨q, n', c', hv, h1, h2, h3, h4, h5⟩, ?_⟩
      rcases h6 with h | ⟨els, sp, he, hes⟩
      · omega
      · rw [he]
        have b1 := upto_length els
        have b2 := upto_length sp
        simp only [Rows.uptoBulk]
        omega
    refine ⟨(List.range len).map fun k => if h : k < len then (key k h).choose else [], by simp, hl, hm, fun hn => ?_, ?_⟩
    · have hpos : 0 < len := by
        rcases Nat.eq_zero_or_pos len with h | h
        · subst h; simp at hn
        · exact h
      obtain ⟨b, off, spot⟩ := a
      have hspot : spot = none := by
        obtain ⟨bs, h1, _⟩ := key 0 hpos
        have := World.cell?_spot h1
        simpa [Addr.add] using this
      subst hspot
      refine ⟨b, off, rfl, ?_, fun i bs hib => ?_⟩
      · obtain ⟨bs, h1, _⟩ := key 0 hpos
        simpa [Addr.add] using block_lt_of_cell h1
      · have hil : i < len := by
          rcases Nat.lt_or_ge i len with h | h
          · exact h
          · rw [List.getElem?_eq_none (by simpa using h)] at hib; cases hib
        rw [List.getElem?_map, List.getElem?_range hil] at hib
        simp only [Option.map_some, dif_pos hil, Option.some.injEq] at hib
        obtain ⟨h1, h2, _⟩ := (key i hil).choose_spec
        rw [hib] at h2
        rw [Addr.add_lit] at h1
        exact ⟨_, h1, h2⟩
    · simp only [Rows.uptoBulk]
      have := upto_lens (List.range len) (fun k => if h : k < len then (key k h).choose else []) D (fun i hi => by
        have hil := List.mem_range.1 hi
        simp only [dif_pos hil]
        exact (key i hil).choose_spec.2.2)
      omega
end Go.Proofs.YtikjhnbehihbjaaDoor
