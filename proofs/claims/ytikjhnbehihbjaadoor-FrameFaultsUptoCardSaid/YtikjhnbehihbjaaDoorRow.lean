/- A row's arguments opened: a slice of bytes as a list of bytes, with the form's own reach. -/
import Derived.Test.YtikjhnbehihbjaaDoorKit
import Derived.ProofKit
import Derived.OpenShut
import Derived.ChangeOld
import Derived.SizedLaws
namespace Go.Proofs.YtikjhnbehihbjaaDoor
open Go.ChangeShapes Go.WideShapes Go.ChangeAt Go.RowKit

/-- the numbers of cells that are bytes, as bytes -/
theorem bytes_of_wf (zs : List Int) (h : ∀ n ∈ zs, (Lit.int .u8 n).wf = true) : ∃ bs : List (BitVec 8), zs = bs.map iv8 := by
  induction zs with
  | nil => exact ⟨[], rfl⟩
  | cons z zs ih =>
    obtain ⟨b, rfl⟩ := of8 z (h z (by simp))
    obtain ⟨bs, rfl⟩ := ih (fun n hn => h n (by simp [hn]))
    exact ⟨b :: bs, rfl⟩

theorem open_bytes {H : Type} {enc : TypeId × Value → H} {P : Program} {t e : TypeId} (ht : P.underlying t = some (.slice e)) (he : P.underlying e = some (.int .u8)) (hc : P.cellsOf e = 1) {W : World} {a0 : Option Addr} {len cap : Nat} {d0 : DataW H} {p : List MemPlace}
    (h0 : DataW.Trod enc P W 0 (fun _ => true) true t (.slice a0 len cap) d0 p) :
    ∃ bs : List (BitVec 8), bs.length = len ∧ len ≤ cap ∧ cap ≤ maxLen ∧ Row8 W a0 bs ∧ (a0 = none → cap = 0) ∧ (cap = 0 ∨ ∃ els sp, d0 = .slice els sp ∧ els.length + sp.length = cap) := by
  obtain ⟨fuel, hf⟩ := h0
  rcases open_ints ht he hc hf with ⟨hcs, hx⟩ | ⟨a, len', cap', zs, hcs, _, hl, hm, hz, hx, hcell, hwz⟩
  · simp [Value.cells] at hcs
    obtain ⟨rfl, rfl, rfl⟩ := hcs
    exact ⟨[], rfl, Nat.le_refl _, by unfold maxLen; omega, Row8.nil _ _, fun _ => rfl, .inl rfl⟩
  · simp [Value.cells] at hcs
    obtain ⟨rfl, rfl, rfl⟩ := hcs
    simp only [Prod.mk.injEq] at hx
    obtain ⟨rfl, rfl⟩ := hx
    simp only [if_true] at hz
    obtain ⟨bs, rfl⟩ := bytes_of_wf zs hwz
    simp only [List.length_map] at hz hcell
    refine ⟨bs.take len, by simp; omega, by omega, hm, fun hn => ?_, (fun h => by cases h), .inr ⟨_, _, rfl, by simp [lits]; omega⟩⟩
    have hl0 : 0 < len := by
      rcases Nat.eq_zero_or_pos len with h | h
      · subst h; simp at hn
      · exact h
    obtain ⟨b, off, spot⟩ := a
    have hspot : spot = none := by simpa [Addr.add] using World.cell?_spot (hcell 0 (by omega))
    subst hspot
    refine ⟨b, off, rfl, ?_, fun i x hx => ?_⟩
    · have := block_lt_of_cell (hcell 0 (by omega))
      simpa [Addr.add] using this
    · rw [List.getElem?_take] at hx
      split at hx
      · have hi : i < bs.length := by omega
        have h1 := hcell i hi
        rw [Addr.add_lit] at h1
        rw [h1]
        rw [List.getElem?_eq_getElem hi] at hx
        injection hx with hx
        simp [List.getD, List.getElem?_eq_getElem hi, u8, hx]
      · cases hx
end Go.Proofs.YtikjhnbehihbjaaDoor
