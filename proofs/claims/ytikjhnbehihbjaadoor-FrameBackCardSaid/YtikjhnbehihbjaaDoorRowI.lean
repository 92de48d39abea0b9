/- A row's argument of the type []int, opened. -/
import Derived.Test.YtikjhnbehihbjaaDoorGA
namespace Go.Proofs.YtikjhnbehihbjaaDoor
open Go.ChangeShapes Go.WideShapes Go.ChangeAt Go.RowKit

/-- the numbers of a slice of int -/
def RowI (w : World) (p : Option Addr) (zs : List Int) : Prop :=
  zs ≠ [] → ∃ b o, p = some ⟨b, o, none⟩ ∧ b < w.heap.size ∧ ∀ i z, zs[i]? = some z → w.cell? ⟨b, o + i, none⟩ = some (.int .i64 z) ∧ -9223372036854775808 ≤ z ∧ z ≤ 9223372036854775807
theorem RowI.fut {w w' : World} {B : Nat} {p : Option Addr} {zs : List Int} (h : RowI w p zs) (hb : Below B w w') (hB : w.heap.size ≤ B) : RowI w' p zs := fun hn => by
  obtain ⟨b, o, rfl, hlt, hc⟩ := h hn
  exact ⟨b, o, rfl, Nat.lt_of_lt_of_le hlt hb.size, fun i z hz => ⟨(hb.cell (p := ⟨b, o + i, none⟩) (Nat.lt_of_lt_of_le hlt hB)).trans (hc i z hz).1, (hc i z hz).2⟩⟩

theorem open_intz {H : Type} {enc : TypeId × Value → H} {W : World} {a0 : Option Addr} {len cap : Nat} {d0 : DataW H} {p : List MemPlace}
    (h0 : DataW.Trod enc Tryd.prog W 0 (fun _ => true) true 54 (.slice a0 len cap) d0 p) :
    ∃ zs : List Int, zs.length = len ∧ len ≤ cap ∧ cap ≤ maxLen ∧ RowI W a0 zs := by
  obtain ⟨fuel, hf⟩ := h0
  rcases open_ints Tryd.underlying54 Tryd.underlying3 (by kernel_rfl) hf with ⟨hcs, hx⟩ | ⟨a, len', cap', zs, hcs, _, hl, hm, hz, hx, hcell, hwz⟩
  · simp [Value.cells] at hcs
    obtain ⟨rfl, rfl, rfl⟩ := hcs
    exact ⟨[], rfl, Nat.le_refl _, by unfold maxLen; omega, fun h => absurd rfl h⟩
  · simp [Value.cells] at hcs
    obtain ⟨rfl, rfl, rfl⟩ := hcs
    simp only [if_true] at hz
    refine ⟨zs.take len, by simp; omega, by omega, hm, fun hn => ?_⟩
    have hl0 : 0 < len := by
      rcases Nat.eq_zero_or_pos len with h | h
      · subst h; simp at hn
      · exact h
    obtain ⟨b, off, spot⟩ := a
    have hspot : spot = none := by simpa [Addr.add] using World.cell?_spot (hcell 0 (by omega))
    subst hspot
    refine ⟨b, off, rfl, ?_, fun i x hx => ?_⟩
    · have := block_lt_of_cell (hcell 0 (by omega))
      simpa [Addr.add] using this
    · rw [List.getElem?_take] at hx
      split at hx
      · have hi : i < zs.length := by omega
        have h1 := hcell i hi
        rw [Addr.add_lit] at h1
        rw [h1]
        rw [List.getElem?_eq_getElem hi] at hx
        injection hx with hx
        have hw := hwz x (by rw [← hx]; exact List.getElem_mem hi)
        refine ⟨by simp [List.getD, List.getElem?_eq_getElem hi, hx], ?_⟩
        simpa [Lit.wf, IntKind.min, IntKind.max, IntKind.signed, IntKind.bits] using hw
      · cases hx
end Go.Proofs.YtikjhnbehihbjaaDoor
