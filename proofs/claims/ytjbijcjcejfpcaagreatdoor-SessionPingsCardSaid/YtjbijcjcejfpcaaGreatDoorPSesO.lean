/- A row's argument of the type []uint64, opened.  -/
import Derived.Test.YtjbijcjcejfpcaaGreatDoorPGA
import Derived.Test.YtjbijcjcejfpcaaGreatDoorPSesP
namespace Go.Proofs.YtjbijcjcejfpcaaGreatDoor
open Go.ChangeShapes Go.WideShapes Go.ChangeAt Go.RowKit
theorem open_u64s {H : Type} {enc : TypeId × Value → H} {W : World} {a0 : Option Addr} {len cap : Nat} {d0 : DataW H} {p : List MemPlace}
    (h0 : DataW.Trod enc Tryz.prog W 0 (fun _ => true) true 22 (.slice a0 len cap) d0 p) :
    ∃ zs : List (BitVec 64), zs.length = len ∧ len ≤ cap ∧ cap ≤ maxLen ∧ RowU W a0 zs := by
  obtain ⟨fuel, hf⟩ := h0
  rcases open_ints Tryz.underlying22 Tryz.underlying25 (by kernel_rfl) hf with ⟨hcs, hx⟩ | ⟨a, len', cap', zs, hcs, _, hl, hm, hz, hx, hcell, hwz⟩
  · simp [Value.cells] at hcs
    obtain ⟨rfl, rfl, rfl⟩ := hcs
    exact ⟨[], rfl, Nat.le_refl _, by unfold maxLen; omega, fun h => absurd rfl h⟩
  · simp [Value.cells] at hcs
    obtain ⟨rfl, rfl, rfl⟩ := hcs
    simp only [if_true] at hz
    refine ⟨(zs.take len).map (BitVec.ofInt 64), by simp; omega, by omega, hm, fun hn => ?_⟩
    have hl0 : 0 < len := by
      rcases Nat.eq_zero_or_pos len with h | h
      · subst h; simp at hn
      · exact h
    obtain ⟨b, off, spot⟩ := a
    have hspot : spot = none := by simpa [Addr.add] using World.cell?_spot (hcell 0 (by omega))
    subst hspot
    refine ⟨b, off, rfl, ?_, fun i x hx => ?_⟩
    · have := block_lt_of_cell (hcell 0 (by omega))
      simpa [Addr.add] using this
    · rw [List.getElem?_map] at hx
      obtain ⟨y, hy, hyx⟩ := Option.map_eq_some_iff.1 hx
      rw [List.getElem?_take] at hy
      split at hy
      · have hi : i < zs.length := by omega
        have h1 := hcell i hi
        rw [Addr.add_lit] at h1
        rw [h1]
        rw [List.getElem?_eq_getElem hi] at hy
        injection hy with hy
        have hw := hwz y (by rw [← hy]; exact List.getElem_mem hi)
        obtain ⟨x0, hx0⟩ := of64 y hw
        have e2 : BitVec.ofInt 64 (iv64 x0) = x0 := by
          unfold iv64
          simp
        rw [← hyx, hx0, e2]
        simp [List.getD, List.getElem?_eq_getElem hi, hy, hx0]
      · cases hy
end Go.Proofs.YtjbijcjcejfpcaaGreatDoor
