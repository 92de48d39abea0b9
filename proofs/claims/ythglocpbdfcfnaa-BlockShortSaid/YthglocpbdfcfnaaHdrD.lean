/- A header read as data; sporranlaw06.HeaderShort: the walk. -/
import Derived.Test.YthglocpbdfcfnaaHdrC
import Derived.Test.YthglocpbdfcfnaaGA
import Derived.Test.YthglocpbdfcfnaaGB
namespace Go.Proofs.Ythglocpbdfcfnaa
open Go.RowKit Go.ChangeShapes Go.WideShapes

theorem header_cells {H : Type} {enc : TypeId × Value → H} {w : World} {base : Nat} {spare : Nat → Bool} {held : Bool} {fuel : Nat} {cs : List Value} {x : DataW H × List MemPlace} (h : DataW.trod enc Try.prog w base spare held fuel 46 cs = some x) :
    ∃ hd : Hdr, hd.ok ∧ cs = hd.cells := by
  have hl : cs.length = 68 := by
    obtain ⟨_, _, _, _, hl, _⟩ := DataW.trod_struct Try.underlying46 h
    rw [hl]; kernel_rfl
  obtain ⟨n0, y0, h0⟩ := trod_fieldH Try.underlying46 h 0 _ rfl 1 (by kernel_rfl)
  obtain ⟨n1, y1, h1⟩ := trod_fieldH Try.underlying46 h 1 _ rfl 32 (by kernel_rfl)
  obtain ⟨n2, y2, h2⟩ := trod_fieldH Try.underlying46 h 2 _ rfl 32 (by kernel_rfl)
  obtain ⟨n3, y3, h3⟩ := trod_fieldH Try.underlying46 h 3 _ rfl 1 (by kernel_rfl)
  obtain ⟨n4, y4, h4⟩ := trod_fieldH Try.underlying46 h 4 _ rfl 1 (by kernel_rfl)
  obtain ⟨n5, y5, h5⟩ := trod_fieldH Try.underlying46 h 5 _ rfl 1 (by kernel_rfl)
  obtain ⟨i0, e0, _, w0⟩ := DataW.trod_int Try.underlying22 h0
  obtain ⟨i3, e3, _, w3⟩ := DataW.trod_int Try.underlying22 h3
  obtain ⟨i4, e4, _, w4⟩ := DataW.trod_int Try.underlying22 h4
  obtain ⟨i5, e5, _, w5⟩ := DataW.trod_int Try.underlying22 h5
  obtain ⟨p, hp, ep⟩ := trod_bytes Try.underlying44 Try.underlying5 hashH_cells byteH_cells h1
  obtain ⟨m, hm, em⟩ := trod_bytes Try.underlying44 Try.underlying5 hashH_cells byteH_cells h2
  obtain ⟨v, rfl⟩ := of32 i0 w0
  obtain ⟨t, rfl⟩ := of32 i3 w3
  obtain ⟨b, rfl⟩ := of32 i4 w4
  obtain ⟨n, rfl⟩ := of32 i5 w5
  refine ⟨⟨v, p, m, t, b, n⟩, ⟨hp, hm⟩, ?_⟩
  have q1 := parts3 cs 1 32 35 (by omega)
  have q2 := parts3 ((cs.drop 33).take 35) 32 1 2 (by simp; omega)
  have q3 := parts2 ((((cs.drop 33).take 35).drop 33).take 2) 1 1 (by simp; omega)
  have a0 : (cs.drop 0).take 1 = [u32 v] := e0
  have a1 : (cs.drop 1).take 32 = p.map u8 := ep
  have a2 : (((cs.drop 33).take 35).drop 0).take 32 = m.map u8 := by rw [List.drop_zero, List.take_take]; exact em
  have a3 : (((cs.drop 33).take 35).drop 32).take 1 = [u32 t] := by rw [List.drop_take, List.drop_drop, List.take_take]; exact e3
  have a4 : (((((cs.drop 33).take 35).drop 33).take 2).drop 0).take 1 = [u32 b] := by rw [List.drop_zero, List.take_take, List.drop_take, List.drop_drop, List.take_take]; exact e4
  have a5 : (((((cs.drop 33).take 35).drop 33).take 2).drop 1).take 1 = [u32 n] := by rw [List.drop_take, List.take_take, List.drop_take, List.drop_take, List.drop_drop, List.drop_drop, List.take_take]; exact e5
  rw [a4, a5] at q3
  rw [a2, a3, q3] at q2
  rw [a0, a1, q2] at q1
  rw [q1]
  simp [Hdr.cells]
theorem open_header {H : Type} {enc : TypeId × Value → H} {W : World} {cs : Array Value} {d0 : DataW H} {p : List MemPlace} (h0 : DataW.Trod enc Try.prog W 0 (fun _ => true) true 46 (.agg cs) d0 p) : ∃ hd : Hdr, hd.ok ∧ cs = hd.cells.toArray := by
  obtain ⟨fuel, hf⟩ := h0
  obtain ⟨hd, hk, e⟩ := header_cells hf
  refine ⟨hd, hk, ?_⟩
  have e' : cs.toList = hd.cells := e
  rw [← e', Array.toArray_toList]
theorem hdr_row {w : World} {g : Nat} {t : TypeId} {bs : List (BitVec 8)} (h : Blk w g t (bs.map u8).toArray) : Row8 w (some ⟨g, 0, none⟩) bs := fun _ =>
  ⟨g, 0, rfl, h.lt, fun i x hx => by rw [Nat.zero_add, h.cell, List.getElem?_toArray, List.getElem?_map, hx]; rfl⟩
end Go.Proofs.Ythglocpbdfcfnaa
