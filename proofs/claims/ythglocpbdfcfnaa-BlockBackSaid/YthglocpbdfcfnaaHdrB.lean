/- sporran/header.Decode: its closures, a header built, a header read. -/
import Derived.Test.YthglocpbdfcfnaaHdr
import Derived.Test.YthglocpbdfcfnaaGB
import Derived.Test.YthglocpbdfcfnaaGA
import Derived.Deep.MidRow
import Derived.Laws.Tables
import Derived.RegionTactic
namespace Go.Proofs.Ythglocpbdfcfnaa
open Go.RowKit

theorem of_fn {α : Type} (p : List α) (n : Nat) (h : p.length = n) : ∃ x : Fin n → α, p = List.ofFn x := by
  subst h
  exact ⟨fun i => p[i], List.ofFn_getElem.symm⟩
theorem built_hdr (h : Hdr) (hk : h.ok) : Try.prog.built 46 [(0, u32 h.v), (1, .agg (h.p.map u8).toArray), (2, .agg (h.m.map u8).toArray), (3, u32 h.t), (4, u32 h.b), (5, u32 h.n)] = some h.cells.toArray := by
  obtain ⟨v, p, m, t, b, n⟩ := h
  obtain ⟨x, rfl⟩ := of_fn p 32 hk.1
  obtain ⟨y, rfl⟩ := of_fn m 32 hk.2
  kernel_rfl

set_option maxRecDepth 100000 in
set_option maxHeartbeats 2000000 in
theorem part_any (at0 n gb bb of N c : Nat) (w : World) (hcell : w.cell? ⟨gb, 0, none⟩ = some (.slice (some ⟨bb, of, none⟩) N c)) (h : at0 + n ≤ N) (hN : N ≤ c) (hc : c ≤ 9223372036854775807) (hn : 0 < n) :
    Calls Try.prog 81 #[.int .i64 (at0 : Int), .int .i64 (n : Int), .pointer (some ⟨gb, 0, none⟩)] w fun e w' => e = .returned (.slice (some ⟨bb, of + at0, none⟩) n n) ∧ w' = w := by
  have h0 : (0 : Int) ≤ (at0 : Int) := by omega
  have h1 : (at0 : Int) ≤ (at0 : Int) + (n : Int) := by omega
  have h2 : (at0 : Int) + (n : Int) ≤ (c : Int) := by omega
  have h3 : (0 : Int) < (n : Int) := by omega
  have h4 : ¬ (at0 + n = at0) := by omega
  have h5 : Hid (at0 + n - at0 = n) := Lib.hid (by omega)
  go_enter Try.func81, Try.ntmps81
  go_wp2
  go_ret
  refine ⟨?_, rfl⟩
  show Ending.returned (Value.slice (some ⟨bb, of + at0, none⟩) (at0 + n - at0) (at0 + n - at0)) = _
  rw [h5.out]

set_option maxRecDepth 100000 in
set_option maxHeartbeats 2000000 in
theorem num_any (at0 gb gp bb of N c : Nat) (bs : List (BitVec 8)) (w : World) (hcell : w.cell? ⟨gb, 0, none⟩ = some (.slice (some ⟨bb, of, none⟩) N c)) (hfn : w.cell? ⟨gp, 0, none⟩ = some (.func (.func 81) #[] #[.pointer (some ⟨gb, 0, none⟩)]))
    (hr : Row8 w (some ⟨bb, of, none⟩) bs) (hbs : bs.length = N) (h : at0 + 4 ≤ N) (hN : N ≤ c) (hc : c ≤ 9223372036854775807) :
    Calls Try.prog 82 #[.int .i64 (at0 : Int), .pointer (some ⟨gp, 0, none⟩)] w fun e w' => e = .returned (u32 (num32 (bs.drop at0))) ∧ ∃ k, w' = w.drewN k := by
  have hp := part_any at0 4 gb bb of N c w hcell h hN hc (by omega)
  rw [show ((4 : Nat) : Int) = 4 by rfl] at hp
  obtain ⟨b', of', e', _, hrow⟩ := hr (fun e => by rw [e] at hbs; simp at hbs; omega)
  injection e' with e'
  injection e' with e1 e2 _
  subst e1
  subst e2
  have key : ∀ i, i < 4 → ∃ x, bs[at0 + i]? = some x ∧ w.cell? ⟨bb, of + at0 + i, none⟩ = some (.int .u8 (iv8 x)) := fun i hi => by
    refine ⟨bs[at0 + i]'(by omega), List.getElem?_eq_getElem _, ?_⟩
    rw [Nat.add_assoc]
    exact hrow _ _ (List.getElem?_eq_getElem _)
  obtain ⟨x0, y0, c0⟩ := key 0 (by omega)
  obtain ⟨x1, y1, c1⟩ := key 1 (by omega)
  obtain ⟨x2, y2, c2⟩ := key 2 (by omega)
  obtain ⟨x3, y3, c3⟩ := key 3 (by omega)
  have hnum : Hid (num32 (bs.drop at0) = ((x0.setWidth 32 ||| x1.setWidth 32 <<< 8) ||| x2.setWidth 32 <<< 16) ||| x3.setWidth 32 <<< 24) := Lib.hid (by
    rw [num_or, num32_four (bs.drop at0) x0 x1 x2 x3 (by rw [List.getElem?_drop]; exact y0) (by rw [List.getElem?_drop]; exact y1) (by rw [List.getElem?_drop]; exact y2) (by rw [List.getElem?_drop]; exact y3)])
  have s1 := shl32 (x1.setWidth 32) 8 256 (by rfl)
  have s2 := shl32 (x2.setWidth 32) 16 65536 (by rfl)
  have s3 := shl32 (x3.setWidth 32) 24 16777216 (by rfl)
  have w0 := ext8_32 x0
  have w1 := ext8_32 x1
  have w2 := ext8_32 x2
  have w3 := ext8_32 x3
  have o1 := or32 (x0.setWidth 32) (x1.setWidth 32 <<< 8)
  have o2 := or32 (x0.setWidth 32 ||| x1.setWidth 32 <<< 8) (x2.setWidth 32 <<< 16)
  have o3 := or32 ((x0.setWidth 32 ||| x1.setWidth 32 <<< 8) ||| x2.setWidth 32 <<< 16) (x3.setWidth 32 <<< 24)
  rw [Nat.add_zero] at c0
  clear key hrow hr y0 y1 y2 y3
  go_enter Try.func82, Try.ntmps82
  go_wp2_with fail
  refine hp.mono ?_
  rintro e wx ⟨rfl, hw⟩
  replace hw := hw.symm
  subst hw
  go_wp2_with fail
  go_quiet (fail)
  go_wp2
  go_ret
  refine ⟨ret_int ?_, _, rfl⟩
  rw [hnum.out]
end Go.Proofs.Ythglocpbdfcfnaa
