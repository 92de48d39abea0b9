/- A transaction read as data (a row's argument). -/
import Derived.Test.YthglocpbdfcfnaaTxM
import Derived.Test.YthglocpbdfcfnaaGB
namespace Go.Proofs.Ythglocpbdfcfnaa
open Go Go.ChangeShapes Go.WideShapes Go.ChangeAt Go.RowKit
set_option linter.unusedVariables false

theorem open_rowsE {H : Type} {enc : TypeId × Value → H} {W : World} {t e : TypeId} {n : Nat} {α : Type} (E : World → α → List Value → Prop) (hn0 : 0 < n)
    (ht : Try.prog.underlying t = some (.slice e)) (hc : Try.prog.cellsOf e = n)
    (hel : ∀ (fuel : Nat) (cs : List Value) (x : DataW H × List MemPlace), DataW.trod enc Try.prog W 0 (fun _ => true) true fuel e cs = some x → cs.length = n ∧ ∃ y, E W y cs)
    {a0 : Option Addr} {len cap : Nat} {d0 : DataW H} {p : List MemPlace} (h0 : DataW.Trod enc Try.prog W 0 (fun _ => true) true t (.slice a0 len cap) d0 p) :
    ∃ ys : List α, ESl E n W (.slice a0 len cap) ys := by
  obtain ⟨css, h1, h2, h3, h4, h5, h6, _⟩ := open_rows (n := n) (fun cs : List Value => cs) (fun cs => cs.length = n ∧ ∃ y, E W y cs) (fun cs h => h.1) hn0 ht hc (fun fuel cs x h => ⟨cs, hel fuel cs x h, rfl⟩) h0
  rw [List.map_id'] at h5
  have key : ∀ (l : List (List Value)), (∀ cs ∈ l, cs.length = n ∧ ∃ y, E W y cs) → ∃ ys : List α, ys.length = l.length ∧ ∀ (i : Nat) (y : α), ys[i]? = some y → ∃ cs, l[i]? = some cs ∧ E W y cs := by
    intro l
    induction l with
    | nil => exact fun _ => ⟨[], rfl, fun i y h => by cases h⟩
    | cons c l ih =>
      intro h
      obtain ⟨y, hy⟩ := (h c (List.mem_cons_self ..)).2
      obtain ⟨ys, g1, g2⟩ := ih fun cs hm => h cs (List.mem_cons_of_mem _ hm)
      refine ⟨y :: ys, by simp [g1], fun i z hz => ?_⟩
      cases i with
      | zero => rw [List.getElem?_cons_zero] at hz; injection hz with hz; subst hz; exact ⟨c, rfl, hy⟩
      | succ i => rw [List.getElem?_cons_succ] at hz; exact g2 i z hz
  obtain ⟨ys, g1, g2⟩ := key css h2
  refine ⟨ys, a0, len, cap, rfl, by omega, h3, h4, fun hn => ?_, h6⟩
  obtain ⟨b, off, rfl, hlt, hc⟩ := h5 (by intro e; rw [e] at g1; exact hn (List.eq_nil_of_length_eq_zero g1))
  refine ⟨b, off, rfl, hlt, fun i x hx => ?_⟩
  obtain ⟨cs, g3, g4⟩ := g2 i x hx
  exact ⟨cs, g4, (hc i cs g3).2⟩
theorem bytes_cell {H : Type} {enc : TypeId × Value → H} {W : World} {fuel : Nat} {cs : List Value} {x : DataW H × List MemPlace} (h : DataW.trod enc Try.prog W 0 (fun _ => true) true fuel 27 cs = some x) : ∃ v bs, cs = [v] ∧ Sl W v bs := by
  have hv : ∃ a len cap, cs = [.slice a len cap] := by
    rcases open_ints Try.underlying27 Try.underlying5 (by kernel_rfl) h with ⟨hcs, _⟩ | ⟨a, len', cap', zs, hcs, _⟩
    · exact ⟨_, _, _, hcs⟩
    · exact ⟨_, _, _, hcs⟩
  obtain ⟨a, len, cap, rfl⟩ := hv
  obtain ⟨bs, q1, q2, q3, q4, q5, _⟩ := open_bytes (enc := enc) (W := W) (d0 := x.1) (p := x.2) Try.underlying27 Try.underlying5 (by kernel_rfl) ⟨fuel, h⟩
  exact ⟨_, bs, rfl, a, len, cap, rfl, q1, q2, q3, q4, q5⟩
theorem slice_cell {H : Type} {enc : TypeId × Value → H} {W : World} {fuel : Nat} {t e : TypeId} {cs : List Value} {x : DataW H × List MemPlace} (ht : Try.prog.underlying t = some (.slice e)) (h : DataW.trod enc Try.prog W 0 (fun _ => true) true fuel t cs = some x) : ∃ a len cap, cs = [.slice a len cap] := by
  rcases DataW.trod_slice ht h with ⟨e, _⟩ | ⟨a, len, cap, el, re, m, _, e, _⟩
  · exact ⟨_, _, _, e⟩
  · exact ⟨_, _, _, e⟩
theorem texts_cell {H : Type} {enc : TypeId × Value → H} {W : World} {fuel : Nat} {cs : List Value} {x : DataW H × List MemPlace} (h : DataW.trod enc Try.prog W 0 (fun _ => true) true fuel 65 cs = some x) : ∃ v ls, cs = [v] ∧ ESl TextC 1 W v ls := by
  obtain ⟨a, len, cap, rfl⟩ := slice_cell Try.underlying65 h
  obtain ⟨ys, hy⟩ := open_rowsE (enc := enc) (W := W) (n := 1) (d0 := x.1) (p := x.2) TextC (by omega) Try.underlying65 (by kernel_rfl) (fun fuel cs x h => by
    obtain ⟨v, bs, rfl, hs⟩ := bytes_cell h
    exact ⟨rfl, bs, v, rfl, hs⟩) ⟨fuel, h⟩
  exact ⟨_, ys, rfl, hy⟩
theorem trod_len {H : Type} {enc : TypeId × Value → H} {W : World} {fuel : Nat} {t : TypeId} {fs : Array Field} {cs : List Value} {x : DataW H × List MemPlace} (ht : Try.prog.underlying t = some (.struct fs)) (h : DataW.trod enc Try.prog W 0 (fun _ => true) true fuel t cs = some x) : cs.length = Try.prog.cellsOf t := by
  obtain ⟨_, _, _, _, hl, _⟩ := DataW.trod_struct ht h
  exact hl
theorem point_cells {H : Type} {enc : TypeId × Value → H} {W : World} {fuel : Nat} {cs : List Value} {x : DataW H × List MemPlace} (h : DataW.trod enc Try.prog W 0 (fun _ => true) true fuel 64 cs = some x) : ∃ (id : Bs) (ix : BitVec 32), id.length = 32 ∧ cs = hCells id ++ [u32 ix] := by
  have hl : cs.length = 33 := by rw [trod_len Try.underlying64 h]; kernel_rfl
  obtain ⟨n0, y0, h0⟩ := trod_fieldH Try.underlying64 h 0 _ rfl 32 (by kernel_rfl)
  obtain ⟨n1, y1, h1⟩ := trod_fieldH Try.underlying64 h 1 _ rfl 1 (by kernel_rfl)
  obtain ⟨i1, e1, _, w1⟩ := DataW.trod_int Try.underlying22 h1
  obtain ⟨p, hp, ep⟩ := trod_bytes Try.underlying44 Try.underlying5 hashH_cells byteH_cells h0
  obtain ⟨v, rfl⟩ := of32 i1 w1
  refine ⟨p, v, hp, ?_⟩
  have q := parts2 cs 32 1 (by omega)
  have a0 : (cs.drop 0).take 32 = p.map u8 := ep
  have a1 : (cs.drop 32).take 1 = [u32 v] := e1
  rw [a0, a1] at q
  exact q
theorem in_cells {H : Type} {enc : TypeId × Value → H} {W : World} {fuel : Nat} {cs : List Value} {x : DataW H × List MemPlace} (h : DataW.trod enc Try.prog W 0 (fun _ => true) true fuel 67 cs = some x) : cs.length = 36 ∧ ∃ y, InC W y cs := by
  have hl : cs.length = 36 := by rw [trod_len Try.underlying67 h]; kernel_rfl
  obtain ⟨n0, y0, h0⟩ := trod_fieldH Try.underlying67 h 0 _ rfl 33 (by kernel_rfl)
  obtain ⟨n1, y1, h1⟩ := trod_fieldH Try.underlying67 h 1 _ rfl 1 (by kernel_rfl)
  obtain ⟨n2, y2, h2⟩ := trod_fieldH Try.underlying67 h 2 _ rfl 1 (by kernel_rfl)
  obtain ⟨n3, y3, h3⟩ := trod_fieldH Try.underlying67 h 3 _ rfl 1 (by kernel_rfl)
  obtain ⟨id, ix, hid, e0⟩ := point_cells h0
  obtain ⟨sv, bs, e1, hs⟩ := bytes_cell h1
  obtain ⟨i2, e2, _, w2⟩ := DataW.trod_int Try.underlying22 h2
  obtain ⟨wv, ls, e3, hw⟩ := texts_cell h3
  obtain ⟨sq, rfl⟩ := of32 i2 w2
  refine ⟨hl, ⟨id, ix, bs, sq, ls⟩, sv, wv, ?_, hid, hs, hw⟩
  have q1 := parts3 cs 33 1 2 (by omega)
  have q2 := parts2 ((cs.drop 34).take 2) 1 1 (by simp; omega)
  have a0 : (cs.drop 0).take 33 = hCells id ++ [u32 ix] := e0
  have a1 : (cs.drop 33).take 1 = [sv] := e1
  have a2 : (((cs.drop 34).take 2).drop 0).take 1 = [u32 sq] := by rw [List.drop_zero, List.take_take]; exact e2
  have a3 : (((cs.drop 34).take 2).drop 1).take 1 = [wv] := by rw [List.drop_take, List.drop_drop, List.take_take]; exact e3
  rw [a2, a3] at q2
  rw [a0, a1, q2] at q1
  rw [q1]
  simp
theorem out_cells {H : Type} {enc : TypeId × Value → H} {W : World} {fuel : Nat} {cs : List Value} {x : DataW H × List MemPlace} (h : DataW.trod enc Try.prog W 0 (fun _ => true) true fuel 61 cs = some x) : cs.length = 2 ∧ ∃ y, OutC W y cs := by
  have hl : cs.length = 2 := by rw [trod_len Try.underlying61 h]; kernel_rfl
  obtain ⟨n0, y0, h0⟩ := trod_fieldH Try.underlying61 h 0 _ rfl 1 (by kernel_rfl)
  obtain ⟨n1, y1, h1⟩ := trod_fieldH Try.underlying61 h 1 _ rfl 1 (by kernel_rfl)
  obtain ⟨i0, e0, _, w0⟩ := DataW.trod_int Try.underlying2 h0
  obtain ⟨sv, bs, e1, hs⟩ := bytes_cell h1
  have hb : -9223372036854775808 ≤ i0 ∧ i0 ≤ 9223372036854775807 := by simpa [Lit.wf, IntKind.min, IntKind.max, IntKind.signed, IntKind.bits] using w0
  have hi : (BitVec.ofInt 64 i0).toInt = i0 := by rw [BitVec.toInt_ofInt, Int.bmod_eq_of_le (by simp; omega) (by simp; omega)]
  refine ⟨hl, ⟨BitVec.ofInt 64 i0, bs⟩, sv, ?_, hs⟩
  have q := parts2 cs 1 1 (by omega)
  have a0 : (cs.drop 0).take 1 = [.int .i64 i0] := e0
  have a1 : (cs.drop 1).take 1 = [sv] := e1
  rw [a0, a1] at q
  rw [q]
  simp [hi]
theorem tx_cells {H : Type} {enc : TypeId × Value → H} {W : World} {fuel : Nat} {cs : List Value} {x : DataW H × List MemPlace} (h : DataW.trod enc Try.prog W 0 (fun _ => true) true fuel 26 cs = some x) : cs.length = 4 ∧ ∃ t, TxC W t cs := by
  have hl : cs.length = 4 := by rw [trod_len Try.underlying26 h]; kernel_rfl
  obtain ⟨n0, y0, h0⟩ := trod_fieldH Try.underlying26 h 0 _ rfl 1 (by kernel_rfl)
  obtain ⟨n1, y1, h1⟩ := trod_fieldH Try.underlying26 h 1 _ rfl 1 (by kernel_rfl)
  obtain ⟨n2, y2, h2⟩ := trod_fieldH Try.underlying26 h 2 _ rfl 1 (by kernel_rfl)
  obtain ⟨n3, y3, h3⟩ := trod_fieldH Try.underlying26 h 3 _ rfl 1 (by kernel_rfl)
  obtain ⟨i0, e0, _, w0⟩ := DataW.trod_int Try.underlying22 h0
  obtain ⟨i3, e3, _, w3⟩ := DataW.trod_int Try.underlying22 h3
  obtain ⟨a1, l1, c1, e1⟩ := slice_cell Try.underlying23 h1
  obtain ⟨a2, l2, c2, e2⟩ := slice_cell Try.underlying24 h2
  obtain ⟨ve, rfl⟩ := of32 i0 w0
  obtain ⟨lo, rfl⟩ := of32 i3 w3
  have e1' : (cs.drop 1).take 1 = [.slice a1 l1 c1] := e1
  have e2' : (cs.drop 2).take 1 = [.slice a2 l2 c2] := e2
  have h1' : DataW.trod enc Try.prog W 0 (fun _ => true) true n1 23 ((cs.drop 1).take 1) = some y1 := h1
  have h2' : DataW.trod enc Try.prog W 0 (fun _ => true) true n2 24 ((cs.drop 2).take 1) = some y2 := h2
  rw [e1'] at h1'
  rw [e2'] at h2'
  obtain ⟨is, hi⟩ := open_rowsE (enc := enc) (W := W) (d0 := y1.1) (p := y1.2) InC (by omega) Try.underlying23 (by kernel_rfl) (fun fuel cs x h => in_cells h) ⟨n1, h1'⟩
  obtain ⟨os, ho⟩ := open_rowsE (enc := enc) (W := W) (d0 := y2.1) (p := y2.2) OutC (by omega) Try.underlying24 (by kernel_rfl) (fun fuel cs x h => out_cells h) ⟨n2, h2'⟩
  refine ⟨hl, ⟨ve, is, os, lo⟩, _, _, ?_, hi, ho⟩
  have q1 := parts3 cs 1 1 2 (by omega)
  have q2 := parts2 ((cs.drop 2).take 2) 1 1 (by simp; omega)
  have a0 : (cs.drop 0).take 1 = [u32 ve] := e0
  have b2 : (((cs.drop 2).take 2).drop 0).take 1 = [.slice a2 l2 c2] := by rw [List.drop_zero, List.take_take]; exact e2'
  have b3 : (((cs.drop 2).take 2).drop 1).take 1 = [u32 lo] := by rw [List.drop_take, List.drop_drop, List.take_take]; exact e3
  rw [b2, b3] at q2
  rw [a0, e1', q2] at q1
  rw [q1]
  simp
theorem open_tx {H : Type} {enc : TypeId × Value → H} {W : World} {cs : Array Value} {d0 : DataW H} {p : List MemPlace} (h0 : DataW.Trod enc Try.prog W 0 (fun _ => true) true 26 (.agg cs) d0 p) : ∃ t, TxC W t cs.toList := by
  obtain ⟨fuel, hf⟩ := h0
  exact (tx_cells hf).2
end Go.Proofs.Ythglocpbdfcfnaa
