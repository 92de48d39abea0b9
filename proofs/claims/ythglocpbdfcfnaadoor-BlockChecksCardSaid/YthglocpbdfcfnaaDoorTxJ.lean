/- A transaction read as data, with the sizes of its parts. -/
import Derived.Test.YthglocpbdfcfnaaDoorGD
namespace Go.Proofs.YthglocpbdfcfnaaDoor
open Go Go.ChangeShapes Go.WideShapes Go.ChangeAt Go.RowKit
set_option linter.unusedVariables false

def maxB : Nat := 140737488351232
/-- all of a value's slices are of that many bytes at most -/
def Wts {H : Type} (t : TypeId) (d : DataW H) : Prop := ∀ m ∈ d.weights Tryd.prog t, m ≤ maxB
theorem choose_below {α : Type} [Inhabited α] {p : Nat → α → Prop} {n : Nat} (h : ∀ i, i < n → ∃ a, p i a) : ∃ f : Nat → α, ∀ i, i < n → p i (f i) :=
  ⟨fun i => if hi : i < n then (h i hi).choose else default, fun i hi => by simp only [dif_pos hi]; exact (h i hi).choose_spec⟩
theorem wts_elem {H : Type} (P : Program) (e : TypeId) : ∀ (l : List (DataW H)) (d : DataW H), d ∈ l → ∀ m ∈ d.weights P e, m ∈ DataW.weightsAll P e l
  | [], d, h, m, hm => by cases h
  | x :: l, d, h, m, hm => by
    simp only [DataW.weightsAll, List.mem_append]
    rcases List.mem_cons.1 h with rfl | h
    · exact .inl hm
    · exact .inr (wts_elem P e l d h m hm)
theorem wts_slice {H : Type} {t e : TypeId} {els sp : List (DataW H)} (ht : Tryd.prog.underlying t = some (.slice e)) (h : Wts t (.slice els sp)) : (els.length + sp.length) * Tryd.prog.bytesOf e ≤ maxB ∧ ∀ d ∈ els, Wts e d := by
  unfold Wts at h
  simp only [DataW.weights, ht] at h
  refine ⟨h _ (List.mem_cons_self ..), fun d hd m hm => h m ?_⟩
  exact List.mem_cons_of_mem _ (List.mem_append_left _ (wts_elem _ _ _ _ hd m hm))
theorem wts_field {H : Type} {t : TypeId} {fs : Array Field} {parts : List (DataW H)} (ht : Tryd.prog.underlying t = some (.struct fs)) (h : Wts t (.agg parts)) {i : Nat} {f : Field} {d : DataW H} (hf : fs[i]? = some f) (hd : parts[i]? = some d) : Wts f.type d := by
  unfold Wts at h
  simp only [DataW.weights, ht] at h
  intro m hm
  refine h m (DataW.weights_mem_each (j := i) ?_ hd m hm)
  rw [List.getElem?_map, Array.getElem?_toList, hf]
  rfl
/-- a struct's field, read as data, with its sizes -/
theorem trod_fieldW {H : Type} {enc : TypeId × Value → H} {w : World} {t : TypeId} {fs : Array Field} {fuel : Nat} {cs : List Value} {x : DataW H × List MemPlace} (ht : Tryd.prog.underlying t = some (.struct fs)) (h : DataW.trod enc Tryd.prog w 0 (fun _ => true) true fuel t cs = some x) (hw : Wts t x.1) (i : Nat) (f : Field) (hf : fs[i]? = some f) (s : Nat) (hs : Tryd.prog.cellsOf f.type = s) :
    ∃ n y, DataW.trod enc Tryd.prog w 0 (fun _ => true) true n f.type ((cs.drop f.offset).take s) = some y ∧ Wts f.type y.1 := by
  obtain ⟨xs, n, _, hx, _, hxl, hi⟩ := DataW.trod_struct ht h
  have h1 := hi i f hf
  rw [hs] at h1
  have hlt : i < xs.length := by rw [hxl]; exact (Array.getElem?_eq_some_iff.1 hf).1
  refine ⟨n, _, h1.trans (List.getElem?_eq_getElem hlt), ?_⟩
  rw [hx] at hw
  exact wts_field ht hw hf (by rw [List.getElem?_map, List.getElem?_eq_getElem hlt]; rfl)
/-- a slice, read as data: rows of elements, with their sizes -/
theorem open_rowsW {H : Type} {enc : TypeId × Value → H} {W : World} {t e : TypeId} {n : Nat} {α : Type} [Inhabited α] (E : World → α → List Value → Prop) (Z : α → Prop) (hn0 : 0 < n)
    (ht : Tryd.prog.underlying t = some (.slice e)) (hc : Tryd.prog.cellsOf e = n)
    (hel : ∀ (fuel : Nat) (cs : List Value) (x : DataW H × List MemPlace), DataW.trod enc Tryd.prog W 0 (fun _ => true) true fuel e cs = some x → Wts e x.1 → cs.length = n ∧ ∃ y, E W y cs ∧ Z y)
    {fuel : Nat} {cs : List Value} {x : DataW H × List MemPlace} (h0 : DataW.trod enc Tryd.prog W 0 (fun _ => true) true fuel t cs = some x) (hw : Wts t x.1) :
    ∃ v, ∃ ys : List α, cs = [v] ∧ ESl E n W v ys ∧ ys.length * Tryd.prog.bytesOf e ≤ maxB ∧ ∀ y ∈ ys, Z y := by
  rcases Go.Deep.open_slice ht h0 with ⟨hcs, hx⟩ | ⟨a, l, c, m, k, D, Pl, hcs, hb, hl, hm, hmm, hx, hi⟩
  · exact ⟨_, [], hcs, ⟨none, 0, 0, rfl, rfl, Nat.le_refl _, by unfold maxLen; omega, fun h => absurd rfl h, fun _ => rfl⟩, by simp, fun y hy => by cases hy⟩
  · simp only [if_true] at hmm
    subst hmm
    rw [hc] at hi
    rw [hx] at hw
    obtain ⟨hsz, hw'⟩ := wts_slice ht hw
    simp only [List.length_map, List.length_range] at hsz
    have key : ∀ k, k < l → ∃ y : α, (∃ cs, E W y cs ∧ cs.length = n ∧ ∀ j, j < n → W.cell? ((a.add (k * n)).add j) = cs[j]?) ∧ Z y := by
      intro k hk
      obtain ⟨cs, hcs, ht⟩ := hi k (by omega)
      obtain ⟨_, hcl, hat⟩ := World.cells?_some hcs
      obtain ⟨hln, y, hE, hZ⟩ := hel _ _ _ ht (hw' _ (List.mem_map.2 ⟨k, List.mem_range.2 hk, rfl⟩))
      exact ⟨y, ⟨cs, hE, hln, hat⟩, hZ⟩
    obtain ⟨f, hf⟩ := choose_below key
    refine ⟨_, (List.range l).map f, hcs, ⟨some a, l, _, rfl, by simp, hl, hm, fun hne => ?_, fun h => by cases h⟩, ?_, fun y hy => ?_⟩
    · have hpos : 0 < l := by
        rcases Nat.eq_zero_or_pos l with h | h
        · subst h; simp at hne
        · exact h
      obtain ⟨b, off, spot⟩ := a
      obtain ⟨⟨cs0, _, hl0, h00⟩, _⟩ := hf 0 hpos
      have h01 := h00 0 hn0
      rw [List.getElem?_eq_getElem (by rw [hl0]; exact hn0)] at h01
      have hspot : spot = none := by
        have := World.cell?_spot h01
        simpa [Addr.add] using this
      subst hspot
      refine ⟨b, off, rfl, by simpa [Addr.add] using block_lt_of_cell h01, fun i y hic => ?_⟩
      have hil : i < l := by
        rcases Nat.lt_or_ge i l with h | h
        · exact h
        · rw [List.getElem?_eq_none (by simpa using h)] at hic; cases hic
      rw [List.getElem?_map, List.getElem?_range hil] at hic
      simp only [Option.map_some, Option.some.injEq] at hic
      subst hic
      obtain ⟨⟨cs, hE, hln, hat⟩, _⟩ := hf i hil
      refine ⟨cs, hE, fun j v hj => ?_⟩
      have hjn : j < n := by
        rcases Nat.lt_or_ge j n with h | h
        · exact h
        · rw [List.getElem?_eq_none (by rw [hln]; exact h)] at hj; cases hj
      have := hat j hjn
      rw [Addr.add_lit, Addr.add_lit] at this
      exact this.trans hj
    · rw [List.length_map, List.length_range]
      exact Nat.le_trans (Nat.mul_le_mul_right _ (by omega)) hsz
    · obtain ⟨k, hk, rfl⟩ := List.mem_map.1 hy
      exact (hf k (List.mem_range.1 hk)).2
theorem bytes_cellW {H : Type} {enc : TypeId × Value → H} {W : World} {fuel : Nat} {cs : List Value} {x : DataW H × List MemPlace} (h : DataW.trod enc Tryd.prog W 0 (fun _ => true) true fuel 38 cs = some x) (hw : Wts 38 x.1) : ∃ v bs, cs = [v] ∧ Sl W v bs ∧ bs.length ≤ maxB := by
  have hv : ∃ a len cap, cs = [.slice a len cap] := by
    rcases open_ints Tryd.underlying38 Tryd.underlying5 (by kernel_rfl) h with ⟨hcs, _⟩ | ⟨a, len', cap', zs, hcs, _⟩
    · exact ⟨_, _, _, hcs⟩
    · exact ⟨_, _, _, hcs⟩
  obtain ⟨a, len, cap, rfl⟩ := hv
  obtain ⟨bs, q1, q2, q3, q4, q5, q6⟩ := open_bytes (enc := enc) (W := W) (d0 := x.1) (p := x.2) Tryd.underlying38 Tryd.underlying5 (by kernel_rfl) ⟨fuel, h⟩
  refine ⟨_, bs, rfl, ⟨a, len, cap, rfl, q1, q2, q3, q4, q5⟩, ?_⟩
  rcases q6 with h0 | ⟨els, sp, hd, he⟩
  · omega
  · rw [hd] at hw
    have h2 := (wts_slice Tryd.underlying38 hw).1
    rw [show Tryd.prog.bytesOf 5 = 1 from by kernel_rfl] at h2
    omega
/-- the sizes of an input's parts, of an output's, of a transaction's -/
def InZ (x : TIn) : Prop := x.sc.length ≤ maxB ∧ x.wi.length * 24 ≤ maxB ∧ ∀ y ∈ x.wi, y.length ≤ maxB
def OutZ (x : TOut) : Prop := x.sc.length ≤ maxB
def TxSz (t : TTx) : Prop := t.is.length * 96 ≤ maxB ∧ t.os.length * 32 ≤ maxB ∧ (∀ x ∈ t.is, InZ x) ∧ ∀ x ∈ t.os, OutZ x
instance : Inhabited TIn := ⟨⟨[], 0#32, [], 0#32, []⟩⟩
instance : Inhabited TOut := ⟨⟨0#64, []⟩⟩
instance : Inhabited TTx := ⟨⟨0#32, [], [], 0#32⟩⟩
theorem in_cellsW {H : Type} {enc : TypeId × Value → H} {W : World} {fuel : Nat} {cs : List Value} {x : DataW H × List MemPlace} (h : DataW.trod enc Tryd.prog W 0 (fun _ => true) true fuel 40 cs = some x) (hw : Wts 40 x.1) : cs.length = 36 ∧ ∃ y, InC W y cs ∧ InZ y := by
  have hl : cs.length = 36 := by rw [trod_len Tryd.underlying40 h]; kernel_rfl
  obtain ⟨n0, y0, h0⟩ := trod_fieldH Tryd.underlying40 h 0 _ rfl 33 (by kernel_rfl)
  obtain ⟨n1, y1, h1, w1⟩ := trod_fieldW Tryd.underlying40 h hw 1 _ rfl 1 (by kernel_rfl)
  obtain ⟨n2, y2, h2⟩ := trod_fieldH Tryd.underlying40 h 2 _ rfl 1 (by kernel_rfl)
  obtain ⟨n3, y3, h3, w3⟩ := trod_fieldW Tryd.underlying40 h hw 3 _ rfl 1 (by kernel_rfl)
  obtain ⟨id, ix, hid, e0⟩ := point_cells h0
  obtain ⟨sv, bs, e1, hs, hsb⟩ := bytes_cellW h1 w1
  obtain ⟨i2, e2, _, w2⟩ := DataW.trod_int Tryd.underlying22 h2
  obtain ⟨wv, ls, e3, hw', hwb, hwz⟩ := open_rowsW (n := 1) TextC (fun y : Bs => y.length ≤ maxB) (by omega) Tryd.underlying27 (by kernel_rfl) (fun fuel cs x h hw => by
    obtain ⟨v, bs, rfl, hs, hb⟩ := bytes_cellW h hw
    exact ⟨rfl, bs, ⟨v, rfl, hs⟩, hb⟩) h3 w3
  obtain ⟨sq, rfl⟩ := of32 i2 w2
  rw [show Tryd.prog.bytesOf 38 = 24 from by kernel_rfl] at hwb
  refine ⟨hl, ⟨id, ix, bs, sq, ls⟩, ⟨sv, wv, ?_, hid, hs, hw'⟩, hsb, hwb, hwz⟩
  have q1 := parts3 cs 33 1 2 (by omega)
  have q2 := parts2 ((cs.drop 34).take 2) 1 1 (by simp; omega)
  have a0 : (cs.drop 0).take 33 = hCells id ++ [u32 ix] := e0
  have a1 : (cs.drop 33).take 1 = [sv] := e1
  have a2 : (((cs.drop 34).take 2).drop 0).take 1 = [u32 sq] := by rw [List.drop_zero, List.take_take]; exact e2
  have a3 : (((cs.drop 34).take 2).drop 1).take 1 = [wv] := by rw [List.drop_take, List.drop_drop, List.take_take]; exact e3
  rw [a2, a3] at q2
  rw [a0, a1, q2] at q1
  rw [q1]
  simp
theorem out_cellsW {H : Type} {enc : TypeId × Value → H} {W : World} {fuel : Nat} {cs : List Value} {x : DataW H × List MemPlace} (h : DataW.trod enc Tryd.prog W 0 (fun _ => true) true fuel 62 cs = some x) (hw : Wts 62 x.1) : cs.length = 2 ∧ ∃ y, OutC W y cs ∧ OutZ y := by
  have hl : cs.length = 2 := by rw [trod_len Tryd.underlying62 h]; kernel_rfl
  obtain ⟨n0, y0, h0⟩ := trod_fieldH Tryd.underlying62 h 0 _ rfl 1 (by kernel_rfl)
  obtain ⟨n1, y1, h1, w1⟩ := trod_fieldW Tryd.underlying62 h hw 1 _ rfl 1 (by kernel_rfl)
  obtain ⟨i0, e0, _, w0⟩ := DataW.trod_int Tryd.underlying2 h0
  obtain ⟨sv, bs, e1, hs, hsb⟩ := bytes_cellW h1 w1
  have hb : -9223372036854775808 ≤ i0 ∧ i0 ≤ 9223372036854775807 := by simpa [Lit.wf, IntKind.min, IntKind.max, IntKind.signed, IntKind.bits] using w0
  have hi : (BitVec.ofInt 64 i0).toInt = i0 := by rw [BitVec.toInt_ofInt, Int.bmod_eq_of_le (by simp; omega) (by simp; omega)]
  refine ⟨hl, ⟨BitVec.ofInt 64 i0, bs⟩, ⟨sv, ?_, hs⟩, hsb⟩
  have q := parts2 cs 1 1 (by omega)
  have a0 : (cs.drop 0).take 1 = [.int .i64 i0] := e0
  have a1 : (cs.drop 1).take 1 = [sv] := e1
  rw [a0, a1] at q
  rw [q]
  simp [hi]
theorem tx_cellsW {H : Type} {enc : TypeId × Value → H} {W : World} {fuel : Nat} {cs : List Value} {x : DataW H × List MemPlace} (h : DataW.trod enc Tryd.prog W 0 (fun _ => true) true fuel 26 cs = some x) (hw : Wts 26 x.1) : cs.length = 4 ∧ ∃ t, TxC W t cs ∧ TxSz t := by
  have hl : cs.length = 4 := by rw [trod_len Tryd.underlying26 h]; kernel_rfl
  obtain ⟨n0, y0, h0⟩ := trod_fieldH Tryd.underlying26 h 0 _ rfl 1 (by kernel_rfl)
  obtain ⟨n1, y1, h1, w1⟩ := trod_fieldW Tryd.underlying26 h hw 1 _ rfl 1 (by kernel_rfl)
  obtain ⟨n2, y2, h2, w2⟩ := trod_fieldW Tryd.underlying26 h hw 2 _ rfl 1 (by kernel_rfl)
  obtain ⟨n3, y3, h3⟩ := trod_fieldH Tryd.underlying26 h 3 _ rfl 1 (by kernel_rfl)
  obtain ⟨i0, e0, _, w0⟩ := DataW.trod_int Tryd.underlying22 h0
  obtain ⟨i3, e3, _, w3⟩ := DataW.trod_int Tryd.underlying22 h3
  obtain ⟨v1, is, e1, hi, hib, hiz⟩ := open_rowsW (n := 36) InC InZ (by omega) Tryd.underlying23 (by kernel_rfl) (fun fuel cs x h hw => in_cellsW h hw) h1 w1
  obtain ⟨v2, os, e2, ho, hob, hoz⟩ := open_rowsW (n := 2) OutC OutZ (by omega) Tryd.underlying24 (by kernel_rfl) (fun fuel cs x h hw => out_cellsW h hw) h2 w2
  obtain ⟨ve, rfl⟩ := of32 i0 w0
  obtain ⟨lo, rfl⟩ := of32 i3 w3
  rw [show Tryd.prog.bytesOf 40 = 96 from by kernel_rfl] at hib
  rw [show Tryd.prog.bytesOf 62 = 32 from by kernel_rfl] at hob
  refine ⟨hl, ⟨ve, is, os, lo⟩, ⟨v1, v2, ?_, hi, ho⟩, hib, hob, hiz, hoz⟩
  have q1 := parts3 cs 1 1 2 (by omega)
  have q2 := parts2 ((cs.drop 2).take 2) 1 1 (by simp; omega)
  have a0 : (cs.drop 0).take 1 = [u32 ve] := e0
  have e1' : (cs.drop 1).take 1 = [v1] := e1
  have e2' : (cs.drop 2).take 1 = [v2] := e2
  have b2 : (((cs.drop 2).take 2).drop 0).take 1 = [v2] := by rw [List.drop_zero, List.take_take]; exact e2'
  have b3 : (((cs.drop 2).take 2).drop 1).take 1 = [u32 lo] := by rw [List.drop_take, List.drop_drop, List.take_take]; exact e3
  rw [b2, b3] at q2
  rw [a0, e1', q2] at q1
  rw [q1]
  simp
theorem open_txW {H : Type} {enc : TypeId × Value → H} {W : World} {cs : Array Value} {d0 : DataW H} {p : List MemPlace} (h0 : DataW.Trod enc Tryd.prog W 0 (fun _ => true) true 26 (.agg cs) d0 p) (hw : Wts 26 d0) : ∃ t, TxC W t cs.toList ∧ TxSz t := by
  obtain ⟨fuel, hf⟩ := h0
  exact (tx_cellsW hf hw).2
/-- out of the row's premise on sizes -/
theorem wts_arg {H : Type} {ts : List TypeId} {ds : List (DataW H)} (h : (DataW.weightsEach Tryd.prog ts ds).all (· ≤ reachBytes) = true) {j : Nat} {t : TypeId} {d : DataW H} (ht : ts[j]? = some t) (hd : ds[j]? = some d) : Wts t d := fun m hm => by
  have := List.all_eq_true.1 h _ (DataW.weights_mem_each ht hd m hm)
  have h2 := of_decide_eq_true this
  simpa [reachBytes, maxB] using h2
end Go.Proofs.YthglocpbdfcfnaaDoor
