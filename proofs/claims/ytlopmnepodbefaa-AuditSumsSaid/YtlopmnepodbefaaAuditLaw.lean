/- sporranlaw24.AuditSums: a slice of coins read as data; the walk. -/
import Derived.Test.YtlopmnepodbefaaAudit
import Derived.Test.YtlopmnepodbefaaRow
namespace Go.Proofs.Ytlopmnepodbefaa
open Go.RowKit Go.ChangeShapes Go.WideShapes

section
variable {H : Type} {enc : TypeId × Value → H} {P : Program} {w : World} {base : Nat} {spare : Nat → Bool} {held : Bool}
/-- a struct's field, read as data -/
theorem trod_field {t : TypeId} {fs : Array Field} {fuel : Nat} {cs : List Value} {x : DataW H × List MemPlace} (ht : P.underlying t = some (.struct fs)) (h : DataW.trod enc P w base spare held fuel t cs = some x) (i : Nat) (f : Field) (hf : fs[i]? = some f) (s : Nat) (hs : P.cellsOf f.type = s) :
    ∃ n y, DataW.trod enc P w base spare held n f.type ((cs.drop f.offset).take s) = some y := by
  obtain ⟨xs, n, _, _, _, hxl, hi⟩ := DataW.trod_struct ht h
  have h1 := hi i f hf
  rw [hs] at h1
  have hlt : i < xs.length := by rw [hxl]; exact (Array.getElem?_eq_some_iff.1 hf).1
  exact ⟨n, _, h1.trans (List.getElem?_eq_getElem hlt)⟩
end

theorem hash_cells : Try.prog.cellsOf 46 = 32 := by kernel_rfl
theorem byte_cells : Try.prog.cellsOf 5 = 1 := by kernel_rfl

/-- a coin's cells -/
theorem coin_cells {H : Type} {enc : TypeId × Value → H} {w : World} {base : Nat} {spare : Nat → Bool} {held : Bool} {fuel : Nat} {cs : List Value} {x : DataW H × List MemPlace} (h : DataW.trod enc Try.prog w base spare held fuel 53 cs = some x) :
    cs.length = 36 ∧ ∃ v : Int, cs[33]? = some (.int .i64 v) ∧ -9223372036854775808 ≤ v ∧ v ≤ 9223372036854775807 ∧ ∀ u ∈ cs, u.oneCell' = true := by
  have hl : cs.length = 36 := by
    obtain ⟨_, _, _, _, hl, _⟩ := DataW.trod_struct Try.underlying53 h
    rw [hl]; kernel_rfl
  obtain ⟨n0, y0, h0⟩ := trod_field Try.underlying53 h 0 _ rfl 33 (by kernel_rfl)
  obtain ⟨n1, y1, h1⟩ := trod_field Try.underlying53 h 1 _ rfl 2 (by kernel_rfl)
  obtain ⟨n2, y2, h2⟩ := trod_field Try.underlying53 h 2 _ rfl 1 (by kernel_rfl)
  obtain ⟨n3, y3, h3⟩ := trod_field Try.underlying49 h0 0 _ rfl 32 (by kernel_rfl)
  obtain ⟨n4, y4, h4⟩ := trod_field Try.underlying49 h0 1 _ rfl 1 (by kernel_rfl)
  obtain ⟨n5, y5, h5⟩ := trod_field Try.underlying51 h1 0 _ rfl 1 (by kernel_rfl)
  obtain ⟨n6, y6, h6⟩ := trod_field Try.underlying51 h1 1 _ rfl 1 (by kernel_rfl)
  obtain ⟨bs, hbl, hbs⟩ := trod_bytes Try.underlying46 Try.underlying5 hash_cells byte_cells h3
  obtain ⟨i4, hi4, _⟩ := DataW.trod_int Try.underlying47 h4
  obtain ⟨i5, hi5, _, hw5⟩ := DataW.trod_int Try.underlying2 h5
  obtain ⟨i2, hi2, _⟩ := DataW.trod_int Try.underlying3 h2
  have hs6 : ∃ s : Value, s.oneCell' = true ∧ ((((cs.drop 33).take 2).drop 1).take 1) = [s] := by
    rcases DataW.trod_slice Try.underlying30 h6 with ⟨e, _⟩ | ⟨a, len, cap, el, re, m, _, e, _⟩
    · exact ⟨_, rfl, e⟩
    · exact ⟨_, rfl, e⟩
  obtain ⟨s6, hs61, hs62⟩ := hs6
  have hall : cs = bs.map u8 ++ ([.int .u32 i4] ++ ([.int .i64 i5] ++ ([s6] ++ [.int .i64 i2]))) := by
    have p := parts3 cs 33 2 1 hl
    have q := parts2 ((cs.drop 0).take 33) 32 1 (by simp; omega)
    have r := parts2 ((cs.drop 33).take 2) 1 1 (by simp; omega)
    have e3 : (List.drop 0 (List.take 33 (List.drop 0 cs))).take 32 = bs.map u8 := hbs
    have e4 : (List.drop 32 (List.take 33 (List.drop 0 cs))).take 1 = [.int .u32 i4] := hi4
    have e5 : (List.drop 0 (List.take 2 (List.drop 33 cs))).take 1 = [.int .i64 i5] := hi5
    have e2 : (List.drop (33 + 2) cs).take 1 = [.int .i64 i2] := hi2
    rw [e3, e4] at q
    rw [e5, hs62] at r
    rw [q, r, e2] at p
    simpa using p
  have hb5 : -9223372036854775808 ≤ i5 ∧ i5 ≤ 9223372036854775807 := by simpa [Lit.wf, IntKind.min, IntKind.max, IntKind.signed, IntKind.bits] using hw5
  refine ⟨hl, i5, ?_, hb5.1, hb5.2, ?_⟩
  · rw [hall, List.getElem?_append_right (by simp [hbl])]
    simp [hbl]
  · intro u hu
    rw [hall] at hu
    simp only [List.mem_append, List.mem_singleton] at hu
    rcases hu with hu | rfl | rfl | rfl | rfl
    · exact map_u8_one _ u hu
    · rfl
    · rfl
    · exact hs61
    · rfl

theorem open_coins {H : Type} {enc : TypeId × Value → H} {W : World} {a0 : Option Addr} {len cap : Nat} {d0 : DataW H} {p : List MemPlace}
    (h0 : DataW.Trod enc Try.prog W 0 (fun _ => true) true 22 (.slice a0 len cap) d0 p) :
    ∃ vals : Nat → Int, Coins W a0 len vals ∧ (∀ k, k < len → -9223372036854775808 ≤ vals k ∧ vals k ≤ 9223372036854775807) ∧ len ≤ cap ∧ cap ≤ maxLen := by
  obtain ⟨fuel, hf⟩ := h0
  rcases Go.Deep.open_slice Try.underlying22 hf with ⟨hcs, hx⟩ | ⟨a, l, c, m, n, D, Pl, hcs, hb, hl, hm, hmm, hx, hi⟩
  · simp [Value.cells] at hcs
    obtain ⟨rfl, rfl, rfl⟩ := hcs
    exact ⟨fun _ => 0, fun h => absurd h (by omega), fun k hk => absurd hk (by omega), by omega, by unfold maxLen; omega⟩
  · simp [Value.cells] at hcs
    obtain ⟨rfl, rfl, rfl⟩ := hcs
    simp only [if_true] at hmm
    subst hmm
    have hC : Try.prog.cellsOf 53 = 36 := by kernel_rfl
    rw [hC] at hi
    have key : ∀ k, k < len → ∃ v : Int, (-9223372036854775808 ≤ v ∧ v ≤ 9223372036854775807) ∧ ∃ cs : List Value, cs.length = 36 ∧ cs[33]? = some (.int .i64 v) ∧ (∀ u ∈ cs, u.oneCell' = true) ∧ ∀ j, j < 36 → W.cell? ((a.add (k * 36)).add j) = cs[j]? := by
      intro k hk
      obtain ⟨cs, hc, ht⟩ := hi k (by omega)
      obtain ⟨_, hcl, hat⟩ := World.cells?_some hc
      obtain ⟨h1, v, h2, h3, h4, h5⟩ := coin_cells ht
      exact ⟨v, ⟨h3, h4⟩, cs, h1, h2, h5, hat⟩
    refine ⟨fun k => if h : k < len then (key k h).choose else 0, fun hpos => ?_, fun k hk => ?_, hl, hm⟩
    · obtain ⟨b, off, spot⟩ := a
      have hspot : spot = none := by
        obtain ⟨v, _, cs, hcl, _, _, hat⟩ := key 0 hpos
        have h1 := hat 0 (by omega)
        rw [List.getElem?_eq_getElem (by omega)] at h1
        have := World.cell?_spot h1
        simpa [Addr.add] using this
      subst hspot
      refine ⟨b, off, rfl, ?_, fun k hk => ?_⟩
      · obtain ⟨v, _, cs, hcl, _, _, hat⟩ := key 0 hpos
        have h1 := hat 0 (by omega)
        rw [List.getElem?_eq_getElem (by omega)] at h1
        simpa [Addr.add] using block_lt_of_cell h1
      · simp only [dif_pos hk]
        obtain ⟨_, cs, h1, h2, h3, h4⟩ := (key k hk).choose_spec
        refine ⟨cs, h1, h2, h3, fun j v hj => ?_⟩
        have hj36 : j < 36 := by
          rcases Nat.lt_or_ge j 36 with h | h
          · exact h
          · rw [List.getElem?_eq_none (by omega)] at hj; cases hj
        have := h4 j hj36
        rw [Addr.add_lit, Addr.add_lit] at this
        exact this.trans hj
    · simp only [dif_pos hk]
      exact (key k hk).choose_spec.1

set_option maxRecDepth 100000 in
theorem auditSums_walk (p : Option Addr) (n c : Nat) (vals : Nat → Int) (w : World) (hr : Coins w p n vals) (hv : ∀ k, k < n → -9223372036854775808 ≤ vals k ∧ vals k ≤ 9223372036854775807) (hl : n ≤ c) (hm : c ≤ maxLen) :
    Calls Try.prog 3 #[.slice p n c] w fun e w' => e = .returned (.bool true) ∧ Below w.heap.size w w' := by
  unfold maxLen at hm
  go_enter Try.func3, Try.ntmps3
  go_wp2_with fail
  refine (sum_coins p n c vals _ hr hv (by omega)).mono ?_
  rintro e w1 ⟨rfl, hb1⟩
  have hr1 : Coins w1 p n vals := fun h => by
    obtain ⟨b, off, rfl, hb, hall⟩ := hr h
    refine ⟨b, off, rfl, Nat.lt_of_lt_of_le hb hb1.size, fun k hk => ?_⟩
    obtain ⟨cs, h1, h2, h3, h4⟩ := hall k hk
    exact ⟨cs, h1, h2, h3, fun j v hj => (hb1.cell (p := ⟨b, off + k * 36 + j, none⟩) hb).trans (h4 j v hj)⟩
  obtain ⟨r, ok, hrs⟩ : ∃ (r : Int) (ok : Bool), sumRes (sumTo vals n) = .tuple #[.int .i64 r, .bool ok] := by
    cases sumTo vals n with
    | none => exact ⟨_, _, rfl⟩
    | some s => exact ⟨_, _, rfl⟩
  rw [hrs]
  go_wp2_with fail
  refine (refSum_coins p n c vals _ hr1 hv (by omega)).mono ?_
  rintro e w2 ⟨rfl, hb2⟩
  have hb12 := hb1.trans (hb2.mono hb1.size)
  rw [hrs]
  clear hrs hr1 hr
  go_wp2_with fail
  refine (sum_coins none 0 0 (fun _ => 0) _ (fun h => absurd h (by omega)) (fun k hk => absurd hk (by omega)) (by omega)).mono ?_
  rintro e w3 ⟨rfl, hb3⟩
  have hb := hb12.trans (hb3.mono hb12.size)
  clear hb1 hb2 hb12 hb3 hv
  have e0 : sumRes (sumTo (fun _ => 0) 0) = .tuple #[.int .i64 0, .bool true] := rfl
  rw [e0]
  go_wp2
  go_ret
  exact ⟨rfl, hb⟩
end Go.Proofs.Ytlopmnepodbefaa
