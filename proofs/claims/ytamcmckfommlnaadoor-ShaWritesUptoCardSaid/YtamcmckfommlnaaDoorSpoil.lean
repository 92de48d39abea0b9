/- Rows of bytes of one's own that may be written; sporranplain.Spoil: the walk. -/
import Derived.Test.YtamcmckfommlnaaDoorAppend
namespace Go.Proofs.YtamcmckfommlnaaDoor
open Go.RowKit

/-- a row of one's own that may be written: its cells are bytes -/
def Mine (w : World) (B : Nat) (p : Option Addr) (m : Nat) : Prop :=
  m = 0 ∨ ∃ g o cs, p = some ⟨g, o, none⟩ ∧ B ≤ g ∧ Blk w g 5 cs ∧ ∀ i, i < m → ∃ b : BitVec 8, cs[o + i]? = some (u8 b)
theorem Mine.of {w : World} {B : Nat} {v : Value} {bs : List (BitVec 8)} (h : Own8 w B v bs) : ∃ p c, v = .slice p bs.length c ∧ bs.length ≤ c ∧ c ≤ maxLen ∧ Row8 w p bs ∧ Mine w B p bs.length := by
  obtain ⟨p, c, hv, h1, h2, h3⟩ := h.row
  refine ⟨p, c, hv, h1, h2, h3, ?_⟩
  rcases h.2 with ⟨he, h0⟩ | ⟨g, cap, cur, he, hB, hg, _, _, hs, ht⟩
  · exact .inl h0
  · rw [hv] at he
    injection he with e1 _ _
    refine .inr ⟨g, 0, cur, e1, hB, hg, fun i hi => ?_⟩
    have hi' : i < (bs.map u8).length := by simpa using hi
    have h4 := congrArg (·[i]?) ht
    simp only [List.getElem?_take, List.getElem?_map, Nat.mul_one] at h4
    rw [if_pos hi, Array.getElem?_toList] at h4
    exact ⟨bs[i], by rw [Nat.zero_add, h4, List.getElem?_eq_getElem hi]; rfl⟩
section
variable {w w' : World} {B m : Nat} {p : Option Addr}
theorem Mine.below {B' : Nat} (h : Mine w B p m) (hb : Below B' w w') (hB : w.heap.size ≤ B') : Mine w' B p m := by
  rcases h with h | ⟨g, o, cs, h1, h2, h3, h4⟩
  · exact .inl h
  · exact .inr ⟨g, o, cs, h1, h2, h3.below hb (Nat.lt_of_lt_of_le h3.lt hB), h4⟩
theorem Mine.kept {H : Nat} (h : Mine w B p m) (hg : w.grownBy w' (some H)) (hH : H < B) : Mine w' B p m := by
  rcases h with h | ⟨g, o, cs, h1, h2, h3, h4⟩
  · exact .inl h
  · refine .inr ⟨g, o, cs, h1, h2, (hg.block g h3.lt (by intro e; injection e with e; omega)).trans h3, h4⟩
theorem Mine.mono {B' : Nat} (h : Mine w B p m) (hB : B' ≤ B) : Mine w B' p m := by
  rcases h with h | ⟨g, o, cs, h1, h2, h3, h4⟩
  · exact .inl h
  · exact .inr ⟨g, o, cs, h1, Nat.le_trans hB h2, h3, h4⟩
/-- a byte written into a row of bytes -/
theorem Mine.poke {g j : Nat} {cs : Array Value} (h : Mine w B p m) (hk : Blk w g 5 cs) (b : BitVec 8) : Mine (w.setCell ⟨g, j, none⟩ (u8 b)) B p m := by
  rcases h with h | ⟨g', o, cs', h1, h2, h3, h4⟩
  · exact .inl h
  · by_cases e : g' = g
    · subst e
      obtain rfl : cs' = cs := by
        have := h3.symm.trans hk
        injection this with this; injection this
      refine .inr ⟨g', o, _, h1, h2, h3.set j _, fun i hi => ?_⟩
      obtain ⟨b', hb'⟩ := h4 i hi
      by_cases e2 : j = o + i
      · subst e2
        obtain ⟨hsz, _⟩ := Array.getElem?_eq_some_iff.1 hb'
        exact ⟨b, by rw [Array.getElem?_setIfInBounds, if_pos rfl, if_pos hsz]⟩
      · exact ⟨b', by rw [Array.getElem?_setIfInBounds, if_neg e2]; exact hb'⟩
    · exact .inr ⟨g', o, cs', h1, h2, h3.far (by exact e) _, h4⟩
end
/-- from p on lie len slices over rows of one's own that may be written -/
def MineRows (w : World) (B : Nat) (p : Option Addr) (len : Nat) : Prop :=
  len = 0 ∨ ∃ b o, p = some ⟨b, o, none⟩ ∧ b < w.heap.size ∧ ∀ i, i < len → ∃ q m c, w.cell? ⟨b, o + i, none⟩ = some (.slice q m c) ∧ m ≤ c ∧ c ≤ 9223372036854775807 ∧ Mine w B q m ∧ (m ≠ 0 → ∀ a, q = some a → a.block ≠ b)
theorem MineRows.poke {w : World} {B len g j : Nat} {p : Option Addr} {cs : Array Value} (h : MineRows w B p len) (hk : Blk w g 5 cs) (hg : ∀ a, p = some a → g ≠ a.block) (b : BitVec 8) : MineRows (w.setCell ⟨g, j, none⟩ (u8 b)) B p len := by
  rcases h with h | ⟨b', o, rfl, h2, h3⟩
  · exact .inl h
  · refine .inr ⟨b', o, rfl, by simpa [World.setCell] using h2, fun i hi => ?_⟩
    obtain ⟨q, m, c, h4, h5, h6, h7, h8⟩ := h3 i hi
    have hne : b' ≠ g := fun e => hg _ rfl e.symm
    exact ⟨q, m, c, (World.cell?_of_block (a := ⟨b', o + i, none⟩) (Below.heap_setCell w ⟨g, j, none⟩ (u8 b) b' hne)).trans h4, h5, h6, h7.poke hk b, h8⟩

set_option maxRecDepth 100000 in
set_option maxHeartbeats 4000000 in
theorem spoil_any (B : Nat) (p : Option Addr) (len c : Nat) (w : World) (hlc : len ≤ c) (hcm : c ≤ 9223372036854775807) (hm : MineRows w B p len) :
    Calls Tryd.prog 16 #[.slice p len c] w fun e w' => e = .returned (.tuple #[]) ∧ Below B w w' := by
  have HM := Lib.hid hm
  clear hm
  go_enter Tryd.func16, Tryd.ntmps16
  go_wp2
  go_loopw [7] (fun i wr => ∃ k : Nat, k ≤ len ∧ i = .int .i64 k ∧ Hid (MineRows wr B p len) ∧ Below B w wr) (fun i _ => len - (intOf i).toNat)
  case atStart => exact ⟨0, by omega, rfl, HM, Below.refl _ _⟩
  case round =>
    obtain ⟨k, hk, rfl, HM1, hb1⟩ := hrel
    clear HM
    by_cases hkl : k < len
    · have hlt : (k : Int) < (len : Int) := by omega
      rcases HM1.out with h0 | ⟨b, o, rfl, hbl, hall⟩
      · omega
      obtain ⟨q, m, c', hcell, hmc, hcm', hmine, hne⟩ := hall k hkl
      have HMi := Lib.hid hmine
      have HNe := Lib.hid hne
      clear hall hmine hne
      have hk63 : (k : Int) + 1 ≤ 9223372036854775807 := by omega
      go_wp2_with fail
      go_loopw [13] (fun i wr2 => ∃ j : Nat, j ≤ m ∧ i = .int .i64 j ∧ Hid (Mine wr2 B q m) ∧ Hid (MineRows wr2 B (some ⟨b, o, none⟩) len) ∧ Below B w wr2) (fun i _ => m - (intOf i).toNat)
      case atStart => exact ⟨0, by omega, rfl, HMi, HM1, hb1⟩
      case round =>
        obtain ⟨j, hj, rfl, HMi2, HM2, hb2⟩ := hrel
        clear HMi HM1 hb1 hcell
        by_cases hjm : j < m
        · rcases HMi2.out with h0 | ⟨g, o', cs, rfl, hgB, hblk, hcs⟩
          · omega
          obtain ⟨y, hy⟩ := hcs j hjm
          have hcell : wr.cell? ⟨g, o' + j, none⟩ = some (.int .u8 (iv8 y)) := (hblk.cell _).trans hy
          have hfz := hblk.frozen (o' + j)
          have hjlt : (j : Int) < (m : Int) := by omega
          have hj63 : (j : Int) + 1 ≤ 9223372036854775807 := by omega
          have hx1 : bits BinOp.xor IntKind.u8 (iv8 y) 255 = iv8 (y ^^^ 255#8) := (xor8 y 255#8)
          have HB := Lib.hid hblk
          have hgb : g ≠ b := fun e => HNe.out (by omega) _ rfl e
          clear hblk hcs hy
          go_wp2_with fail
          clear hcell hfz hx1
          go_roundw
          case rel => exact ⟨j + 1, by omega, by go_num, Lib.hid (HMi2.out.poke HB.out _), Lib.hid (HM2.out.poke HB.out (fun a ha => by injection ha with ha; subst ha; exact hgb) _), hb2.setCell hgB _⟩
          case measure => simp [intOf]; omega
        · have hge : ¬ (j : Int) < (m : Int) := by omega
          go_wp2
          go_roundw
          case rel => exact ⟨k + 1, by omega, by go_num, HM2, hb2⟩
          case measure => simp [intOf]; omega
    · have hge : ¬ (k : Int) < (len : Int) := by omega
      go_wp2
      refine bodyPost_end (results_none rfl _ _ _) rfl ?_
      exact ⟨rfl, hb1⟩
end Go.Proofs.YtamcmckfommlnaaDoor
