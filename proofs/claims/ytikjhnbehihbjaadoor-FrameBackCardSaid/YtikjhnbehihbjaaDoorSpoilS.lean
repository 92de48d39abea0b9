/- sporranplain.Spoil, said precisely: just the blocks of S are written. -/
import Derived.Test.YtikjhnbehihbjaaDoorGB
namespace Go.Proofs.YtikjhnbehihbjaaDoor
open Go Go.RowKit
set_option linter.unusedVariables false

/-- a row whose block is of S and may be written: its cells are bytes -/
def MineS (w : World) (S : Nat → Prop) (p : Option Addr) (m : Nat) : Prop :=
  m = 0 ∨ ∃ g o cs, p = some ⟨g, o, none⟩ ∧ S g ∧ Blk w g 5 cs ∧ ∀ i, i < m → ∃ b : BitVec 8, cs[o + i]? = some (u8 b)
theorem Mine.s {w : World} {B : Nat} {p : Option Addr} {m : Nat} {S : Nat → Prop} (h : Mine w B p m) (hS : m ≠ 0 → ∀ a, p = some a → S a.block) : MineS w S p m := by
  rcases h with h | ⟨g, o, cs, rfl, h2, h3, h4⟩
  · exact .inl h
  · by_cases h0 : m = 0
    · exact .inl h0
    · exact .inr ⟨g, o, cs, rfl, hS h0 _ rfl, h3, h4⟩
theorem MineS.stays {w w' : World} {S S' : Nat → Prop} {p : Option Addr} {m : Nat} (h : MineS w S p m) (hs : Stays S' w w') (hn : ∀ k, S k → ¬ S' k) : MineS w' S p m := by
  rcases h with h | ⟨g, o, cs, rfl, h2, h3, h4⟩
  · exact .inl h
  · exact .inr ⟨g, o, cs, rfl, h2, h3.stays hs (hn g h2), h4⟩
/-- a byte written into a row of bytes -/
theorem MineS.poke {w : World} {S : Nat → Prop} {p : Option Addr} {m g j : Nat} {cs : Array Value} (h : MineS w S p m) (hk : Blk w g 5 cs) (b : BitVec 8) : MineS (w.setCell ⟨g, j, none⟩ (u8 b)) S p m := by
  rcases h with h | ⟨g', o, cs', h1, h2, h3, h4⟩
  · exact .inl h
  · by_cases e : g' = g
    · subst e
      obtain rfl : cs' = cs := by
        have := h3.symm.trans hk
        injection this with this; injection this
      refine .inr ⟨g', o, _, h1, h2, h3.set j _, fun i hi => ?_⟩
      obtain ⟨b', hb'⟩ := h4 i hi
      by_cases e2 : j = o + i
      · subst e2
        obtain ⟨hsz, _⟩ := Array.getElem?_eq_some_iff.1 hb'
        exact ⟨b, by rw [Array.getElem?_setIfInBounds, if_pos rfl, if_pos hsz]⟩
      · exact ⟨b', by rw [Array.getElem?_setIfInBounds, if_neg e2]; exact hb'⟩
    · exact .inr ⟨g', o, cs', h1, h2, h3.far (by exact e) _, h4⟩
/-- from p on lie len slices over rows that may be written, their blocks of S -/
def MineRowsS (w : World) (S : Nat → Prop) (p : Option Addr) (len : Nat) : Prop :=
  len = 0 ∨ ∃ b o, p = some ⟨b, o, none⟩ ∧ b < w.heap.size ∧ ∀ i, i < len → ∃ q m c, w.cell? ⟨b, o + i, none⟩ = some (.slice q m c) ∧ m ≤ c ∧ c ≤ 9223372036854775807 ∧ MineS w S q m ∧ (m ≠ 0 → ∀ a, q = some a → a.block ≠ b)
theorem MineRowsS.poke {w : World} {S : Nat → Prop} {len g j : Nat} {p : Option Addr} {cs : Array Value} (h : MineRowsS w S p len) (hk : Blk w g 5 cs) (hg : ∀ a, p = some a → g ≠ a.block) (b : BitVec 8) : MineRowsS (w.setCell ⟨g, j, none⟩ (u8 b)) S p len := by
  rcases h with h | ⟨b', o, rfl, h2, h3⟩
  · exact .inl h
  · refine .inr ⟨b', o, rfl, by simpa [World.setCell] using h2, fun i hi => ?_⟩
    obtain ⟨q, m, c, h4, h5, h6, h7, h8⟩ := h3 i hi
    have hne : b' ≠ g := fun e => hg _ rfl e.symm
    exact ⟨q, m, c, (World.cell?_of_block (a := ⟨b', o + i, none⟩) (Below.heap_setCell w ⟨g, j, none⟩ (u8 b) b' hne)).trans h4, h5, h6, h7.poke hk b, h8⟩

set_option maxRecDepth 100000 in
set_option maxHeartbeats 4000000 in
theorem spoilS_any (S : Nat → Prop) (p : Option Addr) (len c : Nat) (w : World) (hlc : len ≤ c) (hcm : c ≤ 9223372036854775807) (hm : MineRowsS w S p len) :
    Calls Tryd.prog 18 #[.slice p len c] w fun e w' => e = .returned (.tuple #[]) ∧ Stays S w w' := by
  have HM := Lib.hid hm
  clear hm
  go_enter Tryd.func18, Tryd.ntmps18
  go_wp2
  go_loopw [7] (fun i wr => ∃ k : Nat, k ≤ len ∧ i = .int .i64 k ∧ Hid (MineRowsS wr S p len) ∧ Stays S w wr) (fun i _ => len - (intOf i).toNat)
  case atStart => exact ⟨0, by omega, rfl, HM, Stays.refl _ _⟩
  case round =>
    obtain ⟨k, hk, rfl, HM1, hb1⟩ := hrel
    clear HM
    by_cases hkl : k < len
    · have hlt : (k : Int) < (len : Int) := by omega
      rcases HM1.out with h0 | ⟨b, o, rfl, hbl, hall⟩
      · omega
      obtain ⟨q, m, c', hcell, hmc, hcm', hmine, hne⟩ := hall k hkl
      have HMi := Lib.hid hmine
      have HNe := Lib.hid hne
      clear hall hmine hne
      have hk63 : (k : Int) + 1 ≤ 9223372036854775807 := by omega
      go_wp2_with fail
      go_loopw [13] (fun i wr2 => ∃ j : Nat, j ≤ m ∧ i = .int .i64 j ∧ Hid (MineS wr2 S q m) ∧ Hid (MineRowsS wr2 S (some ⟨b, o, none⟩) len) ∧ Stays S w wr2) (fun i _ => m - (intOf i).toNat)
      case atStart => exact ⟨0, by omega, rfl, HMi, HM1, hb1⟩
      case round =>
        obtain ⟨j, hj, rfl, HMi2, HM2, hb2⟩ := hrel
        clear HMi HM1 hb1 hcell
        by_cases hjm : j < m
        · rcases HMi2.out with h0 | ⟨g, o', cs, rfl, hgB, hblk, hcs⟩
          · omega
          obtain ⟨y, hy⟩ := hcs j hjm
          have hcell : wr.cell? ⟨g, o' + j, none⟩ = some (.int .u8 (iv8 y)) := (hblk.cell _).trans hy
          have hfz := hblk.frozen (o' + j)
          have hjlt : (j : Int) < (m : Int) := by omega
          have hj63 : (j : Int) + 1 ≤ 9223372036854775807 := by omega
          have hx1 : bits BinOp.xor IntKind.u8 (iv8 y) 255 = iv8 (y ^^^ 255#8) := (xor8 y 255#8)
          have HB := Lib.hid hblk
          have hgb : g ≠ b := fun e => HNe.out (by omega) _ rfl e
          clear hblk hcs hy
          go_wp2_with fail
          clear hcell hfz hx1
          go_roundw
          case rel => exact ⟨j + 1, by omega, by go_num, Lib.hid (HMi2.out.poke HB.out _), Lib.hid (HM2.out.poke HB.out (fun a ha => by injection ha with ha; subst ha; exact hgb) _), hb2.setCell (fun _ => hgB) _⟩
          case measure => simp [intOf]; omega
        · have hge : ¬ (j : Int) < (m : Int) := by omega
          go_wp2
          go_roundw
          case rel => exact ⟨k + 1, by omega, by go_num, HM2, hb2⟩
          case measure => simp [intOf]; omega
    · have hge : ¬ (k : Int) < (len : Int) := by omega
      go_wp2
      refine bodyPost_end (results_none rfl _ _ _) rfl ?_
      exact ⟨rfl, hb1⟩
end Go.Proofs.YtikjhnbehihbjaaDoor
