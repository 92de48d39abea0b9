/- Slices of headers, slices of hashes, and a hash, read as data. · append of rows of N cells (structs, arrays) on a slice of the call's own, the source nil, empty or not. · block.pair: the walk. · A row of cells stored in the midst of a block; the tree of hashes, plain. · The tree of hashes, plain: one step of the root; hashes whose last ones are written once more. · header.ID, sporranref06.ID: the walks. · audit.Leads, sporranref24.Leads: the walks. · block.Merkle: the walk. · sporranref08.Merkle: the walk.  -/
import Derived.Deep.Slices
import Derived.Maps.AppendAt
import Derived.Test.YtjbijcjcejfpcaaGreatDoorLGH
import Derived.Test.YtjbijcjcejfpcaaGreatDoorLGS
import Derived.Test.YtjbijcjcejfpcaaGreatDoorLGB
import Derived.Test.YtjbijcjcejfpcaaGreatDoorLGA
import Derived.Test.YtjbijcjcejfpcaaGreatDoorLGZ
namespace Go.Proofs.YtjbijcjcejfpcaaGreatDoor
open Go.ChangeShapes Go.WideShapes Go.ChangeAt Go.RowKit
theorem hash_cells {H : Type} {enc : TypeId × Value → H} {w : World} {base : Nat} {spare : Nat → Bool} {held : Bool} (fuel : Nat) (cs : List Value) (x : DataW H × List MemPlace) (h : DataW.trod enc Tryz.prog w base spare held fuel 32 cs = some x) :
    ∃ y : List (BitVec 8), y.length = 32 ∧ cs = hCells y :=
  trod_bytes Tryz.underlying32 Tryz.underlying5 hashH_cells byteH_cells h
theorem okWide_array {P : Program} {w : World} {r : Reach} {base : Nat} {t : TypeId} {v : Value} {n : Nat} {e : TypeId} (ht : P.underlying t = some (.array n e)) (h : Value.okWide P w r base t v) : ∃ cs, v = .agg cs ∧ cs.size = P.cellsOf t := by
  simp only [Value.okWide, ht] at h
  obtain ⟨cs, h1, h2, _⟩ := h
  exact ⟨cs, h1, h2⟩
theorem open_hash {H : Type} {enc : TypeId × Value → H} {W : World} {cs : Array Value} {d0 : DataW H} {p : List MemPlace}
    (h0 : DataW.Trod enc Tryz.prog W 0 (fun _ => true) true 32 (.agg cs) d0 p) : ∃ y : List (BitVec 8), y.length = 32 ∧ cs = (hCells y).toArray := by
  obtain ⟨fuel, hf⟩ := h0
  obtain ⟨y, hy, e⟩ := hash_cells _ _ _ hf
  refine ⟨y, hy, ?_⟩
  rw [← e]
  simp [Value.cells]
end Go.Proofs.YtjbijcjcejfpcaaGreatDoor
namespace Go.Proofs.YtjbijcjcejfpcaaGreatDoor
open Go.RowKit
def pairH (a b : List (BitVec 8)) : List (BitVec 8) := sha (sha (a ++ b))
end Go.Proofs.YtjbijcjcejfpcaaGreatDoor
namespace Go.Proofs.YtjbijcjcejfpcaaGreatDoor
open Go.RowKit
def hA (l : List (List (BitVec 8))) (i : Nat) : List (BitVec 8) := l[i]?.getD (noughts 32)
def upAt (l : List (List (BitVec 8))) (j : Nat) : List (BitVec 8) := pairH (hA l (2 * j)) (hA l (min (2 * j + 1) (l.length - 1)))
def upTo (l : List (List (BitVec 8))) (j : Nat) : List (List (BitVec 8)) := (List.range j).map (upAt l)
def up (l : List (List (BitVec 8))) : List (List (BitVec 8)) := upTo l ((l.length + 1) / 2)
end Go.Proofs.YtjbijcjcejfpcaaGreatDoor
namespace Go.Proofs.YtjbijcjcejfpcaaGreatDoor
open Go.RowKit
def hid (h : Hdr) : List (BitVec 8) := sha (sha h.bytes)
end Go.Proofs.YtjbijcjcejfpcaaGreatDoor
namespace Go.Proofs.YtjbijcjcejfpcaaGreatDoor
open Go.RowKit
def cutN (N : Nat) (p : Option Addr) (c k : Nat) : Option Addr := if c = k then p else p.map (·.add (k * N))
theorem RowsN.cut {N : Nat} {w : World} {p : Option Addr} {ls : List (List Value)} (h : RowsN N w p ls) {k c : Nat} (hc : ls.length ≤ c) : RowsN N w (cutN N p c k) (ls.drop k) := fun hn => by
  have hlt : k < ls.length := by
    rcases Nat.lt_or_ge k ls.length with h1 | h1
    · exact h1
    · exact absurd (List.drop_eq_nil_of_le h1) hn
  obtain ⟨b, off, rfl, hb, hcell⟩ := h (fun e => by rw [e] at hlt; simp at hlt)
  unfold cutN
  rw [if_neg (by omega)]
  refine ⟨b, off + k * N, by simp [Addr.add], hb, fun i x hx => ?_⟩
  rw [List.getElem?_drop] at hx
  have := hcell _ x hx
  rw [show off + (k + i) * N = off + k * N + i * N by rw [Nat.add_mul]; omega] at this
  exact this
theorem RowsN.take {N : Nat} {w : World} {p : Option Addr} {ls : List (List Value)} (h : RowsN N w p ls) (k : Nat) : RowsN N w p (ls.take k) := fun hn => by
  obtain ⟨b, off, rfl, hlt, hc⟩ := h (fun e => hn (by rw [e]; simp))
  refine ⟨b, off, rfl, hlt, fun i x hx => hc i x ?_⟩
  rw [List.getElem?_take] at hx
  split at hx
  · exact hx
  · cases hx
end Go.Proofs.YtjbijcjcejfpcaaGreatDoor
namespace Go.Proofs.YtjbijcjcejfpcaaGreatDoor
open Go.RowKit
def HRow (w : World) (g : Nat) (l : List (List (BitVec 8))) (m : Nat) : Prop := (∀ i x, l[i]? = some x → w.rangeAt g (i * 32) (hCells x)) ∧ w.there g 0 (m * 32) ∧ g < w.heap.size
theorem HRow.below {w w' : World} {g B m : Nat} {l : List (List (BitVec 8))} (h : HRow w g l m) (hb : Below B w w') (hB : g < B) : HRow w' g l m :=
  ⟨fun i x hx => rangeAt_below (h.1 i x hx) hb hB, fun j hj => by
    have := h.2.1 j hj
    rw [hb.cell (p := ⟨g, 0 + j, none⟩) hB, hb.frozen (p := ⟨g, 0 + j, none⟩) hB]; exact this, Nat.lt_of_lt_of_le h.2.2 hb.size⟩
theorem HRow.drewN {w : World} {g m : Nat} {l : List (List (BitVec 8))} (h : HRow w g l m) (k : Nat) : HRow (w.drewN k) g l m := h
end Go.Proofs.YtjbijcjcejfpcaaGreatDoor
namespace Go.Proofs.YtjbijcjcejfpcaaGreatDoor
open Go.RowKit
theorem HRow.rows {w : World} {g m : Nat} {l : List (List (BitVec 8))} (h : HRow w g l m) (hl : ∀ x ∈ l, x.length = 32) : RowsN 32 w (some ⟨g, 0, none⟩) (l.map hCells) := fun _ =>
  ⟨g, 0, rfl, h.2.2, fun i cs hi => by
    rw [List.getElem?_map, Option.map_eq_some_iff] at hi
    obtain ⟨x, hx, rfl⟩ := hi
    exact ⟨by rw [hCells, List.length_map]; exact hl x (List.mem_of_getElem? hx), by rw [Nat.zero_add]; exact h.1 i x hx⟩⟩
end Go.Proofs.YtjbijcjcejfpcaaGreatDoor
