/- sporran/header.Encode: a header as data, the closure that puts a number's bytes. · sporran/header.Decode: its closures, a header built, a header read. · sporran/header.Decode: the walk. · A header read as data; sporranlaw06.HeaderShort: the walk. · Headers compared; a header's bytes, read. · sporranref06.Encode: the walk. · sporranref06.Decode: the walk. · append of some bytes to a full row of whatever type of array: the row is the call's own.  -/
import Derived.Deep.DeepCutAuto
import Derived.Deep.MidRow
import Derived.Laws.Tables
import Derived.RegionTactic
import Derived.DeepKeys
import Derived.Laws.StructEq
import Derived.Test.YtjbijcjcejfpcaaGreatDoorLGB
import Derived.Test.YtjbijcjcejfpcaaGreatDoorLGA
import Derived.Test.YtjbijcjcejfpcaaGreatDoorLGZ
namespace Go.Proofs.YtjbijcjcejfpcaaGreatDoor
open Go.RowKit
structure Hdr where
  v : BitVec 32
  p : List (BitVec 8)
  m : List (BitVec 8)
  t : BitVec 32
  b : BitVec 32
  n : BitVec 32
def Hdr.ok (h : Hdr) : Prop := h.p.length = 32 ∧ h.m.length = 32
def Hdr.cells (h : Hdr) : List Value := u32 h.v :: (h.p.map u8 ++ (h.m.map u8 ++ [u32 h.t, u32 h.b, u32 h.n]))
theorem Hdr.cells_len {h : Hdr} (hk : h.ok) : h.cells.length = 68 := by simp [Hdr.cells, hk.1, hk.2]
def le32 (n : BitVec 32) : List (BitVec 8) := low (n.setWidth 64) 4
theorem le32_len (n : BitVec 32) : (le32 n).length = 4 := low_len _ _
def Hdr.bytes (h : Hdr) : List (BitVec 8) := le32 h.v ++ (h.p ++ (h.m ++ (le32 h.t ++ (le32 h.b ++ le32 h.n))))
theorem Hdr.bytes_len {h : Hdr} (hk : h.ok) : h.bytes.length = 80 := by simp [Hdr.bytes, le32_len, hk.1, hk.2]
def zeros (n : Nat) : List (BitVec 8) := List.replicate n 0#8
end Go.Proofs.YtjbijcjcejfpcaaGreatDoor
namespace Go.Proofs.YtjbijcjcejfpcaaGreatDoor
open Go.RowKit
def noHdr : Hdr := ⟨0#32, zeros 32, zeros 32, 0#32, 0#32, 0#32⟩
theorem noHdr_ok : noHdr.ok := ⟨rfl, rfl⟩
def hdrOf (bs : List (BitVec 8)) : Hdr := ⟨num32 bs, (bs.drop 4).take 32, (bs.drop 36).take 32, num32 (bs.drop 68), num32 (bs.drop 72), num32 (bs.drop 76)⟩
def hdrP (bs : List (BitVec 8)) : Hdr × List (BitVec 8) × Int := if bs.length < 80 then (noHdr, [], 50) else (hdrOf bs, bs.drop 80, 0)
theorem Hdr.cells_one (h : Hdr) : h.cells.toArray.all (·.oneCell') = true := by
  rw [List.all_toArray, Hdr.cells]
  simp [List.all_append, Value.oneCell']
theorem Blk.range {w : World} {g : Nat} {t : TypeId} {cs : List Value} (h : Blk w g t cs.toArray) : w.rangeAt g 0 cs := fun j v hj => by
  rw [Nat.zero_add, h.cell, List.getElem?_toArray]; exact hj
theorem results_cell3 {fn : Func} {p u v : Tmp} {ty : TypeId} (h : fn.results = #[.cell p ty, .tmp u, .tmp v]) (tmps : Array Value) (P : Program) (w : World) (g : Nat) (t : TypeId) (cs : List Value) (d : TypeDesc)
    (hp : tmps.getD p undef = .pointer (some ⟨g, 0, none⟩)) (hg : Blk w g t cs.toArray) (hu : P.underlying ty = some d) (hd : d.isRow = true) (hi : (P.info? ty).map (·.size) = some cs.length) :
    (results fn tmps).run P w = .ok (.tuple #[.agg cs.toArray, tmps.getD u undef, tmps.getD v undef]) w := by
  have hp' : tmps[p]?.getD undef = .pointer (some ⟨g, 0, none⟩) := by simpa using hp
  simp [results, h, hp', asAddr, run_loadVar_mid w g 0 ty cs d hg.range hu hd hi]
theorem Row8.range {w : World} {b o : Nat} {bs : List (BitVec 8)} (h : Row8 w (some ⟨b, o, none⟩) bs) (k n : Nat) : w.rangeAt b (o + k) (((bs.drop k).take n).map u8) := fun j v hj => by
  rw [List.getElem?_map, List.getElem?_take] at hj
  split at hj
  · rw [List.getElem?_drop] at hj
    cases hx : bs[k + j]? with
    | none => rw [hx] at hj; cases hj
    | some x =>
      rw [hx] at hj
      obtain ⟨b', o', e, _, hc⟩ := h (fun e => by rw [e] at hx; cases hx)
      injection e with e
      injection e with e1 e2 _
      subst e1
      subst e2
      rw [Nat.add_assoc, hc _ _ hx]
      simpa using hj
  · cases hj
def SB (w2 w' : World) : Prop := Below w2.heap.size w2 w'
section
variable {w2 w' : World}
theorem SB.drew (h : SB w2 w') : SB w2 w'.drew := Below.drew h
theorem SB.drewN (h : SB w2 w') (k : Nat) : SB w2 (w'.drewN k) := below_drewN h k
theorem SB.alloc (h : SB w2 w') (o : Obj) : SB w2 (w'.alloc o) := Below.alloc h (Below.size h) o
theorem SB.refl (w2 : World) : SB w2 w2 := Below.refl _ _
end
end Go.Proofs.YtjbijcjcejfpcaaGreatDoor
namespace Go.Proofs.YtjbijcjcejfpcaaGreatDoor
open Go.RowKit
theorem num32_le32 (x : BitVec 32) (r : List (BitVec 8)) : num32 (le32 x ++ r) = x := by
  unfold num32 le32
  rw [numTo_low _ 4 r (by rw [BitVec.toNat_setWidth]; have := x.isLt; omega)]
  apply BitVec.eq_of_toNat_eq
  rw [BitVec.toNat_setWidth, BitVec.toNat_setWidth]
  have := x.isLt
  omega
theorem hdrP_bytes (h : Hdr) (hk : h.ok) (r : List (BitVec 8)) : hdrP (h.bytes ++ r) = (h, r, 0) := by
  have l4 := le32_len
  unfold hdrP
  rw [if_neg (by rw [List.length_append, Hdr.bytes_len hk]; omega)]
  have hr : (h.bytes ++ r).drop 80 = r := by rw [List.drop_append, List.drop_of_length_le (by rw [Hdr.bytes_len hk]; omega), Hdr.bytes_len hk]; rfl
  have e : h.bytes ++ r = le32 h.v ++ (h.p ++ (h.m ++ (le32 h.t ++ (le32 h.b ++ (le32 h.n ++ r))))) := by simp [Hdr.bytes, List.append_assoc]
  have dr : ∀ (X Y : List (BitVec 8)) (k : Nat), X.length = k → (X ++ Y).drop k = Y := fun X Y k hk => by subst hk; simp
  have d4 : (h.bytes ++ r).drop 4 = h.p ++ (h.m ++ (le32 h.t ++ (le32 h.b ++ (le32 h.n ++ r)))) := by rw [e]; exact dr _ _ _ (l4 _)
  have d36 : (h.bytes ++ r).drop 36 = h.m ++ (le32 h.t ++ (le32 h.b ++ (le32 h.n ++ r))) := by rw [show 36 = 4 + 32 by rfl, ← List.drop_drop, d4]; exact dr _ _ _ hk.1
  have d68 : (h.bytes ++ r).drop 68 = le32 h.t ++ (le32 h.b ++ (le32 h.n ++ r)) := by rw [show 68 = 36 + 32 by rfl, ← List.drop_drop, d36]; exact dr _ _ _ hk.2
  have d72 : (h.bytes ++ r).drop 72 = le32 h.b ++ (le32 h.n ++ r) := by rw [show 72 = 68 + 4 by rfl, ← List.drop_drop, d68]; exact dr _ _ _ (l4 _)
  have d76 : (h.bytes ++ r).drop 76 = le32 h.n ++ r := by rw [show 76 = 72 + 4 by rfl, ← List.drop_drop, d72]; exact dr _ _ _ (l4 _)
  rw [hr]
  have hh : hdrOf (h.bytes ++ r) = h := by
    unfold hdrOf
    rw [d4, d36, d68, d72, d76, num32_le32, num32_le32, num32_le32, e, num32_le32, List.take_left' hk.1, List.take_left' hk.2]
  rw [hh]
end Go.Proofs.YtjbijcjcejfpcaaGreatDoor
