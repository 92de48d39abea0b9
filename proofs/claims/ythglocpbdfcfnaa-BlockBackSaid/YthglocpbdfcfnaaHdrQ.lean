/- Headers compared; a header's bytes, read. -/
import Derived.Test.YthglocpbdfcfnaaLoadG
import Derived.Test.YthglocpbdfcfnaaHdrD
import Derived.Test.YthglocpbdfcfnaaGA
import Derived.Test.YthglocpbdfcfnaaKeys
import Derived.DeepKeys
import Derived.Laws.StructEq
namespace Go.Proofs.Ythglocpbdfcfnaa
open Go.RowKit

theorem hdr_size {h : Hdr} (hk : h.ok) : (Try.prog.info? 46).map (·.size) = some h.cells.length := by rw [Hdr.cells_len hk]; kernel_rfl

def Hdr.lits (h : Hdr) : List Lit := .int .u32 (iv32 h.v) :: (h.p.map (fun x => .int .u8 (iv8 x)) ++ (h.m.map (fun x => .int .u8 (iv8 x)) ++ [.int .u32 (iv32 h.t), .int .u32 (iv32 h.b), .int .u32 (iv32 h.n)]))
theorem hdr_lits (h : Hdr) (hk : h.ok) : Try.prog.keyLits 4 46 h.cells = some h.lits := by
  have e0 : (h.cells.drop 0).take 1 = [u32 h.v] := rfl
  have e1 : (h.cells.drop 1).take 32 = h.p.map u8 := by
    rw [Hdr.cells, List.drop_succ_cons, List.drop_zero, List.take_left' (by rw [List.length_map, hk.1])]
  have e2 : (h.cells.drop 33).take 32 = h.m.map u8 := by
    rw [Hdr.cells, show 33 = 32 + 1 by rfl, List.drop_succ_cons, List.drop_left' (by rw [List.length_map, hk.1]), List.take_left' (by rw [List.length_map, hk.2])]
  have e3 : h.cells.drop 65 = [u32 h.t, u32 h.b, u32 h.n] := by
    rw [Hdr.cells, show 65 = 32 + 32 + 1 by rfl, List.drop_succ_cons, ← List.drop_drop, List.drop_left' (by rw [List.length_map, hk.1]), List.drop_left' (by rw [List.length_map, hk.2])]
  have e4 : h.cells.drop 66 = [u32 h.b, u32 h.n] := by rw [show 66 = 65 + 1 by rfl, ← List.drop_drop, e3]; rfl
  have e5 : h.cells.drop 67 = [u32 h.n] := by rw [show 67 = 65 + 2 by rfl, ← List.drop_drop, e3]; rfl
  have hc1 : Try.prog.cellsOf 22 = 1 := by kernel_rfl
  have hcl : h.cells.length = Try.prog.cellsOf 46 := by rw [Hdr.cells_len hk]; kernel_rfl
  unfold Program.keyLits
  rw [Try.underlying46]
  simp only []
  rw [if_pos ⟨hcl, by simp⟩]
  simp only [List.mapM_cons, List.mapM_nil, hc1, hashH_cells, e0, e1, e2, e3, e4, e5, List.take_succ_cons, List.take_zero, lits_u32 2, lits_hash 1 _ hk.1, lits_hash 1 _ hk.2]
  simp [Hdr.lits]
theorem hdr_formed (h : Hdr) (hk : h.ok) : (Value.agg h.cells.toArray).formed Try.prog 46 = true := by
  obtain ⟨v, p, m, t, b, n⟩ := h
  obtain ⟨x, rfl⟩ := of_fn p 32 hk.1
  obtain ⟨y, rfl⟩ := of_fn m 32 hk.2
  kernel_rfl
theorem hdr_same (h : Hdr) (hk : h.ok) (w : World) : (Op.equalIn 10000 46 (.agg h.cells.toArray) (.agg h.cells.toArray)).run Try.prog w = .ok true w :=
  equalIn_same (m := 4) (by omega) (by kernel_rfl) (hdr_formed h hk) (hdr_lits h hk) w
theorem num32_le32 (x : BitVec 32) (r : List (BitVec 8)) : num32 (le32 x ++ r) = x := by
  unfold num32 le32
  rw [numTo_low _ 4 r (by rw [BitVec.toNat_setWidth]; have := x.isLt; omega)]
  apply BitVec.eq_of_toNat_eq
  rw [BitVec.toNat_setWidth, BitVec.toNat_setWidth]
  have := x.isLt
  omega
theorem hdrP_bytes (h : Hdr) (hk : h.ok) (r : List (BitVec 8)) : hdrP (h.bytes ++ r) = (h, r, 0) := by
  have l4 := le32_len
  unfold hdrP
  rw [if_neg (by rw [List.length_append, Hdr.bytes_len hk]; omega)]
  have hr : (h.bytes ++ r).drop 80 = r := by rw [List.drop_append, List.drop_of_length_le (by rw [Hdr.bytes_len hk]; omega), Hdr.bytes_len hk]; rfl
  have e : h.bytes ++ r = le32 h.v ++ (h.p ++ (h.m ++ (le32 h.t ++ (le32 h.b ++ (le32 h.n ++ r))))) := by simp [Hdr.bytes, List.append_assoc]
  have dr : ∀ (X Y : List (BitVec 8)) (k : Nat), X.length = k → (X ++ Y).drop k = Y := fun X Y k hk => by subst hk; simp
  have d4 : (h.bytes ++ r).drop 4 = h.p ++ (h.m ++ (le32 h.t ++ (le32 h.b ++ (le32 h.n ++ r)))) := by rw [e]; exact dr _ _ _ (l4 _)
  have d36 : (h.bytes ++ r).drop 36 = h.m ++ (le32 h.t ++ (le32 h.b ++ (le32 h.n ++ r))) := by rw [show 36 = 4 + 32 by rfl, ← List.drop_drop, d4]; exact dr _ _ _ hk.1
  have d68 : (h.bytes ++ r).drop 68 = le32 h.t ++ (le32 h.b ++ (le32 h.n ++ r)) := by rw [show 68 = 36 + 32 by rfl, ← List.drop_drop, d36]; exact dr _ _ _ hk.2
  have d72 : (h.bytes ++ r).drop 72 = le32 h.b ++ (le32 h.n ++ r) := by rw [show 72 = 68 + 4 by rfl, ← List.drop_drop, d68]; exact dr _ _ _ (l4 _)
  have d76 : (h.bytes ++ r).drop 76 = le32 h.n ++ r := by rw [show 76 = 72 + 4 by rfl, ← List.drop_drop, d72]; exact dr _ _ _ (l4 _)
  rw [hr]
  have hh : hdrOf (h.bytes ++ r) = h := by
    unfold hdrOf
    rw [d4, d36, d68, d72, d76, num32_le32, num32_le32, num32_le32, e, num32_le32, List.take_left' hk.1, List.take_left' hk.2]
  rw [hh]
end Go.Proofs.Ythglocpbdfcfnaa
