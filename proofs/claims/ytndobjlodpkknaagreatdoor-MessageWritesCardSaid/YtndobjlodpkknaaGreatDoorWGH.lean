/- sporran/header.Encode: a header as data, the closure that puts a number's bytes. · sporran/header.Decode: its closures, a header built, a header read. · sporran/header.Decode: the walk. · A header read as data; sporranlaw06.HeaderShort: the walk. · Headers compared; a header's bytes, read. · sporranref06.Encode: the walk. · sporranref06.Decode: the walk. · append of some bytes to a full row of whatever type of array: the row is the call's own.  -/
import Derived.Deep.DeepCutAuto
import Derived.Deep.MidRow
import Derived.Laws.Tables
import Derived.RegionTactic
import Derived.DeepKeys
import Derived.Laws.StructEq
import Derived.Test.YtndobjlodpkknaaGreatDoorWGB
import Derived.Test.YtndobjlodpkknaaGreatDoorWGA
import Derived.Test.YtndobjlodpkknaaGreatDoorWGZ
namespace Go.Proofs.YtndobjlodpkknaaGreatDoor
open Go.RowKit
structure Hdr where
  v : BitVec 32
  p : List (BitVec 8)
  m : List (BitVec 8)
  t : BitVec 32
  b : BitVec 32
  n : BitVec 32
def Hdr.ok (h : Hdr) : Prop := h.p.length = 32 ∧ h.m.length = 32
def Hdr.cells (h : Hdr) : List Value := u32 h.v :: (h.p.map u8 ++ (h.m.map u8 ++ [u32 h.t, u32 h.b, u32 h.n]))
theorem Hdr.cells_len {h : Hdr} (hk : h.ok) : h.cells.length = 68 := by simp [Hdr.cells, hk.1, hk.2]
def le32 (n : BitVec 32) : List (BitVec 8) := low (n.setWidth 64) 4
theorem le32_len (n : BitVec 32) : (le32 n).length = 4 := low_len _ _
def Hdr.bytes (h : Hdr) : List (BitVec 8) := le32 h.v ++ (h.p ++ (h.m ++ (le32 h.t ++ (le32 h.b ++ le32 h.n))))
theorem Hdr.bytes_len {h : Hdr} (hk : h.ok) : h.bytes.length = 80 := by simp [Hdr.bytes, le32_len, hk.1, hk.2]
theorem shrB32 (n : BitVec 32) (i : Nat) : IntKind.u8.wrap (iv32 n / 2 ^ (8 * i)) = iv8 (byteN (n.setWidth 64) i) := by
  rw [shrp32, cut32_8]
  unfold byteN
  congr 1
theorem splice_map {α β : Type} (f : α → β) (L : List α) (off : Nat) (cs : List α) : (splice L off cs).map f = splice (L.map f) off (cs.map f) := by
  simp [splice, List.map_append, List.map_take, List.map_drop]
theorem splice_nil {α : Type} (L : List α) (off : Nat) : splice L off [] = L := by simp [splice]
theorem splice_snoc {α : Type} (L : List α) (off : Nat) (xs : List α) (x : α) (h : off + xs.length < L.length) : (splice L off xs).set (off + xs.length) x = splice L off (xs ++ [x]) := by
  unfold splice
  have h1 : (L.take off).length = off := by rw [List.length_take]; omega
  rw [List.set_append_right _ _ (by omega), h1, List.set_append_right _ _ (by omega), show off + xs.length - off - xs.length = 0 by omega]
  have h2 : L.drop (off + xs.length) = L[off + xs.length] :: L.drop (off + xs.length + 1) := List.drop_eq_getElem_cons h
  rw [h2, List.set_cons_zero, List.length_append, List.length_singleton, ← Nat.add_assoc]
  simp
set_option maxRecDepth 100000 in
set_option maxHeartbeats 2000000 in
theorem put_any (at0 : Nat) (n : BitVec 32) (g : Nat) (cs : List (BitVec 8)) (w : World) (hat : at0 + 4 ≤ 80) (hcs : cs.length = 80) (hg : Blk w g 64 (cs.map u8).toArray) :
    Calls Tryz.prog 24 #[.int .i64 (at0 : Int), u32 n, .pointer (some ⟨g, 0, none⟩)] w fun e w' => e = .returned (.tuple #[]) ∧ Hid (Blk w' g 64 ((splice cs at0 (le32 n)).map u8).toArray) ∧ Below g w w' := by
  have HCS := Lib.hid hcs
  have HG := Lib.hid hg
  clear hcs hg
  go_enter Tryz.func24, Tryz.ntmps24
  go_wp2
  go_loopw [6] (fun i wr => ∃ k : Nat, k ≤ 4 ∧ i = .int .i64 k ∧ Hid (Blk wr g 64 ((splice cs at0 (low (n.setWidth 64) k)).map u8).toArray) ∧ Below g w wr) (fun i _ => 4 - (intOf i).toNat)
  case atStart => exact ⟨0, by omega, rfl, by exact Lib.hid (by rw [show low (n.setWidth 64) 0 = [] by rfl, splice_nil]; exact HG.out), Below.refl _ _⟩
  case round =>
    obtain ⟨k, hk, rfl, hblk, hbel⟩ := hrel
    by_cases hkm : k < 4
    · have hlt : (k : Int) < 4 := by omega
      have hsh := shrB32 n k
      have hb1 : (0 : Int) ≤ 8 * (k : Int) := by omega
      have hb2 : 8 * (k : Int) ≤ 24 := by omega
      have hl : (splice cs at0 (low (n.setWidth 64) k)).length = 80 := by rw [length_splice _ _ _ (by rw [low_len, HCS.out]; omega), HCS.out]
      obtain ⟨x, hx⟩ : ∃ x, (splice cs at0 (low (n.setWidth 64) k))[at0 + k]? = some x := ⟨_, List.getElem?_eq_getElem (by omega)⟩
      have hcell : wr.cell? ⟨g, at0 + k, none⟩ = some (.int .u8 (iv8 x)) := by rw [hblk.out.cell]; simp [hx]
      have hfz := hblk.out.frozen (at0 + k)
      have hi0 : (0 : Int) ≤ (at0 : Int) + (k : Int) := by omega
      have hi1 : (at0 : Int) + (k : Int) < 80 := by omega
      have hst : splice cs at0 (low (n.setWidth 64) (k + 1)) = (splice cs at0 (low (n.setWidth 64) k)).set (at0 + k) (byteN (n.setWidth 64) k) := by
        have := splice_snoc cs at0 (low (n.setWidth 64) k) (byteN (n.setWidth 64) k) (by rw [low_len, HCS.out]; omega)
        rw [low_len] at this
        rw [low_succ, this]
      have HST := Lib.hid hst
      clear hl hx hst
      go_wp2
      clear hcell hfz hsh
      go_roundw
      case rel =>
        refine ⟨k + 1, by omega, by go_num, Lib.hid ?_, hbel.setCell (Nat.le_refl _) _⟩
        rw [HST.out]
        have := hblk.out.set (at0 + k) (.int .u8 (iv8 (byteN (n.setWidth 64) k)))
        rw [List.setIfInBounds_toArray, ← List.map_set] at this
        exact this
      case measure => simp [intOf]; omega
    · have hge : ¬ (k : Int) < 4 := by omega
      have hb4 := hblk.out
      rw [show k = 4 by omega] at hb4
      have hb5 := Lib.hid hb4
      clear hb4 hblk
      go_wp2
      go_end0
      exact ⟨rfl, hb5, hbel⟩
def zeros (n : Nat) : List (BitVec 8) := List.replicate n 0#8
theorem splice_zeros (X Y : List (BitVec 8)) (k n : Nat) (hn : X.length = n) (_hk : Y.length ≤ k) : splice (X ++ zeros k) n Y = (X ++ Y) ++ zeros (k - Y.length) := by
  subst hn
  unfold splice zeros
  rw [List.take_left', List.drop_append, List.drop_of_length_le (by omega), List.drop_replicate]
  · simp
  · rfl
theorem hdr_chain (h : Hdr) (hk : h.ok) :
    splice (splice (splice (splice (splice (splice (zeros 80) 0 (le32 h.v)) 4 h.p) 36 h.m) 68 (le32 h.t)) 72 (le32 h.b)) 76 (le32 h.n) = h.bytes := by
  have l4 := le32_len
  rw [show zeros 80 = [] ++ zeros 80 by rfl, splice_zeros [] (le32 h.v) 80 0 rfl (by rw [l4]; omega), l4, List.nil_append]
  rw [splice_zeros (le32 h.v) h.p _ 4 (l4 _) (by rw [hk.1]; omega), hk.1]
  rw [splice_zeros (le32 h.v ++ h.p) h.m _ 36 (by rw [List.length_append, l4, hk.1]) (by rw [hk.2]; omega), hk.2]
  rw [splice_zeros (le32 h.v ++ h.p ++ h.m) (le32 h.t) _ 68 (by rw [List.length_append, List.length_append, l4, hk.1, hk.2]) (by rw [l4]; omega), l4]
  rw [splice_zeros (le32 h.v ++ h.p ++ h.m ++ le32 h.t) (le32 h.b) _ 72 (by rw [List.length_append, List.length_append, List.length_append, l4, l4, hk.1, hk.2]) (by rw [l4]; omega), l4]
  rw [splice_zeros (le32 h.v ++ h.p ++ h.m ++ le32 h.t ++ le32 h.b) (le32 h.n) _ 76 (by rw [List.length_append, List.length_append, List.length_append, List.length_append, l4, l4, l4, hk.1, hk.2]) (by rw [l4]; omega), l4]
  simp [zeros, Hdr.bytes, List.append_assoc]
theorem hdr_row_p {w : World} {g : Nat} {t : TypeId} {h : Hdr} (_hk : h.ok) (hb : Blk w g t h.cells.toArray) : Row8 w (some ⟨g, 1, none⟩) h.p := fun _ =>
  ⟨g, 1, rfl, hb.lt, fun i x hx => by
    rw [hb.cell, List.getElem?_toArray, Hdr.cells, Nat.add_comm, List.getElem?_cons_succ, List.getElem?_append_left (by rw [List.length_map]; exact (List.getElem?_eq_some_iff.1 hx).1), List.getElem?_map, hx]
    rfl⟩
theorem hdr_row_m {w : World} {g : Nat} {t : TypeId} {h : Hdr} (hk : h.ok) (hb : Blk w g t h.cells.toArray) : Row8 w (some ⟨g, 33, none⟩) h.m := fun _ =>
  ⟨g, 33, rfl, hb.lt, fun i x hx => by
    have h1 := (List.getElem?_eq_some_iff.1 hx).1
    rw [hb.cell, List.getElem?_toArray, Hdr.cells, show 33 + i = (32 + i) + 1 by omega, List.getElem?_cons_succ, List.getElem?_append_right (by rw [List.length_map, hk.1]; omega), List.length_map, hk.1, show 32 + i - 32 = i by omega,
      List.getElem?_append_left (by rw [List.length_map]; exact h1), List.getElem?_map, hx]
    rfl⟩
theorem hdr_cell_last {h : Hdr} (hk : h.ok) (i : Nat) : h.cells[65 + i]? = [u32 h.t, u32 h.b, u32 h.n][i]? := by
  rw [Hdr.cells, show 65 + i = (64 + i) + 1 by omega, List.getElem?_cons_succ, List.getElem?_append_right (by rw [List.length_map, hk.1]; omega), List.length_map, hk.1, List.getElem?_append_right (by rw [List.length_map, hk.2]; omega), List.length_map, hk.2]
  congr 1; omega
theorem act_put_some (cs : Array Value) (ds : List Deferred) (n : Nat) (v : Value) : (Act.mk cs ds).put (some n) v = ⟨cs.setIfInBounds n v, ds⟩ := rfl
theorem zero_of {P : Program} {t : TypeId} {z : Value} (h : (P.info? t).map (·.zero) = some (some z)) : ∀ w, (zeroValue t).run P w = .ok z w := by
  intro w
  cases hi : P.info? t with
  | none => rw [hi] at h; cases h
  | some i =>
    rw [hi] at h
    simp only [Option.map_some, Option.some.injEq] at h
    simp [zeroValue, typeInfo, hi, h, go_sem]
theorem zero80 : ∀ w, (zeroValue 64).run Tryz.prog w = .ok (.agg ((zeros 80).map u8).toArray) w := zero_of (by kernel_rfl)
set_option maxRecDepth 100000 in
set_option maxHeartbeats 2000000 in
theorem hdrEncode_any (h : Hdr) (hk : h.ok) (w : World) :
    Calls Tryz.prog 15 #[.agg h.cells.toArray] w fun e w' => ∃ g, e = .returned (.slice (some ⟨g, 0, none⟩) 80 80) ∧ Hid (Blk w' g 64 (h.bytes.map u8).toArray) ∧ w.heap.size ≤ g ∧ Below w.heap.size w w' := by
  have hmf : ∀ (fn : Fn) (first cap : Array Value) (w : World), (Instr.makeFunc fn first cap).run Tryz.prog w = .ok (.func fn first cap) w := fun _ _ _ _ => rfl
  have hz80 := zero80
  obtain ⟨Z, hZ⟩ : ∃ Z, Z = ((zeros 80).map u8).toArray := ⟨_, rfl⟩
  obtain ⟨C, hC⟩ : ∃ C, C = h.cells.toArray := ⟨_, rfl⟩
  rw [← hZ] at hz80
  rw [← hC]
  have HZ := Lib.hid hZ
  have HC := Lib.hid hC
  clear hZ hC
  go_enter Tryz.func15, Tryz.ntmps15
  go_upto_region 3 with fail
  refine wp_abst (fun w' => Hid (Blk w' w.heap.size 30 h.cells.toArray) ∧ Hid (Blk w' (w.heap.size + 1) 64 ((zeros 80).map u8).toArray) ∧ Below w.heap.size w w') ⟨Lib.hid (by rw [← HC.out]; exact (Blk.new w _ _).alloc _), Lib.hid (by rw [← HZ.out]; exact Blk.new2 w _ _ _), ((Below.refl _ _).alloc (Nat.le_refl _) _).alloc (by simp) _⟩ ?_
  rintro w1 ⟨hc1, hb1, hbel1⟩
  clear hz80 hmf
  have f0 : w1.cell? ⟨w.heap.size, 0, none⟩ = some (.int .u32 (iv32 h.v)) := by rw [hc1.out.cell]; rfl
  go_wp2_with fail
  refine (put_any 0 h.v _ (zeros 80) _ (by omega) rfl hb1.out).mono ?_
  rintro e w2 ⟨rfl, hb2, hbel2⟩
  have hc2 : Hid (Blk w2 w.heap.size 30 h.cells.toArray) := Lib.hid (hc1.out.below hbel2 (by omega))
  have hbw2 := hbel1.trans (hbel2.mono (by omega))
  obtain ⟨D2, hD2⟩ : ∃ D2, D2 = splice (zeros 80) 0 (le32 h.v) := ⟨_, rfl⟩
  rw [← hD2] at hb2
  have HD2 := Lib.hid hD2
  have HL2 : Hid (D2.length = 80) := Lib.hid (by rw [hD2, length_splice _ _ _ (by rw [le32_len]; simp [zeros])]; rfl)
  clear hD2 f0 hc1 hb1 hbel1 hbel2
  go_wp2_with fail
  refine quiet_tail 3 (by kernel_rfl) (by kernel_rfl) ?_
  simp only [List.take_succ_cons, List.take_zero, List.drop_succ_cons, List.drop_zero]
  repeat (go_big_quiet_step (fail))
  refine wpQuiet_nil ?_
  rintro _ ⟨nq, rfl⟩
  refine wp_copy8 (o := ⟨some 13, _, _, _, _, _⟩) rfl (.tmp 10) (.tmp 12) 28 28 rfl 5 Tryz.underlying28 (by kernel_rfl) 76 76 32 (some ⟨w.heap.size, 1, none⟩) h.p (w.heap.size + 1) 4 rfl (by rw [hk.1]; rfl) ((hdr_row_p hk hc2.out).below (below_drewN (Below.refl _ _) nq) (Nat.le_refl _)) (D2.map u8) 64 hb2.out 32 (by rw [hk.1]; rfl) (by rw [List.length_map, HL2.out]; omega) (w.heap.size + 1) w2 (below_drewN (Below.refl _ _) nq) (Nat.le_refl _) ?_
  intro w3 hb3' hbel3 _
  simp only [act_put_some, List.setIfInBounds_toArray, List.set_cons_succ, List.set_cons_zero, goInt]
  have hc3 : Hid (Blk w3 w.heap.size 30 h.cells.toArray) := Lib.hid (hc2.out.below hbel3 (by omega))
  have hbw3 := hbw2.trans (hbel3.mono (by omega))
  rw [List.take_of_length_le (l := h.p) (by rw [hk.1]; omega), ← splice_map] at hb3'
  obtain ⟨D3, hD3⟩ : ∃ D3, D3 = splice D2 4 h.p := ⟨_, rfl⟩
  rw [← hD3] at hb3'
  have HD3 := Lib.hid hD3
  have HL3 : Hid (D3.length = 80) := Lib.hid (by rw [hD3, length_splice _ _ _ (by rw [hk.1, HL2.out]; omega), HL2.out])
  clear hD3 hb2 hc2 hbw2 hbel3
  go_wp2_with fail
  refine quiet_tail 3 (by kernel_rfl) (by kernel_rfl) ?_
  simp only [List.take_succ_cons, List.take_zero, List.drop_succ_cons, List.drop_zero]
  repeat (go_big_quiet_step (fail))
  refine wpQuiet_nil ?_
  rintro _ ⟨nq, rfl⟩
  refine wp_copy8 (o := ⟨some 17, _, _, _, _, _⟩) rfl (.tmp 14) (.tmp 16) 28 28 rfl 5 Tryz.underlying28 (by kernel_rfl) 44 44 32 (some ⟨w.heap.size, 33, none⟩) h.m (w.heap.size + 1) 36 rfl (by rw [hk.2]; rfl) ((hdr_row_m hk hc3.out).below (below_drewN (Below.refl _ _) nq) (Nat.le_refl _)) (D3.map u8) 64 hb3'.out 32 (by rw [hk.2]; rfl) (by rw [List.length_map, HL3.out]; omega) (w.heap.size + 1) w3 (below_drewN (Below.refl _ _) nq) (Nat.le_refl _) ?_
  intro w4 hb4 hbel4 _
  simp only [act_put_some, List.setIfInBounds_toArray, List.set_cons_succ, List.set_cons_zero, goInt]
  have hc4 : Hid (Blk w4 w.heap.size 30 h.cells.toArray) := Lib.hid (hc3.out.below hbel4 (by omega))
  have hbw4 := hbw3.trans (hbel4.mono (by omega))
  rw [List.take_of_length_le (l := h.m) (by rw [hk.2]; omega), ← splice_map] at hb4
  obtain ⟨D4, hD4⟩ : ∃ D4, D4 = splice D3 36 h.m := ⟨_, rfl⟩
  rw [← hD4] at hb4
  have HD4 := Lib.hid hD4
  have HL4 : Hid (D4.length = 80) := Lib.hid (by rw [hD4, length_splice _ _ _ (by rw [hk.2, HL3.out]; omega), HL3.out])
  clear hD4 hb3' hc3 hbw3 hbel4
  have f5 : w4.cell? ⟨w.heap.size, 65, none⟩ = some (.int .u32 (iv32 h.t)) := by rw [hc4.out.cell, List.getElem?_toArray]; exact hdr_cell_last hk 0
  go_wp2_with fail
  refine (put_any 68 h.t _ D4 _ (by omega) HL4.out hb4.out).mono ?_
  rintro e w5 ⟨rfl, hb5, hbel5⟩
  have hc5 : Hid (Blk w5 w.heap.size 30 h.cells.toArray) := Lib.hid (hc4.out.below hbel5 (by omega))
  have hbw5 := hbw4.trans (hbel5.mono (by omega))
  obtain ⟨D5, hD5⟩ : ∃ D5, D5 = splice D4 68 (le32 h.t) := ⟨_, rfl⟩
  rw [← hD5] at hb5
  have HD5 := Lib.hid hD5
  have HL5 : Hid (D5.length = 80) := Lib.hid (by rw [hD5, length_splice _ _ _ (by rw [le32_len, HL4.out]; omega), HL4.out])
  clear hD5 f5 hc4 hb4 hbw4 hbel5
  have f6 : w5.cell? ⟨w.heap.size, 66, none⟩ = some (.int .u32 (iv32 h.b)) := by rw [hc5.out.cell, List.getElem?_toArray]; exact hdr_cell_last hk 1
  go_wp2_with fail
  refine (put_any 72 h.b _ D5 _ (by omega) HL5.out hb5.out).mono ?_
  rintro e w6 ⟨rfl, hb6, hbel6⟩
  have hc6 : Hid (Blk w6 w.heap.size 30 h.cells.toArray) := Lib.hid (hc5.out.below hbel6 (by omega))
  have hbw6 := hbw5.trans (hbel6.mono (by omega))
  obtain ⟨D6, hD6⟩ : ∃ D6, D6 = splice D5 72 (le32 h.b) := ⟨_, rfl⟩
  rw [← hD6] at hb6
  have HD6 := Lib.hid hD6
  have HL6 : Hid (D6.length = 80) := Lib.hid (by rw [hD6, length_splice _ _ _ (by rw [le32_len, HL5.out]; omega), HL5.out])
  clear hD6 f6 hc5 hb5 hbw5 hbel6
  have f7 : w6.cell? ⟨w.heap.size, 67, none⟩ = some (.int .u32 (iv32 h.n)) := by rw [hc6.out.cell, List.getElem?_toArray]; exact hdr_cell_last hk 2
  go_wp2_with fail
  refine (put_any 76 h.n _ D6 _ (by omega) HL6.out hb6.out).mono ?_
  rintro e w7 ⟨rfl, hb7, hbel7⟩
  have hc7 : Hid (Blk w7 w.heap.size 30 h.cells.toArray) := Lib.hid (hc6.out.below hbel7 (by omega))
  have hbw7 := hbw6.trans (hbel7.mono (by omega))
  obtain ⟨D7, hD7⟩ : ∃ D7, D7 = splice D6 76 (le32 h.n) := ⟨_, rfl⟩
  rw [← hD7] at hb7
  have HD7 := Lib.hid hD7
  have HL7 : Hid (D7.length = 80) := Lib.hid (by rw [hD7, length_splice _ _ _ (by rw [le32_len, HL6.out]; omega), HL6.out])
  clear hD7 f7 hc6 hb6 hbw6 hbel7
  have hD : D7 = h.bytes := by rw [HD7.out, HD6.out, HD5.out, HD4.out, HD3.out, HD2.out]; exact hdr_chain h hk
  rw [hD] at hb7
  clear hD
  go_wp2
  go_ret
  exact ⟨_, rfl, hb7, by omega, hbw7⟩
end Go.Proofs.YtndobjlodpkknaaGreatDoor
namespace Go.Proofs.YtndobjlodpkknaaGreatDoor
open Go.RowKit
def noHdr : Hdr := ⟨0#32, zeros 32, zeros 32, 0#32, 0#32, 0#32⟩
theorem noHdr_ok : noHdr.ok := ⟨rfl, rfl⟩
def hdrOf (bs : List (BitVec 8)) : Hdr := ⟨num32 bs, (bs.drop 4).take 32, (bs.drop 36).take 32, num32 (bs.drop 68), num32 (bs.drop 72), num32 (bs.drop 76)⟩
theorem Hdr.cells_one (h : Hdr) : h.cells.toArray.all (·.oneCell') = true := by
  rw [List.all_toArray, Hdr.cells]
  simp [List.all_append, Value.oneCell']
theorem Hdr.cells_size {h : Hdr} (hk : h.ok) : h.cells.toArray.size = 68 := by rw [List.size_toArray, Hdr.cells_len hk]
theorem zeroHdr : ∀ w, (zeroValue 30).run Tryz.prog w = .ok (.agg noHdr.cells.toArray) w := zero_of (by kernel_rfl)
theorem Blk.range {w : World} {g : Nat} {t : TypeId} {cs : List Value} (h : Blk w g t cs.toArray) : w.rangeAt g 0 cs := fun j v hj => by
  rw [Nat.zero_add, h.cell, List.getElem?_toArray]; exact hj
theorem results_cell3 {fn : Func} {p u v : Tmp} {ty : TypeId} (h : fn.results = #[.cell p ty, .tmp u, .tmp v]) (tmps : Array Value) (P : Program) (w : World) (g : Nat) (t : TypeId) (cs : List Value) (d : TypeDesc)
    (hp : tmps.getD p undef = .pointer (some ⟨g, 0, none⟩)) (hg : Blk w g t cs.toArray) (hu : P.underlying ty = some d) (hd : d.isRow = true) (hi : (P.info? ty).map (·.size) = some cs.length) :
    (results fn tmps).run P w = .ok (.tuple #[.agg cs.toArray, tmps.getD u undef, tmps.getD v undef]) w := by
  have hp' : tmps[p]?.getD undef = .pointer (some ⟨g, 0, none⟩) := by simpa using hp
  simp [results, h, hp', asAddr, run_loadVar_mid w g 0 ty cs d hg.range hu hd hi]
theorem Row8.range {w : World} {b o : Nat} {bs : List (BitVec 8)} (h : Row8 w (some ⟨b, o, none⟩) bs) (k n : Nat) : w.rangeAt b (o + k) (((bs.drop k).take n).map u8) := fun j v hj => by
  rw [List.getElem?_map, List.getElem?_take] at hj
  split at hj
  · rw [List.getElem?_drop] at hj
    cases hx : bs[k + j]? with
    | none => rw [hx] at hj; cases hj
    | some x =>
      rw [hx] at hj
      obtain ⟨b', o', e, _, hc⟩ := h (fun e => by rw [e] at hx; cases hx)
      injection e with e
      injection e with e1 e2 _
      subst e1
      subst e2
      rw [Nat.add_assoc, hc _ _ hx]
      simpa using hj
  · cases hj
def SB (w2 w' : World) : Prop := Below w2.heap.size w2 w'
section
variable {w2 w' : World}
theorem SB.drew (h : SB w2 w') : SB w2 w'.drew := Below.drew h
theorem SB.drewN (h : SB w2 w') (k : Nat) : SB w2 (w'.drewN k) := below_drewN h k
theorem SB.alloc (h : SB w2 w') (o : Obj) : SB w2 (w'.alloc o) := Below.alloc h (Below.size h) o
theorem SB.refl (w2 : World) : SB w2 w2 := Below.refl _ _
end
end Go.Proofs.YtndobjlodpkknaaGreatDoor
namespace Go.Proofs.YtndobjlodpkknaaGreatDoor
open Go.RowKit Go.ChangeShapes Go.WideShapes
theorem header_cells {H : Type} {enc : TypeId × Value → H} {w : World} {base : Nat} {spare : Nat → Bool} {held : Bool} {fuel : Nat} {cs : List Value} {x : DataW H × List MemPlace} (h : DataW.trod enc Tryz.prog w base spare held fuel 30 cs = some x) :
    ∃ hd : Hdr, hd.ok ∧ cs = hd.cells := by
  have hl : cs.length = 68 := by
    obtain ⟨_, _, _, _, hl, _⟩ := DataW.trod_struct Tryz.underlying30 h
    rw [hl]; kernel_rfl
  obtain ⟨n0, y0, h0⟩ := trod_fieldH Tryz.underlying30 h 0 _ rfl 1 (by kernel_rfl)
  obtain ⟨n1, y1, h1⟩ := trod_fieldH Tryz.underlying30 h 1 _ rfl 32 (by kernel_rfl)
  obtain ⟨n2, y2, h2⟩ := trod_fieldH Tryz.underlying30 h 2 _ rfl 32 (by kernel_rfl)
  obtain ⟨n3, y3, h3⟩ := trod_fieldH Tryz.underlying30 h 3 _ rfl 1 (by kernel_rfl)
  obtain ⟨n4, y4, h4⟩ := trod_fieldH Tryz.underlying30 h 4 _ rfl 1 (by kernel_rfl)
  obtain ⟨n5, y5, h5⟩ := trod_fieldH Tryz.underlying30 h 5 _ rfl 1 (by kernel_rfl)
  obtain ⟨i0, e0, _, w0⟩ := DataW.trod_int Tryz.underlying22 h0
  obtain ⟨i3, e3, _, w3⟩ := DataW.trod_int Tryz.underlying22 h3
  obtain ⟨i4, e4, _, w4⟩ := DataW.trod_int Tryz.underlying22 h4
  obtain ⟨i5, e5, _, w5⟩ := DataW.trod_int Tryz.underlying22 h5
  obtain ⟨p, hp, ep⟩ := trod_bytes Tryz.underlying25 Tryz.underlying5 hashH_cells byteH_cells h1
  obtain ⟨m, hm, em⟩ := trod_bytes Tryz.underlying25 Tryz.underlying5 hashH_cells byteH_cells h2
  obtain ⟨v, rfl⟩ := of32 i0 w0
  obtain ⟨t, rfl⟩ := of32 i3 w3
  obtain ⟨b, rfl⟩ := of32 i4 w4
  obtain ⟨n, rfl⟩ := of32 i5 w5
  refine ⟨⟨v, p, m, t, b, n⟩, ⟨hp, hm⟩, ?_⟩
  have q1 := parts3 cs 1 32 35 (by omega)
  have q2 := parts3 ((cs.drop 33).take 35) 32 1 2 (by simp; omega)
  have q3 := parts2 ((((cs.drop 33).take 35).drop 33).take 2) 1 1 (by simp; omega)
  have a0 : (cs.drop 0).take 1 = [u32 v] := e0
  have a1 : (cs.drop 1).take 32 = p.map u8 := ep
  have a2 : (((cs.drop 33).take 35).drop 0).take 32 = m.map u8 := by rw [List.drop_zero, List.take_take]; exact em
  have a3 : (((cs.drop 33).take 35).drop 32).take 1 = [u32 t] := by rw [List.drop_take, List.drop_drop, List.take_take]; exact e3
  have a4 : (((((cs.drop 33).take 35).drop 33).take 2).drop 0).take 1 = [u32 b] := by rw [List.drop_zero, List.take_take, List.drop_take, List.drop_drop, List.take_take]; exact e4
  have a5 : (((((cs.drop 33).take 35).drop 33).take 2).drop 1).take 1 = [u32 n] := by rw [List.drop_take, List.take_take, List.drop_take, List.drop_take, List.drop_drop, List.drop_drop, List.take_take]; exact e5
  rw [a4, a5] at q3
  rw [a2, a3, q3] at q2
  rw [a0, a1, q2] at q1
  rw [q1]
  simp [Hdr.cells]
theorem hdr_row {w : World} {g : Nat} {t : TypeId} {bs : List (BitVec 8)} (h : Blk w g t (bs.map u8).toArray) : Row8 w (some ⟨g, 0, none⟩) bs := fun _ =>
  ⟨g, 0, rfl, h.lt, fun i x hx => by rw [Nat.zero_add, h.cell, List.getElem?_toArray, List.getElem?_map, hx]; rfl⟩
end Go.Proofs.YtndobjlodpkknaaGreatDoor
namespace Go.Proofs.YtndobjlodpkknaaGreatDoor
open Go.RowKit
theorem hdr_size {h : Hdr} (hk : h.ok) : (Tryz.prog.info? 30).map (·.size) = some h.cells.length := by rw [Hdr.cells_len hk]; kernel_rfl
end Go.Proofs.YtndobjlodpkknaaGreatDoor
namespace Go.Proofs.YtndobjlodpkknaaGreatDoor
open Go.RowKit
def lastN (h : Hdr) (k : Nat) : List (BitVec 8) := ([h.t, h.b, h.n].take k).flatMap le32
theorem lastN_len (h : Hdr) (k : Nat) (hk : k ≤ 3) : (lastN h k).length = 4 * k := by
  rcases (by omega : k = 0 ∨ k = 1 ∨ k = 2 ∨ k = 3) with rfl | rfl | rfl | rfl <;> simp [lastN, le32_len]
theorem lastN_succ (h : Hdr) (k : Nat) (x : BitVec 32) (hx : [h.t, h.b, h.n][k]? = some x) : lastN h (k + 1) = lastN h k ++ le32 x := by
  unfold lastN
  obtain ⟨hk, rfl⟩ := List.getElem?_eq_some_iff.1 hx
  rw [List.take_succ_eq_append_getElem hk, List.flatMap_append]
  simp
theorem hdr_bytes_last (h : Hdr) : (le32 h.v ++ h.p ++ h.m) ++ lastN h 3 = h.bytes := by
  unfold Hdr.bytes lastN
  simp [List.append_assoc]
set_option maxRecDepth 100000 in
set_option maxHeartbeats 4000000 in
theorem refHdrEncode_any (h : Hdr) (hk : h.ok) (w : World) : Calls Tryz.prog 30 #[.agg h.cells.toArray] w (GivesOwn w h.bytes) := by
  obtain ⟨C, hC⟩ : ∃ C, C = h.cells.toArray := ⟨_, rfl⟩
  rw [← hC]
  have HC := Lib.hid hC
  clear hC
  have HK := Lib.hid hk
  clear hk
  go_enter Tryz.func30, Tryz.ntmps30
  go_upto_region 1 with fail
  refine wp_abst (fun w' => Hid (Blk w' w.heap.size 30 h.cells.toArray) ∧ Below w.heap.size w w') ⟨Lib.hid (by rw [← HC.out]; exact Blk.new w _ _), (Below.refl _ _).alloc (Nat.le_refl _) _⟩ ?_
  rintro w1 ⟨hb1, hbel1⟩
  have c0 : w1.cell? ⟨w.heap.size, 0, none⟩ = some (.int .u32 (iv32 h.v)) := by rw [hb1.out.cell]; rfl
  have e0 := ext32_64 h.v
  go_wp2_with fail
  refine (low_any (h.v.setWidth 64) 4 (by omega) _).mono ?_
  rintro e w2 ⟨v2, rfl, ho2, hbel2⟩
  replace ho2 : Own8 w2 w1.heap.size v2 (le32 h.v) := ho2
  have hlt1 := hb1.out.lt
  have hp1 := Lib.hid (hdr_row_p HK.out hb1.out)
  have hm1 := Lib.hid (hdr_row_m HK.out hb1.out)
  clear c0 e0
  go_upto_region 2 with fail
  refine region_plan [qq 0, qq 1, qq 2, qq 4, qq 5, oo 3, oo 6, qq 7] (fun _ => True) (by kernel_rfl) (by kernel_rfl) trivial ?_
  refine' plan_quiet (s := 36) (A1 := _) [0, 1, 2, 4, 5] [_, _, _, _, _] _ rfl rfl rfl (fun W _ => ?hq1) _ trivial (fun _ => ?hr1)
  case hq1 =>
    simp only [List.getElem_toArray, List.getElem_cons_zero, List.getElem_cons_succ]
    iterate 5 (go_big_quiet_step (fail))
    refine wpQuiet_nil ?_
    rfl
  case hr1 =>
  refine plan_one rfl fun k => ?_
  refine wp_append8 (o := ⟨some 13, _, _, _, _, _⟩) rfl (.tmp 10) (.tmp 12) rfl w1.heap.size v2 (le32 h.v) rfl ((ho2.drew).drewN k) (some ⟨w.heap.size, 1, none⟩) 32 32 h.p rfl HK.out.1 ?_ ?_ ?_ w1.heap.size w1 ?_ (Nat.le_refl _) ?_
  · exact hp1.out.below (below_drewN hbel2.drew k) (Nat.le_refl _)
  · rw [le32_len, HK.out.1]; omega
  · exact hbel2.size
  · exact below_drewN hbel2.drew k
  intro v3 w3 ho3 hbel3 _ _
  refine planQ_normal ⟨trivial, ?_⟩
  refine plan_one rfl fun k3 => ?_
  refine wp_append8 (o := ⟨some 16, _, _, _, _, _⟩) rfl (.tmp 13) (.tmp 15) rfl w1.heap.size v3 (le32 h.v ++ h.p) rfl (ho3.drewN k3) (some ⟨w.heap.size, 33, none⟩) 32 32 h.m rfl HK.out.2 ?_ ?_ ?_ w1.heap.size w1 ?_ (Nat.le_refl _) ?_
  · exact hm1.out.below (below_drewN hbel3 k3) (Nat.le_refl _)
  · rw [List.length_append, le32_len, HK.out.1, HK.out.2]; omega
  · exact hbel3.size
  · exact below_drewN hbel3 k3
  intro v4 w4 ho4 hbel4 _ _
  refine planQ_normal ⟨trivial, ?_⟩
  refine' plan_quiet (s := 36) (A1 := _) (r := []) [7] [_] _ rfl rfl rfl (fun W _ => ?hq2) _ trivial (fun _ => ?hr2)
  case hq2 =>
    simp only [List.getElem_toArray, List.getElem_cons_zero, List.getElem_cons_succ, put_some, List.setIfInBounds_toArray, List.set_cons_succ, List.set_cons_zero]
    iterate 1 (go_big_quiet_step (fail))
    refine wpQuiet_nil ?_
    rfl
  case hr2 =>
  refine plan_end fun k4 => NoPanic.normal ?_
  clear hbel3 ho3 hp1 hm1 hbel2 ho2
  obtain ⟨X, hX⟩ : ∃ X, X = le32 h.v ++ h.p ++ h.m := ⟨_, rfl⟩
  rw [← hX] at ho4
  have HX := Lib.hid hX
  have hXl : Hid (X.length = 68) := Lib.hid (by rw [hX, List.length_append, List.length_append, le32_len, HK.out.1, HK.out.2])
  clear hX
  have ho5 := ho4.drewN k4
  have hbel5 := below_drewN hbel4 k4
  have hb5 := hb1.out.below hbel5 hlt1
  obtain ⟨w5, hw5⟩ : ∃ x, x = w4.drewN k4 := ⟨_, rfl⟩
  rw [← hw5] at ho5 hbel5 hb5
  have c3 : w5.cell? ⟨w.heap.size, 65, none⟩ = some (.int .u32 (iv32 h.t)) := by rw [hb5.cell, List.getElem?_toArray]; exact hdr_cell_last HK.out 0
  have c4 : w5.cell? ⟨w.heap.size, 66, none⟩ = some (.int .u32 (iv32 h.b)) := by rw [hb5.cell, List.getElem?_toArray]; exact hdr_cell_last HK.out 1
  have c5 : w5.cell? ⟨w.heap.size, 67, none⟩ = some (.int .u32 (iv32 h.n)) := by rw [hb5.cell, List.getElem?_toArray]; exact hdr_cell_last HK.out 2
  rw [← hw5]
  clear hw5 ho4 hbel4 hb5
  go_wp2_with fail
  have hv5 : v4.ownBlock ≠ some w5.heap.size := by
    intro e
    have := (World.ownsRow.lt ho5 _ e).2
    omega
  have hG0 : Hid (Blk (w5.alloc (.cells #[.int .u32 (iv32 h.t), .int .u32 (iv32 h.b), .int .u32 (iv32 h.n)] 22)) w5.heap.size 22 ([h.t, h.b, h.n].map Go.Proofs.YtndobjlodpkknaaGreatDoor.u32).toArray) := Lib.hid (Blk.new w5 _ _)
  have ho6 := ho5.alloc (.cells #[.int .u32 (iv32 h.t), .int .u32 (iv32 h.b), .int .u32 (iv32 h.n)] 22)
  have hbel6 := hbel5.alloc hbel5.size (.cells #[.int .u32 (iv32 h.t), .int .u32 (iv32 h.b), .int .u32 (iv32 h.n)] 22)
  have hXe : Hid (X ++ lastN h 0 = X) := Lib.hid (List.append_nil X)
  rw [← hXe.out] at ho6
  obtain ⟨G, hG⟩ : ∃ G, G = w5.heap.size := ⟨_, rfl⟩
  rw [← hG] at hv5 hG0 ⊢
  clear c3 c4 c5 ho5 hbel5 hG
  go_loopw [3, 25] (fun v i wr => ∃ k : Nat, k ≤ 3 ∧ i = .int .i64 k ∧ Own8 wr w1.heap.size v (X ++ lastN h k) ∧ v.ownBlock ≠ some G ∧ Hid (Blk wr G 22 ([h.t, h.b, h.n].map Go.Proofs.YtndobjlodpkknaaGreatDoor.u32).toArray) ∧ Below w1.heap.size w1 wr) (fun _ i _ => 3 - (intOf i).toNat)
  case atStart => exact ⟨0, by omega, rfl, ho6, hv5, hG0, hbel6⟩
  case round =>
    obtain ⟨q, hq, rfl, ho8, hv8, hG8, hbel8⟩ := hrel
    clear ho6 hv5 hG0 hbel6
    by_cases hq3 : q < 3
    · have hlt : (q : Int) < 3 := by omega
      obtain ⟨x, hx⟩ : ∃ x, [h.t, h.b, h.n][q]? = some x := ⟨_, List.getElem?_eq_getElem (by simpa using hq3)⟩
      have cc : wr.cell? ⟨G, q, none⟩ = some (.int .u32 (iv32 x)) := by rw [hG8.out.cell, List.getElem?_toArray, List.getElem?_map, hx]; rfl
      have e0 := ext32_64 x
      have HX2 := Lib.hid (lastN_succ h q x hx)
      have hlt8 := hG8.out.lt
      clear hx
      go_wp2_with fail
      refine (low_any (x.setWidth 64) 4 (by omega) _).mono ?_
      rintro e w9 ⟨v9, rfl, ho9, hbel9⟩
      replace ho9 : Own8 w9 wr.heap.size v9 (le32 x) := ho9
      obtain ⟨p9, n9, c9, rfl, H9, hl9, hm9, hr9⟩ := ho9.open
      have hn9 : n9 = 4 := H9.out.symm.trans (le32_len x)
      subst hn9
      have ho10 := ho8.below hbel9 (Nat.le_refl _)
      have hG10 := hG8.out.below hbel9 hlt8
      have hbel10 := hbel8.trans (hbel9.mono hbel8.size)
      have hs9 := hbel9.size
      clear cc e0 ho8 ho9
      go_wp2_with (with_reducible refine wp_append8 (o := ⟨some 33, _, _, _, _, _⟩) ?_ (.tmp 29) (.tmp 32) ?_ w1.heap.size _ (X ++ lastN h q) ?_ ho10 p9 4 c9 (le32 x) ?_ H9.out hr9 ?_ ?_ w1.heap.size w1 hbel10 ?_ ?_
                   · rfl
                   · rfl
                   · rfl
                   · rfl
                   · rw [List.length_append, hXl.out, lastN_len h q hq, le32_len]; omega
                   · exact hbel10.size
                   · exact Nat.le_refl _
                   intro v11 w11 ho11 hbel11 hg11 hv11)
      have hv12 : v11.ownBlock ≠ some G := by
        rcases hv11 with h1 | h1
        · rw [h1]; exact hv8
        · rw [h1]; intro e; injection e with e; omega
      have hG11 : Blk w11 G 22 ([h.t, h.b, h.n].map Go.Proofs.YtndobjlodpkknaaGreatDoor.u32).toArray := (hg11.block G hG10.lt (Ne.symm hv8)).trans hG10
      rw [List.append_assoc, ← HX2.out] at ho11
      go_roundw
      case rel => exact ⟨q + 1, by omega, by go_num, ho11, hv12, Lib.hid hG11, hbel11⟩
      case measure => simp [intOf]; omega
    · have hq3' : q = 3 := by omega
      subst hq3'
      have hge : ¬ ((3 : Nat) : Int) < 3 := by omega
      rw [HX.out, hdr_bytes_last] at ho8
      have hbw := hbel1.trans (hbel8.mono hbel1.size)
      go_wp2
      go_ret
      exact ⟨_, rfl, ho8.mono hbel1.size, hbw⟩
end Go.Proofs.YtndobjlodpkknaaGreatDoor
namespace Go.Proofs.YtndobjlodpkknaaGreatDoor
open Go.RowKit
set_option maxRecDepth 100000 in
theorem run_append_own (w : World) (ty : TypeId) (g : Nat) (t : TypeId) (as1 : List (BitVec 8)) (k : Nat) (hk : as1.length = k) (hb : Blk w g t (as1.map u8).toArray) (p : Option Addr) (c : Nat) (bs : List (BitVec 8)) (hne : bs ≠ []) (hr : Row8 w p bs) (hlen : k + bs.length ≤ 140737488355328) :
    ∃ v w', (Builtin.append_ #[28, 28] ty #[.slice (some ⟨g, 0, none⟩) k k, .slice p bs.length c]).run Tryz.prog w = .ok v w' ∧ Own8 w' w.heap.size v (as1 ++ bs) ∧ Below w.heap.size w w' := by
  obtain ⟨i0, hi, hz0, hz1, hz2⟩ := info_parts u8info
  subst hk
  obtain ⟨b, off, rfl, _, hcell⟩ := hr hne
  have hcells : ∀ j u, (bs.map u8)[j]? = some u → w.cell? ((⟨b, off, none⟩ : Addr).add j) = some u := by
    intro j u hu
    rw [List.getElem?_map] at hu
    cases hx : bs[j]? with
    | none => rw [hx] at hu; cases hu
    | some x =>
      rw [hx] at hu
      injection hu with hu
      rw [Addr.add_lit, hcell j x hx, ← hu]
  have hpos : 0 < bs.length := by
    cases bs with
    | nil => exact absurd rfl hne
    | cons _ _ => simp
  obtain ⟨v', w', hrun, ho, hgr⟩ := run_append_arg_grows (P := Tryz.prog) w 28 ty 5 i0 (.int .u8 0) 1 1 Tryz.underlying28 hi hz0 hz1 hz2 rfl (by decide) ⟨g, 0, none⟩ as1.length as1.length (as1.map u8) (by simp)
    (fun j u hu => by rw [Addr.add_lit, Nat.zero_add, hb.cell, List.getElem?_toArray]; exact hu) ⟨b, off, none⟩ bs.length c (bs.map u8) (by simp) hcells (by omega) (by simp only [maxLen]; omega) (by omega)
  refine ⟨v', w', hrun, ?_, (Below.refl _ w).grown hgr (Nat.le_refl _) (fun k hk => by cases hk)⟩
  unfold Own8
  rw [List.length_append, List.map_append]
  exact ho
set_option maxRecDepth 100000 in
theorem wp_append_own {ops : Array Oper} {rest : List Oper} {o : Oper} {a : Act} {Q : Exit → Act → World → Prop} {w : World} (hw : Region.wanted o (yielded ops a.tmps) = true) (s x : Operand)
    (ho : o.op = .call { callee := .builtin .append, args := #[s, x], argTypes := #[28, 28] }) (g : Nat) (t : TypeId) (as1 : List (BitVec 8)) (k : Nat) (hs : a.eval s = .slice (some ⟨g, 0, none⟩) k k) (hk : as1.length = k) (hb : Blk w g t (as1.map u8).toArray)
    (p : Option Addr) (m c : Nat) (bs : List (BitVec 8)) (hx : a.eval x = .slice p m c) (hm : bs.length = m) (hne : bs ≠ []) (hr : Row8 w p bs) (hlen : k + m ≤ 140737488355328)
    (h : ∀ v w', Own8 w' w.heap.size v (as1 ++ bs) → Below w.heap.size w w' → wpList Tryz.prog ops Q rest (a.put o.dst v) w') : wpList Tryz.prog ops Q (o :: rest) a w := by
  subst hm
  obtain ⟨v, w', hrun, h2, h3⟩ := run_append_own w o.type g t as1 k hk hb p c bs hne hr hlen
  unfold wpList
  rw [if_pos hw]
  refine .inl ?_
  unfold Oper.wp execOp
  simp only [ho, resolve, invoke, builtin, Sem.run_bind, Sem.run_pure, Result.andThen_ok, List.map_toArray, List.map_cons, List.map_nil, hs, hx, hrun]
  exact h v w' h2 h3
end Go.Proofs.YtndobjlodpkknaaGreatDoor
