/- sporran/header.Encode: a header as data, the closure that puts a number's bytes. -/
import Derived.Test.YthglocpbdfcfnaaGB
import Derived.Test.YthglocpbdfcfnaaGA
import Derived.Deep.DeepCutAuto
namespace Go.Proofs.Ythglocpbdfcfnaa
open Go.RowKit

structure Hdr where
  v : BitVec 32
  p : List (BitVec 8)
  m : List (BitVec 8)
  t : BitVec 32
  b : BitVec 32
  n : BitVec 32
def Hdr.ok (h : Hdr) : Prop := h.p.length = 32 ∧ h.m.length = 32
/-- a header's cells -/
def Hdr.cells (h : Hdr) : List Value := u32 h.v :: (h.p.map u8 ++ (h.m.map u8 ++ [u32 h.t, u32 h.b, u32 h.n]))
theorem Hdr.cells_len {h : Hdr} (hk : h.ok) : h.cells.length = 68 := by simp [Hdr.cells, hk.1, hk.2]
/-- a number of 32 bits in four bytes, the lowest first -/
def le32 (n : BitVec 32) : List (BitVec 8) := low (n.setWidth 64) 4
theorem le32_len (n : BitVec 32) : (le32 n).length = 4 := low_len _ _
/-- a header's bytes -/
def Hdr.bytes (h : Hdr) : List (BitVec 8) := le32 h.v ++ (h.p ++ (h.m ++ (le32 h.t ++ (le32 h.b ++ le32 h.n))))
theorem Hdr.bytes_len {h : Hdr} (hk : h.ok) : h.bytes.length = 80 := by simp [Hdr.bytes, le32_len, hk.1, hk.2]

theorem shrB32 (n : BitVec 32) (i : Nat) : IntKind.u8.wrap (iv32 n / 2 ^ (8 * i)) = iv8 (byteN (n.setWidth 64) i) := by
  rw [shrp32, cut32_8]
  unfold byteN
  congr 1

theorem splice_map {α β : Type} (f : α → β) (L : List α) (off : Nat) (cs : List α) : (splice L off cs).map f = splice (L.map f) off (cs.map f) := by
  simp [splice, List.map_append, List.map_take, List.map_drop]
theorem splice_nil {α : Type} (L : List α) (off : Nat) : splice L off [] = L := by simp [splice]
theorem splice_snoc {α : Type} (L : List α) (off : Nat) (xs : List α) (x : α) (h : off + xs.length < L.length) : (splice L off xs).set (off + xs.length) x = splice L off (xs ++ [x]) := by
  unfold splice
  have h1 : (L.take off).length = off := by rw [List.length_take]; omega
  rw [List.set_append_right _ _ (by omega), h1, List.set_append_right _ _ (by omega), show off + xs.length - off - xs.length = 0 by omega]
  have h2 : L.drop (off + xs.length) = L[off + xs.length] :: L.drop (off + xs.length + 1) := List.drop_eq_getElem_cons h
  rw [h2, List.set_cons_zero, List.length_append, List.length_singleton, ← Nat.add_assoc]
  simp

set_option maxRecDepth 100000 in
set_option maxHeartbeats 2000000 in
theorem put_any (at0 : Nat) (n : BitVec 32) (g : Nat) (cs : List (BitVec 8)) (w : World) (hat : at0 + 4 ≤ 80) (hcs : cs.length = 80) (hg : Blk w g 113 (cs.map u8).toArray) :
    Calls Try.prog 78 #[.int .i64 (at0 : Int), u32 n, .pointer (some ⟨g, 0, none⟩)] w fun e w' => e = .returned (.tuple #[]) ∧ Hid (Blk w' g 113 ((splice cs at0 (le32 n)).map u8).toArray) ∧ Below g w w' := by
  have HCS := Lib.hid hcs
  have HG := Lib.hid hg
  clear hcs hg
  go_enter Try.func78, Try.ntmps78
  go_wp2
  go_loopw [6] (fun i wr => ∃ k : Nat, k ≤ 4 ∧ i = .int .i64 k ∧ Hid (Blk wr g 113 ((splice cs at0 (low (n.setWidth 64) k)).map u8).toArray) ∧ Below g w wr) (fun i _ => 4 - (intOf i).toNat)
  case atStart => exact ⟨0, by omega, rfl, by exact Lib.hid (by rw [show low (n.setWidth 64) 0 = [] by rfl, splice_nil]; exact HG.out), Below.refl _ _⟩
  case round =>
    obtain ⟨k, hk, rfl, hblk, hbel⟩ := hrel
    by_cases hkm : k < 4
    · have hlt : (k : Int) < 4 := by omega
      have hsh := shrB32 n k
      have hb1 : (0 : Int) ≤ 8 * (k : Int) := by omega
      have hb2 : 8 * (k : Int) ≤ 24 := by omega
      have hl : (splice cs at0 (low (n.setWidth 64) k)).length = 80 := by rw [length_splice _ _ _ (by rw [low_len, HCS.out]; omega), HCS.out]
      obtain ⟨x, hx⟩ : ∃ x, (splice cs at0 (low (n.setWidth 64) k))[at0 + k]? = some x := ⟨_, List.getElem?_eq_getElem (by omega)⟩
      have hcell : wr.cell? ⟨g, at0 + k, none⟩ = some (.int .u8 (iv8 x)) := by rw [hblk.out.cell]; simp [hx]
      have hfz := hblk.out.frozen (at0 + k)
      have hi0 : (0 : Int) ≤ (at0 : Int) + (k : Int) := by omega
      have hi1 : (at0 : Int) + (k : Int) < 80 := by omega
      have hst : splice cs at0 (low (n.setWidth 64) (k + 1)) = (splice cs at0 (low (n.setWidth 64) k)).set (at0 + k) (byteN (n.setWidth 64) k) := by
        have := splice_snoc cs at0 (low (n.setWidth 64) k) (byteN (n.setWidth 64) k) (by rw [low_len, HCS.out]; omega)
        rw [low_len] at this
        rw [low_succ, this]
      have HST := Lib.hid hst
      clear hl hx hst
      go_wp2
      clear hcell hfz hsh
      go_roundw
      case rel =>
        refine ⟨k + 1, by omega, by go_num, Lib.hid ?_, hbel.setCell (Nat.le_refl _) _⟩
        rw [HST.out]
        have := hblk.out.set (at0 + k) (.int .u8 (iv8 (byteN (n.setWidth 64) k)))
        rw [List.setIfInBounds_toArray, ← List.map_set] at this
        exact this
      case measure => simp [intOf]; omega
    · have hge : ¬ (k : Int) < 4 := by omega
      have hb4 := hblk.out
      rw [show k = 4 by omega] at hb4
      have hb5 := Lib.hid hb4
      clear hb4 hblk
      go_wp2
      go_end0
      exact ⟨rfl, hb5, hbel⟩

/-- noughts -/
def zeros (n : Nat) : List (BitVec 8) := List.replicate n 0#8
theorem splice_zeros (X Y : List (BitVec 8)) (k n : Nat) (hn : X.length = n) (_hk : Y.length ≤ k) : splice (X ++ zeros k) n Y = (X ++ Y) ++ zeros (k - Y.length) := by
  subst hn
  unfold splice zeros
  rw [List.take_left', List.drop_append, List.drop_of_length_le (by omega), List.drop_replicate]
  · simp
  · rfl
theorem hdr_chain (h : Hdr) (hk : h.ok) :
    splice (splice (splice (splice (splice (splice (zeros 80) 0 (le32 h.v)) 4 h.p) 36 h.m) 68 (le32 h.t)) 72 (le32 h.b)) 76 (le32 h.n) = h.bytes := by
  have l4 := le32_len
  rw [show zeros 80 = [] ++ zeros 80 by rfl, splice_zeros [] (le32 h.v) 80 0 rfl (by rw [l4]; omega), l4, List.nil_append]
  rw [splice_zeros (le32 h.v) h.p _ 4 (l4 _) (by rw [hk.1]; omega), hk.1]
  rw [splice_zeros (le32 h.v ++ h.p) h.m _ 36 (by rw [List.length_append, l4, hk.1]) (by rw [hk.2]; omega), hk.2]
  rw [splice_zeros (le32 h.v ++ h.p ++ h.m) (le32 h.t) _ 68 (by rw [List.length_append, List.length_append, l4, hk.1, hk.2]) (by rw [l4]; omega), l4]
  rw [splice_zeros (le32 h.v ++ h.p ++ h.m ++ le32 h.t) (le32 h.b) _ 72 (by rw [List.length_append, List.length_append, List.length_append, l4, l4, hk.1, hk.2]) (by rw [l4]; omega), l4]
  rw [splice_zeros (le32 h.v ++ h.p ++ h.m ++ le32 h.t ++ le32 h.b) (le32 h.n) _ 76 (by rw [List.length_append, List.length_append, List.length_append, List.length_append, l4, l4, l4, hk.1, hk.2]) (by rw [l4]; omega), l4]
  simp [zeros, Hdr.bytes, List.append_assoc]
theorem hdr_row_p {w : World} {g : Nat} {t : TypeId} {h : Hdr} (_hk : h.ok) (hb : Blk w g t h.cells.toArray) : Row8 w (some ⟨g, 1, none⟩) h.p := fun _ =>
  ⟨g, 1, rfl, hb.lt, fun i x hx => by
    rw [hb.cell, List.getElem?_toArray, Hdr.cells, Nat.add_comm, List.getElem?_cons_succ, List.getElem?_append_left (by rw [List.length_map]; exact (List.getElem?_eq_some_iff.1 hx).1), List.getElem?_map, hx]
    rfl⟩
theorem hdr_row_m {w : World} {g : Nat} {t : TypeId} {h : Hdr} (hk : h.ok) (hb : Blk w g t h.cells.toArray) : Row8 w (some ⟨g, 33, none⟩) h.m := fun _ =>
  ⟨g, 33, rfl, hb.lt, fun i x hx => by
    have h1 := (List.getElem?_eq_some_iff.1 hx).1
    rw [hb.cell, List.getElem?_toArray, Hdr.cells, show 33 + i = (32 + i) + 1 by omega, List.getElem?_cons_succ, List.getElem?_append_right (by rw [List.length_map, hk.1]; omega), List.length_map, hk.1, show 32 + i - 32 = i by omega,
      List.getElem?_append_left (by rw [List.length_map]; exact h1), List.getElem?_map, hx]
    rfl⟩
theorem hdr_cell_last {h : Hdr} (hk : h.ok) (i : Nat) : h.cells[65 + i]? = [u32 h.t, u32 h.b, u32 h.n][i]? := by
  rw [Hdr.cells, show 65 + i = (64 + i) + 1 by omega, List.getElem?_cons_succ, List.getElem?_append_right (by rw [List.length_map, hk.1]; omega), List.length_map, hk.1, List.getElem?_append_right (by rw [List.length_map, hk.2]; omega), List.length_map, hk.2]
  congr 1; omega
theorem act_put_some (cs : Array Value) (ds : List Deferred) (n : Nat) (v : Value) : (Act.mk cs ds).put (some n) v = ⟨cs.setIfInBounds n v, ds⟩ := rfl
theorem zero_of {P : Program} {t : TypeId} {z : Value} (h : (P.info? t).map (·.zero) = some (some z)) : ∀ w, (zeroValue t).run P w = .ok z w := by
  intro w
  cases hi : P.info? t with
  | none => rw [hi] at h; cases h
  | some i =>
    rw [hi] at h
    simp only [Option.map_some, Option.some.injEq] at h
    simp [zeroValue, typeInfo, hi, h, go_sem]
theorem zero80 : ∀ w, (zeroValue 113).run Try.prog w = .ok (.agg ((zeros 80).map u8).toArray) w := zero_of (by kernel_rfl)

set_option maxRecDepth 100000 in
set_option maxHeartbeats 2000000 in
theorem hdrEncode_any (h : Hdr) (hk : h.ok) (w : World) :
    Calls Try.prog 49 #[.agg h.cells.toArray] w fun e w' => ∃ g, e = .returned (.slice (some ⟨g, 0, none⟩) 80 80) ∧ Hid (Blk w' g 113 (h.bytes.map u8).toArray) ∧ w.heap.size ≤ g ∧ Below w.heap.size w w' := by
  have hmf : ∀ (fn : Fn) (first cap : Array Value) (w : World), (Instr.makeFunc fn first cap).run Try.prog w = .ok (.func fn first cap) w := fun _ _ _ _ => rfl
  have hz80 := zero80
  obtain ⟨Z, hZ⟩ : ∃ Z, Z = ((zeros 80).map u8).toArray := ⟨_, rfl⟩
  obtain ⟨C, hC⟩ : ∃ C, C = h.cells.toArray := ⟨_, rfl⟩
  rw [← hZ] at hz80
  rw [← hC]
  have HZ := Lib.hid hZ
  have HC := Lib.hid hC
  clear hZ hC
  go_enter Try.func49, Try.ntmps49
  go_upto_region 3 with fail
  refine wp_abst (fun w' => Hid (Blk w' w.heap.size 46 h.cells.toArray) ∧ Hid (Blk w' (w.heap.size + 1) 113 ((zeros 80).map u8).toArray) ∧ Below w.heap.size w w') ⟨Lib.hid (by rw [← HC.out]; exact (Blk.new w _ _).alloc _), Lib.hid (by rw [← HZ.out]; exact Blk.new2 w _ _ _), ((Below.refl _ _).alloc (Nat.le_refl _) _).alloc (by simp) _⟩ ?_
  rintro w1 ⟨hc1, hb1, hbel1⟩
  clear hz80 hmf
  have f0 : w1.cell? ⟨w.heap.size, 0, none⟩ = some (.int .u32 (iv32 h.v)) := by rw [hc1.out.cell]; rfl
  go_wp2_with fail
  refine (put_any 0 h.v _ (zeros 80) _ (by omega) rfl hb1.out).mono ?_
  rintro e w2 ⟨rfl, hb2, hbel2⟩
  have hc2 : Hid (Blk w2 w.heap.size 46 h.cells.toArray) := Lib.hid (hc1.out.below hbel2 (by omega))
  have hbw2 := hbel1.trans (hbel2.mono (by omega))
  obtain ⟨D2, hD2⟩ : ∃ D2, D2 = splice (zeros 80) 0 (le32 h.v) := ⟨_, rfl⟩
  rw [← hD2] at hb2
  have HD2 := Lib.hid hD2
  have HL2 : Hid (D2.length = 80) := Lib.hid (by rw [hD2, length_splice _ _ _ (by rw [le32_len]; simp [zeros])]; rfl)
  clear hD2 f0 hc1 hb1 hbel1 hbel2
  go_wp2_with fail
  refine quiet_tail 3 (by kernel_rfl) (by kernel_rfl) ?_
  simp only [List.take_succ_cons, List.take_zero, List.drop_succ_cons, List.drop_zero]
  repeat (go_big_quiet_step (fail))
  refine wpQuiet_nil ?_
  rintro _ ⟨nq, rfl⟩
  refine wp_copy8 (o := ⟨some 13, _, _, _, _, _⟩) rfl (.tmp 10) (.tmp 12) 27 27 rfl 5 Try.underlying27 (by kernel_rfl) 76 76 32 (some ⟨w.heap.size, 1, none⟩) h.p (w.heap.size + 1) 4 rfl (by rw [hk.1]; rfl) ((hdr_row_p hk hc2.out).below (below_drewN (Below.refl _ _) nq) (Nat.le_refl _)) (D2.map u8) 113 hb2.out 32 (by rw [hk.1]; rfl) (by rw [List.length_map, HL2.out]; omega) (w.heap.size + 1) w2 (below_drewN (Below.refl _ _) nq) (Nat.le_refl _) ?_
  intro w3 hb3' hbel3 _
  simp only [act_put_some, List.setIfInBounds_toArray, List.set_cons_succ, List.set_cons_zero, goInt]
  have hc3 : Hid (Blk w3 w.heap.size 46 h.cells.toArray) := Lib.hid (hc2.out.below hbel3 (by omega))
  have hbw3 := hbw2.trans (hbel3.mono (by omega))
  rw [List.take_of_length_le (l := h.p) (by rw [hk.1]; omega), ← splice_map] at hb3'
  obtain ⟨D3, hD3⟩ : ∃ D3, D3 = splice D2 4 h.p := ⟨_, rfl⟩
  rw [← hD3] at hb3'
  have HD3 := Lib.hid hD3
  have HL3 : Hid (D3.length = 80) := Lib.hid (by rw [hD3, length_splice _ _ _ (by rw [hk.1, HL2.out]; omega), HL2.out])
  clear hD3 hb2 hc2 hbw2 hbel3
  go_wp2_with fail
  refine quiet_tail 3 (by kernel_rfl) (by kernel_rfl) ?_
  simp only [List.take_succ_cons, List.take_zero, List.drop_succ_cons, List.drop_zero]
  repeat (go_big_quiet_step (fail))
  refine wpQuiet_nil ?_
  rintro _ ⟨nq, rfl⟩
  refine wp_copy8 (o := ⟨some 17, _, _, _, _, _⟩) rfl (.tmp 14) (.tmp 16) 27 27 rfl 5 Try.underlying27 (by kernel_rfl) 44 44 32 (some ⟨w.heap.size, 33, none⟩) h.m (w.heap.size + 1) 36 rfl (by rw [hk.2]; rfl) ((hdr_row_m hk hc3.out).below (below_drewN (Below.refl _ _) nq) (Nat.le_refl _)) (D3.map u8) 113 hb3'.out 32 (by rw [hk.2]; rfl) (by rw [List.length_map, HL3.out]; omega) (w.heap.size + 1) w3 (below_drewN (Below.refl _ _) nq) (Nat.le_refl _) ?_
  intro w4 hb4 hbel4 _
  simp only [act_put_some, List.setIfInBounds_toArray, List.set_cons_succ, List.set_cons_zero, goInt]
  have hc4 : Hid (Blk w4 w.heap.size 46 h.cells.toArray) := Lib.hid (hc3.out.below hbel4 (by omega))
  have hbw4 := hbw3.trans (hbel4.mono (by omega))
  rw [List.take_of_length_le (l := h.m) (by rw [hk.2]; omega), ← splice_map] at hb4
  obtain ⟨D4, hD4⟩ : ∃ D4, D4 = splice D3 36 h.m := ⟨_, rfl⟩
  rw [← hD4] at hb4
  have HD4 := Lib.hid hD4
  have HL4 : Hid (D4.length = 80) := Lib.hid (by rw [hD4, length_splice _ _ _ (by rw [hk.2, HL3.out]; omega), HL3.out])
  clear hD4 hb3' hc3 hbw3 hbel4
  have f5 : w4.cell? ⟨w.heap.size, 65, none⟩ = some (.int .u32 (iv32 h.t)) := by rw [hc4.out.cell, List.getElem?_toArray]; exact hdr_cell_last hk 0
  go_wp2_with fail
  refine (put_any 68 h.t _ D4 _ (by omega) HL4.out hb4.out).mono ?_
  rintro e w5 ⟨rfl, hb5, hbel5⟩
  have hc5 : Hid (Blk w5 w.heap.size 46 h.cells.toArray) := Lib.hid (hc4.out.below hbel5 (by omega))
  have hbw5 := hbw4.trans (hbel5.mono (by omega))
  obtain ⟨D5, hD5⟩ : ∃ D5, D5 = splice D4 68 (le32 h.t) := ⟨_, rfl⟩
  rw [← hD5] at hb5
  have HD5 := Lib.hid hD5
  have HL5 : Hid (D5.length = 80) := Lib.hid (by rw [hD5, length_splice _ _ _ (by rw [le32_len, HL4.out]; omega), HL4.out])
  clear hD5 f5 hc4 hb4 hbw4 hbel5
  have f6 : w5.cell? ⟨w.heap.size, 66, none⟩ = some (.int .u32 (iv32 h.b)) := by rw [hc5.out.cell, List.getElem?_toArray]; exact hdr_cell_last hk 1
  go_wp2_with fail
  refine (put_any 72 h.b _ D5 _ (by omega) HL5.out hb5.out).mono ?_
  rintro e w6 ⟨rfl, hb6, hbel6⟩
  have hc6 : Hid (Blk w6 w.heap.size 46 h.cells.toArray) := Lib.hid (hc5.out.below hbel6 (by omega))
  have hbw6 := hbw5.trans (hbel6.mono (by omega))
  obtain ⟨D6, hD6⟩ : ∃ D6, D6 = splice D5 72 (le32 h.b) := ⟨_, rfl⟩
  rw [← hD6] at hb6
  have HD6 := Lib.hid hD6
  have HL6 : Hid (D6.length = 80) := Lib.hid (by rw [hD6, length_splice _ _ _ (by rw [le32_len, HL5.out]; omega), HL5.out])
  clear hD6 f6 hc5 hb5 hbw5 hbel6
  have f7 : w6.cell? ⟨w.heap.size, 67, none⟩ = some (.int .u32 (iv32 h.n)) := by rw [hc6.out.cell, List.getElem?_toArray]; exact hdr_cell_last hk 2
  go_wp2_with fail
  refine (put_any 76 h.n _ D6 _ (by omega) HL6.out hb6.out).mono ?_
  rintro e w7 ⟨rfl, hb7, hbel7⟩
  have hc7 : Hid (Blk w7 w.heap.size 46 h.cells.toArray) := Lib.hid (hc6.out.below hbel7 (by omega))
  have hbw7 := hbw6.trans (hbel7.mono (by omega))
  obtain ⟨D7, hD7⟩ : ∃ D7, D7 = splice D6 76 (le32 h.n) := ⟨_, rfl⟩
  rw [← hD7] at hb7
  have HD7 := Lib.hid hD7
  have HL7 : Hid (D7.length = 80) := Lib.hid (by rw [hD7, length_splice _ _ _ (by rw [le32_len, HL6.out]; omega), HL6.out])
  clear hD7 f7 hc6 hb6 hbw6 hbel7
  have hD : D7 = h.bytes := by rw [HD7.out, HD6.out, HD5.out, HD4.out, HD3.out, HD2.out]; exact hdr_chain h hk
  rw [hD] at hb7
  clear hD
  go_wp2
  go_ret
  exact ⟨_, rfl, hb7, by omega, hbw7⟩
end Go.Proofs.Ythglocpbdfcfnaa
