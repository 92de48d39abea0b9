/- address.regroup, groups of five turned to bytes: the walk. -/
import Derived.Test.YtbkpgdfkjijagaaDoorAdrH
namespace Go.Proofs.YtbkpgdfkjijagaaDoor
open Go.RowKit
set_option linter.unusedVariables false

def RgPost (w : World) (l : List Nat) (e : Ending) (w' : World) : Prop := ∃ v, e = .returned (.tuple #[v, .bool (decide ((b8all l).2.2 < 5) && decide ((b8all l).2.1 = 0))]) ∧ OwnZ w' w.heap.size v (zl (b8all l).1) ∧ Below w.heap.size w w'

set_option maxRecDepth 100000 in
set_option maxHeartbeats 8000000 in
theorem regroup_any (p : Option Addr) (n c : Nat) (l : List Nat) (w : World) (hr : RowZ w p (zl l)) (hn : l.length = n) (hb : n ≤ 1000) (hl : ∀ x ∈ l, x < 32) :
    Calls Tryd.prog 51 #[.slice p n c, .int .i64 5, .int .i64 8, .bool false] w (RgPost w l) := by
  have HL32 := Lib.hid hl
  have HLL := Lib.hid hn
  have HR := Lib.hid hr
  clear hr hl hn
  go_enter Tryd.func51, Tryd.ntmps51
  go_wp2_with fail
  go_loopw [10, 11, 12, 17] (fun v nv bv i wx => ∃ k N b : Nat, k ≤ n ∧ i = .int .i64 k ∧ nv = .int .i64 N ∧ bv = .int .i64 b ∧ Hid (N = (b8all (l.take k)).2.1 ∧ b = (b8all (l.take k)).2.2) ∧ Hid (OwnZ wx w.heap.size v (zl (b8all (l.take k)).1)) ∧ Hid (Below w.heap.size w wx)) (fun _ _ _ i _ => n - (intOf i).toNat)
  case atStart => exact ⟨0, 0, 0, by omega, rfl, rfl, rfl, Lib.hid ⟨rfl, rfl⟩, Lib.hid (OwnZ.nil _ _), Lib.hid (Below.refl _ _)⟩
  case round =>
    obtain ⟨k, N, b, hk, rfl, rfl, rfl, HNB, HO, HB⟩ := hrel
    have hok := b8_ok (l.take k) (fun x hx => HL32.out x (List.mem_of_mem_take hx))
    have hb8 : b < 8 := by rw [HNB.out.2]; exact hok.bits
    have hNb : N < 2 ^ b := by rw [HNB.out.1, HNB.out.2]; exact hok.left
    have HOL : Hid ((b8all (l.take k)).1.length ≤ 1000) := Lib.hid (by have h := hok.len; rw [List.length_take] at h; omega)
    clear hok
    by_cases hkm : k < n
    · have hlt : (k : Int) < (n : Int) := by omega
      obtain ⟨x, hx⟩ : ∃ x, l[k]? = some x := ⟨_, List.getElem?_eq_getElem (by rw [HLL.out]; omega)⟩
      have hx32 := HL32.out x (List.mem_of_getElem? hx)
      obtain ⟨bb, o, rfl, _, hcl⟩ := (HR.out.fut HB.out) (fun e => by have := zl_at hx; rw [e] at this; cases this)
      have hcell := hcl k _ (zl_at hx)
      have hN256 : N < 256 := Nat.lt_of_lt_of_le hNb (by have := Nat.pow_le_pow_right (n := 2) (by decide) (show b ≤ 8 by omega); omega)
      have HS : Hid (b8all (l.take (k + 1)) = b8step (b8all (l.take k)) x) := Lib.hid (by rw [List.take_add_one, hx]; exact b8all_app _ _)
      have HOR := Lib.hid (orN32 N x (by omega) hx32)
      have HOR' := Lib.hid (orN32' N x (by omega) hx32)
      have hM0 : 32 * N + x < 2 ^ (b + 5) := by rw [Nat.pow_add]; omega
      clear hx hcl
      go_upto_region 7 with fail
      first | rw [HOR'.out] | rw [HOR.out]
      obtain ⟨M, hM⟩ : ∃ M, M = 32 * N + x := ⟨_, rfl⟩
      rw [← hM] at hM0 ⊢
      have HM := Lib.hid hM
      obtain ⟨O, hO⟩ : ∃ O, O = (b8all (l.take k)).1 := ⟨_, rfl⟩
      have HOO := Lib.hid hO
      rw [← hO] at HO HOL
      obtain ⟨b5, hb5⟩ : ∃ z : Int, z = (b : Int) + 5 := ⟨_, rfl⟩
      rw [← hb5]
      obtain ⟨bz, hbz⟩ : ∃ z : Int, z = (b : Int) := ⟨_, rfl⟩
      rw [← hbz]
      clear hM hcell HOR HOR' hNb hN256 hO
      rcases (show b = 0 ∨ b = 1 ∨ b = 2 ∨ b = 3 ∨ b = 4 ∨ b = 5 ∨ b = 6 ∨ b = 7 by omega) with rfl | rfl | rfl | rfl | rfl | rfl | rfl | rfl
      · obtain rfl : bz = 0 := hbz
        obtain rfl : b5 = 5 := hb5
        have HS2 : Hid (b8all (l.take (k + 1)) = (O, M, 5)) := Lib.hid (by rw [HS.out, b8next HNB.out HM.out, if_neg (by decide), HOO.out])
        go_loopw [10, 11, 12] (fun v nv bv wx => ∃ z : Int, bv = .int .i64 z ∧ ((z = 5 ∧ nv = .int .i64 (M : Int) ∧ Hid (OwnZ wx w.heap.size v (zl O)))) ∧ Hid (Below w.heap.size w wx)) (fun _ _ bv _ => (intOf bv).toNat)
        case atStart => exact ⟨5, rfl, ⟨rfl, rfl, HO⟩, HB⟩
        case round =>
          obtain ⟨z, rfl, hcase, HB2⟩ := hrel
          obtain ⟨rfl, rfl, HO2⟩ := hcase
          have HB3 := HB2.out
          clear HB2
          go_wp2_with fail
          go_roundw
          case rel => exact ⟨k + 1, M, 5, by omega, by go_num, rfl, rfl, Lib.hid ⟨by rw [HS2.out], by rw [HS2.out]⟩, Lib.hid (by rw [HS2.out]; exact HO2.out), Lib.hid HB3⟩
          case measure => simp [intOf]; omega
      · obtain rfl : bz = 1 := hbz
        obtain rfl : b5 = 6 := hb5
        have HS2 : Hid (b8all (l.take (k + 1)) = (O, M, 6)) := Lib.hid (by rw [HS.out, b8next HNB.out HM.out, if_neg (by decide), HOO.out])
        go_loopw [10, 11, 12] (fun v nv bv wx => ∃ z : Int, bv = .int .i64 z ∧ ((z = 6 ∧ nv = .int .i64 (M : Int) ∧ Hid (OwnZ wx w.heap.size v (zl O)))) ∧ Hid (Below w.heap.size w wx)) (fun _ _ bv _ => (intOf bv).toNat)
        case atStart => exact ⟨6, rfl, ⟨rfl, rfl, HO⟩, HB⟩
        case round =>
          obtain ⟨z, rfl, hcase, HB2⟩ := hrel
          obtain ⟨rfl, rfl, HO2⟩ := hcase
          have HB3 := HB2.out
          clear HB2
          go_wp2_with fail
          go_roundw
          case rel => exact ⟨k + 1, M, 6, by omega, by go_num, rfl, rfl, Lib.hid ⟨by rw [HS2.out], by rw [HS2.out]⟩, Lib.hid (by rw [HS2.out]; exact HO2.out), Lib.hid HB3⟩
          case measure => simp [intOf]; omega
      · obtain rfl : bz = 2 := hbz
        obtain rfl : b5 = 7 := hb5
        have HS2 : Hid (b8all (l.take (k + 1)) = (O, M, 7)) := Lib.hid (by rw [HS.out, b8next HNB.out HM.out, if_neg (by decide), HOO.out])
        go_loopw [10, 11, 12] (fun v nv bv wx => ∃ z : Int, bv = .int .i64 z ∧ ((z = 7 ∧ nv = .int .i64 (M : Int) ∧ Hid (OwnZ wx w.heap.size v (zl O)))) ∧ Hid (Below w.heap.size w wx)) (fun _ _ bv _ => (intOf bv).toNat)
        case atStart => exact ⟨7, rfl, ⟨rfl, rfl, HO⟩, HB⟩
        case round =>
          obtain ⟨z, rfl, hcase, HB2⟩ := hrel
          obtain ⟨rfl, rfl, HO2⟩ := hcase
          have HB3 := HB2.out
          clear HB2
          go_wp2_with fail
          go_roundw
          case rel => exact ⟨k + 1, M, 7, by omega, by go_num, rfl, rfl, Lib.hid ⟨by rw [HS2.out], by rw [HS2.out]⟩, Lib.hid (by rw [HS2.out]; exact HO2.out), Lib.hid HB3⟩
          case measure => simp [intOf]; omega
      · obtain rfl : bz = 3 := hbz
        obtain rfl : b5 = 8 := hb5
        have HS2 : Hid (b8all (l.take (k + 1)) = (O ++ [M / 1], M % 2 ^ 0, 0)) := Lib.hid (by rw [HS.out, b8next HNB.out HM.out, if_pos (by decide), HOO.out])
        have HLB := Lib.hid (low_bits M 0 0 rfl (by decide) (by omega))
        have HCV : Hid ((M : Int) = ((M / 1 : Nat) : Int)) := Lib.hid (by omega)
        go_loopw [10, 11, 12] (fun v nv bv wx => ∃ z : Int, bv = .int .i64 z ∧ ((z = 8 ∧ nv = .int .i64 (M : Int) ∧ Hid (OwnZ wx w.heap.size v (zl O))) ∨ (z = 0 ∧ nv = .int .i64 ((M % 2 ^ 0 : Nat) : Int) ∧ Hid (OwnZ wx w.heap.size v (zl (O ++ [M / 1]))))) ∧ Hid (Below w.heap.size w wx)) (fun _ _ bv _ => (intOf bv).toNat)
        case atStart => exact ⟨8, rfl, .inl ⟨rfl, rfl, HO⟩, HB⟩
        case round =>
          obtain ⟨z, rfl, hcase, HB2⟩ := hrel
          rcases hcase with ⟨rfl, rfl, HO2⟩ | ⟨rfl, rfl, HO2⟩
          · have hsz2 : w.heap.size ≤ wr.heap.size := HB2.out.size
            have hb3 := HB2.out.alloc hsz2 (.cells #[.int .i64 (M : Int)] 3)
            have hsz3 := hb3.size
            have ho3 := HO2.out.alloc (.cells #[.int .i64 (M : Int)] 3)
            have hrow3 := new_oneZ wr (M : Int)
            have hdl : (zl O).length + 1 ≤ 1000000 := by rw [zl_len]; have := HOL.out; omega
            go_wp2_with (with_reducible refine wp_appendZ (o := ⟨some 40, _, _, _, _, _⟩) ?_ (.tmp 35) (.tmp 39) ?_ w.heap.size _ (zl O) ?_ ho3 (some ⟨wr.heap.size, 0, none⟩) 1 1 [(M : Int)] ?_ rfl hrow3 ?_ hsz3 w.heap.size w hb3 ?_ ?_
                         · rfl
                         · rfl
                         · rfl
                         · rfl
                         · exact hdl
                         · exact Nat.le_refl _
                         intro v4 w4 ho4 hb4)
            have ho5 : OwnZ w4 w.heap.size v4 (zl O ++ zl [M / 1]) := by have h := ho4; rw [HCV.out] at h; exact h
            go_roundw
            case rel => exact ⟨0, rfl, .inr ⟨rfl, by rw [HLB.out], Lib.hid (by rw [zl_app]; exact ho5)⟩, Lib.hid hb4⟩
            case measure => simp [intOf]
          · have HB3 := HB2.out
            obtain ⟨R, hR⟩ : ∃ R, R = M % 2 ^ 0 := ⟨_, rfl⟩
            have HRR := Lib.hid hR
            rw [← hR]
            clear HB2 hR
            go_wp2_with fail
            go_roundw
            case rel => exact ⟨k + 1, R, 0, by omega, by go_num, rfl, rfl, Lib.hid ⟨by rw [HS2.out, HRR.out], by rw [HS2.out]⟩, Lib.hid (by rw [HS2.out]; exact HO2.out), Lib.hid HB3⟩
            case measure => simp [intOf]; omega
      · obtain rfl : bz = 4 := hbz
        obtain rfl : b5 = 9 := hb5
        have HS2 : Hid (b8all (l.take (k + 1)) = (O ++ [M / 2], M % 2 ^ 1, 1)) := Lib.hid (by rw [HS.out, b8next HNB.out HM.out, if_pos (by decide), HOO.out])
        have HLB := Lib.hid (low_bits M 1 1 rfl (by decide) (by omega))
        have HCV : Hid (((M : Int) / 2) = ((M / 2 : Nat) : Int)) := Lib.hid (by omega)
        go_loopw [10, 11, 12] (fun v nv bv wx => ∃ z : Int, bv = .int .i64 z ∧ ((z = 9 ∧ nv = .int .i64 (M : Int) ∧ Hid (OwnZ wx w.heap.size v (zl O))) ∨ (z = 1 ∧ nv = .int .i64 ((M % 2 ^ 1 : Nat) : Int) ∧ Hid (OwnZ wx w.heap.size v (zl (O ++ [M / 2]))))) ∧ Hid (Below w.heap.size w wx)) (fun _ _ bv _ => (intOf bv).toNat)
        case atStart => exact ⟨9, rfl, .inl ⟨rfl, rfl, HO⟩, HB⟩
        case round =>
          obtain ⟨z, rfl, hcase, HB2⟩ := hrel
          rcases hcase with ⟨rfl, rfl, HO2⟩ | ⟨rfl, rfl, HO2⟩
          · have hsz2 : w.heap.size ≤ wr.heap.size := HB2.out.size
            have hb3 := HB2.out.alloc hsz2 (.cells #[.int .i64 ((M : Int) / 2)] 3)
            have hsz3 := hb3.size
            have ho3 := HO2.out.alloc (.cells #[.int .i64 ((M : Int) / 2)] 3)
            have hrow3 := new_oneZ wr ((M : Int) / 2)
            have hdl : (zl O).length + 1 ≤ 1000000 := by rw [zl_len]; have := HOL.out; omega
            go_wp2_with (with_reducible refine wp_appendZ (o := ⟨some 40, _, _, _, _, _⟩) ?_ (.tmp 35) (.tmp 39) ?_ w.heap.size _ (zl O) ?_ ho3 (some ⟨wr.heap.size, 0, none⟩) 1 1 [((M : Int) / 2)] ?_ rfl hrow3 ?_ hsz3 w.heap.size w hb3 ?_ ?_
                         · rfl
                         · rfl
                         · rfl
                         · rfl
                         · exact hdl
                         · exact Nat.le_refl _
                         intro v4 w4 ho4 hb4)
            have ho5 : OwnZ w4 w.heap.size v4 (zl O ++ zl [M / 2]) := by have h := ho4; rw [HCV.out] at h; exact h
            go_roundw
            case rel => exact ⟨1, rfl, .inr ⟨rfl, by rw [HLB.out], Lib.hid (by rw [zl_app]; exact ho5)⟩, Lib.hid hb4⟩
            case measure => simp [intOf]
          · have HB3 := HB2.out
            obtain ⟨R, hR⟩ : ∃ R, R = M % 2 ^ 1 := ⟨_, rfl⟩
            have HRR := Lib.hid hR
            rw [← hR]
            clear HB2 hR
            go_wp2_with fail
            go_roundw
            case rel => exact ⟨k + 1, R, 1, by omega, by go_num, rfl, rfl, Lib.hid ⟨by rw [HS2.out, HRR.out], by rw [HS2.out]⟩, Lib.hid (by rw [HS2.out]; exact HO2.out), Lib.hid HB3⟩
            case measure => simp [intOf]; omega
      · obtain rfl : bz = 5 := hbz
        obtain rfl : b5 = 10 := hb5
        have HS2 : Hid (b8all (l.take (k + 1)) = (O ++ [M / 4], M % 2 ^ 2, 2)) := Lib.hid (by rw [HS.out, b8next HNB.out HM.out, if_pos (by decide), HOO.out])
        have HLB := Lib.hid (low_bits M 2 3 rfl (by decide) (by omega))
        have HCV : Hid (((M : Int) / 4) = ((M / 4 : Nat) : Int)) := Lib.hid (by omega)
        go_loopw [10, 11, 12] (fun v nv bv wx => ∃ z : Int, bv = .int .i64 z ∧ ((z = 10 ∧ nv = .int .i64 (M : Int) ∧ Hid (OwnZ wx w.heap.size v (zl O))) ∨ (z = 2 ∧ nv = .int .i64 ((M % 2 ^ 2 : Nat) : Int) ∧ Hid (OwnZ wx w.heap.size v (zl (O ++ [M / 4]))))) ∧ Hid (Below w.heap.size w wx)) (fun _ _ bv _ => (intOf bv).toNat)
        case atStart => exact ⟨10, rfl, .inl ⟨rfl, rfl, HO⟩, HB⟩
        case round =>
          obtain ⟨z, rfl, hcase, HB2⟩ := hrel
          rcases hcase with ⟨rfl, rfl, HO2⟩ | ⟨rfl, rfl, HO2⟩
          · have hsz2 : w.heap.size ≤ wr.heap.size := HB2.out.size
            have hb3 := HB2.out.alloc hsz2 (.cells #[.int .i64 ((M : Int) / 4)] 3)
            have hsz3 := hb3.size
            have ho3 := HO2.out.alloc (.cells #[.int .i64 ((M : Int) / 4)] 3)
            have hrow3 := new_oneZ wr ((M : Int) / 4)
            have hdl : (zl O).length + 1 ≤ 1000000 := by rw [zl_len]; have := HOL.out; omega
            go_wp2_with (with_reducible refine wp_appendZ (o := ⟨some 40, _, _, _, _, _⟩) ?_ (.tmp 35) (.tmp 39) ?_ w.heap.size _ (zl O) ?_ ho3 (some ⟨wr.heap.size, 0, none⟩) 1 1 [((M : Int) / 4)] ?_ rfl hrow3 ?_ hsz3 w.heap.size w hb3 ?_ ?_
                         · rfl
                         · rfl
                         · rfl
                         · rfl
                         · exact hdl
                         · exact Nat.le_refl _
                         intro v4 w4 ho4 hb4)
            have ho5 : OwnZ w4 w.heap.size v4 (zl O ++ zl [M / 4]) := by have h := ho4; rw [HCV.out] at h; exact h
            go_roundw
            case rel => exact ⟨2, rfl, .inr ⟨rfl, by rw [HLB.out], Lib.hid (by rw [zl_app]; exact ho5)⟩, Lib.hid hb4⟩
            case measure => simp [intOf]
          · have HB3 := HB2.out
            obtain ⟨R, hR⟩ : ∃ R, R = M % 2 ^ 2 := ⟨_, rfl⟩
            have HRR := Lib.hid hR
            rw [← hR]
            clear HB2 hR
            go_wp2_with fail
            go_roundw
            case rel => exact ⟨k + 1, R, 2, by omega, by go_num, rfl, rfl, Lib.hid ⟨by rw [HS2.out, HRR.out], by rw [HS2.out]⟩, Lib.hid (by rw [HS2.out]; exact HO2.out), Lib.hid HB3⟩
            case measure => simp [intOf]; omega
      · obtain rfl : bz = 6 := hbz
        obtain rfl : b5 = 11 := hb5
        have HS2 : Hid (b8all (l.take (k + 1)) = (O ++ [M / 8], M % 2 ^ 3, 3)) := Lib.hid (by rw [HS.out, b8next HNB.out HM.out, if_pos (by decide), HOO.out])
        have HLB := Lib.hid (low_bits M 3 7 rfl (by decide) (by omega))
        have HCV : Hid (((M : Int) / 8) = ((M / 8 : Nat) : Int)) := Lib.hid (by omega)
        go_loopw [10, 11, 12] (fun v nv bv wx => ∃ z : Int, bv = .int .i64 z ∧ ((z = 11 ∧ nv = .int .i64 (M : Int) ∧ Hid (OwnZ wx w.heap.size v (zl O))) ∨ (z = 3 ∧ nv = .int .i64 ((M % 2 ^ 3 : Nat) : Int) ∧ Hid (OwnZ wx w.heap.size v (zl (O ++ [M / 8]))))) ∧ Hid (Below w.heap.size w wx)) (fun _ _ bv _ => (intOf bv).toNat)
        case atStart => exact ⟨11, rfl, .inl ⟨rfl, rfl, HO⟩, HB⟩
        case round =>
          obtain ⟨z, rfl, hcase, HB2⟩ := hrel
          rcases hcase with ⟨rfl, rfl, HO2⟩ | ⟨rfl, rfl, HO2⟩
          · have hsz2 : w.heap.size ≤ wr.heap.size := HB2.out.size
            have hb3 := HB2.out.alloc hsz2 (.cells #[.int .i64 ((M : Int) / 8)] 3)
            have hsz3 := hb3.size
            have ho3 := HO2.out.alloc (.cells #[.int .i64 ((M : Int) / 8)] 3)
            have hrow3 := new_oneZ wr ((M : Int) / 8)
            have hdl : (zl O).length + 1 ≤ 1000000 := by rw [zl_len]; have := HOL.out; omega
            go_wp2_with (with_reducible refine wp_appendZ (o := ⟨some 40, _, _, _, _, _⟩) ?_ (.tmp 35) (.tmp 39) ?_ w.heap.size _ (zl O) ?_ ho3 (some ⟨wr.heap.size, 0, none⟩) 1 1 [((M : Int) / 8)] ?_ rfl hrow3 ?_ hsz3 w.heap.size w hb3 ?_ ?_
                         · rfl
                         · rfl
                         · rfl
                         · rfl
                         · exact hdl
                         · exact Nat.le_refl _
                         intro v4 w4 ho4 hb4)
            have ho5 : OwnZ w4 w.heap.size v4 (zl O ++ zl [M / 8]) := by have h := ho4; rw [HCV.out] at h; exact h
            go_roundw
            case rel => exact ⟨3, rfl, .inr ⟨rfl, by rw [HLB.out], Lib.hid (by rw [zl_app]; exact ho5)⟩, Lib.hid hb4⟩
            case measure => simp [intOf]
          · have HB3 := HB2.out
            obtain ⟨R, hR⟩ : ∃ R, R = M % 2 ^ 3 := ⟨_, rfl⟩
            have HRR := Lib.hid hR
            rw [← hR]
            clear HB2 hR
            go_wp2_with fail
            go_roundw
            case rel => exact ⟨k + 1, R, 3, by omega, by go_num, rfl, rfl, Lib.hid ⟨by rw [HS2.out, HRR.out], by rw [HS2.out]⟩, Lib.hid (by rw [HS2.out]; exact HO2.out), Lib.hid HB3⟩
            case measure => simp [intOf]; omega
      · obtain rfl : bz = 7 := hbz
        obtain rfl : b5 = 12 := hb5
        have HS2 : Hid (b8all (l.take (k + 1)) = (O ++ [M / 16], M % 2 ^ 4, 4)) := Lib.hid (by rw [HS.out, b8next HNB.out HM.out, if_pos (by decide), HOO.out])
        have HLB := Lib.hid (low_bits M 4 15 rfl (by decide) (by omega))
        have HCV : Hid (((M : Int) / 16) = ((M / 16 : Nat) : Int)) := Lib.hid (by omega)
        go_loopw [10, 11, 12] (fun v nv bv wx => ∃ z : Int, bv = .int .i64 z ∧ ((z = 12 ∧ nv = .int .i64 (M : Int) ∧ Hid (OwnZ wx w.heap.size v (zl O))) ∨ (z = 4 ∧ nv = .int .i64 ((M % 2 ^ 4 : Nat) : Int) ∧ Hid (OwnZ wx w.heap.size v (zl (O ++ [M / 16]))))) ∧ Hid (Below w.heap.size w wx)) (fun _ _ bv _ => (intOf bv).toNat)
        case atStart => exact ⟨12, rfl, .inl ⟨rfl, rfl, HO⟩, HB⟩
        case round =>
          obtain ⟨z, rfl, hcase, HB2⟩ := hrel
          rcases hcase with ⟨rfl, rfl, HO2⟩ | ⟨rfl, rfl, HO2⟩
          · have hsz2 : w.heap.size ≤ wr.heap.size := HB2.out.size
            have hb3 := HB2.out.alloc hsz2 (.cells #[.int .i64 ((M : Int) / 16)] 3)
            have hsz3 := hb3.size
            have ho3 := HO2.out.alloc (.cells #[.int .i64 ((M : Int) / 16)] 3)
            have hrow3 := new_oneZ wr ((M : Int) / 16)
            have hdl : (zl O).length + 1 ≤ 1000000 := by rw [zl_len]; have := HOL.out; omega
            go_wp2_with (with_reducible refine wp_appendZ (o := ⟨some 40, _, _, _, _, _⟩) ?_ (.tmp 35) (.tmp 39) ?_ w.heap.size _ (zl O) ?_ ho3 (some ⟨wr.heap.size, 0, none⟩) 1 1 [((M : Int) / 16)] ?_ rfl hrow3 ?_ hsz3 w.heap.size w hb3 ?_ ?_
                         · rfl
                         · rfl
                         · rfl
                         · rfl
                         · exact hdl
                         · exact Nat.le_refl _
                         intro v4 w4 ho4 hb4)
            have ho5 : OwnZ w4 w.heap.size v4 (zl O ++ zl [M / 16]) := by have h := ho4; rw [HCV.out] at h; exact h
            go_roundw
            case rel => exact ⟨4, rfl, .inr ⟨rfl, by rw [HLB.out], Lib.hid (by rw [zl_app]; exact ho5)⟩, Lib.hid hb4⟩
            case measure => simp [intOf]
          · have HB3 := HB2.out
            obtain ⟨R, hR⟩ : ∃ R, R = M % 2 ^ 4 := ⟨_, rfl⟩
            have HRR := Lib.hid hR
            rw [← hR]
            clear HB2 hR
            go_wp2_with fail
            go_roundw
            case rel => exact ⟨k + 1, R, 4, by omega, by go_num, rfl, rfl, Lib.hid ⟨by rw [HS2.out, HRR.out], by rw [HS2.out]⟩, Lib.hid (by rw [HS2.out]; exact HO2.out), Lib.hid HB3⟩
            case measure => simp [intOf]; omega
    · have hlt : ¬ (k : Int) < (n : Int) := by omega
      have HT : Hid (l.take k = l) := Lib.hid (List.take_of_length_le (by rw [HLL.out]; omega))
      rw [HT.out] at HO HNB
      have HB3 := HB.out
      clear HB hNb hb8 HOL
      by_cases h5 : b < 5
      · have h5' : (b : Int) < 5 := by omega
        by_cases h0 : N = 0
        · subst h0
          have HE : Hid ((decide ((b8all l).2.2 < 5) && decide ((b8all l).2.1 = 0)) = true) := Lib.hid (by rw [← HNB.out.1, ← HNB.out.2, decide_eq_true h5]; rfl)
          clear h5
          go_wp2_with fail
          go_ret2
          exact ⟨_, by rw [HE.out]; rfl, HO.out, HB3⟩
        · have h0' : ((N : Int) == 0) = false := by rw [beq_eq_false_iff_ne]; omega
          have HE : Hid ((decide ((b8all l).2.2 < 5) && decide ((b8all l).2.1 = 0)) = false) := Lib.hid (by rw [← HNB.out.1, ← HNB.out.2, decide_eq_false h0, Bool.and_false])
          clear h5 h0
          go_wp2_with fail
          go_ret2
          exact ⟨_, by rw [HE.out]; rfl, HO.out, HB3⟩
      · have h5' : ¬ (b : Int) < 5 := by omega
        have HE : Hid ((decide ((b8all l).2.2 < 5) && decide ((b8all l).2.1 = 0)) = false) := Lib.hid (by rw [← HNB.out.2, decide_eq_false h5, Bool.false_and])
        clear h5
        go_wp2_with fail
        go_ret2
        exact ⟨_, by rw [HE.out]; rfl, HO.out, HB3⟩
end Go.Proofs.YtbkpgdfkjijagaaDoor
