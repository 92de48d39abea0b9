/- sporranref14.fives: the walk. -/
import Derived.Test.YtbkpgdfkjijagaaDoorAdrO
namespace Go.Proofs.YtbkpgdfkjijagaaDoor
open Go.RowKit
set_option linter.unusedVariables false

theorem orN256 (N x : Nat) (hN : N < 1000000) (hx : x < 256) : bits .or .i64 ((N : Int) * 256) (x : Int) = ((256 * N + x : Nat) : Int) := by
  rw [show ((N : Int) * 256) = ((256 * N : Nat) : Int) by omega, orI _ _ (by omega) (by omega), show 256 * N = 2 ^ 8 * N by rfl, ← Nat.two_pow_add_eq_or_of_lt (by omega)]
theorem low31 (M e d : Nat) (q : Int) (hq : q = ((M / e : Nat) : Int)) (hM : M < 1000000) (hd : M / e % 32 = d) : bits .and .i64 q 31 = (d : Int) := by
  have h1 : M / e < 1000000000 := Nat.lt_of_le_of_lt (Nat.div_le_self _ _) (by omega)
  rw [hq, low_bits (M / e) 5 31 rfl (by decide) h1, ← hd]
theorem f5next {s : List Nat × Nat × Nat} {N b M x : Nat} (h : N = s.2.1 ∧ b = s.2.2) (hM : M = 256 * N + x) : f5step s x = if 10 ≤ b + 8 then (s.1 ++ [M / 2 ^ (b + 8 - 5), M / 2 ^ (b + 8 - 10) % 32], M % 2 ^ (b + 8 - 10), b + 8 - 10) else (s.1 ++ [M / 2 ^ (b + 8 - 5)], M % 2 ^ (b + 8 - 5), b + 8 - 5) := by
  obtain ⟨rfl, rfl⟩ := h
  subst hM
  rfl

set_option maxRecDepth 100000 in
set_option maxHeartbeats 8000000 in
theorem fives_any (p : Option Addr) (n c : Nat) (bs : List (BitVec 8)) (w : World) (hr : Row8 w p bs) (hn : bs.length = n) (hb : n ≤ 1000) :
    Calls Tryd.prog 75 #[.slice p n c] w fun e w' => ∃ v, e = .returned v ∧ OwnZ w' w.heap.size v (zl (fivesP (nats bs))) ∧ Below w.heap.size w w' := by
  have HLL := Lib.hid hn
  have HR := Lib.hid hr
  clear hr hn
  go_enter Tryd.func75, Tryd.ntmps75
  go_wp2_with fail
  go_loopw [3, 4, 5, 10] (fun v nv bv i wx => ∃ k N b : Nat, k ≤ n ∧ i = .int .i64 k ∧ nv = .int .i64 N ∧ bv = .int .i64 b ∧ Hid (N = (f5all ((nats bs).take k)).2.1 ∧ b = (f5all ((nats bs).take k)).2.2) ∧ Hid (OwnZ wx w.heap.size v (zl (f5all ((nats bs).take k)).1)) ∧ Hid (Below w.heap.size w wx)) (fun _ _ _ i _ => n - (intOf i).toNat)
  case atStart => exact ⟨0, 0, 0, by omega, rfl, rfl, rfl, Lib.hid ⟨rfl, rfl⟩, Lib.hid (OwnZ.nil _ _), Lib.hid (Below.refl _ _)⟩
  case round =>
    obtain ⟨k, N, b, hk, rfl, rfl, rfl, HNB, HO, HB⟩ := hrel
    have hok := f5_ok ((nats bs).take k) (fun x hx => nats_lt bs x (List.mem_of_mem_take hx))
    have hb5 : b < 5 := by rw [HNB.out.2]; exact hok.bits
    have hNb : N < 2 ^ b := by rw [HNB.out.1, HNB.out.2]; exact hok.left
    have HOL : Hid ((zl (f5all ((nats bs).take k)).1).length ≤ 2000) := Lib.hid (by rw [zl_len]; have h := hok.len; rw [List.length_take] at h; omega)
    clear hok
    by_cases hkm : k < n
    · have hlt : (k : Int) < (n : Int) := by omega
      obtain ⟨y, hy⟩ : ∃ y, bs[k]? = some y := ⟨_, List.getElem?_eq_getElem (by rw [HLL.out]; omega)⟩
      obtain ⟨bb, o, rfl, _, hcl⟩ := (HR.out.fut HB.out) (fun e => by rw [e] at hy; cases hy)
      have hcell : wr.cell? ⟨bb, o + k, none⟩ = some (.int .u8 (y.toNat : Int)) := hcl k _ hy
      have hx : (nats bs)[k]? = some y.toNat := by unfold nats; rw [List.getElem?_map, hy]; rfl
      have hx256 : y.toNat < 256 := y.isLt
      obtain ⟨x, hxy⟩ : ∃ x, x = y.toNat := ⟨_, rfl⟩
      rw [← hxy] at hcell hx hx256
      have hN32 : N < 32 := Nat.lt_of_lt_of_le hNb (by have := Nat.pow_le_pow_right (n := 2) (by decide) (show b ≤ 5 by omega); omega)
      have HS : Hid (f5all ((nats bs).take (k + 1)) = f5step (f5all ((nats bs).take k)) x) := Lib.hid (by rw [List.take_add_one, hx]; exact f5all_app _ _)
      have HOR := Lib.hid (orN256 N x (by omega) hx256)
      have hM0 : 256 * N + x < 2 ^ (b + 8) := by rw [Nat.pow_add]; omega
      clear hx hcl hy hxy
      go_upto_region 7 with fail
      rw [HOR.out]
      obtain ⟨M, hM⟩ : ∃ M, M = 256 * N + x := ⟨_, rfl⟩
      rw [← hM] at hM0 ⊢
      have HM := Lib.hid hM
      obtain ⟨O, hO⟩ : ∃ O, O = (f5all ((nats bs).take k)).1 := ⟨_, rfl⟩
      have HOO := Lib.hid hO
      rw [← hO] at HO HOL
      have hM4 : M < 4096 := Nat.lt_of_lt_of_le hM0 (by have := Nat.pow_le_pow_right (n := 2) (by decide) (show b + 8 ≤ 12 by omega); omega)
      clear hM hcell HOR hNb hN32 hO
      obtain ⟨bz, hbz⟩ : ∃ z : Int, z = (b : Int) := ⟨_, rfl⟩
      rw [← hbz]
      rcases (show b = 0 ∨ b = 1 ∨ b = 2 ∨ b = 3 ∨ b = 4 by omega) with rfl | rfl | rfl | rfl | rfl
      · obtain rfl : bz = 0 := hbz
        have HS2 : Hid (f5all ((nats bs).take (k + 1)) = (O ++ [M / 8], M % 8, 3)) := Lib.hid (by rw [HS.out, f5next HNB.out HM.out, if_neg (by decide), HOO.out])
        have HLB := Lib.hid (low_bits M 3 7 rfl (by decide) (by omega))
        have HD1 := Lib.hid (low31 M 8 (M / 8) ((M : Int) / 8) (by omega) (by omega) (Nat.mod_eq_of_lt (by omega)))
        go_wp2_with fail
        go_loopw [3, 5] (fun v bv wx => ∃ z : Int, bv = .int .i64 z ∧ ((z = 8 ∧ Hid (OwnZ wx w.heap.size v (zl O))) ∨ (z = 3 ∧ Hid (OwnZ wx w.heap.size v (zl (O ++ [M / 8]))))) ∧ Hid (Below w.heap.size w wx)) (fun _ bv _ => (intOf bv).toNat)
        case atStart => exact ⟨8, rfl, .inl ⟨rfl, HO⟩, HB⟩
        case round =>
          obtain ⟨z, rfl, hcase, HB2⟩ := hrel
          rcases hcase with ⟨rfl, HO2⟩ | ⟨rfl, HO2⟩
          · have hsz2 : w.heap.size ≤ wr.heap.size := HB2.out.size
            have hb3 := HB2.out.alloc hsz2 (.cells #[.int .i64 (bits .and .i64 ((M : Int) / 8) 31)] 3)
            have hsz3 := hb3.size
            have ho3 := HO2.out.alloc (.cells #[.int .i64 (bits .and .i64 ((M : Int) / 8) 31)] 3)
            have hrow3 := new_oneZ wr (bits .and .i64 ((M : Int) / 8) 31)
            have hdl : (zl (O)).length + 1 ≤ 1000000 := by rw [zl_len]; (try simp only [List.length_append, List.length_cons, List.length_nil]); have := HOL.out; rw [zl_len] at this; omega
            go_wp2_with (with_reducible refine wp_appendZ (o := ⟨some 31, _, _, _, _, _⟩) ?_ (.tmp 25) (.tmp 30) ?_ w.heap.size _ (zl (O)) ?_ ho3 (some ⟨wr.heap.size, 0, none⟩) 1 1 [bits .and .i64 ((M : Int) / 8) 31] ?_ rfl hrow3 ?_ hsz3 w.heap.size w hb3 ?_ ?_
                         · rfl
                         · rfl
                         · rfl
                         · rfl
                         · exact hdl
                         · exact Nat.le_refl _
                         intro v4 w4 ho4 hb4)
            have ho5 : OwnZ w4 w.heap.size v4 (zl (O) ++ zl [M / 8]) := by have h := ho4; rw [HD1.out] at h; exact h
            go_roundw
            case rel => exact ⟨_, rfl, .inr (⟨rfl, Lib.hid (by rw [zl_app]; exact ho5)⟩), Lib.hid hb4⟩
            case measure => simp [intOf]
          · have HB3 := HB2.out
            clear HB2
            go_wp2_with fail
            go_roundw
            case rel => exact ⟨k + 1, M % 8, 3, by omega, by go_num, by rw [HLB.out], rfl, Lib.hid ⟨by rw [HS2.out], by rw [HS2.out]⟩, Lib.hid (by rw [HS2.out]; exact HO2.out), Lib.hid HB3⟩
            case measure => simp [intOf]; omega
      · obtain rfl : bz = 1 := hbz
        have HS2 : Hid (f5all ((nats bs).take (k + 1)) = (O ++ [M / 16], M % 16, 4)) := Lib.hid (by rw [HS.out, f5next HNB.out HM.out, if_neg (by decide), HOO.out])
        have HLB := Lib.hid (low_bits M 4 15 rfl (by decide) (by omega))
        have HD1 := Lib.hid (low31 M 16 (M / 16) ((M : Int) / 16) (by omega) (by omega) (Nat.mod_eq_of_lt (by omega)))
        go_wp2_with fail
        go_loopw [3, 5] (fun v bv wx => ∃ z : Int, bv = .int .i64 z ∧ ((z = 9 ∧ Hid (OwnZ wx w.heap.size v (zl O))) ∨ (z = 4 ∧ Hid (OwnZ wx w.heap.size v (zl (O ++ [M / 16]))))) ∧ Hid (Below w.heap.size w wx)) (fun _ bv _ => (intOf bv).toNat)
        case atStart => exact ⟨9, rfl, .inl ⟨rfl, HO⟩, HB⟩
        case round =>
          obtain ⟨z, rfl, hcase, HB2⟩ := hrel
          rcases hcase with ⟨rfl, HO2⟩ | ⟨rfl, HO2⟩
          · have hsz2 : w.heap.size ≤ wr.heap.size := HB2.out.size
            have hb3 := HB2.out.alloc hsz2 (.cells #[.int .i64 (bits .and .i64 ((M : Int) / 16) 31)] 3)
            have hsz3 := hb3.size
            have ho3 := HO2.out.alloc (.cells #[.int .i64 (bits .and .i64 ((M : Int) / 16) 31)] 3)
            have hrow3 := new_oneZ wr (bits .and .i64 ((M : Int) / 16) 31)
            have hdl : (zl (O)).length + 1 ≤ 1000000 := by rw [zl_len]; (try simp only [List.length_append, List.length_cons, List.length_nil]); have := HOL.out; rw [zl_len] at this; omega
            go_wp2_with (with_reducible refine wp_appendZ (o := ⟨some 31, _, _, _, _, _⟩) ?_ (.tmp 25) (.tmp 30) ?_ w.heap.size _ (zl (O)) ?_ ho3 (some ⟨wr.heap.size, 0, none⟩) 1 1 [bits .and .i64 ((M : Int) / 16) 31] ?_ rfl hrow3 ?_ hsz3 w.heap.size w hb3 ?_ ?_
                         · rfl
                         · rfl
                         · rfl
                         · rfl
                         · exact hdl
                         · exact Nat.le_refl _
                         intro v4 w4 ho4 hb4)
            have ho5 : OwnZ w4 w.heap.size v4 (zl (O) ++ zl [M / 16]) := by have h := ho4; rw [HD1.out] at h; exact h
            go_roundw
            case rel => exact ⟨_, rfl, .inr (⟨rfl, Lib.hid (by rw [zl_app]; exact ho5)⟩), Lib.hid hb4⟩
            case measure => simp [intOf]
          · have HB3 := HB2.out
            clear HB2
            go_wp2_with fail
            go_roundw
            case rel => exact ⟨k + 1, M % 16, 4, by omega, by go_num, by rw [HLB.out], rfl, Lib.hid ⟨by rw [HS2.out], by rw [HS2.out]⟩, Lib.hid (by rw [HS2.out]; exact HO2.out), Lib.hid HB3⟩
            case measure => simp [intOf]; omega
      · obtain rfl : bz = 2 := hbz
        have HS2 : Hid (f5all ((nats bs).take (k + 1)) = (O ++ [M / 32, M / 1 % 32], M % 1, 0)) := Lib.hid (by rw [HS.out, f5next HNB.out HM.out, if_pos (by decide), HOO.out])
        have HLB := Lib.hid (low_bits M 0 0 rfl (by decide) (by omega))
        have HD1 := Lib.hid (low31 M 32 (M / 32) ((M : Int) / 32) (by omega) (by omega) (Nat.mod_eq_of_lt (by omega)))
        have HD2 := Lib.hid (low31 M 1 (M / 1 % 32) (M : Int) (by omega) (by omega) rfl)
        go_wp2_with fail
        go_loopw [3, 5] (fun v bv wx => ∃ z : Int, bv = .int .i64 z ∧ ((z = 10 ∧ Hid (OwnZ wx w.heap.size v (zl O))) ∨ (z = 5 ∧ Hid (OwnZ wx w.heap.size v (zl (O ++ [M / 32])))) ∨ (z = 0 ∧ Hid (OwnZ wx w.heap.size v (zl (O ++ [M / 32, M / 1 % 32]))))) ∧ Hid (Below w.heap.size w wx)) (fun _ bv _ => (intOf bv).toNat)
        case atStart => exact ⟨10, rfl, .inl ⟨rfl, HO⟩, HB⟩
        case round =>
          obtain ⟨z, rfl, hcase, HB2⟩ := hrel
          rcases hcase with ⟨rfl, HO2⟩ | ⟨rfl, HO2⟩ | ⟨rfl, HO2⟩
          · have hsz2 : w.heap.size ≤ wr.heap.size := HB2.out.size
            have hb3 := HB2.out.alloc hsz2 (.cells #[.int .i64 (bits .and .i64 ((M : Int) / 32) 31)] 3)
            have hsz3 := hb3.size
            have ho3 := HO2.out.alloc (.cells #[.int .i64 (bits .and .i64 ((M : Int) / 32) 31)] 3)
            have hrow3 := new_oneZ wr (bits .and .i64 ((M : Int) / 32) 31)
            have hdl : (zl (O)).length + 1 ≤ 1000000 := by rw [zl_len]; (try simp only [List.length_append, List.length_cons, List.length_nil]); have := HOL.out; rw [zl_len] at this; omega
            go_wp2_with (with_reducible refine wp_appendZ (o := ⟨some 31, _, _, _, _, _⟩) ?_ (.tmp 25) (.tmp 30) ?_ w.heap.size _ (zl (O)) ?_ ho3 (some ⟨wr.heap.size, 0, none⟩) 1 1 [bits .and .i64 ((M : Int) / 32) 31] ?_ rfl hrow3 ?_ hsz3 w.heap.size w hb3 ?_ ?_
                         · rfl
                         · rfl
                         · rfl
                         · rfl
                         · exact hdl
                         · exact Nat.le_refl _
                         intro v4 w4 ho4 hb4)
            have ho5 : OwnZ w4 w.heap.size v4 (zl (O) ++ zl [M / 32]) := by have h := ho4; rw [HD1.out] at h; exact h
            go_roundw
            case rel => exact ⟨_, rfl, .inr (.inl ⟨rfl, Lib.hid (by rw [zl_app]; exact ho5)⟩), Lib.hid hb4⟩
            case measure => simp [intOf]
          · have hsz2 : w.heap.size ≤ wr.heap.size := HB2.out.size
            have hb3 := HB2.out.alloc hsz2 (.cells #[.int .i64 (bits .and .i64 (M : Int) 31)] 3)
            have hsz3 := hb3.size
            have ho3 := HO2.out.alloc (.cells #[.int .i64 (bits .and .i64 (M : Int) 31)] 3)
            have hrow3 := new_oneZ wr (bits .and .i64 (M : Int) 31)
            have hdl : (zl (O ++ [M / 32])).length + 1 ≤ 1000000 := by rw [zl_len]; (try simp only [List.length_append, List.length_cons, List.length_nil]); have := HOL.out; rw [zl_len] at this; omega
            go_wp2_with (with_reducible refine wp_appendZ (o := ⟨some 31, _, _, _, _, _⟩) ?_ (.tmp 25) (.tmp 30) ?_ w.heap.size _ (zl (O ++ [M / 32])) ?_ ho3 (some ⟨wr.heap.size, 0, none⟩) 1 1 [bits .and .i64 (M : Int) 31] ?_ rfl hrow3 ?_ hsz3 w.heap.size w hb3 ?_ ?_
                         · rfl
                         · rfl
                         · rfl
                         · rfl
                         · exact hdl
                         · exact Nat.le_refl _
                         intro v4 w4 ho4 hb4)
            have ho5 : OwnZ w4 w.heap.size v4 (zl (O ++ [M / 32]) ++ zl [M / 1 % 32]) := by have h := ho4; rw [HD2.out] at h; exact h
            go_roundw
            case rel => exact ⟨_, rfl, .inr (.inr ⟨rfl, Lib.hid (by rw [show O ++ [M / 32, M / 1 % 32] = (O ++ [M / 32]) ++ [M / 1 % 32] by simp, zl_app (O ++ [M / 32])]; exact ho5)⟩), Lib.hid hb4⟩
            case measure => simp [intOf]
          · have HB3 := HB2.out
            clear HB2
            go_wp2_with fail
            go_roundw
            case rel => exact ⟨k + 1, M % 1, 0, by omega, by go_num, by rw [HLB.out], rfl, Lib.hid ⟨by rw [HS2.out], by rw [HS2.out]⟩, Lib.hid (by rw [HS2.out]; exact HO2.out), Lib.hid HB3⟩
            case measure => simp [intOf]; omega
      · obtain rfl : bz = 3 := hbz
        have HS2 : Hid (f5all ((nats bs).take (k + 1)) = (O ++ [M / 64, M / 2 % 32], M % 2, 1)) := Lib.hid (by rw [HS.out, f5next HNB.out HM.out, if_pos (by decide), HOO.out])
        have HLB := Lib.hid (low_bits M 1 1 rfl (by decide) (by omega))
        have HD1 := Lib.hid (low31 M 64 (M / 64) ((M : Int) / 64) (by omega) (by omega) (Nat.mod_eq_of_lt (by omega)))
        have HD2 := Lib.hid (low31 M 2 (M / 2 % 32) ((M : Int) / 2) (by omega) (by omega) rfl)
        go_wp2_with fail
        go_loopw [3, 5] (fun v bv wx => ∃ z : Int, bv = .int .i64 z ∧ ((z = 11 ∧ Hid (OwnZ wx w.heap.size v (zl O))) ∨ (z = 6 ∧ Hid (OwnZ wx w.heap.size v (zl (O ++ [M / 64])))) ∨ (z = 1 ∧ Hid (OwnZ wx w.heap.size v (zl (O ++ [M / 64, M / 2 % 32]))))) ∧ Hid (Below w.heap.size w wx)) (fun _ bv _ => (intOf bv).toNat)
        case atStart => exact ⟨11, rfl, .inl ⟨rfl, HO⟩, HB⟩
        case round =>
          obtain ⟨z, rfl, hcase, HB2⟩ := hrel
          rcases hcase with ⟨rfl, HO2⟩ | ⟨rfl, HO2⟩ | ⟨rfl, HO2⟩
          · have hsz2 : w.heap.size ≤ wr.heap.size := HB2.out.size
            have hb3 := HB2.out.alloc hsz2 (.cells #[.int .i64 (bits .and .i64 ((M : Int) / 64) 31)] 3)
            have hsz3 := hb3.size
            have ho3 := HO2.out.alloc (.cells #[.int .i64 (bits .and .i64 ((M : Int) / 64) 31)] 3)
            have hrow3 := new_oneZ wr (bits .and .i64 ((M : Int) / 64) 31)
            have hdl : (zl (O)).length + 1 ≤ 1000000 := by rw [zl_len]; (try simp only [List.length_append, List.length_cons, List.length_nil]); have := HOL.out; rw [zl_len] at this; omega
            go_wp2_with (with_reducible refine wp_appendZ (o := ⟨some 31, _, _, _, _, _⟩) ?_ (.tmp 25) (.tmp 30) ?_ w.heap.size _ (zl (O)) ?_ ho3 (some ⟨wr.heap.size, 0, none⟩) 1 1 [bits .and .i64 ((M : Int) / 64) 31] ?_ rfl hrow3 ?_ hsz3 w.heap.size w hb3 ?_ ?_
                         · rfl
                         · rfl
                         · rfl
                         · rfl
                         · exact hdl
                         · exact Nat.le_refl _
                         intro v4 w4 ho4 hb4)
            have ho5 : OwnZ w4 w.heap.size v4 (zl (O) ++ zl [M / 64]) := by have h := ho4; rw [HD1.out] at h; exact h
            go_roundw
            case rel => exact ⟨_, rfl, .inr (.inl ⟨rfl, Lib.hid (by rw [zl_app]; exact ho5)⟩), Lib.hid hb4⟩
            case measure => simp [intOf]
          · have hsz2 : w.heap.size ≤ wr.heap.size := HB2.out.size
            have hb3 := HB2.out.alloc hsz2 (.cells #[.int .i64 (bits .and .i64 ((M : Int) / 2) 31)] 3)
            have hsz3 := hb3.size
            have ho3 := HO2.out.alloc (.cells #[.int .i64 (bits .and .i64 ((M : Int) / 2) 31)] 3)
            have hrow3 := new_oneZ wr (bits .and .i64 ((M : Int) / 2) 31)
            have hdl : (zl (O ++ [M / 64])).length + 1 ≤ 1000000 := by rw [zl_len]; (try simp only [List.length_append, List.length_cons, List.length_nil]); have := HOL.out; rw [zl_len] at this; omega
            go_wp2_with (with_reducible refine wp_appendZ (o := ⟨some 31, _, _, _, _, _⟩) ?_ (.tmp 25) (.tmp 30) ?_ w.heap.size _ (zl (O ++ [M / 64])) ?_ ho3 (some ⟨wr.heap.size, 0, none⟩) 1 1 [bits .and .i64 ((M : Int) / 2) 31] ?_ rfl hrow3 ?_ hsz3 w.heap.size w hb3 ?_ ?_
                         · rfl
                         · rfl
                         · rfl
                         · rfl
                         · exact hdl
                         · exact Nat.le_refl _
                         intro v4 w4 ho4 hb4)
            have ho5 : OwnZ w4 w.heap.size v4 (zl (O ++ [M / 64]) ++ zl [M / 2 % 32]) := by have h := ho4; rw [HD2.out] at h; exact h
            go_roundw
            case rel => exact ⟨_, rfl, .inr (.inr ⟨rfl, Lib.hid (by rw [show O ++ [M / 64, M / 2 % 32] = (O ++ [M / 64]) ++ [M / 2 % 32] by simp, zl_app (O ++ [M / 64])]; exact ho5)⟩), Lib.hid hb4⟩
            case measure => simp [intOf]
          · have HB3 := HB2.out
            clear HB2
            go_wp2_with fail
            go_roundw
            case rel => exact ⟨k + 1, M % 2, 1, by omega, by go_num, by rw [HLB.out], rfl, Lib.hid ⟨by rw [HS2.out], by rw [HS2.out]⟩, Lib.hid (by rw [HS2.out]; exact HO2.out), Lib.hid HB3⟩
            case measure => simp [intOf]; omega
      · obtain rfl : bz = 4 := hbz
        have HS2 : Hid (f5all ((nats bs).take (k + 1)) = (O ++ [M / 128, M / 4 % 32], M % 4, 2)) := Lib.hid (by rw [HS.out, f5next HNB.out HM.out, if_pos (by decide), HOO.out])
        have HLB := Lib.hid (low_bits M 2 3 rfl (by decide) (by omega))
        have HD1 := Lib.hid (low31 M 128 (M / 128) ((M : Int) / 128) (by omega) (by omega) (Nat.mod_eq_of_lt (by omega)))
        have HD2 := Lib.hid (low31 M 4 (M / 4 % 32) ((M : Int) / 4) (by omega) (by omega) rfl)
        go_wp2_with fail
        go_loopw [3, 5] (fun v bv wx => ∃ z : Int, bv = .int .i64 z ∧ ((z = 12 ∧ Hid (OwnZ wx w.heap.size v (zl O))) ∨ (z = 7 ∧ Hid (OwnZ wx w.heap.size v (zl (O ++ [M / 128])))) ∨ (z = 2 ∧ Hid (OwnZ wx w.heap.size v (zl (O ++ [M / 128, M / 4 % 32]))))) ∧ Hid (Below w.heap.size w wx)) (fun _ bv _ => (intOf bv).toNat)
        case atStart => exact ⟨12, rfl, .inl ⟨rfl, HO⟩, HB⟩
        case round =>
          obtain ⟨z, rfl, hcase, HB2⟩ := hrel
          rcases hcase with ⟨rfl, HO2⟩ | ⟨rfl, HO2⟩ | ⟨rfl, HO2⟩
          · have hsz2 : w.heap.size ≤ wr.heap.size := HB2.out.size
            have hb3 := HB2.out.alloc hsz2 (.cells #[.int .i64 (bits .and .i64 ((M : Int) / 128) 31)] 3)
            have hsz3 := hb3.size
            have ho3 := HO2.out.alloc (.cells #[.int .i64 (bits .and .i64 ((M : Int) / 128) 31)] 3)
            have hrow3 := new_oneZ wr (bits .and .i64 ((M : Int) / 128) 31)
            have hdl : (zl (O)).length + 1 ≤ 1000000 := by rw [zl_len]; (try simp only [List.length_append, List.length_cons, List.length_nil]); have := HOL.out; rw [zl_len] at this; omega
            go_wp2_with (with_reducible refine wp_appendZ (o := ⟨some 31, _, _, _, _, _⟩) ?_ (.tmp 25) (.tmp 30) ?_ w.heap.size _ (zl (O)) ?_ ho3 (some ⟨wr.heap.size, 0, none⟩) 1 1 [bits .and .i64 ((M : Int) / 128) 31] ?_ rfl hrow3 ?_ hsz3 w.heap.size w hb3 ?_ ?_
                         · rfl
                         · rfl
                         · rfl
                         · rfl
                         · exact hdl
                         · exact Nat.le_refl _
                         intro v4 w4 ho4 hb4)
            have ho5 : OwnZ w4 w.heap.size v4 (zl (O) ++ zl [M / 128]) := by have h := ho4; rw [HD1.out] at h; exact h
            go_roundw
            case rel => exact ⟨_, rfl, .inr (.inl ⟨rfl, Lib.hid (by rw [zl_app]; exact ho5)⟩), Lib.hid hb4⟩
            case measure => simp [intOf]
          · have hsz2 : w.heap.size ≤ wr.heap.size := HB2.out.size
            have hb3 := HB2.out.alloc hsz2 (.cells #[.int .i64 (bits .and .i64 ((M : Int) / 4) 31)] 3)
            have hsz3 := hb3.size
            have ho3 := HO2.out.alloc (.cells #[.int .i64 (bits .and .i64 ((M : Int) / 4) 31)] 3)
            have hrow3 := new_oneZ wr (bits .and .i64 ((M : Int) / 4) 31)
            have hdl : (zl (O ++ [M / 128])).length + 1 ≤ 1000000 := by rw [zl_len]; (try simp only [List.length_append, List.length_cons, List.length_nil]); have := HOL.out; rw [zl_len] at this; omega
            go_wp2_with (with_reducible refine wp_appendZ (o := ⟨some 31, _, _, _, _, _⟩) ?_ (.tmp 25) (.tmp 30) ?_ w.heap.size _ (zl (O ++ [M / 128])) ?_ ho3 (some ⟨wr.heap.size, 0, none⟩) 1 1 [bits .and .i64 ((M : Int) / 4) 31] ?_ rfl hrow3 ?_ hsz3 w.heap.size w hb3 ?_ ?_
                         · rfl
                         · rfl
                         · rfl
                         · rfl
                         · exact hdl
                         · exact Nat.le_refl _
                         intro v4 w4 ho4 hb4)
            have ho5 : OwnZ w4 w.heap.size v4 (zl (O ++ [M / 128]) ++ zl [M / 4 % 32]) := by have h := ho4; rw [HD2.out] at h; exact h
            go_roundw
            case rel => exact ⟨_, rfl, .inr (.inr ⟨rfl, Lib.hid (by rw [show O ++ [M / 128, M / 4 % 32] = (O ++ [M / 128]) ++ [M / 4 % 32] by simp, zl_app (O ++ [M / 128])]; exact ho5)⟩), Lib.hid hb4⟩
            case measure => simp [intOf]
          · have HB3 := HB2.out
            clear HB2
            go_wp2_with fail
            go_roundw
            case rel => exact ⟨k + 1, M % 4, 2, by omega, by go_num, by rw [HLB.out], rfl, Lib.hid ⟨by rw [HS2.out], by rw [HS2.out]⟩, Lib.hid (by rw [HS2.out]; exact HO2.out), Lib.hid HB3⟩
            case measure => simp [intOf]; omega
    · have hlt : ¬ (k : Int) < (n : Int) := by omega
      have HT : Hid ((nats bs).take k = nats bs) := Lib.hid (List.take_of_length_le (by rw [List.length_map, HLL.out]; omega))
      rw [HT.out] at HO HNB HOL
      obtain ⟨bz, hbz⟩ : ∃ z : Int, z = (b : Int) := ⟨_, rfl⟩
      rw [← hbz]
      have hN32 : N < 32 := Nat.lt_of_lt_of_le hNb (by have := Nat.pow_le_pow_right (n := 2) (by decide) (show b ≤ 5 by omega); omega)
      have HFP : Hid (fivesP (nats bs) = if 0 < b then (f5all (nats bs)).1 ++ [N * 2 ^ (5 - b)] else (f5all (nats bs)).1) := Lib.hid (by unfold fivesP; rw [HNB.out.1, HNB.out.2])
      obtain ⟨O, hO⟩ : ∃ O, O = (f5all (nats bs)).1 := ⟨_, rfl⟩
      rw [← hO] at HO HOL HFP
      clear hO hkm hk HT
      rcases (show b = 0 ∨ b = 1 ∨ b = 2 ∨ b = 3 ∨ b = 4 by omega) with rfl | rfl | rfl | rfl | rfl
      · obtain rfl : bz = 0 := hbz
        have HE : Hid (fivesP (nats bs) = O) := Lib.hid (by rw [HFP.out, if_neg (by decide)])
        go_wp2_with fail
        go_ret
        exact ⟨_, rfl, by rw [HE.out]; exact HO.out, HB.out⟩
      · obtain rfl : bz = 1 := hbz
        have HE : Hid (fivesP (nats bs) = O ++ [N * 16]) := Lib.hid (by rw [HFP.out, if_pos (by decide)])
        have HV : Hid (bits .and .i64 ((N : Int) * 16) 31 = ((N * 16 : Nat) : Int)) := Lib.hid (by
          have h := low_bits (N * 16) 5 31 rfl (by decide) (by omega)
          rw [Nat.mod_eq_of_lt (by omega)] at h
          rw [← h]; congr 1)
        have hsz2 : w.heap.size ≤ wr.heap.size := HB.out.size
        have hb3 := HB.out.alloc hsz2 (.cells #[.int .i64 (bits .and .i64 ((N : Int) * 16) 31)] 3)
        have hsz3 := hb3.size
        have ho3 := HO.out.alloc (.cells #[.int .i64 (bits .and .i64 ((N : Int) * 16) 31)] 3)
        have hrow3 := new_oneZ wr (bits .and .i64 ((N : Int) * 16) 31)
        have hdl : (zl O).length + 1 ≤ 1000000 := by have := HOL.out; omega
        go_wp2_with (with_reducible refine wp_appendZ (o := ⟨some 47, _, _, _, _, _⟩) ?_ (.tmp 40) (.tmp 46) ?_ w.heap.size _ (zl O) ?_ ho3 (some ⟨wr.heap.size, 0, none⟩) 1 1 [bits .and .i64 ((N : Int) * 16) 31] ?_ rfl hrow3 ?_ hsz3 w.heap.size w hb3 ?_ ?_
                     · rfl
                     · rfl
                     · rfl
                     · rfl
                     · exact hdl
                     · exact Nat.le_refl _
                     intro v4 w4 ho4 hb4)
        go_ret
        refine ⟨_, rfl, ?_, hb4⟩
        rw [HV.out] at ho4
        rw [HE.out, zl_app]
        exact ho4
      · obtain rfl : bz = 2 := hbz
        have HE : Hid (fivesP (nats bs) = O ++ [N * 8]) := Lib.hid (by rw [HFP.out, if_pos (by decide)])
        have HV : Hid (bits .and .i64 ((N : Int) * 8) 31 = ((N * 8 : Nat) : Int)) := Lib.hid (by
          have h := low_bits (N * 8) 5 31 rfl (by decide) (by omega)
          rw [Nat.mod_eq_of_lt (by omega)] at h
          rw [← h]; congr 1)
        have hsz2 : w.heap.size ≤ wr.heap.size := HB.out.size
        have hb3 := HB.out.alloc hsz2 (.cells #[.int .i64 (bits .and .i64 ((N : Int) * 8) 31)] 3)
        have hsz3 := hb3.size
        have ho3 := HO.out.alloc (.cells #[.int .i64 (bits .and .i64 ((N : Int) * 8) 31)] 3)
        have hrow3 := new_oneZ wr (bits .and .i64 ((N : Int) * 8) 31)
        have hdl : (zl O).length + 1 ≤ 1000000 := by have := HOL.out; omega
        go_wp2_with (with_reducible refine wp_appendZ (o := ⟨some 47, _, _, _, _, _⟩) ?_ (.tmp 40) (.tmp 46) ?_ w.heap.size _ (zl O) ?_ ho3 (some ⟨wr.heap.size, 0, none⟩) 1 1 [bits .and .i64 ((N : Int) * 8) 31] ?_ rfl hrow3 ?_ hsz3 w.heap.size w hb3 ?_ ?_
                     · rfl
                     · rfl
                     · rfl
                     · rfl
                     · exact hdl
                     · exact Nat.le_refl _
                     intro v4 w4 ho4 hb4)
        go_ret
        refine ⟨_, rfl, ?_, hb4⟩
        rw [HV.out] at ho4
        rw [HE.out, zl_app]
        exact ho4
      · obtain rfl : bz = 3 := hbz
        have HE : Hid (fivesP (nats bs) = O ++ [N * 4]) := Lib.hid (by rw [HFP.out, if_pos (by decide)])
        have HV : Hid (bits .and .i64 ((N : Int) * 4) 31 = ((N * 4 : Nat) : Int)) := Lib.hid (by
          have h := low_bits (N * 4) 5 31 rfl (by decide) (by omega)
          rw [Nat.mod_eq_of_lt (by omega)] at h
          rw [← h]; congr 1)
        have hsz2 : w.heap.size ≤ wr.heap.size := HB.out.size
        have hb3 := HB.out.alloc hsz2 (.cells #[.int .i64 (bits .and .i64 ((N : Int) * 4) 31)] 3)
        have hsz3 := hb3.size
        have ho3 := HO.out.alloc (.cells #[.int .i64 (bits .and .i64 ((N : Int) * 4) 31)] 3)
        have hrow3 := new_oneZ wr (bits .and .i64 ((N : Int) * 4) 31)
        have hdl : (zl O).length + 1 ≤ 1000000 := by have := HOL.out; omega
        go_wp2_with (with_reducible refine wp_appendZ (o := ⟨some 47, _, _, _, _, _⟩) ?_ (.tmp 40) (.tmp 46) ?_ w.heap.size _ (zl O) ?_ ho3 (some ⟨wr.heap.size, 0, none⟩) 1 1 [bits .and .i64 ((N : Int) * 4) 31] ?_ rfl hrow3 ?_ hsz3 w.heap.size w hb3 ?_ ?_
                     · rfl
                     · rfl
                     · rfl
                     · rfl
                     · exact hdl
                     · exact Nat.le_refl _
                     intro v4 w4 ho4 hb4)
        go_ret
        refine ⟨_, rfl, ?_, hb4⟩
        rw [HV.out] at ho4
        rw [HE.out, zl_app]
        exact ho4
      · obtain rfl : bz = 4 := hbz
        have HE : Hid (fivesP (nats bs) = O ++ [N * 2]) := Lib.hid (by rw [HFP.out, if_pos (by decide)])
        have HV : Hid (bits .and .i64 ((N : Int) * 2) 31 = ((N * 2 : Nat) : Int)) := Lib.hid (by
          have h := low_bits (N * 2) 5 31 rfl (by decide) (by omega)
          rw [Nat.mod_eq_of_lt (by omega)] at h
          rw [← h]; congr 1)
        have hsz2 : w.heap.size ≤ wr.heap.size := HB.out.size
        have hb3 := HB.out.alloc hsz2 (.cells #[.int .i64 (bits .and .i64 ((N : Int) * 2) 31)] 3)
        have hsz3 := hb3.size
        have ho3 := HO.out.alloc (.cells #[.int .i64 (bits .and .i64 ((N : Int) * 2) 31)] 3)
        have hrow3 := new_oneZ wr (bits .and .i64 ((N : Int) * 2) 31)
        have hdl : (zl O).length + 1 ≤ 1000000 := by have := HOL.out; omega
        go_wp2_with (with_reducible refine wp_appendZ (o := ⟨some 47, _, _, _, _, _⟩) ?_ (.tmp 40) (.tmp 46) ?_ w.heap.size _ (zl O) ?_ ho3 (some ⟨wr.heap.size, 0, none⟩) 1 1 [bits .and .i64 ((N : Int) * 2) 31] ?_ rfl hrow3 ?_ hsz3 w.heap.size w hb3 ?_ ?_
                     · rfl
                     · rfl
                     · rfl
                     · rfl
                     · exact hdl
                     · exact Nat.le_refl _
                     intro v4 w4 ho4 hb4)
        go_ret
        refine ⟨_, rfl, ?_, hb4⟩
        rw [HV.out] at ho4
        rw [HE.out, zl_app]
        exact ho4
end Go.Proofs.YtbkpgdfkjijagaaDoor
