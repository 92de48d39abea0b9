/- sporranref14.bytesOf: the walk. -/
import Derived.Test.YtbkpgdfkjijagaaDoorAdrM
import Derived.Test.YtbkpgdfkjijagaaDoorAdrD
namespace Go.Proofs.YtbkpgdfkjijagaaDoor
open Go.RowKit
set_option linter.unusedVariables false

theorem orN32 (N x : Nat) (hN : N < 1000000) (hx : x < 32) : bits .or .i64 (wrap64 ((N : Int) * 32)) (x : Int) = ((32 * N + x : Nat) : Int) := by
  rw [wrap64_self _ (by omega) (by omega), show ((N : Int) * 32) = ((32 * N : Nat) : Int) by omega, orI _ _ (by omega) (by omega), show 32 * N = 2 ^ 5 * N by rfl, ← Nat.two_pow_add_eq_or_of_lt (by omega)]
theorem orN32' (N x : Nat) (hN : N < 1000000) (hx : x < 32) : bits .or .i64 ((N : Int) * 32) (x : Int) = ((32 * N + x : Nat) : Int) := by
  have := orN32 N x hN hx
  rwa [wrap64_self _ (by omega) (by omega)] at this
theorem low_bits (M e : Nat) (m : Int) (hm : m = ((2 ^ e - 1 : Nat) : Int)) (he : e ≤ 20) (hM : M < 1000000000) : bits .and .i64 (M : Int) m = ((M % 2 ^ e : Nat) : Int) := by
  have h1 : 2 ^ e ≤ 2 ^ 20 := Nat.pow_le_pow_right (by decide) he
  rw [hm, andI M _ (by omega) (by omega), Nat.and_two_pow_sub_one_eq_mod]
theorem b8next {s : List Nat × Nat × Nat} {N b M x : Nat} (h : N = s.2.1 ∧ b = s.2.2) (hM : M = 32 * N + x) : b8step s x = if 8 ≤ b + 5 then (s.1 ++ [M / 2 ^ (b + 5 - 8)], M % 2 ^ (b + 5 - 8), b + 5 - 8) else (s.1, M, b + 5) := by
  obtain ⟨rfl, rfl⟩ := h
  subst hM
  rfl
/-- what a call tells that makes bytes of groups -/
def B8Post (w : World) (l : List Nat) (e : Ending) (w' : World) : Prop := ∃ v, e = .returned (.tuple #[v, .bool (decide ((b8all l).2.2 < 5) && decide ((b8all l).2.1 = 0))]) ∧ Own8 w' w.heap.size v (ofNats (b8all l).1) ∧ Below w.heap.size w w'

set_option maxRecDepth 100000 in
set_option maxHeartbeats 8000000 in
theorem bytesOf_any (p : Option Addr) (n c : Nat) (l : List Nat) (w : World) (hr : RowZ w p (zl l)) (hn : l.length = n) (hb : n ≤ 1000) (hl : ∀ x ∈ l, x < 32) :
    Calls Tryd.prog 57 #[.slice p n c] w (B8Post w l) := by
  have HL32 := Lib.hid hl
  have HLL := Lib.hid hn
  have HR := Lib.hid hr
  clear hr hl hn
  go_enter Tryd.func57, Tryd.ntmps57
  go_wp2_with fail
  go_loopw [4, 5, 6, 11] (fun v nv bv i wx => ∃ k N b : Nat, k ≤ n ∧ i = .int .i64 k ∧ nv = .int .i64 N ∧ bv = .int .i64 b ∧ Hid (N = (b8all (l.take k)).2.1 ∧ b = (b8all (l.take k)).2.2) ∧ Hid (Own8 wx w.heap.size v (ofNats (b8all (l.take k)).1)) ∧ Hid (Below w.heap.size w wx)) (fun _ _ _ i _ => n - (intOf i).toNat)
  case atStart => exact ⟨0, 0, 0, by omega, rfl, rfl, rfl, Lib.hid ⟨rfl, rfl⟩, Lib.hid (Own8.nil _ _), Lib.hid (Below.refl _ _)⟩
  case round =>
    obtain ⟨k, N, b, hk, rfl, rfl, rfl, HNB, HO, HB⟩ := hrel
    have hok := b8_ok (l.take k) (fun x hx => HL32.out x (List.mem_of_mem_take hx))
    have hb8 : b < 8 := by rw [HNB.out.2]; exact hok.bits
    have hNb : N < 2 ^ b := by rw [HNB.out.1, HNB.out.2]; exact hok.left
    have HOL : Hid ((b8all (l.take k)).1.length ≤ 1000) := Lib.hid (by have h := hok.len; rw [List.length_take] at h; omega)
    clear hok
    by_cases hkm : k < n
    · have hlt : (k : Int) < (n : Int) := by omega
      obtain ⟨x, hx⟩ : ∃ x, l[k]? = some x := ⟨_, List.getElem?_eq_getElem (by rw [HLL.out]; omega)⟩
      have hx32 := HL32.out x (List.mem_of_getElem? hx)
      obtain ⟨bb, o, rfl, _, hcl⟩ := (HR.out.fut HB.out) (fun e => by have := zl_at hx; rw [e] at this; cases this)
      have hcell := hcl k _ (zl_at hx)
      have hN256 : N < 256 := Nat.lt_of_lt_of_le hNb (by have := Nat.pow_le_pow_right (n := 2) (by decide) (show b ≤ 8 by omega); omega)
      have HS : Hid (b8all (l.take (k + 1)) = b8step (b8all (l.take k)) x) := Lib.hid (by rw [List.take_add_one, hx]; exact b8all_app _ _)
      have HOR := Lib.hid (orN32 N x (by omega) hx32)
      have HOR' := Lib.hid (orN32' N x (by omega) hx32)
      have hM0 : 32 * N + x < 2 ^ (b + 5) := by rw [Nat.pow_add]; omega
      clear hx hcl
      go_upto_region 7 with fail
      first | rw [HOR.out] | rw [HOR'.out]
      obtain ⟨M, hM⟩ : ∃ M, M = 32 * N + x := ⟨_, rfl⟩
      rw [← hM] at hM0 ⊢
      have HM := Lib.hid hM
      clear hM hcell HOR HOR' hNb hN256
      rcases (show b = 0 ∨ b = 1 ∨ b = 2 ∨ b = 3 ∨ b = 4 ∨ b = 5 ∨ b = 6 ∨ b = 7 by omega) with rfl | rfl | rfl | rfl | rfl | rfl | rfl | rfl
      · have HS2 : Hid (b8all (l.take (k + 1)) = ((b8all (l.take k)).1, M, 5)) := Lib.hid (by rw [HS.out, b8next HNB.out HM.out, if_neg (by decide)])
        have HLB := Lib.hid (low_bits M 5 31 rfl (by decide) (by omega))
        have HMM : Hid (M % 2 ^ 5 = M) := Lib.hid (Nat.mod_eq_of_lt hM0)
        have HB3 := HB.out
        clear HB
        go_wp2_with fail
        go_roundw
        case rel => exact ⟨k + 1, M, 5, by omega, by go_num, by rw [HLB.out, HMM.out], rfl, Lib.hid ⟨by rw [HS2.out], by rw [HS2.out]⟩, Lib.hid (by rw [HS2.out]; exact HO.out), Lib.hid HB3⟩
        case measure => simp [intOf]; omega
      · have HS2 : Hid (b8all (l.take (k + 1)) = ((b8all (l.take k)).1, M, 6)) := Lib.hid (by rw [HS.out, b8next HNB.out HM.out, if_neg (by decide)])
        have HLB := Lib.hid (low_bits M 6 63 rfl (by decide) (by omega))
        have HMM : Hid (M % 2 ^ 6 = M) := Lib.hid (Nat.mod_eq_of_lt hM0)
        have HB3 := HB.out
        clear HB
        go_wp2_with fail
        go_roundw
        case rel => exact ⟨k + 1, M, 6, by omega, by go_num, by rw [HLB.out, HMM.out], rfl, Lib.hid ⟨by rw [HS2.out], by rw [HS2.out]⟩, Lib.hid (by rw [HS2.out]; exact HO.out), Lib.hid HB3⟩
        case measure => simp [intOf]; omega
      · have HS2 : Hid (b8all (l.take (k + 1)) = ((b8all (l.take k)).1, M, 7)) := Lib.hid (by rw [HS.out, b8next HNB.out HM.out, if_neg (by decide)])
        have HLB := Lib.hid (low_bits M 7 127 rfl (by decide) (by omega))
        have HMM : Hid (M % 2 ^ 7 = M) := Lib.hid (Nat.mod_eq_of_lt hM0)
        have HB3 := HB.out
        clear HB
        go_wp2_with fail
        go_roundw
        case rel => exact ⟨k + 1, M, 7, by omega, by go_num, by rw [HLB.out, HMM.out], rfl, Lib.hid ⟨by rw [HS2.out], by rw [HS2.out]⟩, Lib.hid (by rw [HS2.out]; exact HO.out), Lib.hid HB3⟩
        case measure => simp [intOf]; omega
      · have HS2 : Hid (b8all (l.take (k + 1)) = ((b8all (l.take k)).1 ++ [M / 1], M % 2 ^ 0, 0)) := Lib.hid (by rw [HS.out, b8next HNB.out HM.out, if_pos (by decide)])
        have HLB := Lib.hid (low_bits M 0 0 rfl (by decide) (by omega))
        have hcv : (M : Int) = iv8 (BitVec.ofNat 8 (M / 1)) := by unfold iv8; rw [BitVec.toNat_ofNat]; omega
        have hsz2 : w.heap.size ≤ wr.heap.size := HB.out.size
        have hb3 := HB.out.alloc hsz2 (.cells #[.int .u8 (M : Int)] 5)
        have hsz3 := hb3.size
        have ho3 := HO.out.alloc (.cells #[.int .u8 (M : Int)] 5)
        have hrow3 : Row8 (wr.alloc (.cells #[.int .u8 (M : Int)] 5)) (some ⟨wr.heap.size, 0, none⟩) [BitVec.ofNat 8 (M / 1)] := by rw [hcv]; exact new_one wr _
        have hdl : (ofNats (b8all (l.take k)).1).length + 1 ≤ 140737488355328 := by rw [ofNats_len]; have := HOL.out; omega
        clear hcv
        go_wp2_with ((with_reducible refine wp_append8 (o := ⟨some 31, _, _, _, _, _⟩) ?_ ((.tmp 25)) ((.tmp 30)) ?_ (w.heap.size) _ ((ofNats (b8all (l.take k)).1)) ?_ (ho3) ((some ⟨wr.heap.size, 0, none⟩)) (1) (1) ([BitVec.ofNat 8 (M / 1)]) ?_ (rfl) (hrow3) ?_ (hsz3) (w.heap.size) (w) (hb3) ?_ ?_
                      · rfl
                      · rfl
                      · rfl
                      · rfl
                      · exact hdl
                      · exact Nat.le_refl _
                      intro v4 w4 ho4 hb4 hg4 hs4))
        go_roundw
        case rel => exact ⟨k + 1, M % 2 ^ 0, 0, by omega, by go_num, by rw [HLB.out], rfl, Lib.hid ⟨by rw [HS2.out], by rw [HS2.out]⟩, Lib.hid (by rw [HS2.out, ofNats_app, ofNats_one]; exact ho4), Lib.hid hb4⟩
        case measure => simp [intOf]; omega
      · have HS2 : Hid (b8all (l.take (k + 1)) = ((b8all (l.take k)).1 ++ [M / 2], M % 2 ^ 1, 1)) := Lib.hid (by rw [HS.out, b8next HNB.out HM.out, if_pos (by decide)])
        have HLB := Lib.hid (low_bits M 1 1 rfl (by decide) (by omega))
        have hcv : ((M : Int) / 2) = iv8 (BitVec.ofNat 8 (M / 2)) := by unfold iv8; rw [BitVec.toNat_ofNat]; omega
        have hsz2 : w.heap.size ≤ wr.heap.size := HB.out.size
        have hb3 := HB.out.alloc hsz2 (.cells #[.int .u8 ((M : Int) / 2)] 5)
        have hsz3 := hb3.size
        have ho3 := HO.out.alloc (.cells #[.int .u8 ((M : Int) / 2)] 5)
        have hrow3 : Row8 (wr.alloc (.cells #[.int .u8 ((M : Int) / 2)] 5)) (some ⟨wr.heap.size, 0, none⟩) [BitVec.ofNat 8 (M / 2)] := by rw [hcv]; exact new_one wr _
        have hdl : (ofNats (b8all (l.take k)).1).length + 1 ≤ 140737488355328 := by rw [ofNats_len]; have := HOL.out; omega
        clear hcv
        go_wp2_with ((with_reducible refine wp_append8 (o := ⟨some 31, _, _, _, _, _⟩) ?_ ((.tmp 25)) ((.tmp 30)) ?_ (w.heap.size) _ ((ofNats (b8all (l.take k)).1)) ?_ (ho3) ((some ⟨wr.heap.size, 0, none⟩)) (1) (1) ([BitVec.ofNat 8 (M / 2)]) ?_ (rfl) (hrow3) ?_ (hsz3) (w.heap.size) (w) (hb3) ?_ ?_
                      · rfl
                      · rfl
                      · rfl
                      · rfl
                      · exact hdl
                      · exact Nat.le_refl _
                      intro v4 w4 ho4 hb4 hg4 hs4))
        go_roundw
        case rel => exact ⟨k + 1, M % 2 ^ 1, 1, by omega, by go_num, by rw [HLB.out], rfl, Lib.hid ⟨by rw [HS2.out], by rw [HS2.out]⟩, Lib.hid (by rw [HS2.out, ofNats_app, ofNats_one]; exact ho4), Lib.hid hb4⟩
        case measure => simp [intOf]; omega
      · have HS2 : Hid (b8all (l.take (k + 1)) = ((b8all (l.take k)).1 ++ [M / 4], M % 2 ^ 2, 2)) := Lib.hid (by rw [HS.out, b8next HNB.out HM.out, if_pos (by decide)])
        have HLB := Lib.hid (low_bits M 2 3 rfl (by decide) (by omega))
        have hcv : ((M : Int) / 4) = iv8 (BitVec.ofNat 8 (M / 4)) := by unfold iv8; rw [BitVec.toNat_ofNat]; omega
        have hsz2 : w.heap.size ≤ wr.heap.size := HB.out.size
        have hb3 := HB.out.alloc hsz2 (.cells #[.int .u8 ((M : Int) / 4)] 5)
        have hsz3 := hb3.size
        have ho3 := HO.out.alloc (.cells #[.int .u8 ((M : Int) / 4)] 5)
        have hrow3 : Row8 (wr.alloc (.cells #[.int .u8 ((M : Int) / 4)] 5)) (some ⟨wr.heap.size, 0, none⟩) [BitVec.ofNat 8 (M / 4)] := by rw [hcv]; exact new_one wr _
        have hdl : (ofNats (b8all (l.take k)).1).length + 1 ≤ 140737488355328 := by rw [ofNats_len]; have := HOL.out; omega
        clear hcv
        go_wp2_with ((with_reducible refine wp_append8 (o := ⟨some 31, _, _, _, _, _⟩) ?_ ((.tmp 25)) ((.tmp 30)) ?_ (w.heap.size) _ ((ofNats (b8all (l.take k)).1)) ?_ (ho3) ((some ⟨wr.heap.size, 0, none⟩)) (1) (1) ([BitVec.ofNat 8 (M / 4)]) ?_ (rfl) (hrow3) ?_ (hsz3) (w.heap.size) (w) (hb3) ?_ ?_
                      · rfl
                      · rfl
                      · rfl
                      · rfl
                      · exact hdl
                      · exact Nat.le_refl _
                      intro v4 w4 ho4 hb4 hg4 hs4))
        go_roundw
        case rel => exact ⟨k + 1, M % 2 ^ 2, 2, by omega, by go_num, by rw [HLB.out], rfl, Lib.hid ⟨by rw [HS2.out], by rw [HS2.out]⟩, Lib.hid (by rw [HS2.out, ofNats_app, ofNats_one]; exact ho4), Lib.hid hb4⟩
        case measure => simp [intOf]; omega
      · have HS2 : Hid (b8all (l.take (k + 1)) = ((b8all (l.take k)).1 ++ [M / 8], M % 2 ^ 3, 3)) := Lib.hid (by rw [HS.out, b8next HNB.out HM.out, if_pos (by decide)])
        have HLB := Lib.hid (low_bits M 3 7 rfl (by decide) (by omega))
        have hcv : ((M : Int) / 8) = iv8 (BitVec.ofNat 8 (M / 8)) := by unfold iv8; rw [BitVec.toNat_ofNat]; omega
        have hsz2 : w.heap.size ≤ wr.heap.size := HB.out.size
        have hb3 := HB.out.alloc hsz2 (.cells #[.int .u8 ((M : Int) / 8)] 5)
        have hsz3 := hb3.size
        have ho3 := HO.out.alloc (.cells #[.int .u8 ((M : Int) / 8)] 5)
        have hrow3 : Row8 (wr.alloc (.cells #[.int .u8 ((M : Int) / 8)] 5)) (some ⟨wr.heap.size, 0, none⟩) [BitVec.ofNat 8 (M / 8)] := by rw [hcv]; exact new_one wr _
        have hdl : (ofNats (b8all (l.take k)).1).length + 1 ≤ 140737488355328 := by rw [ofNats_len]; have := HOL.out; omega
        clear hcv
        go_wp2_with ((with_reducible refine wp_append8 (o := ⟨some 31, _, _, _, _, _⟩) ?_ ((.tmp 25)) ((.tmp 30)) ?_ (w.heap.size) _ ((ofNats (b8all (l.take k)).1)) ?_ (ho3) ((some ⟨wr.heap.size, 0, none⟩)) (1) (1) ([BitVec.ofNat 8 (M / 8)]) ?_ (rfl) (hrow3) ?_ (hsz3) (w.heap.size) (w) (hb3) ?_ ?_
                      · rfl
                      · rfl
                      · rfl
                      · rfl
                      · exact hdl
                      · exact Nat.le_refl _
                      intro v4 w4 ho4 hb4 hg4 hs4))
        go_roundw
        case rel => exact ⟨k + 1, M % 2 ^ 3, 3, by omega, by go_num, by rw [HLB.out], rfl, Lib.hid ⟨by rw [HS2.out], by rw [HS2.out]⟩, Lib.hid (by rw [HS2.out, ofNats_app, ofNats_one]; exact ho4), Lib.hid hb4⟩
        case measure => simp [intOf]; omega
      · have HS2 : Hid (b8all (l.take (k + 1)) = ((b8all (l.take k)).1 ++ [M / 16], M % 2 ^ 4, 4)) := Lib.hid (by rw [HS.out, b8next HNB.out HM.out, if_pos (by decide)])
        have HLB := Lib.hid (low_bits M 4 15 rfl (by decide) (by omega))
        have hcv : ((M : Int) / 16) = iv8 (BitVec.ofNat 8 (M / 16)) := by unfold iv8; rw [BitVec.toNat_ofNat]; omega
        have hsz2 : w.heap.size ≤ wr.heap.size := HB.out.size
        have hb3 := HB.out.alloc hsz2 (.cells #[.int .u8 ((M : Int) / 16)] 5)
        have hsz3 := hb3.size
        have ho3 := HO.out.alloc (.cells #[.int .u8 ((M : Int) / 16)] 5)
        have hrow3 : Row8 (wr.alloc (.cells #[.int .u8 ((M : Int) / 16)] 5)) (some ⟨wr.heap.size, 0, none⟩) [BitVec.ofNat 8 (M / 16)] := by rw [hcv]; exact new_one wr _
        have hdl : (ofNats (b8all (l.take k)).1).length + 1 ≤ 140737488355328 := by rw [ofNats_len]; have := HOL.out; omega
        clear hcv
        go_wp2_with ((with_reducible refine wp_append8 (o := ⟨some 31, _, _, _, _, _⟩) ?_ ((.tmp 25)) ((.tmp 30)) ?_ (w.heap.size) _ ((ofNats (b8all (l.take k)).1)) ?_ (ho3) ((some ⟨wr.heap.size, 0, none⟩)) (1) (1) ([BitVec.ofNat 8 (M / 16)]) ?_ (rfl) (hrow3) ?_ (hsz3) (w.heap.size) (w) (hb3) ?_ ?_
                      · rfl
                      · rfl
                      · rfl
                      · rfl
                      · exact hdl
                      · exact Nat.le_refl _
                      intro v4 w4 ho4 hb4 hg4 hs4))
        go_roundw
        case rel => exact ⟨k + 1, M % 2 ^ 4, 4, by omega, by go_num, by rw [HLB.out], rfl, Lib.hid ⟨by rw [HS2.out], by rw [HS2.out]⟩, Lib.hid (by rw [HS2.out, ofNats_app, ofNats_one]; exact ho4), Lib.hid hb4⟩
        case measure => simp [intOf]; omega
    · have hlt : ¬ (k : Int) < (n : Int) := by omega
      have HT : Hid (l.take k = l) := Lib.hid (List.take_of_length_le (by rw [HLL.out]; omega))
      rw [HT.out] at HO HNB
      have HB3 := HB.out
      clear HB hNb hb8 HOL
      by_cases h5 : b < 5
      · have h5' : (b : Int) < 5 := by omega
        by_cases h0 : N = 0
        · subst h0
          have HE : Hid ((decide ((b8all l).2.2 < 5) && decide ((b8all l).2.1 = 0)) = true) := Lib.hid (by rw [← HNB.out.1, ← HNB.out.2, decide_eq_true h5]; rfl)
          clear h5
          go_wp2_with fail
          go_ret2
          exact ⟨_, by rw [HE.out]; rfl, HO.out, HB3⟩
        · have h0' : ((N : Int) == 0) = false := by rw [beq_eq_false_iff_ne]; omega
          have HE : Hid ((decide ((b8all l).2.2 < 5) && decide ((b8all l).2.1 = 0)) = false) := Lib.hid (by rw [← HNB.out.1, ← HNB.out.2, decide_eq_false h0, Bool.and_false])
          clear h5 h0
          go_wp2_with fail
          go_ret2
          exact ⟨_, by rw [HE.out]; rfl, HO.out, HB3⟩
      · have h5' : ¬ (b : Int) < 5 := by omega
        have HE : Hid ((decide ((b8all l).2.2 < 5) && decide ((b8all l).2.1 = 0)) = false) := Lib.hid (by rw [← HNB.out.2, decide_eq_false h5, Bool.false_and])
        clear h5
        go_wp2_with fail
        go_ret2
        exact ⟨_, by rw [HE.out]; rfl, HO.out, HB3⟩
end Go.Proofs.YtbkpgdfkjijagaaDoor
