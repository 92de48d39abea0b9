/- sporranlaw13.ScriptSizes: the walk. -/
import Derived.Test.YtlopmnepodbefaaScriptE
namespace Go.Proofs.Ytlopmnepodbefaa
open Go.RowKit

theorem made_kind (k : Nat) (h1 : 1 ≤ k) (h5 : k ≤ 5) (b : List (BitVec 8)) : made (k : Int) b = if b.length = kindLen k then some (bytesOfR (kindPre k) ++ (b ++ bytesOfR (kindPost k))) else none := by
  have hk0 : kindOf (k : Int) = k := by unfold kindOf; rw [if_pos (by omega)]; simp
  unfold made
  rw [if_neg (by omega), hk0, if_neg (by omega), mk_kind]
theorem made_long (k : Nat) (h1 : 1 ≤ k) (h5 : k ≤ 5) (b t : List (BitVec 8)) (h : made (k : Int) b = some t) : b.length < t.length := by
  rw [made_kind k h1 h5] at h
  split at h
  · injection h with h
    subst h
    have : 0 < (bytesOfR (kindPre k)).length := by
      rcases (show k = 1 ∨ k = 2 ∨ k = 3 ∨ k = 4 ∨ k = 5 by omega) with rfl | rfl | rfl | rfl | rfl <;> decide
    simp only [List.length_append]; omega
  · cases h
theorem zeros_row (w : World) (n : Nat) (t : TypeId) : Row8 (w.alloc (.cells (Array.replicate n (.int .u8 0)) t)) (some ⟨w.heap.size, 0, none⟩) (List.replicate n 0#8) := by
  intro _
  refine ⟨_, _, rfl, by simp, fun i x hx => ?_⟩
  rw [List.getElem?_replicate] at hx
  split at hx
  · rename_i hi
    injection hx with hx
    subst hx
    rw [Nat.zero_add, (Blk.new w t _).cell i]
    simp [hi]; rfl
  · cases hx

set_option maxRecDepth 100000 in
set_option maxHeartbeats 2000000 in
theorem sizes_kind (k sz : Nat) (hk : (k = 1 ∧ sz = 20) ∨ (k = 2 ∧ sz = 20) ∨ (k = 3 ∧ sz = 20) ∨ (k = 4 ∧ sz = 32) ∨ (k = 5 ∧ sz = 32)) (x : Int) (hx : 1 + IntKind.u64.wrap x % 5 = (k : Int)) (p : Option Addr) (n c : Nat) (bs : List (BitVec 8)) (w : World)
    (hn : bs.length = n) (hl : n ≤ c) (hb : c ≤ 140737488351232) (hr : Row8 w p bs) :
    Calls Try.prog 6 #[.int .i64 x, .slice p n c] w fun e w' => e = .returned (.bool true) ∧ Below w.heap.size w w' := by
  have hw0 : 0 ≤ IntKind.u64.wrap x := by rw [wrapU64]; omega
  have hmk20 : ∀ w : World, (Instr.makeSlice 30 (.int .i64 20) (.int .i64 20)).run Try.prog w = .ok (.slice (some ⟨w.heap.size, 0, none⟩) 20 20) (w.alloc (.cells (Array.replicate 20 (.int .u8 0)) 5)) := fun _ => by kernel_rfl
  have hmk32 : ∀ w : World, (Instr.makeSlice 30 (.int .i64 32) (.int .i64 32)).run Try.prog w = .ok (.slice (some ⟨w.heap.size, 0, none⟩) 32 32) (w.alloc (.cells (Array.replicate 32 (.int .u8 0)) 5)) := fun _ => by kernel_rfl
  have HN := Lib.hid hn
  have HK := Lib.hid hx
  have HM20 := Lib.hid hmk20
  have HM32 := Lib.hid hmk32
  clear hn hx hmk20 hmk32
  go_enter Try.func6, Try.ntmps6
  go_wp2_with fail
  rw [HK.out]
  have hb0 : Below w.heap.size w (w.alloc (.cells #[.int .i64 20, .int .i64 20, .int .i64 20, .int .i64 32, .int .i64 32] 3)) := (Below.refl _ _).alloc (Nat.le_refl _) _
  have hk0 : Blk (w.alloc (.cells #[.int .i64 20, .int .i64 20, .int .i64 20, .int .i64 32, .int .i64 32] 3)) w.heap.size 3 #[.int .i64 20, .int .i64 20, .int .i64 20, .int .i64 32, .int .i64 32] := Blk.new _ _ _
  have hs0 : (w.alloc (.cells #[.int .i64 20, .int .i64 20, .int .i64 20, .int .i64 32, .int .i64 32] 3)).heap.size = w.heap.size + 1 := by simp
  refine (make_any (k : Int) p n c bs _ (hr.below hb0 (Nat.le_refl _)) HN.out hl (by omega) (by omega)).mono ?_
  rintro e w1 ⟨hb1, hmk⟩
  have hk1 := hk0.below hb1 hk0.lt
  have hb01 := hb0.trans (hb1.mono hb0.size)
  clear hb0 hk0 hb1 hs0
  have hmd := made_kind k (by omega) (by omega) bs
  have hmz := made_kind k (by omega) (by omega) (List.replicate sz 0#8)
  have hkl : kindLen k = sz := by rcases hk with ⟨rfl, rfl⟩ | ⟨rfl, rfl⟩ | ⟨rfl, rfl⟩ | ⟨rfl, rfl⟩ | ⟨rfl, rfl⟩ <;> rfl
  rw [hkl] at hmd hmz
  rw [if_pos (by simp)] at hmz
  have hlong := made_long k (by omega) (by omega) _ _ hmz
  rw [List.length_replicate] at hlong
  obtain ⟨t, ht⟩ : ∃ t, t = bytesOfR (kindPre k) ++ (List.replicate sz 0#8 ++ bytesOfR (kindPost k)) := ⟨_, rfl⟩
  rw [← ht] at hmz hlong
  have HZ := Lib.hid hmz
  clear hmz ht hkl
  obtain ⟨v1, ok, hok, rfl⟩ : ∃ v1 ok, (ok = decide (n = sz)) ∧ e = .returned (.tuple #[v1, .bool ok]) := by
    by_cases hln : n = sz
    · rw [hmd, if_pos (by rw [HN.out]; exact hln)] at hmk
      obtain ⟨v, he, _⟩ := hmk
      exact ⟨v, true, by simp [hln], he⟩
    · rw [hmd, if_neg (by rw [HN.out]; exact hln)] at hmk
      exact ⟨_, false, by simp [hln], hmk⟩
  have HOK := Lib.hid hok
  clear hmk hmd hok
  rcases hk with ⟨rfl, rfl⟩ | ⟨rfl, rfl⟩ | ⟨rfl, rfl⟩ | ⟨rfl, rfl⟩ | ⟨rfl, rfl⟩
  all_goals
    have hc1 : ∀ i, w1.cell? ⟨w.heap.size, i, none⟩ = #[.int .i64 20, .int .i64 20, .int .i64 20, .int .i64 32, .int .i64 32][i]? := hk1.cell
    have hmk20 := HM20.out
    have hmk32 := HM32.out
    go_wp2_with fail
    clear hmk20 hmk32
    refine (make_any _ (some ⟨w1.heap.size, 0, none⟩) _ _ (List.replicate _ 0#8) _ (zeros_row w1 _ _) (by simp) (Nat.le_refl _) (by omega) (by omega)).mono ?_
    rintro e w2 ⟨hb2, hmk2⟩
    erw [HZ.out] at hmk2
    dsimp only at hmk2
    obtain ⟨v2, rfl, hov2⟩ := hmk2
    have hbw : Below w.heap.size w w2 := (hb01.alloc hb01.size _).trans (hb2.mono (by have := hb01.size; simp; omega))
    have hk2 := (hk1.alloc (.cells (Array.replicate _ (.int .u8 0)) 5)).below hb2 (hk1.alloc _).lt
    have hc2 : ∀ i, w2.cell? ⟨w.heap.size, i, none⟩ = #[.int .i64 20, .int .i64 20, .int .i64 20, .int .i64 32, .int .i64 32][i]? := hk2.cell
    obtain ⟨p2, c2, rfl, _⟩ := hov2.row
    clear hb2 hk2 hb01 hk1 hc1 hov2
    first
      | (have hlong2 : (32 : Int) < (t.length : Int) := by omega)
      | (have hlong2 : (20 : Int) < (t.length : Int) := by omega)
    clear hlong HZ
    have hok := HOK.out
    clear HOK
    cases ok with
    | true =>
      have hnn := of_decide_eq_true hok.symm
      clear hok
      subst hnn
      go_wp2
      go_ret
      exact ⟨rfl, hbw⟩
    | false =>
      have hnn := of_decide_eq_false hok.symm
      clear hok
      first
        | (have hnb : ((n : Int) == 20) = false := by simp; omega)
        | (have hnb : ((n : Int) == 32) = false := by simp; omega)
      clear hnn
      go_wp2
      go_ret
      exact ⟨rfl, hbw⟩

theorem scriptSizes_walk (x : Int) (p : Option Addr) (n c : Nat) (bs : List (BitVec 8)) (w : World) (_hx0 : -9223372036854775808 ≤ x) (_hx1 : x ≤ 9223372036854775807)
    (hn : bs.length = n) (hl : n ≤ c) (hb : c ≤ 140737488351232) (hr : Row8 w p bs) (_hp : p = none → c = 0) :
    Calls Try.prog 6 #[.int .i64 x, .slice p n c] w fun e w' => e = .returned (.bool true) ∧ Below w.heap.size w w' := by
  obtain ⟨K, hK, hK1, hK5⟩ := turned x 5 (.inl rfl)
  rcases (show K = 1 ∨ K = 2 ∨ K = 3 ∨ K = 4 ∨ K = 5 by omega) with rfl | rfl | rfl | rfl | rfl
  · exact sizes_kind 1 20 (by omega) x hK p n c bs w hn hl hb hr
  · exact sizes_kind 2 20 (by omega) x hK p n c bs w hn hl hb hr
  · exact sizes_kind 3 20 (by omega) x hK p n c bs w hn hl hb hr
  · exact sizes_kind 4 32 (by omega) x hK p n c bs w hn hl hb hr
  · exact sizes_kind 5 32 (by omega) x hK p n c bs w hn hl hb hr
end Go.Proofs.Ytlopmnepodbefaa
