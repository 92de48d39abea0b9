/- sporranref09.isCommand: the walk.  -/
import Derived.Test.YtndobjlodpkknaaGreatDoorWStrB
import Derived.Test.YtndobjlodpkknaaGreatDoorWCmd
namespace Go.Proofs.YtndobjlodpkknaaGreatDoor
open Go.RowKit
set_option maxRecDepth 100000 in
set_option maxHeartbeats 2000000 in
theorem refCommand_any (bs : List (BitVec 8)) (w : World) (hb : bs.length ≤ 9223372036854775807) :
    Calls Tryz.prog 37 #[.string (strB bs)] w fun e w' => e = .returned (.bool (cmdOk bs)) ∧ w' = w := by
  obtain ⟨n, hn⟩ : ∃ n, n = bs.length := ⟨_, rfl⟩
  rw [← hn] at hb
  have HN : Hid (bs.length = n) := Lib.hid hn.symm
  have hsz : (strB bs).size = n := (strB_size bs).trans HN.out
  obtain ⟨S, hS⟩ : ∃ S, S = strB bs := ⟨_, rfl⟩
  have HS := Lib.hid hS
  rw [← hS] at hsz ⊢
  have HZ := Lib.hid hsz
  have hlen : ∀ ty w, (Builtin.len_ #[9] ty #[.string S]).run Tryz.prog w = .ok (.int .i64 (n : Int)) w := fun ty w => by
    rw [run_len_string w _ _ _ Tryz.underlying9, hsz]; rfl
  have HC : Hid (cmdOk bs = (decide (0 < n) && decide (n ≤ 12) && bs.all inAZ)) := Lib.hid (by unfold cmdOk; rw [HN.out])
  clear hn hS hsz
  go_enter Tryz.func37, Tryz.ntmps37
  go_wp2_with fail
  go_loop [3] (fun i => ∃ k : Nat, k ≤ n ∧ i = .int .i64 k ∧ Hid ((bs.take k).all inAZ = true)) (fun i => n - (intOf i).toNat)
  case atStart => exact ⟨0, by omega, rfl, Lib.hid rfl⟩
  case round =>
    obtain ⟨k, hk, rfl, ha⟩ := hrel
    by_cases hkn : k < n
    · have hkn' : (k : Int) < (n : Int) := by omega
      obtain ⟨x, hx⟩ : ∃ x, bs[k]? = some x := ⟨_, List.getElem?_eq_getElem (by rw [HN.out]; exact hkn)⟩
      have hix := strB_index bs k x hx
      rw [← HS.out] at hix
      have hst := Lib.hid (all_succ bs k x hx)
      have hno := Lib.hid (all_not bs k x hx)
      have H : Hid (inAZ x = !(decide (iv8 x < 97) || decide (122 < iv8 x))) := Lib.hid rfl
      clear hx
      by_cases h1 : iv8 x < 97
      · have h1' : decide (iv8 x < 97) = true := decide_eq_true h1
        have HF : Hid (cmdOk bs = false) := Lib.hid (by rw [HC.out, hno.out (by rw [H.out, h1']; rfl)]; simp)
        go_wp2_with fail
        go_ret
        exact ⟨by rw [HF.out]; rfl, rfl⟩
      · have h1' : decide (iv8 x < 97) = false := decide_eq_false h1
        by_cases h2 : 122 < iv8 x
        · have h2' : decide (122 < iv8 x) = true := decide_eq_true h2
          have HF : Hid (cmdOk bs = false) := Lib.hid (by rw [HC.out, hno.out (by rw [H.out, h1', h2']; rfl)]; simp)
          go_wp2_with fail
          go_ret
          exact ⟨by rw [HF.out]; rfl, rfl⟩
        · have h2' : decide (122 < iv8 x) = false := decide_eq_false h2
          have HT : Hid ((bs.take (k + 1)).all inAZ = true) := Lib.hid (by rw [hst.out, ha.out, H.out, h1', h2']; rfl)
          go_wp2_with fail
          go_round
          case rel => exact ⟨k + 1, by omega, by go_num, HT⟩
          case measure => simp [intOf]; omega
    · have hkn' : ¬ (k : Int) < (n : Int) := by omega
      have hke : k = n := by omega
      subst hke
      have HT : Hid (bs.all inAZ = true) := Lib.hid (by have := ha.out; rwa [List.take_of_length_le (by rw [HN.out]; exact Nat.le_refl _)] at this)
      by_cases h0 : 0 < k
      · have h0i : (1 : Int) ≤ (k : Int) := by omega
        by_cases h1 : k ≤ 12
        · have h1i : (k : Int) ≤ 12 := by omega
          have HF : Hid (cmdOk bs = true) := Lib.hid (by rw [HC.out, HT.out, decide_eq_true h0, decide_eq_true h1]; rfl)
          go_wp2_with fail
          go_ret
          exact ⟨by rw [HF.out]; rfl, rfl⟩
        · have h1i : ¬ (k : Int) ≤ 12 := by omega
          have HF : Hid (cmdOk bs = false) := Lib.hid (by rw [HC.out, decide_eq_true h0, decide_eq_false h1]; rfl)
          go_wp2_with fail
          go_ret
          exact ⟨by rw [HF.out]; rfl, rfl⟩
      · have h0i : ¬ (1 : Int) ≤ (k : Int) := by omega
        have HF : Hid (cmdOk bs = false) := Lib.hid (by rw [HC.out, decide_eq_false h0]; rfl)
        go_wp2_with fail
        go_ret
        exact ⟨by rw [HF.out]; rfl, rfl⟩
end Go.Proofs.YtndobjlodpkknaaGreatDoor
