/- frame.isCommand and sporranref09.isCommand: the walks.  -/
import Derived.Test.YtndobjlodpkknaaGreatDoorWSl8
import Derived.Test.YtndobjlodpkknaaGreatDoorWGA
namespace Go.Proofs.YtndobjlodpkknaaGreatDoor
open Go.RowKit
def inAZ (b : BitVec 8) : Bool := !(decide (iv8 b < 97) || decide (122 < iv8 b))
def cmdOk (s : List (BitVec 8)) : Bool := decide (0 < s.length) && decide (s.length ≤ 12) && s.all inAZ
theorem all_succ (bs : List (BitVec 8)) (k : Nat) (b : BitVec 8) (h : bs[k]? = some b) : (bs.take (k + 1)).all inAZ = ((bs.take k).all inAZ && inAZ b) := by
  rw [List.take_add_one, h, List.all_append]; simp
theorem all_not (bs : List (BitVec 8)) (k : Nat) (b : BitVec 8) (h : bs[k]? = some b) (hb : inAZ b = false) : bs.all inAZ = false := by
  rw [Bool.eq_false_iff]
  intro h2
  have := List.all_eq_true.1 h2 b (List.mem_of_getElem? h)
  rw [hb] at this
  cases this
theorem cmdC_any (b : BitVec 8) (w : World) : Calls Tryz.prog 52 #[.int .u8 (iv8 b)] w fun e w' => e = .returned (.bool (!inAZ b)) ∧ w' = w := by
  have H : Hid (inAZ b = !(decide (iv8 b < 97) || decide (122 < iv8 b))) := Lib.hid rfl
  by_cases h1 : iv8 b < 97
  · have h1' : decide (iv8 b < 97) = true := decide_eq_true h1
    have HF : Hid ((!inAZ b) = true) := Lib.hid (by rw [H.out, h1']; rfl)
    go_enter Tryz.func52, Tryz.ntmps52
    go_wp2
    go_ret
    exact ⟨by rw [HF.out]; rfl, rfl⟩
  · have h1' : decide (iv8 b < 97) = false := decide_eq_false h1
    by_cases h2 : 122 < iv8 b
    · have h2' : decide (122 < iv8 b) = true := decide_eq_true h2
      have HF : Hid ((!inAZ b) = true) := Lib.hid (by rw [H.out, h1', h2']; rfl)
      go_enter Tryz.func52, Tryz.ntmps52
      go_wp2
      go_ret
      exact ⟨by rw [HF.out]; rfl, rfl⟩
    · have h2' : decide (122 < iv8 b) = false := decide_eq_false h2
      have HF : Hid ((!inAZ b) = false) := Lib.hid (by rw [H.out, h1', h2']; rfl)
      go_enter Tryz.func52, Tryz.ntmps52
      go_wp2
      go_ret
      exact ⟨by rw [HF.out]; rfl, rfl⟩
def IdxPost (w : World) (bs : List (BitVec 8)) (e : Ending) (w' : World) : Prop := ∃ r : Int, e = .returned (.int .i64 r) ∧ decide (0 ≤ r) = (!bs.all inAZ) ∧ w' = w
set_option maxRecDepth 100000 in
set_option maxHeartbeats 2000000 in
theorem cmdIdx_any (p : Option Addr) (n c : Nat) (bs : List (BitVec 8)) (w : World) (hr : Row8 w p bs) (hn : bs.length = n) (hb : n ≤ 9223372036854775807) :
    Calls Tryz.prog 76 #[.slice p n c, .func (.func 52) #[] #[]] w (IdxPost w bs) := by
  have HN := Lib.hid hn
  have HR := Lib.hid hr
  clear hn hr
  go_enter Tryz.func76, Tryz.ntmps76
  go_wp2_with fail
  go_loop [8] (fun i => ∃ k : Nat, k ≤ n ∧ i = .int .i64 k ∧ Hid ((bs.take k).all inAZ = true)) (fun i => n - (intOf i).toNat)
  case atStart => exact ⟨0, by omega, rfl, Lib.hid rfl⟩
  case round =>
    obtain ⟨k, hk, rfl, ha⟩ := hrel
    by_cases hkn : k < n
    · have hkn' : (k : Int) < (n : Int) := by omega
      obtain ⟨bb, of, hp, hlt, hc⟩ := HR.out (by intro e; have := HN.out; rw [e] at this; simp at this; omega)
      subst hp
      obtain ⟨x, hx⟩ : ∃ x, bs[k]? = some x := ⟨_, List.getElem?_eq_getElem (by rw [HN.out]; exact hkn)⟩
      have hcell := hc k x hx
      unfold u8 at hcell
      have hst := Lib.hid (all_succ bs k x hx)
      have hno := Lib.hid (all_not bs k x hx)
      clear hc hx
      go_wp2_with fail
      refine (cmdC_any x _).mono ?_
      rintro e w' ⟨rfl, rfl⟩
      cases hz : inAZ x
      · have HF := hno.out hz
        rw [Bool.not_false]
        have HFF := Lib.hid HF
        clear hz HF
        go_wp2_with fail
        go_ret
        exact ⟨k, rfl, by rw [HFF.out, Bool.not_false]; exact decide_eq_true (by omega), rfl⟩
      · rw [Bool.not_true]
        have HT : Hid ((bs.take (k + 1)).all inAZ = true) := Lib.hid (by rw [hst.out, ha.out, hz]; rfl)
        clear hz
        go_wp2_with fail
        go_round
        case rel => exact ⟨k + 1, by omega, by go_num, HT⟩
        case measure => simp [intOf]; omega
    · have hkn' : ¬ (k : Int) < (n : Int) := by omega
      have hke : k = n := by omega
      subst hke
      have HT : Hid (bs.all inAZ = true) := Lib.hid (by have := ha.out; rwa [List.take_of_length_le (by rw [HN.out]; exact Nat.le_refl _)] at this)
      go_wp2_with fail
      go_ret
      exact ⟨-1, rfl, by rw [HT.out]; rfl, rfl⟩
set_option maxRecDepth 100000 in
theorem cmdHas_any (p : Option Addr) (n c : Nat) (bs : List (BitVec 8)) (w : World) (hr : Row8 w p bs) (hn : bs.length = n) (hb : n ≤ 9223372036854775807) :
    Calls Tryz.prog 51 #[.slice p n c, .func (.func 52) #[] #[]] w fun e w' => e = .returned (.bool (!bs.all inAZ)) ∧ w' = w := by
  have HN := Lib.hid hn
  have HR := Lib.hid hr
  clear hn hr
  go_enter Tryz.func51, Tryz.ntmps51
  go_wp2_with fail
  refine (cmdIdx_any p n c bs _ HR.out HN.out hb).mono ?_
  rintro e w' ⟨r, rfl, hrr, rfl⟩
  obtain ⟨q, hq⟩ : ∃ q, q = (!bs.all inAZ) := ⟨_, rfl⟩
  rw [← hq] at hrr
  have HQ := Lib.hid hq
  clear hq
  go_wp2_with fail
  go_ret
  exact ⟨by rw [← HQ.out]; rfl, rfl⟩
set_option maxRecDepth 100000 in
theorem isCommand_any (p : Option Addr) (n c : Nat) (bs : List (BitVec 8)) (w : World) (hr : Row8 w p bs) (hn : bs.length = n) (hb : n ≤ 9223372036854775807) :
    Calls Tryz.prog 33 #[.slice p n c] w fun e w' => e = .returned (.bool (cmdOk bs)) ∧ w' = w := by
  have HN := Lib.hid hn
  have HR := Lib.hid hr
  have HC : Hid (cmdOk bs = (decide (0 < n) && decide (n ≤ 12) && bs.all inAZ)) := Lib.hid (by unfold cmdOk; rw [hn])
  clear hn hr
  by_cases h0 : 0 < n
  · have h0i : (0 : Int) < (n : Int) := by omega
    by_cases h1 : n ≤ 12
    · have h1i : (n : Int) ≤ 12 := by omega
      go_enter Tryz.func33, Tryz.ntmps33
      go_wp2_with fail
      refine (cmdHas_any p n c bs _ HR.out HN.out hb).mono ?_
      rintro e w' ⟨rfl, rfl⟩
      have HF : Hid (cmdOk bs = bs.all inAZ) := Lib.hid (by rw [HC.out, decide_eq_true h0, decide_eq_true h1]; rfl)
      obtain ⟨q, hq⟩ : ∃ q, q = bs.all inAZ := ⟨_, rfl⟩
      rw [← hq] at HF ⊢
      clear hq
      go_wp2_with fail
      go_ret
      exact ⟨by rw [HF.out]; rfl, rfl⟩
    · have h1i : ¬ (n : Int) ≤ 12 := by omega
      have HF : Hid (cmdOk bs = false) := Lib.hid (by rw [HC.out, decide_eq_true h0, decide_eq_false h1]; rfl)
      go_enter Tryz.func33, Tryz.ntmps33
      go_wp2_with fail
      go_ret
      exact ⟨by rw [HF.out]; rfl, rfl⟩
  · have h0i : ¬ (0 : Int) < (n : Int) := by omega
    have HF : Hid (cmdOk bs = false) := Lib.hid (by rw [HC.out, decide_eq_false h0]; rfl)
    go_enter Tryz.func33, Tryz.ntmps33
    go_wp2_with fail
    go_ret
    exact ⟨by rw [HF.out]; rfl, rfl⟩
end Go.Proofs.YtndobjlodpkknaaGreatDoor
