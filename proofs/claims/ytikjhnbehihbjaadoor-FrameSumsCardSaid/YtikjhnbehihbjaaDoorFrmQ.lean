/- Frames that were written are read: plain. -/
import Derived.Test.YtikjhnbehihbjaaDoorFrmP
import Derived.Test.YtikjhnbehihbjaaDoorFrmA
namespace Go.Proofs.YtikjhnbehihbjaaDoor
set_option linter.unusedVariables false

theorem trimN_noughts (cmd : List (BitVec 8)) (k : Nat) (h : cmd ≠ [] → cmd[cmd.length - 1]? ≠ some 0#8) : ∀ j, j ≤ k → trimN (cmd ++ noughts k) (cmd.length + j) = cmd.length
  | 0, _ => by
    rw [Nat.add_zero]
    cases hc : cmd.length with
    | zero => rfl
    | succ n =>
      have hne : cmd ≠ [] := fun e => by rw [e] at hc; cases hc
      have h1 := h hne
      rw [hc, Nat.add_sub_cancel] at h1
      rw [trimN, List.getElem?_append_left (by omega), if_neg h1]
  | j + 1, hj => by
    rw [show cmd.length + (j + 1) = cmd.length + j + 1 by omega, trimN, List.getElem?_append_right (by omega), show cmd.length + j - cmd.length = j by omega]
    rw [if_pos (by unfold noughts; rw [List.getElem?_replicate, if_pos (by omega)])]
    exact trimN_noughts cmd k h j (by omega)
theorem cmdOk_last {cmd : List (BitVec 8)} (h : cmdOk cmd = true) : cmd ≠ [] → cmd[cmd.length - 1]? ≠ some 0#8 := fun _ e => by
  unfold cmdOk at h
  simp only [Bool.and_eq_true] at h
  have := List.all_eq_true.1 h.2 _ (List.mem_of_getElem? e)
  exact absurd this (by decide)
theorem trim0_name {cmd : List (BitVec 8)} (h : cmdOk cmd = true) : trim0 (cmd ++ noughts (12 - cmd.length)) = cmd := by
  have hl := cmdOk_len h
  unfold trim0
  rw [List.length_append, noughts_len, trimN_noughts cmd _ (cmdOk_last h) _ (Nat.le_refl _), List.take_left]
theorem num32_low (n : Nat) (r : List (BitVec 8)) (h : n < 4294967296) : (num32 (low (BitVec.ofNat 64 n) 4 ++ r)).toNat = n := by
  unfold num32
  rw [numTo_low _ _ _ (by rw [BitVec.toNat_ofNat, Nat.mod_eq_of_lt (by omega)]; exact h), BitVec.toNat_setWidth, BitVec.toNat_ofNat, Nat.mod_eq_of_lt (a := n) (by omega), Nat.mod_eq_of_lt (by omega)]

theorem frmStep_out {cmd pl : List (BitVec 8)} (hc : cmdOk cmd = true) (hp : pl.length ≤ 200000) (r : List (BitVec 8)) : frmStep (frmOut cmd pl ++ r) = .frame cmd pl r := by
  have hl := cmdOk_len hc
  obtain ⟨A, hA⟩ : ∃ A, A = low (BitVec.ofNat 64 3652501241) 4 := ⟨_, rfl⟩
  obtain ⟨C, hC⟩ : ∃ C, C = cmd ++ noughts (12 - cmd.length) := ⟨_, rfl⟩
  obtain ⟨L, hL⟩ : ∃ L, L = low (BitVec.ofNat 64 pl.length) 4 := ⟨_, rfl⟩
  obtain ⟨S, hS⟩ : ∃ S, S = (sha (sha pl)).take 4 := ⟨_, rfl⟩
  have lA : A.length = 4 := by rw [hA, low_len]
  have lC : C.length = 12 := by rw [hC, List.length_append, noughts_len]; omega
  have lL : L.length = 4 := by rw [hL, low_len]
  have lS : S.length = 4 := by rw [hS, List.length_take, sha_len]; rfl
  have e : frmOut cmd pl ++ r = A ++ (C ++ (L ++ (S ++ (pl ++ r)))) := by
    unfold frmOut
    rw [← hA, ← hC, ← hL, ← hS]
    simp only [List.append_assoc]
  have e4 : (A ++ (C ++ (L ++ (S ++ (pl ++ r))))).drop 4 = C ++ (L ++ (S ++ (pl ++ r))) := List.drop_left' lA
  have e16 : (A ++ (C ++ (L ++ (S ++ (pl ++ r))))).drop 16 = L ++ (S ++ (pl ++ r)) := by
    rw [← List.append_assoc, List.drop_left' (by rw [List.length_append]; omega)]
  have e20 : (A ++ (C ++ (L ++ (S ++ (pl ++ r))))).drop 20 = S ++ (pl ++ r) := by
    rw [← List.append_assoc, ← List.append_assoc, List.drop_left' (by rw [List.length_append, List.length_append]; omega)]
  have e24 : (A ++ (C ++ (L ++ (S ++ (pl ++ r))))).drop 24 = pl ++ r := by
    rw [← List.append_assoc, ← List.append_assoc, ← List.append_assoc, List.drop_left' (by rw [List.length_append, List.length_append, List.length_append]; omega)]
  have hlen : (A ++ (C ++ (L ++ (S ++ (pl ++ r))))).length = 24 + pl.length + r.length := by
    simp only [List.length_append, lA, lC, lL, lS]; omega
  have hmag : num32 (A ++ (C ++ (L ++ (S ++ (pl ++ r))))) = 3652501241#32 := by
    apply BitVec.eq_of_toNat_eq
    rw [hA, num32_low _ _ (by omega)]
    rfl
  have hnm : frmName (A ++ (C ++ (L ++ (S ++ (pl ++ r))))) = cmd := by
    unfold frmName
    rw [e4, List.take_left' lC, hC, trim0_name hc]
  have hln : frmLen (A ++ (C ++ (L ++ (S ++ (pl ++ r))))) = pl.length := by
    unfold frmLen
    rw [e16, hL, num32_low _ _ (by omega)]
  have hhead : frmHead (A ++ (C ++ (L ++ (S ++ (pl ++ r))))) = (cmd, 24 + pl.length, 0) := by
    unfold frmHead
    rw [hnm, hln, if_pos ⟨hmag, hc⟩, if_neg (by omega)]
  have hpl : ((A ++ (C ++ (L ++ (S ++ (pl ++ r))))).take (24 + pl.length)).drop 24 = pl := by
    rw [List.drop_take, e24, Nat.add_sub_cancel_left, List.take_left]
  have hrest : (A ++ (C ++ (L ++ (S ++ (pl ++ r))))).drop (24 + pl.length) = r := by
    rw [← List.drop_drop, e24, List.drop_left]
  unfold frmStep
  rw [e, if_neg (by omega), hhead, if_pos rfl, if_neg (by simp only; omega), hpl, hrest, e20, List.take_left' lS, if_pos hS.symm]
theorem frmAll_out {cmd pl : List (BitVec 8)} (hc : cmdOk cmd = true) (hp : pl.length ≤ 200000) (r : List (BitVec 8)) : frmAll (frmOut cmd pl ++ r) = ((cmd, pl) :: (frmAll r).1, (frmAll r).2) :=
  frmAll_frame (frmStep_out hc hp r)
theorem frmAll_nil : frmAll [] = ([], [], 0) := rfl
theorem frmAll_one {cmd pl : List (BitVec 8)} (hc : cmdOk cmd = true) (hp : pl.length ≤ 200000) : frmAll (frmOut cmd pl) = ([(cmd, pl)], [], 0) := by
  have := frmAll_out hc hp []
  rwa [List.append_nil] at this
end Go.Proofs.YtikjhnbehihbjaaDoor
