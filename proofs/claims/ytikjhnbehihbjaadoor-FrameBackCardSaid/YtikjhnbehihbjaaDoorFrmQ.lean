/- Frames that were written are read: plain. -/
import Derived.Test.YtikjhnbehihbjaaDoorFrmP
import Derived.Test.YtikjhnbehihbjaaDoorFrmA
namespace Go.Proofs.YtikjhnbehihbjaaDoor
set_option linter.unusedVariables false

theorem trimN_noughts (cmd : List (BitVec 8)) (k : Nat) (h : cmd ≠ [] → cmd[cmd.length - 1]? ≠ some 0#8) : ∀ j, j ≤ k → trimN (cmd ++ noughts k) (cmd.length + j) = cmd.length
  | 0, _ => by
    rw [Nat.add_zero]
    cases hc : cmd.length with
    | zero => rfl
    | succ n =>
      have hne : cmd ≠ [] := fun e => by rw [e] at hc; cases hc
      have h1 := h hne
      rw [hc, Nat.add_sub_cancel] at h1
      rw [trimN, List.getElem?_append_left (by omega), if_neg h1]
  | j + 1, hj => by
    rw [show cmd.length + (j + 1) = cmd.length + j + 1 by omega, trimN, List.getElem?_append_right (by omega), show cmd.length + j - cmd.length = j by omega]
    rw [if_pos (by unfold noughts; rw [List.getElem?_replicate, if_pos (by omega)])]
    exact trimN_noughts cmd k h j (by omega)
theorem cmdOk_last {cmd : List (BitVec 8)} (h : cmdOk cmd = true) : cmd ≠ [] → cmd[cmd.length - 1]? ≠ some 0#8 := fun _ e => by
  unfold cmdOk at h
  simp only [Bool.and_eq_true] at h
  have := List.all_eq_true.1 h.2 _ (List.mem_of_getElem? e)
  exact absurd this (by decide)
theorem trim0_name {cmd : List (BitVec 8)} (h : cmdOk cmd = true) : trim0 (cmd ++ noughts (12 - cmd.length)) = cmd := by
  have hl := cmdOk_len h
  unfold trim0
  rw [List.length_append, noughts_len, trimN_noughts cmd _ (cmdOk_last h) _ (Nat.le_refl _), List.take_left]
theorem num32_low (n : Nat) (r : List (BitVec 8)) (h : n < 4294967296) : (num32 (low (BitVec.ofNat 64 n) 4 ++ r)).toNat = n := by
  unfold num32
  rw [numTo_low _ _ _ (by rw [BitVec.toNat_ofNat, Nat.mod_eq_of_lt (by omega)]; exact h), BitVec.toNat_setWidth, BitVec.toNat_ofNat, Nat.mod_eq_of_lt (a := n) (by omega), Nat.mod_eq_of_lt (by omega)]

theorem frmHead_out {cmd pl : List (BitVec 8)} (hc : cmdOk cmd = true) (hp : pl.length ≤ 200000) (r : List (BitVec 8)) : frmHead (frmOut cmd pl ++ r) = (cmd, 24 + pl.length, 0) := by
  have hl := cmdOk_len hc
  obtain ⟨A, hA⟩ : ∃ A, A = low (BitVec.ofNat 64 3652501241) 4 := ⟨_, rfl⟩
  obtain ⟨C, hC⟩ : ∃ C, C = cmd ++ noughts (12 - cmd.length) := ⟨_, rfl⟩
  obtain ⟨L, hL⟩ : ∃ L, L = low (BitVec.ofNat 64 pl.length) 4 := ⟨_, rfl⟩
  have lA : A.length = 4 := by rw [hA, low_len]
  have lC : C.length = 12 := by rw [hC, List.length_append, noughts_len]; omega
  obtain ⟨Z, e⟩ : ∃ Z, frmOut cmd pl ++ r = A ++ (C ++ (L ++ Z)) := by
    refine ⟨(sha (sha pl)).take 4 ++ (pl ++ r), ?_⟩
    unfold frmOut
    rw [← hA, ← hC, ← hL]
    simp only [List.append_assoc]
  have e4 : (A ++ (C ++ (L ++ Z))).drop 4 = C ++ (L ++ Z) := List.drop_left' lA
  have e16 : (A ++ (C ++ (L ++ Z))).drop 16 = L ++ Z := by
    rw [← List.append_assoc, List.drop_left' (by rw [List.length_append]; omega)]
  have hmag : num32 (A ++ (C ++ (L ++ Z))) = 3652501241#32 := by
    apply BitVec.eq_of_toNat_eq
    rw [hA, num32_low _ _ (by omega)]
    rfl
  have hnm : frmName (A ++ (C ++ (L ++ Z))) = cmd := by
    unfold frmName
    rw [e4, List.take_left' lC, hC, trim0_name hc]
  have hln : frmLen (A ++ (C ++ (L ++ Z))) = pl.length := by
    unfold frmLen
    rw [e16, hL, num32_low _ _ (by omega)]
  rw [e]
  unfold frmHead
  rw [hnm, hln, if_pos ⟨hmag, hc⟩, if_neg (by omega)]
theorem num32_take (s : List (BitVec 8)) (k : Nat) (h : 4 ≤ k) : num32 (s.take k) = num32 s := by
  unfold num32
  rw [numTo_take _ _ _ h]
theorem frmHead_take (s : List (BitVec 8)) : frmHead (s.take 24) = frmHead s := by
  unfold frmHead frmName frmLen
  rw [num32_take _ _ (by omega), List.drop_take, List.drop_take, num32_take _ _ (by omega), List.take_take]
  rfl
/-- frames, one behind the other -/
def stream (fs : List (List (BitVec 8) × List (BitVec 8))) : List (BitVec 8) := (fs.map fun f => frmOut f.1 f.2).flatten
theorem stream_append (a b : List (List (BitVec 8) × List (BitVec 8))) : stream (a ++ b) = stream a ++ stream b := by unfold stream; rw [List.map_append, List.flatten_append]
theorem stream_one (f : List (BitVec 8) × List (BitVec 8)) : stream [f] = frmOut f.1 f.2 := by unfold stream; simp
def okF (fs : List (List (BitVec 8) × List (BitVec 8))) : Prop := ∀ f ∈ fs, cmdOk f.1 = true ∧ f.2.length ≤ 200000
theorem frmStep_part {cmd pl P Q r : List (BitVec 8)} (hc : cmdOk cmd = true) (hp : pl.length ≤ 200000) (h : P ++ Q = frmOut cmd pl ++ r) (hlt : P.length < (frmOut cmd pl).length) : frmStep P = .wait := by
  rw [frmOut_len _ (cmdOk_len hc)] at hlt
  unfold frmStep
  by_cases h24 : P.length < 24
  · rw [if_pos h24]
  · have e : P.take 24 = (frmOut cmd pl ++ r).take 24 := by rw [← h, List.take_append_of_le_length (by omega)]
    have hh : frmHead P = (cmd, 24 + pl.length, 0) := by rw [← frmHead_take, e, frmHead_take, frmHead_out hc hp]
    rw [if_neg h24, hh, if_pos rfl, if_pos hlt]
theorem frmStep_out {cmd pl : List (BitVec 8)} (hc : cmdOk cmd = true) (hp : pl.length ≤ 200000) (r : List (BitVec 8)) : frmStep (frmOut cmd pl ++ r) = .frame cmd pl r := by
  have hl := cmdOk_len hc
  obtain ⟨A, hA⟩ : ∃ A, A = low (BitVec.ofNat 64 3652501241) 4 := ⟨_, rfl⟩
  obtain ⟨C, hC⟩ : ∃ C, C = cmd ++ noughts (12 - cmd.length) := ⟨_, rfl⟩
  obtain ⟨L, hL⟩ : ∃ L, L = low (BitVec.ofNat 64 pl.length) 4 := ⟨_, rfl⟩
  obtain ⟨S, hS⟩ : ∃ S, S = (sha (sha pl)).take 4 := ⟨_, rfl⟩
  have lA : A.length = 4 := by rw [hA, low_len]
  have lC : C.length = 12 := by rw [hC, List.length_append, noughts_len]; omega
  have lL : L.length = 4 := by rw [hL, low_len]
  have lS : S.length = 4 := by rw [hS, List.length_take, sha_len]; rfl
  have e : frmOut cmd pl ++ r = A ++ (C ++ (L ++ (S ++ (pl ++ r)))) := by
    unfold frmOut
    rw [← hA, ← hC, ← hL, ← hS]
    simp only [List.append_assoc]
  have e4 : (A ++ (C ++ (L ++ (S ++ (pl ++ r))))).drop 4 = C ++ (L ++ (S ++ (pl ++ r))) := List.drop_left' lA
  have e16 : (A ++ (C ++ (L ++ (S ++ (pl ++ r))))).drop 16 = L ++ (S ++ (pl ++ r)) := by
    rw [← List.append_assoc, List.drop_left' (by rw [List.length_append]; omega)]
  have e20 : (A ++ (C ++ (L ++ (S ++ (pl ++ r))))).drop 20 = S ++ (pl ++ r) := by
    rw [← List.append_assoc, ← List.append_assoc, List.drop_left' (by rw [List.length_append, List.length_append]; omega)]
  have e24 : (A ++ (C ++ (L ++ (S ++ (pl ++ r))))).drop 24 = pl ++ r := by
    rw [← List.append_assoc, ← List.append_assoc, ← List.append_assoc, List.drop_left' (by rw [List.length_append, List.length_append, List.length_append]; omega)]
  have hlen : (A ++ (C ++ (L ++ (S ++ (pl ++ r))))).length = 24 + pl.length + r.length := by
    simp only [List.length_append, lA, lC, lL, lS]; omega
  have hmag : num32 (A ++ (C ++ (L ++ (S ++ (pl ++ r))))) = 3652501241#32 := by
    apply BitVec.eq_of_toNat_eq
    rw [hA, num32_low _ _ (by omega)]
    rfl
  have hnm : frmName (A ++ (C ++ (L ++ (S ++ (pl ++ r))))) = cmd := by
    unfold frmName
    rw [e4, List.take_left' lC, hC, trim0_name hc]
  have hln : frmLen (A ++ (C ++ (L ++ (S ++ (pl ++ r))))) = pl.length := by
    unfold frmLen
    rw [e16, hL, num32_low _ _ (by omega)]
  have hhead : frmHead (A ++ (C ++ (L ++ (S ++ (pl ++ r))))) = (cmd, 24 + pl.length, 0) := by
    unfold frmHead
    rw [hnm, hln, if_pos ⟨hmag, hc⟩, if_neg (by omega)]
  have hpl : ((A ++ (C ++ (L ++ (S ++ (pl ++ r))))).take (24 + pl.length)).drop 24 = pl := by
    rw [List.drop_take, e24, Nat.add_sub_cancel_left, List.take_left]
  have hrest : (A ++ (C ++ (L ++ (S ++ (pl ++ r))))).drop (24 + pl.length) = r := by
    rw [← List.drop_drop, e24, List.drop_left]
  unfold frmStep
  rw [e, if_neg (by omega), hhead, if_pos rfl, if_neg (by simp only; omega), hpl, hrest, e20, List.take_left' lS, if_pos hS.symm]
theorem frmAll_out {cmd pl : List (BitVec 8)} (hc : cmdOk cmd = true) (hp : pl.length ≤ 200000) (r : List (BitVec 8)) : frmAll (frmOut cmd pl ++ r) = ((cmd, pl) :: (frmAll r).1, (frmAll r).2) :=
  frmAll_frame (frmStep_out hc hp r)
theorem stream_part : ∀ (fs : List (List (BitVec 8) × List (BitVec 8))), okF fs → ∀ P Q, P ++ Q = stream fs → ∃ f2, fs = (frmAll P).1 ++ f2 ∧ (frmAll P).2.2 = 0 ∧ (frmAll P).2.1 ++ Q = stream f2
  | [], _, P, Q, h => by
    have h0 : P = [] ∧ Q = [] := List.append_eq_nil_iff.1 (by rw [h]; rfl)
    obtain ⟨rfl, rfl⟩ := h0
    exact ⟨[], rfl, rfl, rfl⟩
  | f :: fs, ok, P, Q, h => by
    obtain ⟨hc, hp⟩ := ok f (List.mem_cons_self ..)
    have hs : stream (f :: fs) = frmOut f.1 f.2 ++ stream fs := rfl
    by_cases hlt : P.length < (frmOut f.1 f.2).length
    · rw [frmAll_wait (frmStep_part hc hp (h.trans hs) hlt)]
      exact ⟨f :: fs, rfl, rfl, h⟩
    · have e1 : P = frmOut f.1 f.2 ++ P.drop (frmOut f.1 f.2).length := by
        have h1 : P.take (frmOut f.1 f.2).length = frmOut f.1 f.2 := by
          have := congrArg (List.take (frmOut f.1 f.2).length) (h.trans hs)
          rwa [List.take_append_of_le_length (by omega), List.take_left] at this
        have h2 := List.take_append_drop (frmOut f.1 f.2).length P
        rw [h1] at h2
        exact h2.symm
      obtain ⟨P', hP'⟩ : ∃ P', P' = P.drop (frmOut f.1 f.2).length := ⟨_, rfl⟩
      rw [← hP'] at e1
      subst e1
      rw [hs, List.append_assoc] at h
      obtain ⟨f2, h1, h2, h3⟩ := stream_part fs (fun g hg => ok g (List.mem_cons_of_mem _ hg)) P' Q (List.append_cancel_left h)
      rw [frmAll_out hc hp]
      exact ⟨f2, by rw [List.cons_append, ← h1], h2, h3⟩
theorem stream_all {fs : List (List (BitVec 8) × List (BitVec 8))} (ok : okF fs) : frmAll (stream fs) = (fs, [], 0) := by
  obtain ⟨f2, h1, h2, h3⟩ := stream_part fs ok (stream fs) [] (List.append_nil _)
  rw [List.append_nil] at h3
  have hl : ∀ (gs : List (List (BitVec 8) × List (BitVec 8))), okF gs → (frmAll (stream gs)).1 = gs ∧ (frmAll (stream gs)).2.1 = [] := by
    intro gs
    induction gs with
    | nil => intro _; exact ⟨rfl, rfl⟩
    | cons f gs ih =>
      intro ok
      obtain ⟨hc, hp⟩ := ok f (List.mem_cons_self ..)
      obtain ⟨i1, i2⟩ := ih (fun g hg => ok g (List.mem_cons_of_mem _ hg))
      have hs : stream (f :: gs) = frmOut f.1 f.2 ++ stream gs := rfl
      rw [hs, frmAll_out hc hp]
      exact ⟨by rw [i1], i2⟩
  obtain ⟨i1, i2⟩ := hl fs ok
  exact Prod.ext i1 (Prod.ext i2 h2)
theorem frmAll_nil : frmAll [] = ([], [], 0) := rfl
theorem frmAll_one {cmd pl : List (BitVec 8)} (hc : cmdOk cmd = true) (hp : pl.length ≤ 200000) : frmAll (frmOut cmd pl) = ([(cmd, pl)], [], 0) := by
  have := frmAll_out hc hp []
  rwa [List.append_nil] at this
end Go.Proofs.YtikjhnbehihbjaaDoor
