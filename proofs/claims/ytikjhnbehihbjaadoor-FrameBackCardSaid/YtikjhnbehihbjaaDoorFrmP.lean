/- The reader of frames, plain. -/
import Derived.Test.YtikjhnbehihbjaaDoorFrm
import Derived.Test.YtikjhnbehihbjaaDoorGB
namespace Go.Proofs.YtikjhnbehihbjaaDoor
set_option linter.unusedVariables false

/-- how many bytes stay of the first n if noughts behind are left out -/
def trimN (s : List (BitVec 8)) : Nat → Nat
  | 0 => 0
  | n + 1 => if s[n]? = some 0#8 then trimN s n else n + 1
def trim0 (s : List (BitVec 8)) : List (BitVec 8) := s.take (trimN s s.length)
theorem trimN_le (s : List (BitVec 8)) (n : Nat) : trimN s n ≤ n := by
  induction n with
  | zero => exact Nat.le_refl _
  | succ n ih => rw [trimN]; split <;> omega

/-- what a reader makes of bytes -/
inductive FrmStep where
  | wait
  | fault (e : Int)
  | frame (cmd pl rest : List (BitVec 8))
def frmName (s : List (BitVec 8)) : List (BitVec 8) := trim0 ((s.drop 4).take 12)
def frmLen (s : List (BitVec 8)) : Nat := (num32 (s.drop 16)).toNat
/-- what a head says -/
def frmHead (s : List (BitVec 8)) : List (BitVec 8) × Nat × Int :=
  if num32 s = 3652501241#32 ∧ cmdOk (frmName s) = true then (if 200000 < frmLen s then ([], 0, 91) else (frmName s, 24 + frmLen s, 0)) else ([], 0, 90)
def frmStep (s : List (BitVec 8)) : FrmStep :=
  if s.length < 24 then .wait
  else if (frmHead s).2.2 = 0 then
    (if s.length < (frmHead s).2.1 then .wait
     else if (sha (sha ((s.take (frmHead s).2.1).drop 24))).take 4 = (s.drop 20).take 4 then .frame (frmHead s).1 ((s.take (frmHead s).2.1).drop 24) (s.drop (frmHead s).2.1)
     else .fault 92)
  else .fault (frmHead s).2.2
/-- the frames that are whole, what waits, the fault -/
def frmRun : Nat → List (BitVec 8) → List (List (BitVec 8) × List (BitVec 8)) × List (BitVec 8) × Int
  | 0, s => ([], s, 0)
  | f + 1, s => match frmStep s with
    | .wait => ([], s, 0)
    | .fault e => ([], [], e)
    | .frame c p r => ((c, p) :: (frmRun f r).1, (frmRun f r).2.1, (frmRun f r).2.2)
def frmAll (s : List (BitVec 8)) := frmRun s.length s

theorem frmHead_ok {s : List (BitVec 8)} (h : (frmHead s).2.2 = 0) : frmHead s = (frmName s, 24 + frmLen s, 0) ∧ frmLen s ≤ 200000 ∧ cmdOk (frmName s) = true ∧ num32 s = 3652501241#32 := by
  unfold frmHead at *
  split at h
  · rename_i h1
    rw [if_pos h1]
    split at h
    · cases h
    · rename_i h2
      rw [if_neg h2]
      exact ⟨rfl, by omega, h1.2, h1.1⟩
  · cases h
theorem frmStep_rest {s c p r : List (BitVec 8)} (h : frmStep s = .frame c p r) : r.length + 24 ≤ s.length := by
  unfold frmStep at h
  split at h
  · cases h
  · split at h
    · rename_i h1
      split at h
      · cases h
      · split at h
        · injection h with _ _ h3
          obtain ⟨h4, _⟩ := frmHead_ok h1
          rw [← h3, List.length_drop]
          rename_i h5 _
          rw [h4] at *
          simp only at *
          omega
        · cases h
    · cases h
theorem frmRun_more (f : Nat) : ∀ s : List (BitVec 8), s.length ≤ f → frmRun f s = frmAll s := by
  have key : ∀ n, ∀ f g, ∀ s : List (BitVec 8), s.length ≤ n → s.length ≤ f → s.length ≤ g → frmRun f s = frmRun g s := by
    intro n
    induction n with
    | zero =>
      intro f g s hn hf hg
      have h0 : s = [] := List.eq_nil_of_length_eq_zero (by omega)
      subst h0
      have hw : frmStep [] = .wait := rfl
      cases f <;> cases g <;> simp [frmRun, hw]
    | succ n ih =>
      intro f g s hn hf hg
      cases hs : frmStep s with
      | wait =>
        cases f <;> cases g <;> simp [frmRun, hs]
      | fault e =>
        have h24 : 0 < s.length := by
          cases s with
          | nil => cases hs
          | cons => simp
        cases f with
        | zero => omega
        | succ f => cases g with
          | zero => omega
          | succ g => simp [frmRun, hs]
      | frame c p r =>
        have hr := frmStep_rest hs
        cases f with
        | zero => omega
        | succ f => cases g with
          | zero => omega
          | succ g =>
            have := ih f g r (by omega) (by omega) (by omega)
            simp only [frmRun, hs, this]
  intro s h
  exact key s.length f s.length s (Nat.le_refl _) h (Nat.le_refl _)
theorem frmAll_wait {s : List (BitVec 8)} (h : frmStep s = .wait) : frmAll s = ([], s, 0) := by
  unfold frmAll
  cases hs : s.length with
  | zero => rfl
  | succ n => simp only [frmRun, h]
theorem frmAll_fault {s : List (BitVec 8)} {e : Int} (h : frmStep s = .fault e) : frmAll s = ([], [], e) := by
  unfold frmAll
  cases hs : s.length with
  | zero =>
    have h0 : s = [] := List.eq_nil_of_length_eq_zero hs
    subst h0
    cases h
  | succ n => simp only [frmRun, h]
theorem frmAll_frame {s c p r : List (BitVec 8)} (h : frmStep s = .frame c p r) : frmAll s = ((c, p) :: (frmAll r).1, (frmAll r).2.1, (frmAll r).2.2) := by
  have hr := frmStep_rest h
  unfold frmAll
  cases hs : s.length with
  | zero => omega
  | succ n =>
    simp only [frmRun, h]
    rw [frmRun_more n r (by omega)]
    rfl
end Go.Proofs.YtikjhnbehihbjaaDoor
