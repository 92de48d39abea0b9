/- sporranref07's reader, which keeps its first error: take, low, count, text. · sporranref07's reader: an input, an output. · sporranref07.has; what is still to be read. · sporranref07.Decode: the walk. · sporranlaw07.TxOnce: the walk.  -/
import Derived.Deep.MidRow
import Derived.Deep.CutBlock
import Derived.Deep.DeepCutAuto
import Derived.Test.YtjbijcjcejfpcaaGreatDoorLGD
import Derived.Test.YtjbijcjcejfpcaaGreatDoorLGB
namespace Go.Proofs.YtjbijcjcejfpcaaGreatDoor
open Go Go.RowKit
set_option linter.unusedVariables false
def Step {α : Type} (p : Pz α) (er : Int) (s : Bs) (a : α) (er' : Int) (r : Bs) : Prop :=
  if er = 0 then (match p s with
    | .ok (a', r') => er' = 0 ∧ a = a' ∧ r = r'
    | .error k => er' = k ∧ k ≠ 0) else er' = er
theorem Step.ret {α : Type} (a : α) (er : Int) (s : Bs) : Step (Pz.ret a) er s a er s := by
  unfold Step
  split
  · rename_i h; exact ⟨h, rfl, rfl⟩
  · rfl
theorem Step.bind {α β : Type} {p : Pz α} {f : α → Pz β} {er er1 er2 : Int} {s s1 s2 : Bs} {a : α} {b : β} (h : Step p er s a er1 s1) (h2 : Step (f a) er1 s1 b er2 s2) : Step (p.bind f) er s b er2 s2 := by
  unfold Step at h h2 ⊢
  by_cases he : er = 0
  · rw [if_pos he] at h ⊢
    cases hp : p s with
    | error k =>
      rw [hp] at h
      simp only at h
      rw [if_neg (by rw [h.1]; exact h.2)] at h2
      rw [Pz.bind_err hp]
      exact ⟨h2.trans h.1, h.2⟩
    | ok x =>
      obtain ⟨a', r'⟩ := x
      rw [hp] at h
      simp only at h
      obtain ⟨h3, rfl, rfl⟩ := h
      rw [if_pos h3] at h2
      rw [Pz.bind_ok hp]
      exact h2
  · rw [if_neg he] at h ⊢
    rw [if_neg (by rw [h]; exact he)] at h2
    rw [h2, h]
theorem Step.ok {α : Type} {p : Pz α} {s r : Bs} {a : α} (h : p s = .ok (a, r)) : Step p 0 s a 0 r := by unfold Step; rw [if_pos rfl, h]; exact ⟨rfl, rfl, rfl⟩
theorem Step.err {α : Type} {p : Pz α} {s r : Bs} {a : α} {k : Int} (h : p s = .error k) (hk : k ≠ 0) : Step p 0 s a k r := by unfold Step; rw [if_pos rfl, h]; exact ⟨rfl, hk⟩
theorem Step.bad {α : Type} {p : Pz α} {s r : Bs} {a : α} {er : Int} (h : er ≠ 0) : Step p er s a er r := by unfold Step; rw [if_neg h]
theorem zs_eq (j : Nat) : ((List.replicate j 0#8).map u8).toArray = Array.replicate j (u8 0#8) := by simp
theorem make8z (w : World) (j : Nat) (h : j ≤ 140737488355328) : (Instr.makeSlice 26 (.int .i64 (j : Int)) (.int .i64 (j : Int))).run Tryz.prog w = .ok (.slice (some ⟨w.heap.size, 0, none⟩) j j) (w.alloc (.cells (Array.replicate j (u8 0#8)) 5)) := by
  obtain ⟨i0, hi, hz0, hz1, hz2⟩ := info_parts u8info
  have hr := run_make (P := Tryz.prog) w 26 5 i0 (.int .u8 0) Tryz.underlying26 hi hz0 .i64 .i64 (j : Int) (j : Int) (by omega) (Int.le_refl _) (by rw [hz2]; omega) (by omega)
  rw [hr, Int.toNat_natCast, hz1, Nat.mul_one]
  have e : madeCells (Value.int IntKind.u8 0).cells j = Array.replicate j (u8 0#8) := by
    unfold madeCells
    refine Array.ext (by simp) fun i h1 h2 => ?_
    simp [Value.cells, u8, iv8, Nat.mod_one]
  rw [e]
theorem own_z (w : World) (B j : Nat) (hB : B ≤ w.heap.size) (hj : j ≤ 140737488355328) : Own8 (w.alloc (.cells (Array.replicate j (u8 0#8)) 5)) B (.slice (some ⟨w.heap.size, 0, none⟩) j j) (List.replicate j 0#8) := by
  rw [← zs_eq]
  refine ⟨by simp, .inr ⟨w.heap.size, j, _, by simp, hB, Blk.new w _ _, by simp, by unfold maxLen; omega, by simp, ?_⟩⟩
  simp
theorem cell2 {w : World} {g : Nat} {t : TypeId} {a b : Value} (h : Blk w g t #[a, b]) : w.cell? ⟨g, 0, none⟩ = some a ∧ w.cell? ⟨g, 1, none⟩ = some b ∧ w.frozen? ⟨g, 0, none⟩ = false ∧ w.frozen? ⟨g, 1, none⟩ = false := by
  refine ⟨?_, ?_, h.frozen 0, h.frozen 1⟩
  · have := h.cell 0; simpa using this
  · have := h.cell 1; simpa using this
end Go.Proofs.YtjbijcjcejfpcaaGreatDoor
namespace Go.Proofs.YtjbijcjcejfpcaaGreatDoor
open Go Go.RowKit
set_option linter.unusedVariables false
def InN (B : Nat) (w : World) (x : TIn) (cs : List Value) : Prop := InO B w x cs ∧ (x.wi = [] → cs[35]? = some (.slice none 0 0))
theorem InN.len {B : Nat} {w : World} {x : TIn} {cs : List Value} (h : InN B w x cs) : cs.length = 36 := h.1.len
theorem InN.one {B : Nat} {w : World} {x : TIn} {cs : List Value} (h : InN B w x cs) : cs.toArray.all (·.oneCell') = true := h.1.one
theorem InN.c {B : Nat} {w : World} {x : TIn} {cs : List Value} (h : InN B w x cs) : InC w x cs := h.1.c
end Go.Proofs.YtjbijcjcejfpcaaGreatDoor
namespace Go.Proofs.YtjbijcjcejfpcaaGreatDoor
open Go Go.RowKit
set_option linter.unusedVariables false
def Cnt (R : Except Int (TTx × Bs)) (er : Int) (X : Except Int (TTx × Bs)) : Prop := if er = 0 then R = X else R = .error er
theorem Cnt.bind {α : Type} {R : Except Int (TTx × Bs)} {er er' : Int} {p : Pz α} {f : α → Pz TTx} {s r : Bs} {a : α} (h : Cnt R er (p.bind f s)) (h2 : Step p er s a er' r) : Cnt R er' (f a r) := by
  unfold Cnt Step at *
  by_cases he : er = 0
  · rw [if_pos he] at h h2
    cases hp : p s with
    | error k =>
      rw [hp] at h2
      simp only at h2
      obtain ⟨rfl, hk⟩ := h2
      rw [if_neg hk, h, Pz.bind_err hp]
    | ok x =>
      obtain ⟨a', r'⟩ := x
      rw [hp] at h2
      simp only at h2
      obtain ⟨rfl, rfl, rfl⟩ := h2
      rw [if_pos rfl, h, Pz.bind_ok hp]
  · rw [if_neg he] at h h2
    rw [h2, if_neg he, h]
theorem Cnt.any {R : Except Int (TTx × Bs)} {er : Int} {X Y : Except Int (TTx × Bs)} (h : Cnt R er X) (he : er ≠ 0) : Cnt R er Y := by
  unfold Cnt at *
  rw [if_neg he] at h ⊢
  exact h
theorem Cnt.same {R : Except Int (TTx × Bs)} {er : Int} {X Y : Except Int (TTx × Bs)} (h : Cnt R er X) (he : er = 0 → X = Y) : Cnt R er Y := by
  unfold Cnt at *
  by_cases h0 : er = 0
  · rw [if_pos h0] at h ⊢; rw [h, he h0]
  · rw [if_neg h0] at h ⊢; exact h
theorem Cnt.fail {R : Except Int (TTx × Bs)} {k : Int} {X : Except Int (TTx × Bs)} (h : Cnt R 0 X) (hX : X = .error k) (hk : k ≠ 0) (Y : Except Int (TTx × Bs)) : Cnt R k Y := by
  unfold Cnt at *
  rw [if_pos rfl] at h
  rw [if_neg hk, h, hX]
end Go.Proofs.YtjbijcjcejfpcaaGreatDoor
namespace Go.Proofs.YtjbijcjcejfpcaaGreatDoor
open Go Go.RowKit
set_option linter.unusedVariables false
def NZ {α : Type} (p : Pz α) : Prop := ∀ s k, p s = .error k → k ≠ 0
theorem NZ.ret {α : Type} (a : α) : NZ (Pz.ret a) := fun s k h => by cases h
theorem NZ.fail {α : Type} {e : Int} (he : e ≠ 0) : NZ (Pz.fail (α := α) e) := fun s k h => by
  injection h with h
  rw [← h]
  exact he
theorem NZ.bind {α β : Type} {p : Pz α} {f : α → Pz β} (hp : NZ p) (hf : ∀ a, NZ (f a)) : NZ (p.bind f) := fun s k h => by
  cases hs : p s with
  | error e =>
    rw [Pz.bind_err hs] at h
    injection h with h
    rw [← h]
    exact hp s e hs
  | ok x =>
    obtain ⟨a, r⟩ := x
    rw [Pz.bind_ok hs] at h
    exact hf a r k h
end Go.Proofs.YtjbijcjcejfpcaaGreatDoor
