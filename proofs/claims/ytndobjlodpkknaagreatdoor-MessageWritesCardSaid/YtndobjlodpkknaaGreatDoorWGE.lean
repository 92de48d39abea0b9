/- sporranref07's reader, which keeps its first error: take, low, count, text. · sporranref07's reader: an input, an output. · sporranref07.has; what is still to be read. · sporranref07.Decode: the walk. · sporranlaw07.TxOnce: the walk.  -/
import Derived.Deep.MidRow
import Derived.Deep.CutBlock
import Derived.Deep.DeepCutAuto
import Derived.Test.YtndobjlodpkknaaGreatDoorWGD
import Derived.Test.YtndobjlodpkknaaGreatDoorWGB
namespace Go.Proofs.YtndobjlodpkknaaGreatDoor
open Go Go.RowKit
set_option linter.unusedVariables false
def Step {α : Type} (p : Pz α) (er : Int) (s : Bs) (a : α) (er' : Int) (r : Bs) : Prop :=
  if er = 0 then (match p s with
    | .ok (a', r') => er' = 0 ∧ a = a' ∧ r = r'
    | .error k => er' = k ∧ k ≠ 0) else er' = er
theorem Step.ret {α : Type} (a : α) (er : Int) (s : Bs) : Step (Pz.ret a) er s a er s := by
  unfold Step
  split
  · rename_i h; exact ⟨h, rfl, rfl⟩
  · rfl
theorem Step.bind {α β : Type} {p : Pz α} {f : α → Pz β} {er er1 er2 : Int} {s s1 s2 : Bs} {a : α} {b : β} (h : Step p er s a er1 s1) (h2 : Step (f a) er1 s1 b er2 s2) : Step (p.bind f) er s b er2 s2 := by
  unfold Step at h h2 ⊢
  by_cases he : er = 0
  · rw [if_pos he] at h ⊢
    cases hp : p s with
    | error k =>
      rw [hp] at h
      simp only at h
      rw [if_neg (by rw [h.1]; exact h.2)] at h2
      rw [Pz.bind_err hp]
      exact ⟨h2.trans h.1, h.2⟩
    | ok x =>
      obtain ⟨a', r'⟩ := x
      rw [hp] at h
      simp only at h
      obtain ⟨h3, rfl, rfl⟩ := h
      rw [if_pos h3] at h2
      rw [Pz.bind_ok hp]
      exact h2
  · rw [if_neg he] at h ⊢
    rw [if_neg (by rw [h]; exact he)] at h2
    rw [h2, h]
theorem Step.ok {α : Type} {p : Pz α} {s r : Bs} {a : α} (h : p s = .ok (a, r)) : Step p 0 s a 0 r := by unfold Step; rw [if_pos rfl, h]; exact ⟨rfl, rfl, rfl⟩
theorem cell2 {w : World} {g : Nat} {t : TypeId} {a b : Value} (h : Blk w g t #[a, b]) : w.cell? ⟨g, 0, none⟩ = some a ∧ w.cell? ⟨g, 1, none⟩ = some b ∧ w.frozen? ⟨g, 0, none⟩ = false ∧ w.frozen? ⟨g, 1, none⟩ = false := by
  refine ⟨?_, ?_, h.frozen 0, h.frozen 1⟩
  · have := h.cell 0; simpa using this
  · have := h.cell 1; simpa using this
end Go.Proofs.YtndobjlodpkknaaGreatDoor
namespace Go.Proofs.YtndobjlodpkknaaGreatDoor
open Go Go.RowKit
set_option linter.unusedVariables false
def InN (B : Nat) (w : World) (x : TIn) (cs : List Value) : Prop := InO B w x cs ∧ (x.wi = [] → cs[35]? = some (.slice none 0 0))
theorem InN.len {B : Nat} {w : World} {x : TIn} {cs : List Value} (h : InN B w x cs) : cs.length = 36 := h.1.len
theorem InN.one {B : Nat} {w : World} {x : TIn} {cs : List Value} (h : InN B w x cs) : cs.toArray.all (·.oneCell') = true := h.1.one
theorem InN.c {B : Nat} {w : World} {x : TIn} {cs : List Value} (h : InN B w x cs) : InC w x cs := h.1.c
end Go.Proofs.YtndobjlodpkknaaGreatDoor
namespace Go.Proofs.YtndobjlodpkknaaGreatDoor
open Go Go.RowKit
set_option linter.unusedVariables false
def Cnt (R : Except Int (TTx × Bs)) (er : Int) (X : Except Int (TTx × Bs)) : Prop := if er = 0 then R = X else R = .error er
theorem Cnt.bind {α : Type} {R : Except Int (TTx × Bs)} {er er' : Int} {p : Pz α} {f : α → Pz TTx} {s r : Bs} {a : α} (h : Cnt R er (p.bind f s)) (h2 : Step p er s a er' r) : Cnt R er' (f a r) := by
  unfold Cnt Step at *
  by_cases he : er = 0
  · rw [if_pos he] at h h2
    cases hp : p s with
    | error k =>
      rw [hp] at h2
      simp only at h2
      obtain ⟨rfl, hk⟩ := h2
      rw [if_neg hk, h, Pz.bind_err hp]
    | ok x =>
      obtain ⟨a', r'⟩ := x
      rw [hp] at h2
      simp only at h2
      obtain ⟨rfl, rfl, rfl⟩ := h2
      rw [if_pos rfl, h, Pz.bind_ok hp]
  · rw [if_neg he] at h h2
    rw [h2, if_neg he, h]
theorem Cnt.any {R : Except Int (TTx × Bs)} {er : Int} {X Y : Except Int (TTx × Bs)} (h : Cnt R er X) (he : er ≠ 0) : Cnt R er Y := by
  unfold Cnt at *
  rw [if_neg he] at h ⊢
  exact h
theorem Cnt.same {R : Except Int (TTx × Bs)} {er : Int} {X Y : Except Int (TTx × Bs)} (h : Cnt R er X) (he : er = 0 → X = Y) : Cnt R er Y := by
  unfold Cnt at *
  by_cases h0 : er = 0
  · rw [if_pos h0] at h ⊢; rw [h, he h0]
  · rw [if_neg h0] at h ⊢; exact h
theorem Cnt.fail {R : Except Int (TTx × Bs)} {k : Int} {X : Except Int (TTx × Bs)} (h : Cnt R 0 X) (hX : X = .error k) (hk : k ≠ 0) (Y : Except Int (TTx × Bs)) : Cnt R k Y := by
  unfold Cnt at *
  rw [if_pos rfl] at h
  rw [if_neg hk, h, hX]
set_option maxRecDepth 100000 in
set_option maxHeartbeats 8000000 in
theorem refHas_any (t : TTx) (cs : List Value) (w : World) (h : TxC w t cs) : Calls Tryz.prog 75 #[.agg cs.toArray] w fun e w' => e = .returned (.bool (hasWs t.is)) ∧ Below w.heap.size w w' := by
  obtain ⟨iv, ov, rfl, hi, ho⟩ := h
  obtain ⟨r, hr⟩ : ∃ r, r = hasWs t.is := ⟨_, rfl⟩
  rw [← hr]
  have HR := Lib.hid hr
  obtain ⟨pi, n, ci, rfl⟩ := hi.opens
  have HI := Lib.hid hi
  obtain ⟨hn, hnc, hcm⟩ := hi.slen
  obtain ⟨vv, hvv⟩ : ∃ v, v = u32 t.ve := ⟨_, rfl⟩
  obtain ⟨vl, hvl⟩ : ∃ v, v = u32 t.lo := ⟨_, rfl⟩
  rw [← hvv, ← hvl]
  have HN := Lib.hid hn
  have hb1 := below_new w (.cells #[vv, .slice pi n ci, ov, vl] 69)
  have HB1 := Lib.hid (Blk.new w 69 #[vv, .slice pi n ci, ov, vl])
  clear hr hi ho hn hvv hvl
  go_enter Tryz.func75, Tryz.ntmps75
  go_upto_region 1 with fail
  generalize w.alloc (.cells #[vv, .slice pi n ci, ov, vl] 69) = w1 at *
  have HW1 := Lib.hid hb1
  have c1 := HB1.out.cell 1
  simp only [List.getElem?_toArray, List.getElem?_cons_zero, List.getElem?_cons_succ] at c1
  go_upto_region 2 with fail
  clear c1 hb1
  go_loopw [8] (fun i wr => ∃ k : Nat, k ≤ n ∧ i = .int .i64 k ∧ Hid (Below w.heap.size w wr) ∧ Hid (hasWs (t.is.take k) = false)) (fun i _ => n - (intOf i).toNat)
  case atStart => exact ⟨0, by omega, rfl, HW1, Lib.hid rfl⟩
  case round =>
    obtain ⟨k, hk, rfl, HWk, HAk⟩ := hrel
    by_cases hkn : k < n
    · have hlt : (k : Int) < (n : Int) := by omega
      obtain ⟨b, off, cs, x, rfl, hx, hE, l2⟩ := HI.out.at HWk.out hkn
      obtain ⟨sv, wv, k32, k33, k34, k35, hsv, hwv⟩ := hE.cell
      obtain ⟨pw, nw, cw, rfl⟩ := hwv.opens
      obtain ⟨hnw, hnwc, hcwm⟩ := hwv.slen
      have HX := Lib.hid hx
      have HNW := Lib.hid hnw
      have K35 := Lib.hid k35
      have H3 := Lib.hid hE.len
      have H1 := Lib.hid hE.one
      obtain ⟨Z, hZl, hz⟩ := zeroIn
      have HZ := Lib.hid hZl
      have hbr := below_new wr (.cells Z 97)
      clear hx hE k32 k33 k34 k35 hsv hwv hnw hZl
      go_upto_region 4 with (first
        | (with_reducible refine wpList_load_mid (op := ⟨some 11, _, _, _, _, _⟩) ?_ 97 (.tmp 10) ?_ (b) (off + k * 36) ?_ (cs) _ (l2) Tryz.underlying97 ?_ ?_ ?_
           · rfl
           · rfl
           · rfl
           · rfl
           · exact ((info_Ins H3.out)))
        | (with_reducible refine wp_store_blk (o := ⟨none, _, _, _, _, _⟩) ?_ 97 (.tmp 4) (.tmp 11) ?_ (wr.heap.size) 97 (Z) (cs.toArray) ?_ ?_ (Blk.new wr _ _) ?_ ?_ ?_ (wr.heap.size) (wr) ?_ ?_ ?_
           · rfl
           · rfl
           · rfl
           · rfl
           · exact (by rw [List.size_toArray]; exact info_Ins H3.out)
           · exact (HZ.out.trans (by rw [List.size_toArray]; exact H3.out.symm))
           · exact (H1.out)
           · exact (hbr)
           · exact (Nat.le_refl _)
           intro w6 hB6 hb6 hg6 hs6))
      have HW6 := Lib.hid (below_fut HWk.out hb6 (Nat.le_refl _))
      have c35 := hB6.cell 35
      rw [List.getElem?_toArray, K35.out] at c35
      clear hb6 hg6 hs6 l2 hz hbr HWk
      by_cases hw : 0 < nw
      · have hlw : (0 : Int) < (nw : Int) := by omega
        go_wp2_with fail
        go_ret
        refine ⟨?_, HW6.out⟩
        have : hasWs t.is = true := any_hit _ t.is k x HX.out (decide_eq_true (by rw [HNW.out]; exact hw))
        rw [HR.out, this]
        rfl
      · have hlw : ¬ (0 : Int) < (nw : Int) := by omega
        have hAk : Hid (hasWs (t.is.take (k + 1)) = false) := Lib.hid (any_take _ t.is k (by have := HN.out; omega) x HX.out HAk.out (decide_eq_false (by rw [HNW.out]; exact hw)))
        go_wp2_with fail
        go_roundw
        case rel => exact ⟨k + 1, by omega, by go_num, HW6, hAk⟩
        case measure => simp [intOf]; omega
    · obtain rfl : k = n := by omega
      have hall := HAk.out
      rw [List.take_of_length_le (by have := HN.out; omega)] at hall
      have HALL := Lib.hid hall
      clear hall
      go_wp2_with fail
      go_ret
      refine ⟨?_, HWk.out⟩
      rw [HR.out, HALL.out]
      rfl
end Go.Proofs.YtndobjlodpkknaaGreatDoor
namespace Go.Proofs.YtndobjlodpkknaaGreatDoor
open Go Go.RowKit
set_option linter.unusedVariables false
def NZ {α : Type} (p : Pz α) : Prop := ∀ s k, p s = .error k → k ≠ 0
theorem NZ.ret {α : Type} (a : α) : NZ (Pz.ret a) := fun s k h => by cases h
theorem NZ.fail {α : Type} {e : Int} (he : e ≠ 0) : NZ (Pz.fail (α := α) e) := fun s k h => by
  injection h with h
  rw [← h]
  exact he
theorem NZ.bind {α β : Type} {p : Pz α} {f : α → Pz β} (hp : NZ p) (hf : ∀ a, NZ (f a)) : NZ (p.bind f) := fun s k h => by
  cases hs : p s with
  | error e =>
    rw [Pz.bind_err hs] at h
    injection h with h
    rw [← h]
    exact hp s e hs
  | ok x =>
    obtain ⟨a, r⟩ := x
    rw [Pz.bind_ok hs] at h
    exact hf a r k h
end Go.Proofs.YtndobjlodpkknaaGreatDoor
