/- A region that draws its order, walked by a plan for its head; then a forced tail (stores, appends), which nothing of the head may follow. -/
import Derived.Test.YtikjhnbehihbjaaDoorPlan
namespace Go.Proofs.YtikjhnbehihbjaaDoor
open Go Go.RowKit

section
variable {P : Program} {ops : Array Oper} {md : Region.Mode} {Q : Exit → Act → World → Prop} {F : World → Prop} {T : Act → World → Prop}

/-- behind the head the tail is asked; no panic within the head -/
def HeadQ (Q : Exit → Act → World → Prop) (T : Act → World → Prop) : Exit → Act → World → Prop
  | .normal, a, w => T a w
  | .panic _, _, _ => False
  | e, a, w => Q e a w
theorem HeadQ.normal {a : Act} {w : World} (h : T a w) : HeadQ Q T .normal a w := h
theorem upon_headQ {o : Oper} {a : Act} {K : Act → World → Prop} {r : Result Next} (h : o.upon P a K (HeadQ Q T) r) : o.upon P a K Q r := by
  cases r with
  | ok n w' =>
    cases n <;> simp only [Oper.upon] at h ⊢
    case value => exact h
    case skip => exact h
    case defer => exact h
    case enter f args =>
      refine Calls.mono h fun e w'' he => ?_
      cases e with
      | returned => exact he
      | panicked => exact he.elim
      | outgrown => exact he
    case row row args => exact h
  | halt x w' =>
    cases x <;> simp only [Oper.upon] at h ⊢
    case panic => exact h.elim
theorem wpOp_headQ {i : Nat} {K : Act → World → Prop} {a : Act} {w : World} (h : wpOp P ops (HeadQ Q T) i K a w) : wpOp P ops Q i K a w := by
  unfold wpOp at *
  split
  · rename_i ho; simpa only [ho] using h
  · rename_i o ho
    simp only [ho] at h
    split
    · rename_i hw
      simp only [hw, if_true] at h
      rcases h with h | ⟨h1, h2⟩
      · exact .inl (upon_headQ h)
      · exact .inr ⟨h1, h2⟩
    · rename_i hw
      simp only [hw] at h
      exact h

/-- the head, whatever order is picked; the world stands behind draws of W -/
def wpAnyT (P : Program) (md : Region.Mode) (ops : Array Oper) (Q : Exit → Act → World → Prop) (F : World → Prop) (n : Nat) (L : Array Bool → Act → World → Prop) : Nat → Array Bool → Act → World → Prop
  | 0, listed, a, W => L listed a W
  | f + 1, listed, a, W => Region.ready md ops listed ≠ [] ∧ ∀ i ∈ Region.ready md ops listed, i < n ∧ ∀ k, wpOp P ops Q i (fun a' w' => ∃ W', F W' ∧ CW W' w' ∧ wpAnyT P md ops Q F n L f (listed.setIfInBounds i true) a' W') a (W.drewN k)
theorem wpAny_of_T {n g : Nat} {L : Array Bool → Act → World → Prop} (hL : ∀ listed a W k, L listed a W → wpAny P md ops Q g listed a (W.drewN k)) : ∀ (f : Nat) (listed : Array Bool) (a : Act) (W : World) (k : Nat), wpAnyT P md ops (HeadQ Q T) F n L f listed a W → wpAny P md ops Q (f + g) listed a (W.drewN k)
  | 0, _, _, _, _, h => by rw [Nat.zero_add]; exact hL _ _ _ _ h
  | f + 1, _, _, _, k, h => by
    rw [show f + 1 + g = (f + g) + 1 by omega]
    exact ⟨fun h0 => absurd h0 h.1, fun i hi => wpOp_mono (fun a' w' ⟨W', _, ⟨k', hk⟩, h'⟩ => by rw [hk]; exact wpAny_of_T hL f _ a' W' k' h') (wpOp_headQ ((h.2 i hi).2 k))⟩

/-- a quiet operation that may come up now may be taken first -/
theorem wpAnyT_first {n i : Nat} {oi : Oper} {v : Value} {L : Array Bool → Act → World → Prop} (hi : ops[i]? = some oi) (hsel : ∀ (j : Nat) (o : Oper) cs b, ops[j]? = some o → o.op ≠ .select cs b)
    (hQ : ∀ c a w, Q (.panic c) (a.put oi.dst v) w → Q (.panic c) a w) (hs : Region.sinkB md ops n = true) (hc : Region.chainB md ops n = true) (hn : n < ops.size) (hin : i < n) (hdone : ∀ listed a W, L listed a W → ∀ j ∈ Region.ready md ops listed, n ≤ j) :
    ∀ (f : Nat) (listed : Array Bool) (a : Act) (W : World), HeadInv md ops n listed →
      (∀ j oj, ops[j]? = some oj → j ≠ i → listed.getD j true = false → (∀ e ∈ oj.after, Region.binds md e = true → e.on ≠ i) → oi.apart ops oj = true) →
      i ∈ Region.ready md ops listed → (∀ W', F W' → YieldsIn P ops (CW W') oi v a) → F W →
      wpAnyT P md ops Q F n L f (listed.setIfInBounds i true) (a.put oi.dst v) W → wpAnyT P md ops Q F n L (f + 1) listed a W := by
  have low : ∀ (listed : Array Bool) (j : Nat), HeadInv md ops n listed → i ∈ Region.ready md ops listed → j ∈ Region.ready md ops listed → j < n := fun listed j inv hr hj => by
    rcases Nat.lt_or_ge j n with h | h
    · exact h
    · exact absurd hj (tail_waits hs hc hn inv _ i rfl hin (mem_ready.1 hr).1 j h)
  intro f
  induction f with
  | zero =>
    intro listed a W inv _ hr hy hF H
    refine ⟨fun h => (by rw [h] at hr; cases hr), fun j hj => ⟨low listed j inv hr hj, fun k => ?_⟩⟩
    by_cases hji : j = i
    · subst hji
      exact wpOp_of_qOp (C := CW W) ⟨k, rfl⟩ (fun a' w' hw' h' => ⟨W, hF, hw', h'⟩) ((hy W hF).qOp (K := fun a' => wpAnyT P md ops Q F n L 0 (listed.setIfInBounds j true) a' W) hi H)
    · have h1 := hdone _ _ _ H j (ready_mono hj hji)
      have h2 := low listed j inv hr hj
      omega
  | succ f ih =>
    intro listed a W inv hfree hr hy hF H
    refine ⟨fun h => (by rw [h] at hr; cases hr), fun j hj => ⟨low listed j inv hr hj, fun k => ?_⟩⟩
    by_cases hji : j = i
    · subst hji
      exact wpOp_of_qOp (C := CW W) ⟨k, rfl⟩ (fun a' w' hw' h' => ⟨W, hF, hw', h'⟩) ((hy W hF).qOp (K := fun a' => wpAnyT P md ops Q F n L (f + 1) (listed.setIfInBounds j true) a' W) hi H)
    · have h1 := (H.2 j (ready_mono hj hji)).2 k
      obtain ⟨hjun, oj, hoj, hall⟩ := mem_ready.1 hj
      have hnot : ∀ e ∈ oj.after, Region.binds md e = true → e.on ≠ i := fun e he hb heq => by
        have h1 := hall e he hb
        rw [heq, getD_both (mem_ready.1 hr).1] at h1
        cases h1
      have hap := hfree j oj hoj hji hjun hnot
      have h2 := wpOp_putY (Y := fun a => ∀ W', F W' → YieldsIn P ops (CW W') oi v a) hoj hap (fun cs b => hsel j oj cs b hoj) hQ (fun a h u W' hW' => yieldsIn_put hap (fun cs b => hsel i oi cs b hi) (h W' hW')) (fun a h d W' hW' => (h W' hW').of_same rfl rfl) hy h1
      have hfree' : ∀ k ok, ops[k]? = some ok → k ≠ i → (listed.setIfInBounds j true).getD k true = false → (∀ e ∈ ok.after, Region.binds md e = true → e.on ≠ i) → oi.apart ops ok = true := fun k ok hk hki hun hno => by
        refine hfree k ok hk hki ?_ hno
        by_cases hjk : j = k
        · subst hjk; exact hjun
        · rw [getD_set_ne true hjk] at hun; exact hun
      refine wpOp_mono (fun a' w' h3 => ?_) h2
      obtain ⟨hY, W', hF', hw', h4⟩ := h3
      refine ⟨W', hF', hw', ih (listed.setIfInBounds j true) a' W' (inv.set hj (low listed j inv hr hj)) hfree' (ready_mono hr (Ne.symm hji)) hY hF' ?_⟩
      rw [Array.setIfInBounds_comm _ _ hji]
      exact h4

def planTB (md : Region.Mode) (ops : Array Oper) (n : Nat) : List (Bool × Nat × Option Nat) → Array Bool → Bool
  | [], listed => Region.seqB md ops (ops.size - n) n listed
  | (true, i, _) :: r, listed => decide (i < n) && ((Region.ready md ops listed).contains i && Region.free md ops listed i && planTB md ops n r (listed.setIfInBounds i true))
  | (false, i, none) :: r, listed => decide (i < n) && (Region.ready md ops listed == [i] && planTB md ops n r (listed.setIfInBounds i true))
  | (false, i, some j) :: r, listed => decide (i < n) && (decide (j < n) && (Region.ready md ops listed == [i, j] && (decide (i ≠ j) && (Region.ready md ops (listed.setIfInBounds i true) == [j] && (Region.ready md ops (listed.setIfInBounds j true) == [i] && planTB md ops n r ((listed.setIfInBounds i true).setIfInBounds j true))))))
theorem plan_T {n : Nat} (hsel : Region.noSelect ops = true) (hs : Region.sinkB md ops n = true) (hc : Region.chainB md ops n = true) (hn : n < ops.size) (hQ : ∀ c a d v w, Q (.panic c) (a.put d v) w → Q (.panic c) a w) : ∀ (l : List (Bool × Nat × Option Nat)) (listed : Array Bool) (a : Act) (W : World),
    HeadInv md ops n listed → planTB md ops n l listed = true → F W → wpPlan P ops Q F l a W → wpAnyT P md ops Q F n (fun listed' a' W' => Region.seqB md ops (ops.size - n) n listed' = true ∧ ∀ k, Q .normal a' (W'.drewN k)) (planLen l) listed a W
  | [], listed, a, W, _, hB, _, h => ⟨hB, h⟩
  | (true, i, x) :: r, listed, a, W, inv, hB, hF, h => by
    simp only [planTB, Bool.and_eq_true, decide_eq_true_eq] at hB
    obtain ⟨hin, ⟨hr, hf⟩, hB'⟩ := hB
    have hr' : i ∈ Region.ready md ops listed := by simpa using hr
    obtain ⟨o, v, ho, hy, hK⟩ := h
    have := wpAnyT_first ho (Region.noSelect_spec hsel) (fun c a w => hQ c a _ _ w) hs hc hn hin (fun _ _ _ hL => seqB_ready hL.1) (planLen r) listed a W inv (Region.free_spec ho hf) hr' hy hF (plan_T hsel hs hc hn hQ r _ _ W (inv.set hr' hin) hB' hF hK)
    cases x <;> exact this
  | (false, i, none) :: r, listed, a, W, inv, hB, hF, h => by
    simp only [planTB, Bool.and_eq_true, beq_iff_eq, decide_eq_true_eq] at hB
    obtain ⟨hin, hr, hB'⟩ := hB
    refine ⟨fun h0 => (by rw [hr] at h0; cases h0), fun j hj => ?_⟩
    have hj0 := hj
    rw [hr] at hj
    obtain rfl : j = i := by simpa using hj
    refine ⟨hin, fun k => wpOp_mono (fun a' w' h3 => ?_) (h k)⟩
    exact ⟨w', h3.1, ⟨0, rfl⟩, plan_T hsel hs hc hn hQ r _ a' w' (inv.set hj0 hin) hB' h3.1 h3.2⟩
  | (false, i, some j) :: r, listed, a, W, inv, hB, hF, h => by
    simp only [planTB, Bool.and_eq_true, beq_iff_eq, decide_eq_true_eq] at hB
    obtain ⟨hin, hjn, hr, hij, hri, hrj, hB'⟩ := hB
    have hB'' : planTB md ops n r ((listed.setIfInBounds j true).setIfInBounds i true) = true := by rw [Array.setIfInBounds_comm _ _ (Ne.symm hij)]; exact hB'
    have hi0 : i ∈ Region.ready md ops listed := by rw [hr]; simp
    have hj0 : j ∈ Region.ready md ops listed := by rw [hr]; simp
    have hji : j ∈ Region.ready md ops (listed.setIfInBounds i true) := by rw [hri]; simp
    have hjj : i ∈ Region.ready md ops (listed.setIfInBounds j true) := by rw [hrj]; simp
    refine ⟨fun h0 => (by rw [hr] at h0; cases h0), fun m hm => ?_⟩
    rw [hr] at hm
    rcases (by simpa using hm : m = i ∨ m = j) with rfl | rfl
    · refine ⟨hin, fun k => wpOp_mono (fun a' w' h3 => ⟨w', h3.1, ⟨0, rfl⟩, ?_⟩) (h.1 k)⟩
      refine ⟨fun h0 => (by rw [hri] at h0; cases h0), fun m' hm' => ?_⟩
      rw [hri] at hm'
      obtain rfl : m' = j := by simpa using hm'
      exact ⟨hjn, fun k' => wpOp_mono (fun a'' w'' h4 => ⟨w'', h4.1, ⟨0, rfl⟩, plan_T hsel hs hc hn hQ r _ a'' w'' ((inv.set hi0 hin).set hji hjn) hB' h4.1 h4.2⟩) (h3.2 k')⟩
    · refine ⟨hjn, fun k => wpOp_mono (fun a' w' h3 => ⟨w', h3.1, ⟨0, rfl⟩, ?_⟩) (h.2 k)⟩
      refine ⟨fun h0 => (by rw [hrj] at h0; cases h0), fun m' hm' => ?_⟩
      rw [hrj] at hm'
      obtain rfl : m' = i := by simpa using hm'
      exact ⟨hin, fun k' => wpOp_mono (fun a'' w'' h4 => ⟨w'', h4.1, ⟨0, rfl⟩, plan_T hsel hs hc hn hQ r _ a'' w'' ((inv.set hj0 hjn).set hjj hin) hB'' h4.1 h4.2⟩) (h3.2 k')⟩

/-- what follows is asked of every world that is so -/
theorem plan_abst {r : List (Bool × Nat × Option Nat)} {a : Act} {W : World} (R : World → Prop) (h1 : R W) (h2 : ∀ w', R w' → wpPlan P ops Q F r a w') : wpPlan P ops Q F r a W := h2 W h1

/-- A REGION BY ITS PLAN, AND A FORCED TAIL (from operation m on). No panic within the head. -/
theorem region_plan_tail {id : Nat} {a : Act} {w : World} {l : List Oper} (plan : List (Bool × Nat × Option Nat)) (m : Nat) (F : World → Prop) (hm : P.follows .mixedOrders = true)
    (hB : (Region.noSelect l.toArray && (decide (m < l.length) && (Region.sinkB .any l.toArray m && (Region.chainB .any l.toArray m && (planLen plan == m && planTB .any l.toArray m plan (Array.replicate l.toArray.size false)))))) = true) (hF : F w.drew)
    (h : wpPlan P l.toArray (HeadQ Q fun a' w' => wpList P l.toArray Q (l.drop m) a' w') F plan a w.drew) : (Code.region id l.toArray true).wp P Q a w := by
  simp only [Bool.and_eq_true, beq_iff_eq, decide_eq_true_eq] at hB
  obtain ⟨hsel, hml, hs, hc, hlen, hB⟩ := hB
  have hn : m < l.toArray.size := by simpa using hml
  have hdl : (l.drop m).length = l.toArray.size - m := by simp
  have inv0 : HeadInv .any l.toArray m (Array.replicate l.toArray.size false) :=
    ⟨by simp, fun j oj _ hl => (by rw [getD_replicate_false] at hl; cases hl), fun t _ ht => getD_in (by simpa using ht) (getD_replicate_false _ _)⟩
  refine wp_region_any hm ?_
  have := wpAny_of_T (Q := Q) (g := l.toArray.size - m) (fun listed a' W k hL => by
    have := wpAny_of_seq (P := P) (md := .any) (Q' := Q) (l.drop m) m listed a' (W.drewN k) (fun j => by simp [List.getElem?_drop]) (by rw [hdl]; exact hL.1) (hL.2 k)
    rwa [hdl] at this) _ _ _ _ 0 (plan_T (Q := HeadQ Q fun a' w' => wpList P l.toArray Q (l.drop m) a' w') hsel hs hc hn (fun c a d v w h => h) plan _ a w.drew inv0 hB hF h)
  rw [hlen, show m + (l.toArray.size - m) = l.toArray.size by omega] at this
  exact this
end
end Go.Proofs.YtikjhnbehihbjaaDoor
