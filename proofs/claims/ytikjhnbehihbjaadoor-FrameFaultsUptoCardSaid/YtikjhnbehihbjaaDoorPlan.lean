/- A region that draws its order, walked once by a plan: quiet operations (loads of what stays, moves, sums) are taken as soon as they may come up; between them the operations that make, write or call come up one at a time. Every order is served. -/
import Derived.Test.YtikjhnbehihbjaaDoorEarlyC
import Derived.Deep.RegionHeld3
namespace Go.Proofs.YtikjhnbehihbjaaDoor
open Go Go.RowKit

theorem put_some (cs : Array Value) (ds : List Deferred) (n : Nat) (v : Value) : (Act.mk cs ds).put (some n) v = ⟨cs.setIfInBounds n v, ds⟩ := rfl
theorem put_none (cs : Array Value) (ds : List Deferred) (v : Value) : (Act.mk cs ds).put none v = ⟨cs, ds⟩ := rfl

section
variable {P : Program} {ops : Array Oper} {md : Region.Mode} {Q : Exit → Act → World → Prop} {F : World → Prop}

/-- what an operation's end is asked: the way on, or what the region's end asks of another exit -/
def PlanQ (Q : Exit → Act → World → Prop) (K : Act → World → Prop) (e : Exit) (a : Act) (w : World) : Prop := match e with | .normal => K a w | e => Q e a w
theorem planQ_normal {K : Act → World → Prop} {a : Act} {w : World} (h : K a w) : PlanQ Q K .normal a w := h
theorem upon_planQ {o : Oper} {a : Act} {K K' : Act → World → Prop} {r : Result Next} (h : o.upon P a K (PlanQ Q K') r) : o.upon P a K Q r := by
  cases r with
  | ok n w' =>
    cases n <;> simp only [Oper.upon] at h ⊢
    case value => exact h
    case skip => exact h
    case defer => exact h
    case enter f args =>
      refine Calls.mono h fun e w'' he => ?_
      cases e with
      | returned => exact he
      | panicked => exact he
      | outgrown => exact he
    case row row args => exact h
  | halt x w' =>
    cases x <;> simp only [Oper.upon] at h ⊢
    case panic => exact h
theorem wpOp_of_list {i : Nat} {o : Oper} {K : Act → World → Prop} {a : Act} {w : World} (hi : ops[i]? = some o) (h : wpList P ops (PlanQ Q K) [o] a w) : wpOp P ops Q i K a w := by
  unfold wpOp
  simp only [hi]
  unfold wpList at h
  split
  · rename_i hw
    simp only [hw, if_true] at h
    rcases h with h | ⟨h1, h2⟩
    · exact .inl (upon_planQ h)
    · exact .inr ⟨h1, h2⟩
  · rename_i hw
    simp only [hw] at h
    exact h

/-- whatever order is picked from here on; the world stands behind draws of W -/
def wpAnyD (P : Program) (md : Region.Mode) (ops : Array Oper) (Q : Exit → Act → World → Prop) (F : World → Prop) : Nat → Array Bool → Act → World → Prop
  | 0, listed, a, W => Region.ready md ops listed = [] ∧ ∀ k, Q .normal a (W.drewN k)
  | f + 1, listed, a, W => (Region.ready md ops listed = [] → ∀ k, Q .normal a (W.drewN k)) ∧
    ∀ i ∈ Region.ready md ops listed, ∀ k, wpOp P ops Q i (fun a' w' => ∃ W', F W' ∧ CW W' w' ∧ wpAnyD P md ops Q F f (listed.setIfInBounds i true) a' W') a (W.drewN k)
theorem wpAny_of_D : ∀ (f : Nat) (listed : Array Bool) (a : Act) (W : World) (k : Nat), wpAnyD P md ops Q F f listed a W → wpAny P md ops Q f listed a (W.drewN k)
  | 0, _, _, _, k, h => ⟨h.1, h.2 k⟩
  | f + 1, _, _, _, k, h => ⟨fun h0 => h.1 h0 k, fun i hi => wpOp_mono (fun a' w' ⟨W', _, ⟨k', hk⟩, h'⟩ => by rw [hk]; exact wpAny_of_D f _ a' W' k' h') (h.2 i hi k)⟩

theorem wpOp_putY {j : Nat} {oi oj : Oper} {v : Value} {Y : Act → Prop} (hj : ops[j]? = some oj) (hap : oi.apart ops oj = true) (hsj : ∀ cs b, oj.op ≠ .select cs b)
    (hQ : ∀ c a w, Q (.panic c) (a.put oi.dst v) w → Q (.panic c) a w) (keep : ∀ a, Y a → ∀ u, Y (a.put oj.dst u)) (keepD : ∀ a, Y a → ∀ d, Y { a with defers := d :: a.defers }) {K : Act → World → Prop} {a : Act} {w : World}
    (hy : Y a) (h : wpOp P ops Q j K (a.put oi.dst v) w) : wpOp P ops Q j (fun a' w' => Y a' ∧ K (a'.put oi.dst v) w') a w := by
  obtain ⟨h1, h2, h3⟩ := Oper.apart_spec hap
  unfold wpOp at *
  simp only [hj] at *
  rw [wanted_put oj a oi.dst v h1] at h
  split
  · rename_i hw
    simp only [hw, if_true] at h
    rcases h with h | ⟨hasks, hlets⟩
    case inr => exact .inr ⟨by unfold Oper.asks at *; rw [execOp_put oj hsj a oi.dst v h1] at hasks; exact hasks, hlets⟩
    refine .inl ?_
    unfold Oper.wp at *
    rw [execOp_put oj hsj a oi.dst v h1] at h
    generalize (execOp a.eval oj).run P w = r at *
    cases r with
    | ok n w' =>
      cases n <;> simp only [Oper.upon] at h ⊢
      case value u => exact ⟨keep a hy u, by rw [← Act.put_comm a v u h2]; exact h⟩
      case skip => exact ⟨keep a hy _, by rw [← Act.put_comm a v undef h2]; exact h⟩
      case defer d =>
        refine ⟨keep _ (keepD a hy d) _, ?_⟩
        rw [← Act.put_comm _ v undef h2, ← Act.put_defers]
        exact h
      case enter f args =>
        refine Calls.mono h fun e w'' he => ?_
        cases e with
        | returned u => exact ⟨keep a hy u, by rw [← Act.put_comm a v u h2]; exact he⟩
        | panicked c => exact hQ _ _ _ he
        | outgrown => exact he
      case row row args => exact Rows.mono h fun u w'' he => ⟨keep a hy u, by rw [← Act.put_comm a v u h2]; exact he⟩
    | halt x w' =>
      cases x <;> simp only [Oper.upon] at h ⊢
      case panic u => exact hQ _ _ _ h
  · rename_i hw
    simp only [hw] at h
    exact ⟨keep a hy _, by rw [← Act.put_comm a v undef h2]; exact h⟩

/-- a quiet operation that may come up now may be taken first -/
theorem wpAnyD_first {i : Nat} {oi : Oper} {v : Value} (hi : ops[i]? = some oi) (hsel : ∀ (j : Nat) (o : Oper) cs b, ops[j]? = some o → o.op ≠ .select cs b)
    (hQ : ∀ c a w, Q (.panic c) (a.put oi.dst v) w → Q (.panic c) a w) : ∀ (f : Nat) (listed : Array Bool) (a : Act) (W : World),
      (∀ j oj, ops[j]? = some oj → j ≠ i → listed.getD j true = false → (∀ e ∈ oj.after, Region.binds md e = true → e.on ≠ i) → oi.apart ops oj = true) →
      i ∈ Region.ready md ops listed → (∀ W', F W' → YieldsIn P ops (CW W') oi v a) → F W →
      wpAnyD P md ops Q F f (listed.setIfInBounds i true) (a.put oi.dst v) W → wpAnyD P md ops Q F (f + 1) listed a W := by
  intro f
  induction f with
  | zero =>
    intro listed a W _ hr hy hF H
    refine ⟨fun h => (by rw [h] at hr; cases hr), fun j hj k => ?_⟩
    by_cases hji : j = i
    · subst hji
      exact wpOp_of_qOp (C := CW W) ⟨k, rfl⟩ (fun a' w' hw' h' => ⟨W, hF, hw', h'⟩) ((hy W hF).qOp (K := fun a' => wpAnyD P md ops Q F 0 (listed.setIfInBounds j true) a' W) hi H)
    · have := ready_mono hj hji
      rw [H.1] at this
      cases this
  | succ f ih =>
    intro listed a W hfree hr hy hF H
    refine ⟨fun h => (by rw [h] at hr; cases hr), fun j hj k => ?_⟩
    by_cases hji : j = i
    · subst hji
      exact wpOp_of_qOp (C := CW W) ⟨k, rfl⟩ (fun a' w' hw' h' => ⟨W, hF, hw', h'⟩) ((hy W hF).qOp (K := fun a' => wpAnyD P md ops Q F (f + 1) (listed.setIfInBounds j true) a' W) hi H)
    · have h1 := H.2 j (ready_mono hj hji) k
      obtain ⟨hjun, oj, hoj, hall⟩ := mem_ready.1 hj
      have hnot : ∀ e ∈ oj.after, Region.binds md e = true → e.on ≠ i := fun e he hb heq => by
        have h1 := hall e he hb
        rw [heq, getD_both (mem_ready.1 hr).1] at h1
        cases h1
      have hap := hfree j oj hoj hji hjun hnot
      have h2 := wpOp_putY (Y := fun a => ∀ W', F W' → YieldsIn P ops (CW W') oi v a) hoj hap (fun cs b => hsel j oj cs b hoj) hQ (fun a h u W' hW' => yieldsIn_put hap (fun cs b => hsel i oi cs b hi) (h W' hW')) (fun a h d W' hW' => (h W' hW').of_same rfl rfl) hy h1
      have hfree' : ∀ k ok, ops[k]? = some ok → k ≠ i → (listed.setIfInBounds j true).getD k true = false → (∀ e ∈ ok.after, Region.binds md e = true → e.on ≠ i) → oi.apart ops ok = true := fun k ok hk hki hun hno => by
        refine hfree k ok hk hki ?_ hno
        by_cases hjk : j = k
        · subst hjk; exact hjun
        · rw [getD_set_ne true hjk] at hun; exact hun
      refine wpOp_mono (fun a' w' h3 => ?_) h2
      obtain ⟨hY, W', hF', hw', h4⟩ := h3
      refine ⟨W', hF', hw', ih (listed.setIfInBounds j true) a' W' hfree' (ready_mono hr (Ne.symm hji)) hY hF' ?_⟩
      rw [Array.setIfInBounds_comm _ _ hji]
      exact h4

/-- a plan's items: a quiet operation; one operation at a time; two that may come up in either order -/
abbrev qq (i : Nat) : Bool × Nat × Option Nat := (true, i, none)
abbrev oo (i : Nat) : Bool × Nat × Option Nat := (false, i, none)
abbrev pp (i j : Nat) : Bool × Nat × Option Nat := (false, i, some j)
/-- the plan's walk -/
def wpPlan (P : Program) (ops : Array Oper) (Q : Exit → Act → World → Prop) (F : World → Prop) : List (Bool × Nat × Option Nat) → Act → World → Prop
  | [], a, W => ∀ k, Q .normal a (W.drewN k)
  | (true, i, _) :: r, a, W => ∃ o v, ops[i]? = some o ∧ (∀ W', F W' → YieldsIn P ops (CW W') o v a) ∧ wpPlan P ops Q F r (a.put o.dst v) W
  | (false, i, none) :: r, a, W => ∀ k, wpOp P ops Q i (fun a' w' => F w' ∧ wpPlan P ops Q F r a' w') a (W.drewN k)
  | (false, i, some j) :: r, a, W => (∀ k, wpOp P ops Q i (fun a' w' => F w' ∧ ∀ k', wpOp P ops Q j (fun a'' w'' => F w'' ∧ wpPlan P ops Q F r a'' w'') a' (w'.drewN k')) a (W.drewN k)) ∧
      (∀ k, wpOp P ops Q j (fun a' w' => F w' ∧ ∀ k', wpOp P ops Q i (fun a'' w'' => F w'' ∧ wpPlan P ops Q F r a'' w'') a' (w'.drewN k')) a (W.drewN k))
def planB (md : Region.Mode) (ops : Array Oper) : List (Bool × Nat × Option Nat) → Array Bool → Bool
  | [], listed => Region.ready md ops listed == []
  | (true, i, _) :: r, listed => (Region.ready md ops listed).contains i && Region.free md ops listed i && planB md ops r (listed.setIfInBounds i true)
  | (false, i, none) :: r, listed => Region.ready md ops listed == [i] && planB md ops r (listed.setIfInBounds i true)
  | (false, i, some j) :: r, listed => Region.ready md ops listed == [i, j] && (decide (i ≠ j) && (Region.ready md ops (listed.setIfInBounds i true) == [j] && (Region.ready md ops (listed.setIfInBounds j true) == [i] && planB md ops r ((listed.setIfInBounds i true).setIfInBounds j true))))
def planLen : List (Bool × Nat × Option Nat) → Nat
  | [] => 0
  | (_, _, none) :: r => planLen r + 1
  | (true, _, some _) :: r => planLen r + 1
  | (false, _, some _) :: r => planLen r + 2
theorem plan_D (hsel : Region.noSelect ops = true) (hQ : ∀ c a d v w, Q (.panic c) (a.put d v) w → Q (.panic c) a w) : ∀ (l : List (Bool × Nat × Option Nat)) (listed : Array Bool) (a : Act) (W : World),
    planB md ops l listed = true → F W → wpPlan P ops Q F l a W → wpAnyD P md ops Q F (planLen l) listed a W
  | [], listed, a, W, hB, _, h => ⟨by simpa [planB] using hB, h⟩
  | (true, i, x) :: r, listed, a, W, hB, hF, h => by
    simp only [planB, Bool.and_eq_true] at hB
    obtain ⟨⟨hr, hf⟩, hB'⟩ := hB
    obtain ⟨o, v, ho, hy, hK⟩ := h
    have := wpAnyD_first ho (Region.noSelect_spec hsel) (fun c a w => hQ c a _ _ w) (planLen r) listed a W (Region.free_spec ho hf) (by simpa using hr) hy hF (plan_D hsel hQ r _ _ W hB' hF hK)
    cases x <;> exact this
  | (false, i, none) :: r, listed, a, W, hB, hF, h => by
    simp only [planB, Bool.and_eq_true, beq_iff_eq] at hB
    obtain ⟨hr, hB'⟩ := hB
    refine ⟨fun h0 => (by rw [hr] at h0; cases h0), fun j hj k => ?_⟩
    rw [hr] at hj
    obtain rfl : j = i := by simpa using hj
    refine wpOp_mono (fun a' w' h3 => ?_) (h k)
    exact ⟨w', h3.1, ⟨0, rfl⟩, plan_D hsel hQ r _ a' w' hB' h3.1 h3.2⟩
  | (false, i, some j) :: r, listed, a, W, hB, hF, h => by
    simp only [planB, Bool.and_eq_true, beq_iff_eq, decide_eq_true_eq] at hB
    obtain ⟨hr, hij, hri, hrj, hB'⟩ := hB
    have hB'' : planB md ops r ((listed.setIfInBounds j true).setIfInBounds i true) = true := by rw [Array.setIfInBounds_comm _ _ (Ne.symm hij)]; exact hB'
    refine ⟨fun h0 => (by rw [hr] at h0; cases h0), fun m hm k => ?_⟩
    rw [hr] at hm
    rcases (by simpa using hm : m = i ∨ m = j) with rfl | rfl
    · refine wpOp_mono (fun a' w' h3 => ⟨w', h3.1, ⟨0, rfl⟩, ?_⟩) (h.1 k)
      refine ⟨fun h0 => (by rw [hri] at h0; cases h0), fun m' hm' k' => ?_⟩
      rw [hri] at hm'
      obtain rfl : m' = j := by simpa using hm'
      exact wpOp_mono (fun a'' w'' h4 => ⟨w'', h4.1, ⟨0, rfl⟩, plan_D hsel hQ r _ a'' w'' hB' h4.1 h4.2⟩) (h3.2 k')
    · refine wpOp_mono (fun a' w' h3 => ⟨w', h3.1, ⟨0, rfl⟩, ?_⟩) (h.2 k)
      refine ⟨fun h0 => (by rw [hrj] at h0; cases h0), fun m' hm' k' => ?_⟩
      rw [hrj] at hm'
      obtain rfl : m' = i := by simpa using hm'
      exact wpOp_mono (fun a'' w'' h4 => ⟨w'', h4.1, ⟨0, rfl⟩, plan_D hsel hQ r _ a'' w'' hB'' h4.1 h4.2⟩) (h3.2 k')

/-- a block of quiet operations, walked by the kit's quiet steps -/
theorem plan_quiet {r : List (Bool × Nat × Option Nat)} {A1 : Act} {s : Nat} : ∀ (q : List Nat) (l : List Oper) (a : Act), q.map (ops[·]?) = l.map some → a.tmps.size = s → placesB s l = true →
    (∀ W, F W → wpQuiet P ops (fun w' => ∃ k, w' = W.drewN k) (fun a' => a' = A1) l a) → ∀ W, F W → (A1.tmps.size = s → wpPlan P ops Q F r A1 W) → wpPlan P ops Q F (q.map qq ++ r) a W
  | [], [], a, _, hs, _, h, W, hF, hr => by
    have hA : a = A1 := h W hF
    rw [hA] at hs ⊢
    exact hr hs
  | [], _ :: _, _, hl, _, _, _, _, _, _ => by cases hl
  | _ :: _, [], _, hl, _, _, _, _, _, _ => by cases hl
  | i :: q, o :: l, a, hl, hs, hp, h, W, hF, hr => by
    simp only [List.map_cons, List.cons.injEq] at hl
    obtain ⟨hi, hl⟩ := hl
    simp only [placesB, Bool.and_eq_true] at hp
    obtain ⟨hp1, hp2⟩ := hp
    cases hd : o.dst with
    | none => rw [hd] at hp1; cases hp1
    | some d =>
      rw [hd] at hp1
      simp only [Bool.and_eq_true, decide_eq_true_eq, List.all_eq_true] at hp1
      have hfar : ∀ o' ∈ l, o'.dst ≠ some d := fun o' ho' e => by have := hp1.2 o' ho'; simp [e] at this
      have key : ∀ W, F W → YieldsIn P ops (CW W) o (A1.eval (.tmp d)) a ∧ wpQuiet P ops (CW W) (fun a' => a' = A1) l (a.put o.dst (A1.eval (.tmp d))) := fun W hW => by
        have h2 := h W hW
        unfold wpQuiet at h2
        by_cases hw : Region.wanted o (yielded ops a.tmps) = true
        · simp only [hw, if_true] at h2
          obtain ⟨v, qq, nx⟩ := h2
          have e0 := final_slot d l _ hfar nx
          rw [hd, put_slot a d _ (by rw [hs]; exact hp1.1)] at e0
          rw [e0]
          exact ⟨.inl ⟨hw, qq⟩, nx⟩
        · simp only [hw, Bool.false_eq_true, if_false] at h2
          have e0 := final_slot d l _ hfar h2
          rw [hd, put_slot a d _ (by rw [hs]; exact hp1.1)] at e0
          rw [e0]
          exact ⟨.inr ⟨by simpa using hw, rfl⟩, h2⟩
      exact ⟨o, _, hi, fun W' hW' => (key W' hW').1, plan_quiet q l _ hl (by rw [put_size, hs]) hp2 (fun W hW => (key W hW).2) W hF hr⟩
/-- one operation that makes, writes or calls -/
theorem plan_one {r : List (Bool × Nat × Option Nat)} {i : Nat} {o : Oper} {a : Act} {W : World} (hi : ops[i]? = some o) (h : ∀ k, wpList P ops (PlanQ Q fun a' w' => F w' ∧ wpPlan P ops Q F r a' w') [o] a (W.drewN k)) : wpPlan P ops Q F (oo i :: r) a W :=
  fun k => wpOp_of_list hi (h k)
/-- one operation whose guard is not met -/
theorem plan_skip {r : List (Bool × Nat × Option Nat)} {i : Nat} {o : Oper} {a : Act} {W : World} (hi : ops[i]? = some o) (hw : Region.wanted o (yielded ops a.tmps) = false) (hF : ∀ k, F (W.drewN k)) (h : ∀ k, wpPlan P ops Q F r (a.put o.dst undef) (W.drewN k)) : wpPlan P ops Q F (oo i :: r) a W := fun k => by
  unfold wpOp
  simp only [hi, hw]
  exact ⟨hF k, h k⟩
/-- two operations that may come up in either order -/
theorem plan_two {r : List (Bool × Nat × Option Nat)} {i j : Nat} {oi oj : Oper} {a : Act} {W : World} (hi : ops[i]? = some oi) (hj : ops[j]? = some oj)
    (h1 : ∀ k, wpList P ops (PlanQ Q fun a' w' => F w' ∧ ∀ k', wpList P ops (PlanQ Q fun a'' w'' => F w'' ∧ wpPlan P ops Q F r a'' w'') [oj] a' (w'.drewN k')) [oi] a (W.drewN k))
    (h2 : ∀ k, wpList P ops (PlanQ Q fun a' w' => F w' ∧ ∀ k', wpList P ops (PlanQ Q fun a'' w'' => F w'' ∧ wpPlan P ops Q F r a'' w'') [oi] a' (w'.drewN k')) [oj] a (W.drewN k)) : wpPlan P ops Q F (pp i j :: r) a W :=
  ⟨fun k => wpOp_mono (fun _ _ h => ⟨h.1, fun k' => wpOp_of_list hj (h.2 k')⟩) (wpOp_of_list hi (h1 k)), fun k => wpOp_mono (fun _ _ h => ⟨h.1, fun k' => wpOp_of_list hi (h.2 k')⟩) (wpOp_of_list hj (h2 k))⟩
theorem plan_end {a : Act} {W : World} (h : ∀ k, Q .normal a (W.drewN k)) : wpPlan P ops Q F [] a W := h

/-- A REGION BY ITS PLAN: no panic within. -/
theorem region_plan {id : Nat} {a : Act} {w : World} (plan : List (Bool × Nat × Option Nat)) (F : World → Prop) (hm : P.follows .mixedOrders = true)
    (hB : (Region.noSelect ops && (planLen plan == ops.size && planB .any ops plan (Array.replicate ops.size false))) = true) (hF : F w.drew)
    (h : wpPlan P ops (NoPanic Q) F plan a w.drew) : (Code.region id ops true).wp P Q a w := by
  simp only [Bool.and_eq_true, beq_iff_eq] at hB
  obtain ⟨hsel, hlen, hB⟩ := hB
  refine wp_region_noPanic (wp_region_any hm ?_)
  have := wpAny_of_D _ _ _ _ 0 (plan_D (Q := NoPanic Q) hsel (fun c a d v w h => h) plan _ a w.drew hB hF h)
  rw [hlen] at this
  exact this
end
end Go.Proofs.YtikjhnbehihbjaaDoor
