/- A region that draws its order, walked by a TREE of orders: quiet operations are taken as soon as they may come up; where two others may come up, both ways are walked. -/
import Derived.Test.YtikjhnbehihbjaaDoorGA
namespace Go.Proofs.YtikjhnbehihbjaaDoor
open Go Go.RowKit
set_option linter.unusedVariables false

section
variable {P : Program} {ops : Array Oper} {md : Region.Mode} {Q : Exit → Act → World → Prop} {F : World → Prop}

/-- whatever order is picked from here on; the world stands behind draws of W; what is known of all worlds to come (F) may grow -/
def wpAnyE (P : Program) (md : Region.Mode) (ops : Array Oper) (Q : Exit → Act → World → Prop) : Nat → (World → Prop) → Array Bool → Act → World → Prop
  | 0, _, listed, a, W => Region.ready md ops listed = [] ∧ ∀ k, Q .normal a (W.drewN k)
  | f + 1, F, listed, a, W => (Region.ready md ops listed = [] → ∀ k, Q .normal a (W.drewN k)) ∧
    ∀ i ∈ Region.ready md ops listed, ∀ k, wpOp P ops Q i (fun a' w' => ∃ (W' : World) (F' : World → Prop), (∀ x, F' x → F x) ∧ F' W' ∧ CW W' w' ∧ wpAnyE P md ops Q f F' (listed.setIfInBounds i true) a' W') a (W.drewN k)
theorem wpAny_of_E : ∀ (f : Nat) (F : World → Prop) (listed : Array Bool) (a : Act) (W : World) (k : Nat), wpAnyE P md ops Q f F listed a W → wpAny P md ops Q f listed a (W.drewN k)
  | 0, _, _, _, _, k, h => ⟨h.1, h.2 k⟩
  | f + 1, F, _, _, _, k, h => ⟨fun h0 => h.1 h0 k, fun i hi => wpOp_mono (fun a' w' ⟨W', F', _, _, ⟨k', hk⟩, h'⟩ => by rw [hk]; exact wpAny_of_E f F' _ a' W' k' h') (h.2 i hi k)⟩
theorem wpAnyE_first {i : Nat} {oi : Oper} {v : Value} (hi : ops[i]? = some oi) (hsel : ∀ (j : Nat) (o : Oper) cs b, ops[j]? = some o → o.op ≠ .select cs b)
    (hQ : ∀ c a w, Q (.panic c) (a.put oi.dst v) w → Q (.panic c) a w) : ∀ (f : Nat) (F : World → Prop) (listed : Array Bool) (a : Act) (W : World),
      (∀ j oj, ops[j]? = some oj → j ≠ i → listed.getD j true = false → (∀ e ∈ oj.after, Region.binds md e = true → e.on ≠ i) → oi.apart ops oj = true) →
      i ∈ Region.ready md ops listed → (∀ W', F W' → YieldsIn P ops (CW W') oi v a) → F W →
      wpAnyE P md ops Q f F (listed.setIfInBounds i true) (a.put oi.dst v) W → wpAnyE P md ops Q (f + 1) F listed a W := by
  intro f
  induction f with
  | zero =>
    intro F listed a W hfree hr hy hF H
    refine ⟨fun h => (by rw [h] at hr; cases hr), fun j hj k => ?_⟩
    by_cases hji : j = i
    · subst hji
      exact wpOp_of_qOp (C := CW W) ⟨k, rfl⟩ (fun a' w' hw' h' => ⟨W, F, fun _ h => h, hF, hw', h'⟩) ((hy W hF).qOp (K := fun a' => wpAnyE P md ops Q 0 F (listed.setIfInBounds j true) a' W) hi H)
    · have := ready_mono hj hji
      rw [H.1] at this
      cases this
  | succ f ih =>
    intro F listed a W hfree hr hy hF H
    refine ⟨fun h => (by rw [h] at hr; cases hr), fun j hj k => ?_⟩
    by_cases hji : j = i
    · subst hji
      exact wpOp_of_qOp (C := CW W) ⟨k, rfl⟩ (fun a' w' hw' h' => ⟨W, F, fun _ h => h, hF, hw', h'⟩) ((hy W hF).qOp (K := fun a' => wpAnyE P md ops Q (f + 1) F (listed.setIfInBounds j true) a' W) hi H)
    · have h1 := H.2 j (ready_mono hj hji) k
      obtain ⟨hjun, oj, hoj, hall⟩ := mem_ready.1 hj
      have hnot : ∀ e ∈ oj.after, Region.binds md e = true → e.on ≠ i := fun e he hb heq => by
        have h1 := hall e he hb
        rw [heq, getD_both (mem_ready.1 hr).1] at h1
        cases h1
      have hap := hfree j oj hoj hji hjun hnot
      have h2 := wpOp_putY (Y := fun a => ∀ W', F W' → YieldsIn P ops (CW W') oi v a) hoj hap (fun cs b => hsel j oj cs b hoj) hQ (fun a h u W' hW' => yieldsIn_put hap (fun cs b => hsel i oi cs b hi) (h W' hW')) (fun a h d W' hW' => (h W' hW').of_same rfl rfl) hy h1
      have hfree' : ∀ k ok, ops[k]? = some ok → k ≠ i → (listed.setIfInBounds j true).getD k true = false → (∀ e ∈ ok.after, Region.binds md e = true → e.on ≠ i) → oi.apart ops ok = true := fun k ok hk hki hun hno => by
        refine hfree k ok hk hki ?_ hno
        by_cases hjk : j = k
        · subst hjk; exact hjun
        · rw [getD_set_ne true hjk] at hun; exact hun
      refine wpOp_mono (fun a' w' h3 => ?_) h2
      obtain ⟨hY, W', F', hsub, hF', hw', h4⟩ := h3
      refine ⟨W', F', hsub, hF', hw', ih F' (listed.setIfInBounds j true) a' W' hfree' (ready_mono hr (Ne.symm hji)) (fun W'' h => hY W'' (hsub _ h)) hF' ?_⟩
      rw [Array.setIfInBounds_comm _ _ hji]
      exact h4

inductive PTree where
  | done
  | q (i : Nat) (r : PTree)
  | o (i : Nat) (r : PTree)
  | two (i : Nat) (ri : PTree) (j : Nat) (rj : PTree)
  | three (i : Nat) (ri : PTree) (j : Nat) (rj : PTree) (k : Nat) (rk : PTree)
/-- quiet operations, one behind the other -/
def PTree.qs : List Nat → PTree → PTree
  | [], r => r
  | i :: l, r => .q i (PTree.qs l r)
/-- what an operation's end is asked: more may be known of all worlds to come -/
def Grows (F : World → Prop) (T : (World → Prop) → Act → World → Prop) (a : Act) (w : World) : Prop := ∃ F' : World → Prop, (∀ x, F' x → F x) ∧ F' w ∧ T F' a w
theorem Grows.same {T : (World → Prop) → Act → World → Prop} {a : Act} {w : World} (hF : F w) (h : T F a w) : Grows F T a w := ⟨F, fun _ h => h, hF, h⟩
theorem Grows.more {T : (World → Prop) → Act → World → Prop} {a : Act} {w : World} (F' : World → Prop) (hs : ∀ x, F' x → F x) (hF : F' w) (h : T F' a w) : Grows F T a w := ⟨F', hs, hF, h⟩
def wpTree (P : Program) (ops : Array Oper) (Q : Exit → Act → World → Prop) : PTree → (World → Prop) → Act → World → Prop
  | .done, _, a, W => ∀ k, Q .normal a (W.drewN k)
  | .q i r, F, a, W => ∃ o v, ops[i]? = some o ∧ (∀ W', F W' → YieldsIn P ops (CW W') o v a) ∧ wpTree P ops Q r F (a.put o.dst v) W
  | .o i r, F, a, W => ∀ k, wpOp P ops Q i (Grows F (wpTree P ops Q r)) a (W.drewN k)
  | .two i ri j rj, F, a, W => (∀ k, wpOp P ops Q i (Grows F (wpTree P ops Q ri)) a (W.drewN k)) ∧ (∀ k, wpOp P ops Q j (Grows F (wpTree P ops Q rj)) a (W.drewN k))
  | .three i ri j rj m rm, F, a, W => (∀ k, wpOp P ops Q i (Grows F (wpTree P ops Q ri)) a (W.drewN k)) ∧ (∀ k, wpOp P ops Q j (Grows F (wpTree P ops Q rj)) a (W.drewN k)) ∧ (∀ k, wpOp P ops Q m (Grows F (wpTree P ops Q rm)) a (W.drewN k))
def treeLen : PTree → Nat
  | .done => 0
  | .q _ r => treeLen r + 1
  | .o _ r => treeLen r + 1
  | .two _ r _ _ => treeLen r + 1
  | .three _ r _ _ _ _ => treeLen r + 1
def treeB (md : Region.Mode) (ops : Array Oper) : PTree → Array Bool → Bool
  | .done, listed => Region.ready md ops listed == []
  | .q i r, listed => (Region.ready md ops listed).contains i && Region.free md ops listed i && treeB md ops r (listed.setIfInBounds i true)
  | .o i r, listed => Region.ready md ops listed == [i] && treeB md ops r (listed.setIfInBounds i true)
  | .two i ri j rj, listed => Region.ready md ops listed == [i, j] && (treeLen ri == treeLen rj && (treeB md ops ri (listed.setIfInBounds i true) && treeB md ops rj (listed.setIfInBounds j true)))
  | .three i ri j rj m rm, listed => Region.ready md ops listed == [i, j, m] && (treeLen ri == treeLen rj && (treeLen ri == treeLen rm && (treeB md ops ri (listed.setIfInBounds i true) && (treeB md ops rj (listed.setIfInBounds j true) && treeB md ops rm (listed.setIfInBounds m true)))))
theorem tree_D (hsel : Region.noSelect ops = true) (hQ : ∀ c a d v w, Q (.panic c) (a.put d v) w → Q (.panic c) a w) : ∀ (t : PTree) (F : World → Prop) (listed : Array Bool) (a : Act) (W : World),
    treeB md ops t listed = true → F W → wpTree P ops Q t F a W → wpAnyE P md ops Q (treeLen t) F listed a W
  | .done, F, listed, a, W, hB, _, h => ⟨by simpa [treeB] using hB, h⟩
  | .q i r, F, listed, a, W, hB, hF, h => by
    simp only [treeB, Bool.and_eq_true] at hB
    obtain ⟨⟨hr, hf⟩, hB'⟩ := hB
    obtain ⟨o, v, ho, hy, hK⟩ := h
    exact wpAnyE_first ho (Region.noSelect_spec hsel) (fun c a w => hQ c a _ _ w) (treeLen r) F listed a W (Region.free_spec ho hf) (by simpa using hr) hy hF (tree_D hsel hQ r F _ _ W hB' hF hK)
  | .o i r, F, listed, a, W, hB, hF, h => by
    simp only [treeB, Bool.and_eq_true, beq_iff_eq] at hB
    obtain ⟨hr, hB'⟩ := hB
    refine ⟨fun h0 => (by rw [hr] at h0; cases h0), fun j hj k => ?_⟩
    rw [hr] at hj
    obtain rfl : j = i := by simpa using hj
    exact wpOp_mono (fun a' w' ⟨F', hs, h3, h4⟩ => ⟨w', F', hs, h3, ⟨0, rfl⟩, tree_D hsel hQ r F' _ a' w' hB' h3 h4⟩) (h k)
  | .two i ri j rj, F, listed, a, W, hB, hF, h => by
    simp only [treeB, Bool.and_eq_true, beq_iff_eq] at hB
    obtain ⟨hr, hl, hBi, hBj⟩ := hB
    refine ⟨fun h0 => (by rw [hr] at h0; cases h0), fun m hm k => ?_⟩
    rw [hr] at hm
    rcases (by simpa using hm : m = i ∨ m = j) with rfl | rfl
    · exact wpOp_mono (fun a' w' ⟨F', hs, h3, h4⟩ => ⟨w', F', hs, h3, ⟨0, rfl⟩, tree_D hsel hQ ri F' _ a' w' hBi h3 h4⟩) (h.1 k)
    · exact wpOp_mono (fun a' w' ⟨F', hs, h3, h4⟩ => ⟨w', F', hs, h3, ⟨0, rfl⟩, by rw [hl]; exact tree_D hsel hQ rj F' _ a' w' hBj h3 h4⟩) (h.2 k)
  | .three i ri j rj m0 rm, F, listed, a, W, hB, hF, h => by
    simp only [treeB, Bool.and_eq_true, beq_iff_eq] at hB
    obtain ⟨hr, hl, hl2, hBi, hBj, hBm⟩ := hB
    refine ⟨fun h0 => (by rw [hr] at h0; cases h0), fun m hm k => ?_⟩
    rw [hr] at hm
    rcases (by simpa using hm : m = i ∨ m = j ∨ m = m0) with rfl | rfl | rfl
    · exact wpOp_mono (fun a' w' ⟨F', hs, h3, h4⟩ => ⟨w', F', hs, h3, ⟨0, rfl⟩, tree_D hsel hQ ri F' _ a' w' hBi h3 h4⟩) (h.1 k)
    · exact wpOp_mono (fun a' w' ⟨F', hs, h3, h4⟩ => ⟨w', F', hs, h3, ⟨0, rfl⟩, by rw [hl]; exact tree_D hsel hQ rj F' _ a' w' hBj h3 h4⟩) (h.2.1 k)
    · exact wpOp_mono (fun a' w' ⟨F', hs, h3, h4⟩ => ⟨w', F', hs, h3, ⟨0, rfl⟩, by rw [hl2]; exact tree_D hsel hQ rm F' _ a' w' hBm h3 h4⟩) (h.2.2 k)

/-- a block of quiet operations, walked by the kit's quiet steps -/
theorem tree_quiet {r : PTree} {A1 : Act} {s : Nat} : ∀ (q : List Nat) (l : List Oper) (a : Act), q.map (ops[·]?) = l.map some → a.tmps.size = s → placesB s l = true →
    (∀ W, F W → wpQuiet P ops (fun w' => ∃ k, w' = W.drewN k) (fun a' => a' = A1) l a) → ∀ W, F W → (A1.tmps.size = s → wpTree P ops Q r F A1 W) → wpTree P ops Q (PTree.qs q r) F a W
  | [], [], a, _, hs, _, h, W, hF, hr => by
    have hA : a = A1 := h W hF
    rw [hA] at hs ⊢
    exact hr hs
  | [], _ :: _, _, hl, _, _, _, _, _, _ => by cases hl
  | _ :: _, [], _, hl, _, _, _, _, _, _ => by cases hl
  | i :: q, o :: l, a, hl, hs, hp, h, W, hF, hr => by
    simp only [List.map_cons, List.cons.injEq] at hl
    obtain ⟨hi, hl⟩ := hl
    simp only [placesB, Bool.and_eq_true] at hp
    obtain ⟨hp1, hp2⟩ := hp
    cases hd : o.dst with
    | none => rw [hd] at hp1; cases hp1
    | some d =>
      rw [hd] at hp1
      simp only [Bool.and_eq_true, decide_eq_true_eq, List.all_eq_true] at hp1
      have hfar : ∀ o' ∈ l, o'.dst ≠ some d := fun o' ho' e => by have := hp1.2 o' ho'; simp [e] at this
      have key : ∀ W, F W → YieldsIn P ops (CW W) o (A1.eval (.tmp d)) a ∧ wpQuiet P ops (CW W) (fun a' => a' = A1) l (a.put o.dst (A1.eval (.tmp d))) := fun W hW => by
        have h2 := h W hW
        unfold wpQuiet at h2
        by_cases hw : Region.wanted o (yielded ops a.tmps) = true
        · simp only [hw, if_true] at h2
          obtain ⟨v, qq, nx⟩ := h2
          have e0 := final_slot d l _ hfar nx
          rw [hd, put_slot a d _ (by rw [hs]; exact hp1.1)] at e0
          rw [e0]
          exact ⟨.inl ⟨hw, qq⟩, nx⟩
        · simp only [hw, Bool.false_eq_true, if_false] at h2
          have e0 := final_slot d l _ hfar h2
          rw [hd, put_slot a d _ (by rw [hs]; exact hp1.1)] at e0
          rw [e0]
          exact ⟨.inr ⟨by simpa using hw, rfl⟩, h2⟩
      exact ⟨o, _, hi, fun W' hW' => (key W' hW').1, tree_quiet q l _ hl (by rw [put_size, hs]) hp2 (fun W hW => (key W hW).2) W hF hr⟩
theorem tree_one {r : PTree} {i : Nat} {o : Oper} {a : Act} {W : World} (hi : ops[i]? = some o) (h : ∀ k, wpList P ops (PlanQ Q (Grows F (wpTree P ops Q r))) [o] a (W.drewN k)) : wpTree P ops Q (.o i r) F a W :=
  fun k => wpOp_of_list hi (h k)
theorem tree_skip {r : PTree} {i : Nat} {o : Oper} {a : Act} {W : World} (hi : ops[i]? = some o) (hw : Region.wanted o (yielded ops a.tmps) = false) (hF : ∀ k, F (W.drewN k)) (h : ∀ k, wpTree P ops Q r F (a.put o.dst undef) (W.drewN k)) : wpTree P ops Q (.o i r) F a W := fun k => by
  unfold wpOp
  simp only [hi, hw]
  exact Grows.same (hF k) (h k)
theorem tree_two {ri rj : PTree} {i j : Nat} {oi oj : Oper} {a : Act} {W : World} (hi : ops[i]? = some oi) (hj : ops[j]? = some oj)
    (h1 : ∀ k, wpList P ops (PlanQ Q (Grows F (wpTree P ops Q ri))) [oi] a (W.drewN k)) (h2 : ∀ k, wpList P ops (PlanQ Q (Grows F (wpTree P ops Q rj))) [oj] a (W.drewN k)) : wpTree P ops Q (.two i ri j rj) F a W :=
  ⟨fun k => wpOp_of_list hi (h1 k), fun k => wpOp_of_list hj (h2 k)⟩
theorem tree_three {ri rj rm : PTree} {i j m : Nat} {oi oj om : Oper} {a : Act} {W : World} (hi : ops[i]? = some oi) (hj : ops[j]? = some oj) (hm : ops[m]? = some om)
    (h1 : ∀ k, wpList P ops (PlanQ Q (Grows F (wpTree P ops Q ri))) [oi] a (W.drewN k)) (h2 : ∀ k, wpList P ops (PlanQ Q (Grows F (wpTree P ops Q rj))) [oj] a (W.drewN k))
    (h3 : ∀ k, wpList P ops (PlanQ Q (Grows F (wpTree P ops Q rm))) [om] a (W.drewN k)) : wpTree P ops Q (.three i ri j rj m rm) F a W :=
  ⟨fun k => wpOp_of_list hi (h1 k), fun k => wpOp_of_list hj (h2 k), fun k => wpOp_of_list hm (h3 k)⟩
theorem tree_end {a : Act} {W : World} (h : ∀ k, Q .normal a (W.drewN k)) : wpTree P ops Q .done F a W := h
theorem tree_abst {t : PTree} {a : Act} {W : World} (R : World → Prop) (h1 : R W) (h2 : ∀ w', R w' → wpTree P ops Q t F a w') : wpTree P ops Q t F a W := h2 W h1

/-- A REGION BY ITS TREE: no panic within. -/
theorem region_tree {id : Nat} {a : Act} {w : World} (t : PTree) (F : World → Prop) (hm : P.follows .mixedOrders = true)
    (hB : (Region.noSelect ops && (treeLen t == ops.size && treeB .any ops t (Array.replicate ops.size false))) = true) (hF : F w.drew)
    (h : wpTree P ops (NoPanic Q) t F a w.drew) : (Code.region id ops true).wp P Q a w := by
  simp only [Bool.and_eq_true, beq_iff_eq] at hB
  obtain ⟨hsel, hlen, hB⟩ := hB
  refine wp_region_noPanic (wp_region_any hm ?_)
  have := wpAny_of_E _ _ _ _ _ 0 (tree_D (Q := NoPanic Q) hsel (fun c a d v w h => h) t F _ a w.drew hB hF h)
  rw [hlen] at this
  exact this
end
end Go.Proofs.YtikjhnbehihbjaaDoor
