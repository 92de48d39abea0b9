/- A region that draws its order, walked by a tree for its head (what is known of all its worlds stays as it is); then a forced tail.  -/
import Derived.Test.YtndobjlodpkknaaGreatDoorWGA
namespace Go.Proofs.YtndobjlodpkknaaGreatDoor
open Go Go.RowKit
section
variable {P : Program} {ops : Array Oper} {md : Region.Mode} {Q : Exit → Act → World → Prop} {F : World → Prop}
def wpTreeF (P : Program) (ops : Array Oper) (Q : Exit → Act → World → Prop) (F : World → Prop) : PTree → Act → World → Prop
  | .done, a, W => ∀ k, Q .normal a (W.drewN k)
  | .q i r, a, W => ∃ o v, ops[i]? = some o ∧ (∀ W', F W' → YieldsIn P ops (CW W') o v a) ∧ wpTreeF P ops Q F r (a.put o.dst v) W
  | .o i r, a, W => ∀ k, wpOp P ops Q i (fun a' w' => F w' ∧ wpTreeF P ops Q F r a' w') a (W.drewN k)
  | .two i ri j rj, a, W => (∀ k, wpOp P ops Q i (fun a' w' => F w' ∧ wpTreeF P ops Q F ri a' w') a (W.drewN k)) ∧ (∀ k, wpOp P ops Q j (fun a' w' => F w' ∧ wpTreeF P ops Q F rj a' w') a (W.drewN k))
  | .three .., _, _ => False
def treeTB (md : Region.Mode) (ops : Array Oper) (n : Nat) : PTree → Array Bool → Bool
  | .done, listed => Region.seqB md ops (ops.size - n) n listed
  | .q i r, listed => decide (i < n) && ((Region.ready md ops listed).contains i && Region.free md ops listed i && treeTB md ops n r (listed.setIfInBounds i true))
  | .o i r, listed => decide (i < n) && (Region.ready md ops listed == [i] && treeTB md ops n r (listed.setIfInBounds i true))
  | .two i ri j rj, listed => decide (i < n) && (decide (j < n) && (Region.ready md ops listed == [i, j] && (treeLen ri == treeLen rj && (treeTB md ops n ri (listed.setIfInBounds i true) && treeTB md ops n rj (listed.setIfInBounds j true)))))
  | .three .., _ => false
theorem tree_T {n : Nat} (hsel : Region.noSelect ops = true) (hs : Region.sinkB md ops n = true) (hc : Region.chainB md ops n = true) (hn : n < ops.size) (hQ : ∀ c a d v w, Q (.panic c) (a.put d v) w → Q (.panic c) a w) : ∀ (t : PTree) (listed : Array Bool) (a : Act) (W : World),
    HeadInv md ops n listed → treeTB md ops n t listed = true → F W → wpTreeF P ops Q F t a W → wpAnyT P md ops Q F n (fun listed' a' W' => Region.seqB md ops (ops.size - n) n listed' = true ∧ ∀ k, Q .normal a' (W'.drewN k)) (treeLen t) listed a W
  | .done, listed, a, W, _, hB, _, h => ⟨hB, h⟩
  | .q i r, listed, a, W, inv, hB, hF, h => by
    simp only [treeTB, Bool.and_eq_true, decide_eq_true_eq] at hB
    obtain ⟨hin, ⟨hr, hf⟩, hB'⟩ := hB
    have hr' : i ∈ Region.ready md ops listed := by simpa using hr
    obtain ⟨o, v, ho, hy, hK⟩ := h
    exact wpAnyT_first ho (Region.noSelect_spec hsel) (fun c a w => hQ c a _ _ w) hs hc hn hin (fun _ _ _ hL => seqB_ready hL.1) (treeLen r) listed a W inv (Region.free_spec ho hf) hr' hy hF (tree_T hsel hs hc hn hQ r _ _ W (inv.set hr' hin) hB' hF hK)
  | .o i r, listed, a, W, inv, hB, hF, h => by
    simp only [treeTB, Bool.and_eq_true, beq_iff_eq, decide_eq_true_eq] at hB
    obtain ⟨hin, hr, hB'⟩ := hB
    refine ⟨fun h0 => (by rw [hr] at h0; cases h0), fun j hj => ?_⟩
    have hj0 := hj
    rw [hr] at hj
    obtain rfl : j = i := by simpa using hj
    exact ⟨hin, fun k => wpOp_mono (fun a' w' h3 => ⟨w', h3.1, ⟨0, rfl⟩, tree_T hsel hs hc hn hQ r _ a' w' (inv.set hj0 hin) hB' h3.1 h3.2⟩) (h k)⟩
  | .two i ri j rj, listed, a, W, inv, hB, hF, h => by
    simp only [treeTB, Bool.and_eq_true, beq_iff_eq, decide_eq_true_eq] at hB
    obtain ⟨hin, hjn, hr, hl, hBi, hBj⟩ := hB
    have hi0 : i ∈ Region.ready md ops listed := by rw [hr]; simp
    have hj0 : j ∈ Region.ready md ops listed := by rw [hr]; simp
    refine ⟨fun h0 => (by rw [hr] at h0; cases h0), fun m hm => ?_⟩
    rw [hr] at hm
    rcases (by simpa using hm : m = i ∨ m = j) with rfl | rfl
    · exact ⟨hin, fun k => wpOp_mono (fun a' w' h3 => ⟨w', h3.1, ⟨0, rfl⟩, tree_T hsel hs hc hn hQ ri _ a' w' (inv.set hi0 hin) hBi h3.1 h3.2⟩) (h.1 k)⟩
    · exact ⟨hjn, fun k => wpOp_mono (fun a' w' h3 => ⟨w', h3.1, ⟨0, rfl⟩, by rw [hl]; exact tree_T hsel hs hc hn hQ rj _ a' w' (inv.set hj0 hjn) hBj h3.1 h3.2⟩) (h.2 k)⟩
  | .three i ri j rj k rk, listed, a, W, inv, hB, hF, h => h.elim
theorem treeF_quiet {r : PTree} {A1 : Act} {s : Nat} : ∀ (q : List Nat) (l : List Oper) (a : Act), q.map (ops[·]?) = l.map some → a.tmps.size = s → placesB s l = true →
    (∀ W, F W → wpQuiet P ops (fun w' => ∃ k, w' = W.drewN k) (fun a' => a' = A1) l a) → ∀ W, F W → (A1.tmps.size = s → wpTreeF P ops Q F r A1 W) → wpTreeF P ops Q F (PTree.qs q r) a W
  | [], [], a, _, hs, _, h, W, hF, hr => by
    have hA : a = A1 := h W hF
    rw [hA] at hs ⊢
    exact hr hs
  | [], _ :: _, _, hl, _, _, _, _, _, _ => by cases hl
  | _ :: _, [], _, hl, _, _, _, _, _, _ => by cases hl
  | i :: q, o :: l, a, hl, hs, hp, h, W, hF, hr => by
    simp only [List.map_cons, List.cons.injEq] at hl
    obtain ⟨hi, hl⟩ := hl
    simp only [placesB, Bool.and_eq_true] at hp
    obtain ⟨hp1, hp2⟩ := hp
    cases hd : o.dst with
    | none => rw [hd] at hp1; cases hp1
    | some d =>
      rw [hd] at hp1
      simp only [Bool.and_eq_true, decide_eq_true_eq, List.all_eq_true] at hp1
      have hfar : ∀ o' ∈ l, o'.dst ≠ some d := fun o' ho' e => by have := hp1.2 o' ho'; simp [e] at this
      have key : ∀ W, F W → YieldsIn P ops (CW W) o (A1.eval (.tmp d)) a ∧ wpQuiet P ops (CW W) (fun a' => a' = A1) l (a.put o.dst (A1.eval (.tmp d))) := fun W hW => by
        have h2 := h W hW
        unfold wpQuiet at h2
        by_cases hw : Region.wanted o (yielded ops a.tmps) = true
        · simp only [hw, if_true] at h2
          obtain ⟨v, qq, nx⟩ := h2
          have e0 := final_slot d l _ hfar nx
          rw [hd, put_slot a d _ (by rw [hs]; exact hp1.1)] at e0
          rw [e0]
          exact ⟨.inl ⟨hw, qq⟩, nx⟩
        · simp only [hw, Bool.false_eq_true, if_false] at h2
          have e0 := final_slot d l _ hfar h2
          rw [hd, put_slot a d _ (by rw [hs]; exact hp1.1)] at e0
          rw [e0]
          exact ⟨.inr ⟨by simpa using hw, rfl⟩, h2⟩
      exact ⟨o, _, hi, fun W' hW' => (key W' hW').1, treeF_quiet q l _ hl (by rw [put_size, hs]) hp2 (fun W hW => (key W hW).2) W hF hr⟩
theorem treeF_one {r : PTree} {i : Nat} {o : Oper} {a : Act} {W : World} (hi : ops[i]? = some o) (h : ∀ k, wpList P ops (PlanQ Q (fun a' w' => F w' ∧ wpTreeF P ops Q F r a' w')) [o] a (W.drewN k)) : wpTreeF P ops Q F (.o i r) a W :=
  fun k => wpOp_of_list hi (h k)
theorem treeF_two {ri rj : PTree} {i j : Nat} {oi oj : Oper} {a : Act} {W : World} (hi : ops[i]? = some oi) (hj : ops[j]? = some oj)
    (h1 : ∀ k, wpList P ops (PlanQ Q (fun a' w' => F w' ∧ wpTreeF P ops Q F ri a' w')) [oi] a (W.drewN k)) (h2 : ∀ k, wpList P ops (PlanQ Q (fun a' w' => F w' ∧ wpTreeF P ops Q F rj a' w')) [oj] a (W.drewN k)) : wpTreeF P ops Q F (.two i ri j rj) a W :=
  ⟨fun k => wpOp_of_list hi (h1 k), fun k => wpOp_of_list hj (h2 k)⟩
theorem treeF_end {a : Act} {W : World} (h : ∀ k, Q .normal a (W.drewN k)) : wpTreeF P ops Q F .done a W := h
theorem region_tree_tail {id : Nat} {a : Act} {w : World} {l : List Oper} (t : PTree) (m : Nat) (F : World → Prop) (hm : P.follows .mixedOrders = true)
    (hB : (Region.noSelect l.toArray && (decide (m < l.length) && (Region.sinkB .any l.toArray m && (Region.chainB .any l.toArray m && (treeLen t == m && treeTB .any l.toArray m t (Array.replicate l.toArray.size false)))))) = true) (hF : F w.drew)
    (h : wpTreeF P l.toArray (HeadQ Q fun a' w' => wpList P l.toArray Q (l.drop m) a' w') F t a w.drew) : (Code.region id l.toArray true).wp P Q a w := by
  simp only [Bool.and_eq_true, beq_iff_eq, decide_eq_true_eq] at hB
  obtain ⟨hsel, hml, hs, hc, hlen, hB⟩ := hB
  have hn : m < l.toArray.size := by simpa using hml
  have hdl : (l.drop m).length = l.toArray.size - m := by simp
  have inv0 : HeadInv .any l.toArray m (Array.replicate l.toArray.size false) :=
    ⟨by simp, fun j oj _ hl => (by rw [getD_replicate_false] at hl; cases hl), fun t _ ht => getD_in (by simpa using ht) (getD_replicate_false _ _)⟩
  refine wp_region_any hm ?_
  have := wpAny_of_T (Q := Q) (g := l.toArray.size - m) (fun listed a' W k hL => by
    have := wpAny_of_seq (P := P) (md := .any) (Q' := Q) (l.drop m) m listed a' (W.drewN k) (fun j => by simp [List.getElem?_drop]) (by rw [hdl]; exact hL.1) (hL.2 k)
    rwa [hdl] at this) _ _ _ _ 0 (tree_T (Q := HeadQ Q fun a' w' => wpList P l.toArray Q (l.drop m) a' w') hsel hs hc hn (fun c a d v w h => h) t _ a w.drew inv0 hB hF h)
  rw [hlen, show m + (l.toArray.size - m) = l.toArray.size by omega] at this
  exact this
end
end Go.Proofs.YtndobjlodpkknaaGreatDoor
