/- A region that draws its order: quiet operations, in their midst ONE operation that makes or writes, with a value that is known, and may come at any time; a forced tail. One walk of the lexical order serves every order. -/
import Derived.Test.YtikjhnbehihbjaaDoorEarlyB
namespace Go.Proofs.YtikjhnbehihbjaaDoor
open Go Go.RowKit

section
variable {P : Program} {ops : Array Oper} {md : Region.Mode} {W0 : World} {F : World → Prop} {R : World → Prop} {n m : Nat} {p : Value}

/-- operation i yields v in every world of F (that of number n: p, by its own law) -/
def Mi (P : Program) (ops : Array Oper) (W0 : World) (F : World → Prop) (R : World → Prop) (n m : Nat) (p : Value) (i : Nat) (o : Oper) (v : Value) (a : Act) : Prop :=
  (i < m ∧ i ≠ n ∧ ∀ W, F W → YieldsIn P ops (CW W) o v a) ∨ (i = n ∧ v = p ∧ XOK P ops W0 (fun u W => u = p ∧ R W) o a)
def wpH3 (P : Program) (md : Region.Mode) (ops : Array Oper) (W0 : World) (F : World → Prop) (R : World → Prop) (n m : Nat) (p : Value) (L : Array Bool → Act → Prop) : Nat → Array Bool → Act → Prop
  | 0, listed, a => L listed a
  | f + 1, listed, a => Region.ready md ops listed ≠ [] ∧ ∀ i ∈ Region.ready md ops listed, ∃ o v, ops[i]? = some o ∧ Mi P ops W0 F R n m p i o v a ∧ wpH3 P md ops W0 F R n m p L f (listed.setIfInBounds i true) (a.put o.dst v)
theorem Mi.put {i : Nat} {oi oj : Oper} {v u : Value} {a : Act} (hap : oi.apart ops oj = true) (hsi : ∀ cs b, oi.op ≠ .select cs b) (hy : Mi P ops W0 F R n m p i oi v a) : Mi P ops W0 F R n m p i oi v (a.put oj.dst u) := by
  rcases hy with ⟨h, hv, h0⟩ | ⟨h, hv, h0⟩
  · exact .inl ⟨h, hv, fun W hW => yieldsIn_put hap hsi (h0 W hW)⟩
  · exact .inr ⟨h, hv, xok_put hap hsi h0⟩
theorem Mi.unput {j : Nat} {oi oj : Oper} {v u : Value} {a : Act} (hap : oi.apart ops oj = true) (hsj : ∀ cs b, oj.op ≠ .select cs b) (hy : Mi P ops W0 F R n m p j oj u (a.put oi.dst v)) : Mi P ops W0 F R n m p j oj u a := by
  rcases hy with ⟨h, hv, h0⟩ | ⟨h, hv, h0⟩
  · exact .inl ⟨h, hv, fun W hW => yieldsIn_unput hap hsj (h0 W hW)⟩
  · exact .inr ⟨h, hv, xok_unput hap hsj h0⟩

/-- an operation that may come up now may be taken first -/
theorem wpH3_first {i : Nat} {oi : Oper} {v : Value} {L : Array Bool → Act → Prop} (hi : ops[i]? = some oi) (hsel : ∀ (j : Nat) (o : Oper) cs b, ops[j]? = some o → o.op ≠ .select cs b)
    (hs : Region.sinkB md ops m = true) (hc : Region.chainB md ops m = true) (hn : m < ops.size) (hin : i < m) (hdone : ∀ listed a, L listed a → ∀ j ∈ Region.ready md ops listed, m ≤ j) (f : Nat) :
    ∀ (listed : Array Bool) (a : Act), HeadInv md ops m listed →
      (∀ j oj, ops[j]? = some oj → j ≠ i → listed.getD j true = false → (∀ e ∈ oj.after, Region.binds md e = true → e.on ≠ i) → oi.apart ops oj = true) →
      i ∈ Region.ready md ops listed → Mi P ops W0 F R n m p i oi v a → wpH3 P md ops W0 F R n m p L f (listed.setIfInBounds i true) (a.put oi.dst v) → wpH3 P md ops W0 F R n m p L (f + 1) listed a := by
  have low : ∀ (listed : Array Bool) (j : Nat), HeadInv md ops m listed → i ∈ Region.ready md ops listed → j ∈ Region.ready md ops listed → j < m := fun listed j inv hr hj => by
    rcases Nat.lt_or_ge j m with h | h
    · exact h
    · exact absurd hj (tail_waits hs hc hn inv _ i rfl hin (mem_ready.1 hr).1 j h)
  induction f with
  | zero =>
    intro listed a inv _ hr hy H
    refine ⟨fun h => (by rw [h] at hr; cases hr), fun j hj => ?_⟩
    by_cases hji : j = i
    · subst hji; exact ⟨oi, v, hi, hy, H⟩
    · have := hdone _ _ H j (ready_mono hj hji)
      have := low listed j inv hr hj
      omega
  | succ f ih =>
    intro listed a inv hfree hr hy H
    refine ⟨fun h => (by rw [h] at hr; cases hr), fun j hj => ?_⟩
    by_cases hji : j = i
    · subst hji; exact ⟨oi, v, hi, hy, H⟩
    · obtain ⟨hjun, oj, hoj, hall⟩ := mem_ready.1 hj
      have hnot : ∀ e ∈ oj.after, Region.binds md e = true → e.on ≠ i := fun e he hb heq => by
        have h1 := hall e he hb
        rw [heq, getD_both (mem_ready.1 hr).1] at h1
        cases h1
      have hap := hfree j oj hoj hji hjun hnot
      obtain ⟨oj', u, hoj', hyj, H2⟩ := H.2 j (ready_mono hj hji)
      obtain rfl : oj' = oj := Option.some.inj (hoj'.symm.trans hoj)
      refine ⟨oj', u, hoj', hyj.unput hap (fun cs b => hsel j oj' cs b hoj'), ih _ _ (inv.set hj (low listed j inv hr hj)) (fun k ok hk hki hun hno => hfree k ok hk hki ?_ hno) (ready_mono hr (Ne.symm hji)) (hy.put hap (fun cs b => hsel i oi cs b hi)) ?_⟩
      · by_cases hjk : j = k
        · subst hjk; exact hjun
        · rw [getD_set_ne true hjk] at hun; exact hun
      · rw [Array.setIfInBounds_comm _ _ hji, ← Act.put_comm a v u (Oper.apart_spec hap).2.1]
        exact H2

/-- the walk in the order of the text -/
def wpE3 (P : Program) (ops : Array Oper) (W0 : World) (F : World → Prop) (R : World → Prop) (n m : Nat) (p : Value) (Lq : Act → Prop) : List Oper → Nat → Act → Prop
  | [], _, a => Lq a
  | o :: l, k, a => ∃ v, Mi P ops W0 F R n m p k o v a ∧ wpE3 P ops W0 F R n m p Lq l (k + 1) (a.put o.dst v)
theorem wpH3_lex {g : Nat} {Lq : Act → Prop} (hsel : Region.noSelect ops = true) (hs : Region.sinkB md ops m = true) (hc : Region.chainB md ops m = true) (hn : m < ops.size) (hnm : n < m) :
    ∀ (l : List Oper) (k : Nat) (listed : Array Bool) (a : Act), (∀ j, j < l.length → l[j]? = ops[k + j]?) → k + l.length = m → HeadInv md ops m listed →
    Region.lexHead md ops g l.length k listed = true → (k ≤ n ∨ listed.getD n true = true) → wpE3 P ops W0 F R n m p Lq l k a →
    wpH3 P md ops W0 F R n m p (fun listed' a' => listed'.getD n true = true ∧ Region.seqB md ops g m listed' = true ∧ Lq a') l.length listed a
  | [], k, _, _, _, hk, _, hB, hkn, h => by
    obtain rfl : k = m := by simpa using hk
    exact ⟨hkn.resolve_left (by omega), by simpa [Region.lexHead] using hB, h⟩
  | o :: l, k, listed, a, hl, hk, inv, hB, hkn, h => by
    have h0 : ops[k]? = some o := by simpa using (hl 0 (by simp)).symm
    simp only [List.length_cons, Region.lexHead, Bool.and_eq_true] at hB
    obtain ⟨⟨hr, hf⟩, hB'⟩ := hB
    simp only [List.length_cons] at hk
    have hr' : k ∈ Region.ready md ops listed := by simpa using hr
    obtain ⟨v, hy, hK⟩ := h
    exact wpH3_first h0 (Region.noSelect_spec hsel) hs hc hn (by omega) (fun _ _ hL => seqB_ready hL.2.1) l.length listed a inv (Region.free_spec h0 hf) hr' hy
      (wpH3_lex hsel hs hc hn hnm l (k + 1) _ _ (fun j hj => by have := hl (j + 1) (by simp; omega); simpa [Nat.add_assoc, Nat.add_comm 1 j] using this) (by omega) (inv.set hr' (by omega)) hB' (by
        rcases Nat.lt_trichotomy k n with h1 | h1 | h1
        · exact .inl h1
        · subst h1; exact .inr (by simp)
        · refine .inr ?_
          rw [getD_set_ne true (by omega : k ≠ n)]
          exact hkn.resolve_left (by omega)) hK)

/-- every order comes to its end: a world behind draws, before the one operation or behind it, as the list says -/
theorem any_of_wpH3 {g : Nat} {L : Array Bool → Act → Prop} {Q' : Exit → Act → World → Prop} (hF0 : F W0) (hFR : ∀ W, R W → F W)
    (hL : ∀ W listed a k, R W → L listed a → wpAny P md ops Q' g listed a (W.drewN k)) (hLn : ∀ listed' a', L listed' a' → listed'.getD n true = true) :
    ∀ (f : Nat) (listed : Array Bool) (a : Act) (w : World), n < listed.size → (listed.getD n true = false → CW W0 w) → (listed.getD n true = true → ∃ W, R W ∧ CW W w) →
      wpH3 P md ops W0 F R n m p L f listed a → wpAny P md ops Q' (f + g) listed a w
  | 0, listed, a, w, hsz, h0, h1, h => by
    rw [Nat.zero_add]
    obtain ⟨W, hR, k, rfl⟩ := h1 (hLn _ _ h)
    exact hL W _ _ k hR h
  | f + 1, listed, a, w, hsz, h0, h1, h => by
    rw [show f + 1 + g = (f + g) + 1 by omega]
    refine ⟨fun he => absurd he h.1, fun i hi => ?_⟩
    obtain ⟨o, v, ho, hy, hK⟩ := h.2 i hi
    rcases hy with ⟨_, hne, y⟩ | ⟨e1, hv, hx⟩
    · have hg : (listed.setIfInBounds i true).getD n true = listed.getD n true := getD_set_ne true hne
      have hsz' : n < (listed.setIfInBounds i true).size := by simpa using hsz
      cases hb : listed.getD n true with
      | false => exact wpOp_of_qOp (C := CW W0) (h0 hb) (fun a' w' hw' h' => any_of_wpH3 hF0 hFR hL hLn f _ a' w' hsz' (fun _ => hw') (fun h2 => (by rw [hg, hb] at h2; cases h2)) h') ((y _ hF0).qOp ho hK)
      | true =>
        obtain ⟨W, hR, hw⟩ := h1 hb
        exact wpOp_of_qOp (C := CW W) hw (fun a' w' hw' h' => any_of_wpH3 hF0 hFR hL hLn f _ a' w' hsz' (fun h2 => (by rw [hg, hb] at h2; cases h2)) (fun _ => ⟨W, hR, hw'⟩) h') ((y _ (hFR _ hR)).qOp ho hK)
    · have hun : listed.getD n true = false := by rw [← e1]; exact (mem_ready.1 hi).1
      rw [e1] at hi hK ho ⊢
      rw [hv] at hK
      unfold wpOp
      simp only [ho, hx.1, if_true]
      refine .inl (wp_of_xUpon (R := fun u W => u = p ∧ R W) (hx.2 w (h0 hun)) fun q w' hR => ?_)
      obtain ⟨eq, hR⟩ := hR
      rw [eq]
      refine any_of_wpH3 hF0 hFR hL hLn f _ _ w' (by simpa using hsz) (fun h2 => ?_) (fun _ => ⟨w', hR, 0, rfl⟩) hK
      simp [hsz] at h2

theorem wpE3_quiet {A1 : Act} {s : Nat} {Lq : Act → Prop} {rest : List Oper} (W1 : World) (hW1 : F W1) : ∀ (l : List Oper) (k : Nat) (a : Act), a.tmps.size = s → placesB s l = true → k + l.length ≤ m → (n < k ∨ k + l.length ≤ n) →
    (∀ W, F W → wpQuiet P ops (CW W) (fun a' => a' = A1) l a) → (A1.tmps.size = s → wpE3 P ops W0 F R n m p Lq rest (k + l.length) A1) → wpE3 P ops W0 F R n m p Lq (l ++ rest) k a
  | [], k, a, hs, _, _, _, h, hr => by
    have hA : a = A1 := h W1 hW1
    rw [hA] at hs ⊢
    exact hr hs
  | o :: l, k, a, hs, hp, hk, hnk, h, hr => by
    simp only [placesB, Bool.and_eq_true] at hp
    obtain ⟨hp1, hp2⟩ := hp
    simp only [List.length_cons] at hk hnk hr
    cases hd : o.dst with
    | none => rw [hd] at hp1; cases hp1
    | some d =>
      rw [hd] at hp1
      simp only [Bool.and_eq_true, decide_eq_true_eq, List.all_eq_true] at hp1
      have hfar : ∀ o' ∈ l, o'.dst ≠ some d := fun o' ho' e => by have := hp1.2 o' ho'; simp [e] at this
      have key : ∀ W, F W → YieldsIn P ops (CW W) o (A1.eval (.tmp d)) a ∧ wpQuiet P ops (CW W) (fun a' => a' = A1) l (a.put o.dst (A1.eval (.tmp d))) := fun W hW => by
        have h2 := h W hW
        unfold wpQuiet at h2
        by_cases hw : Region.wanted o (yielded ops a.tmps) = true
        · simp only [hw, if_true] at h2
          obtain ⟨v, q, nx⟩ := h2
          have e0 := final_slot d l _ hfar nx
          rw [hd, put_slot a d _ (by rw [hs]; exact hp1.1)] at e0
          rw [e0]
          exact ⟨.inl ⟨hw, q⟩, nx⟩
        · simp only [hw, Bool.false_eq_true, if_false] at h2
          have e0 := final_slot d l _ hfar h2
          rw [hd, put_slot a d _ (by rw [hs]; exact hp1.1)] at e0
          rw [e0]
          exact ⟨.inr ⟨by simpa using hw, rfl⟩, h2⟩
      exact ⟨_, .inl ⟨by omega, by omega, fun W hW => (key W hW).1⟩, wpE3_quiet W1 hW1 l (k + 1) _ (by rw [put_size, hs]) hp2 (by omega) (by omega) (fun W hW => (key W hW).2) (fun h3 => by
        have := hr h3
        rwa [show k + 1 + l.length = k + (l.length + 1) by omega])⟩

/-- A QUIET HEAD, ONE OPERATION THAT MAKES OR WRITES (its value is known), MORE QUIET OPERATIONS, A FORCED TAIL; the one operation may come at any time. 'F': what the quiet operations ask of a world (it stands behind the one operation: R). -/
theorem early_mid {id : Nat} {Q : Exit → Act → World → Prop} {a : Act} {w : World} {l : List Oper} (n m : Nat) (hnm : n < m) (hm : P.follows .mixedOrders = true) (hB : Region.lexTailB .any l.toArray m = true) (s : Nat) (hs : a.tmps.size = s) (hp1 : placesB s (l.take n) = true)
    (hp2 : placesB s ((l.drop (n + 1)).take (m - (n + 1))) = true) (oa : Oper) (hoa : l[n]? = some oa) (hgd : oa.guard = none) (p : Value) (F : World → Prop) (R : World → Prop) (hF0 : F w.drew) (hFR : ∀ W, R W → F W) (A1 A2 : Act)
    (h1 : ∀ W, F W → wpQuiet P l.toArray (fun w' => ∃ k, w' = W.drewN k) (fun a' => a' = A1) (l.take n) a)
    (hx : ∀ k, xUpon P (fun u W => u = p ∧ R W) ((execOp A1.eval oa).run P (w.drew.drewN k)))
    (h2 : ∀ W, F W → wpQuiet P l.toArray (fun w' => ∃ k, w' = W.drewN k) (fun a' => a' = A2) ((l.drop (n + 1)).take (m - (n + 1))) (A1.put oa.dst p))
    (ht : ∀ W k, R W → wpList P l.toArray Q (l.drop m) A2 (W.drewN k)) : (Code.region id l.toArray true).wp P Q a w := by
  simp only [Region.lexTailB, Bool.and_eq_true, decide_eq_true_eq] at hB
  obtain ⟨⟨⟨⟨hsel, hn⟩, hsk⟩, hc⟩, hlex⟩ := hB
  have hn' : m < l.length := by simpa using hn
  have hln : l.take n ++ (oa :: ((l.drop (n + 1)).take (m - (n + 1)))) = l.take m := by
    have hd : l.drop n = oa :: l.drop (n + 1) := by
      obtain ⟨h3, h4⟩ := List.getElem?_eq_some_iff.1 hoa
      rw [List.drop_eq_getElem_cons h3, h4]
    have : l.take m = l.take n ++ (l.drop n).take (m - n) := by rw [← List.take_add, show n + (m - n) = m by omega]
    rw [this, hd, show m - n = (m - (n + 1)) + 1 by omega, List.take_succ_cons]
  have htl : (l.take m).length = m := by simp; omega
  have hdl : (l.drop m).length = l.toArray.size - m := by simp
  have inv0 : HeadInv .any l.toArray m (Array.replicate l.toArray.size false) :=
    ⟨by simp, fun j oj _ hl => (by rw [getD_replicate_false] at hl; cases hl), fun t _ ht => getD_in (by simpa using ht) (getD_replicate_false _ _)⟩
  have hX : XOK P l.toArray w.drew (fun u W => u = p ∧ R W) oa A1 := ⟨by simp [Region.wanted, hgd], fun w' ⟨k, hk⟩ => by rw [hk]; exact hx k⟩
  have hl1 : (l.take n).length = n := by simp; omega
  have hl2 : ((l.drop (n + 1)).take (m - (n + 1))).length = m - (n + 1) := by simp; omega
  have hE : wpE3 P l.toArray w.drew F R n m p (fun a' => a' = A2) (l.take m) 0 a := by
    rw [← hln]
    refine wpE3_quiet w.drew hF0 (l.take n) 0 a hs hp1 (by rw [hl1]; omega) (.inr (by rw [hl1]; omega)) h1 fun hs1 => ?_
    rw [hl1, Nat.zero_add]
    refine ⟨p, .inr ⟨rfl, rfl, hX⟩, ?_⟩
    have := wpE3_quiet (P := P) (ops := l.toArray) (W0 := w.drew) (F := F) (R := R) (n := n) (m := m) (p := p) (Lq := fun a' => a' = A2) (rest := []) (A1 := A2) w.drew hF0 ((l.drop (n + 1)).take (m - (n + 1))) (n + 1) (A1.put oa.dst p) (by rw [put_size, hs1]) hp2 (by rw [hl2]; omega) (.inl (by omega)) h2 (fun _ => rfl)
    rwa [List.append_nil] at this
  have H := wpH3_lex (md := .any) (g := l.toArray.size - m) hsel hsk hc hn hnm (l.take m) 0 _ a (fun j hj => by
    have hj' : j < m := by rw [htl] at hj; exact hj
    simp [hj']) (by simpa using htl) inv0 (by rw [htl]; exact hlex) (.inl (Nat.zero_le _)) hE
  refine wp_region_any hm ?_
  have := any_of_wpH3 (Q' := Q) (g := l.toArray.size - m) hF0 hFR (fun W listed a' k hR hL => by
    have := wpAny_of_seq (md := .any) (Q' := Q) (l.drop m) m listed a' (W.drewN k) (fun j => by rw [List.getElem?_drop, List.getElem?_toArray]) (by rw [hdl]; exact hL.2.1) (by rw [hL.2.2]; exact ht W k hR)
    rwa [hdl] at this) (fun _ _ hL => hL.1) _ _ a w.drew (by simp; omega) (fun _ => ⟨0, rfl⟩) (fun h3 => by simp [show n < l.length by omega] at h3) H
  rw [htl, show m + (l.toArray.size - m) = l.toArray.size by omega] at this
  exact this
end
end Go.Proofs.YtikjhnbehihbjaaDoor
