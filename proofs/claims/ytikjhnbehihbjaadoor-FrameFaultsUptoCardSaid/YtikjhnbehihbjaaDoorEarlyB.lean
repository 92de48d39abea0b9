/- A region that draws its order: quiet operations, ONE operation that makes or writes (a call, an alloc ..) and may come at any time among them, a forced tail. One walk of the lexical order serves every order. -/
import Derived.Test.YtikjhnbehihbjaaDoorEarly
namespace Go.Proofs.YtikjhnbehihbjaaDoor
open Go Go.RowKit

section
variable {P : Program} {ops : Array Oper} {md : Region.Mode} {W0 : World} {F : World → Prop} {R : Value → World → Prop} {n : Nat} {p : Value} {E : Nat → Value}

/-- the one operation ends with some value and world that R names -/
def xUpon (P : Program) (R : Value → World → Prop) : Result Next → Prop
  | .ok (.value u) w' => R u w'
  | .ok .skip w' => R undef w'
  | .ok (.enter f args) w' => Calls P f args w' (fun e w'' => ∃ v, e = .returned v ∧ R v w'')
  | _ => False
def XOK (P : Program) (ops : Array Oper) (W0 : World) (R : Value → World → Prop) (o : Oper) (a : Act) : Prop :=
  Region.wanted o (yielded ops a.tmps) = true ∧ ∀ w, CW W0 w → xUpon P R ((execOp a.eval o).run P w)
theorem wp_of_xUpon {o : Oper} {a : Act} {w : World} {K : Act → World → Prop} {Q' : Exit → Act → World → Prop} (h : xUpon P R ((execOp a.eval o).run P w)) (hK : ∀ p w', R p w' → K (a.put o.dst p) w') : o.wp P a w K Q' := by
  unfold Oper.wp
  generalize (execOp a.eval o).run P w = r at *
  cases r with
  | ok x w' =>
    cases x <;> simp only [xUpon] at h <;> simp only [Oper.upon]
    case value u => exact hK _ _ h
    case skip => exact hK _ _ h
    case enter f args => exact h.mono fun e w'' ⟨v, he, hw''⟩ => by subst he; exact hK _ _ hw''
  | halt x w' => simp only [xUpon] at h
/-- operation i yields E i in every world of F (that of number n: p, by its own law) -/
def Zi (P : Program) (ops : Array Oper) (W0 : World) (F : World → Prop) (R : Value → World → Prop) (n : Nat) (p : Value) (E : Nat → Value) (i : Nat) (o : Oper) (v : Value) (a : Act) : Prop :=
  (i < n ∧ v = E i ∧ ∀ W, F W → YieldsIn P ops (CW W) o v a) ∨ (i = n ∧ v = p ∧ XOK P ops W0 R o a)
def wpH2 (P : Program) (md : Region.Mode) (ops : Array Oper) (W0 : World) (F : World → Prop) (R : Value → World → Prop) (n : Nat) (p : Value) (E : Nat → Value) (L : Array Bool → Act → Prop) : Nat → Array Bool → Act → Prop
  | 0, listed, a => L listed a
  | f + 1, listed, a => Region.ready md ops listed ≠ [] ∧ ∀ i ∈ Region.ready md ops listed, ∃ o v, ops[i]? = some o ∧ Zi P ops W0 F R n p E i o v a ∧ wpH2 P md ops W0 F R n p E L f (listed.setIfInBounds i true) (a.put o.dst v)
theorem xok_put {oi oj : Oper} {u : Value} {a : Act} (hap : oi.apart ops oj = true) (hsi : ∀ cs b, oi.op ≠ .select cs b) (hy : XOK P ops W0 R oi a) : XOK P ops W0 R oi (a.put oj.dst u) := by
  obtain ⟨_, _, h3⟩ := Oper.apart_spec hap
  unfold XOK at *
  rw [execOp_put oi hsi a oj.dst u h3, wanted_put oi a oj.dst u h3]
  exact hy
theorem xok_unput {oi oj : Oper} {v : Value} {a : Act} (hap : oi.apart ops oj = true) (hsj : ∀ cs b, oj.op ≠ .select cs b) (hy : XOK P ops W0 R oj (a.put oi.dst v)) : XOK P ops W0 R oj a := by
  obtain ⟨h1, _, _⟩ := Oper.apart_spec hap
  unfold XOK at *
  rw [execOp_put oj hsj a oi.dst v h1, wanted_put oj a oi.dst v h1] at hy
  exact hy
theorem Zi.put {i : Nat} {oi oj : Oper} {v u : Value} {a : Act} (hap : oi.apart ops oj = true) (hsi : ∀ cs b, oi.op ≠ .select cs b) (hy : Zi P ops W0 F R n p E i oi v a) : Zi P ops W0 F R n p E i oi v (a.put oj.dst u) := by
  rcases hy with ⟨h, hv, h0⟩ | ⟨h, hv, h0⟩
  · exact .inl ⟨h, hv, fun W hW => yieldsIn_put hap hsi (h0 W hW)⟩
  · exact .inr ⟨h, hv, xok_put hap hsi h0⟩
theorem Zi.unput {j : Nat} {oi oj : Oper} {v u : Value} {a : Act} (hap : oi.apart ops oj = true) (hsj : ∀ cs b, oj.op ≠ .select cs b) (hy : Zi P ops W0 F R n p E j oj u (a.put oi.dst v)) : Zi P ops W0 F R n p E j oj u a := by
  rcases hy with ⟨h, hv, h0⟩ | ⟨h, hv, h0⟩
  · exact .inl ⟨h, hv, fun W hW => yieldsIn_unput hap hsj (h0 W hW)⟩
  · exact .inr ⟨h, hv, xok_unput hap hsj h0⟩

/-- an operation that may come up now may be taken first -/
theorem wpH2_first {i : Nat} {oi : Oper} {v : Value} {L : Array Bool → Act → Prop} (hi : ops[i]? = some oi) (hsel : ∀ (j : Nat) (o : Oper) cs b, ops[j]? = some o → o.op ≠ .select cs b)
    (hs : Region.sinkB md ops (n + 1) = true) (hc : Region.chainB md ops (n + 1) = true) (hn : n + 1 < ops.size) (hin : i < n + 1) (hdone : ∀ listed a, L listed a → ∀ j ∈ Region.ready md ops listed, n + 1 ≤ j) (f : Nat) :
    ∀ (listed : Array Bool) (a : Act), HeadInv md ops (n + 1) listed →
      (∀ j oj, ops[j]? = some oj → j ≠ i → listed.getD j true = false → (∀ e ∈ oj.after, Region.binds md e = true → e.on ≠ i) → oi.apart ops oj = true) →
      i ∈ Region.ready md ops listed → Zi P ops W0 F R n p E i oi v a → wpH2 P md ops W0 F R n p E L f (listed.setIfInBounds i true) (a.put oi.dst v) → wpH2 P md ops W0 F R n p E L (f + 1) listed a := by
  have low : ∀ (listed : Array Bool) (j : Nat), HeadInv md ops (n + 1) listed → i ∈ Region.ready md ops listed → j ∈ Region.ready md ops listed → j < n + 1 := fun listed j inv hr hj => by
    rcases Nat.lt_or_ge j (n + 1) with h | h
    · exact h
    · exact absurd hj (tail_waits hs hc hn inv _ i rfl hin (mem_ready.1 hr).1 j h)
  induction f with
  | zero =>
    intro listed a inv _ hr hy H
    refine ⟨fun h => (by rw [h] at hr; cases hr), fun j hj => ?_⟩
    by_cases hji : j = i
    · subst hji; exact ⟨oi, v, hi, hy, H⟩
    · have := hdone _ _ H j (ready_mono hj hji)
      have := low listed j inv hr hj
      omega
  | succ f ih =>
    intro listed a inv hfree hr hy H
    refine ⟨fun h => (by rw [h] at hr; cases hr), fun j hj => ?_⟩
    by_cases hji : j = i
    · subst hji; exact ⟨oi, v, hi, hy, H⟩
    · obtain ⟨hjun, oj, hoj, hall⟩ := mem_ready.1 hj
      have hnot : ∀ e ∈ oj.after, Region.binds md e = true → e.on ≠ i := fun e he hb heq => by
        have h1 := hall e he hb
        rw [heq, getD_both (mem_ready.1 hr).1] at h1
        cases h1
      have hap := hfree j oj hoj hji hjun hnot
      obtain ⟨oj', u, hoj', hyj, H2⟩ := H.2 j (ready_mono hj hji)
      obtain rfl : oj' = oj := Option.some.inj (hoj'.symm.trans hoj)
      refine ⟨oj', u, hoj', hyj.unput hap (fun cs b => hsel j oj' cs b hoj'), ih _ _ (inv.set hj (low listed j inv hr hj)) (fun k ok hk hki hun hno => hfree k ok hk hki ?_ hno) (ready_mono hr (Ne.symm hji)) (hy.put hap (fun cs b => hsel i oi cs b hi)) ?_⟩
      · by_cases hjk : j = k
        · subst hjk; exact hjun
        · rw [getD_set_ne true hjk] at hun; exact hun
      · rw [Array.setIfInBounds_comm _ _ hji, ← Act.put_comm a v u (Oper.apart_spec hap).2.1]
        exact H2

/-- the walk in the order of the text -/
def wpE2 (P : Program) (ops : Array Oper) (W0 : World) (F : World → Prop) (R : Value → World → Prop) (n : Nat) (p : Value) (E : Nat → Value) (Lq : Act → Prop) : List Oper → Nat → Act → Prop
  | [], _, a => Lq a
  | o :: l, k, a => ∃ v, Zi P ops W0 F R n p E k o v a ∧ wpE2 P ops W0 F R n p E Lq l (k + 1) (a.put o.dst v)
theorem wpH2_lex {g : Nat} {Lq : Act → Prop} (hsel : Region.noSelect ops = true) (hs : Region.sinkB md ops (n + 1) = true) (hc : Region.chainB md ops (n + 1) = true) (hn : n + 1 < ops.size) :
    ∀ (l : List Oper) (k : Nat) (listed : Array Bool) (a : Act), (∀ j, j < l.length → l[j]? = ops[k + j]?) → k + l.length = n + 1 → HeadInv md ops (n + 1) listed →
    Region.lexHead md ops g l.length k listed = true → (k ≤ n ∨ listed.getD n true = true) → wpE2 P ops W0 F R n p E Lq l k a →
    wpH2 P md ops W0 F R n p E (fun listed' a' => listed'.getD n true = true ∧ Region.seqB md ops g (n + 1) listed' = true ∧ Lq a') l.length listed a
  | [], k, _, _, _, hk, _, hB, hkn, h => by
    obtain rfl : k = n + 1 := by simpa using hk
    exact ⟨hkn.resolve_left (by omega), by simpa [Region.lexHead] using hB, h⟩
  | o :: l, k, listed, a, hl, hk, inv, hB, hkn, h => by
    have h0 : ops[k]? = some o := by simpa using (hl 0 (by simp)).symm
    simp only [List.length_cons, Region.lexHead, Bool.and_eq_true] at hB
    obtain ⟨⟨hr, hf⟩, hB'⟩ := hB
    simp only [List.length_cons] at hk
    have hr' : k ∈ Region.ready md ops listed := by simpa using hr
    obtain ⟨v, hy, hK⟩ := h
    exact wpH2_first h0 (Region.noSelect_spec hsel) hs hc hn (by omega) (fun _ _ hL => seqB_ready hL.2.1) l.length listed a inv (Region.free_spec h0 hf) hr' hy
      (wpH2_lex hsel hs hc hn l (k + 1) _ _ (fun j hj => by have := hl (j + 1) (by simp; omega); simpa [Nat.add_assoc, Nat.add_comm 1 j] using this) (by omega) (inv.set hr' (by omega)) hB' (by
        rcases Nat.lt_or_ge k n with h1 | h1
        · exact .inl h1
        · obtain rfl : k = n := by omega
          exact .inr (by simp)) hK)

/-- every order comes to its end: a world behind draws, before the one operation or behind it, as the list says -/
theorem any_of_wpH2 {g : Nat} {L : Value → Array Bool → Act → Prop} {Q' : Exit → Act → World → Prop} {oa : Oper} (hoa : ops[n]? = some oa) (hF0 : F W0) (hFR : ∀ p W, R p W → F W)
    (hL : ∀ p W listed a k, R p W → L p listed a → wpAny P md ops Q' g listed a (W.drewN k)) (hLn : ∀ p listed' a', L p listed' a' → listed'.getD n true = true) :
    ∀ (f : Nat) (listed : Array Bool) (a : Act) (w : World), n < listed.size →
      (listed.getD n true = false → CW W0 w ∧ (∀ p, wpH2 P md ops W0 F R n p E (L p) f listed a)) → (listed.getD n true = true → ∃ p W, R p W ∧ CW W w ∧ wpH2 P md ops W0 F R n p E (L p) f listed a) → wpAny P md ops Q' (f + g) listed a w
  | 0, listed, a, w, hsz, h0, h1 => by
    rw [Nat.zero_add]
    cases hb : listed.getD n true with
    | false => have := hLn _ _ _ ((h0 hb).2 undef); rw [hb] at this; cases this
    | true =>
      obtain ⟨p, W, hR, ⟨k, rfl⟩, h⟩ := h1 hb
      exact hL p W _ _ k hR h
  | f + 1, listed, a, w, hsz, h0, h1 => by
    rw [show f + 1 + g = (f + g) + 1 by omega]
    cases hb : listed.getD n true with
    | false =>
      obtain ⟨hw, hH⟩ := h0 hb
      refine ⟨fun he => absurd he (hH undef).1, fun i hi => ?_⟩
      have hall := fun p => (hH p).2 i hi
      obtain ⟨o, v, ho, hy, _⟩ := hall undef
      rcases hy with ⟨hin, hv, y⟩ | ⟨e1, _, hx⟩
      · have hne : i ≠ n := by omega
        have hg : (listed.setIfInBounds i true).getD n true = listed.getD n true := getD_set_ne true hne
        have hsz' : n < (listed.setIfInBounds i true).size := by simpa using hsz
        have hK : ∀ p, wpH2 P md ops W0 F R n p E (L p) f (listed.setIfInBounds i true) (a.put o.dst v) := fun p => by
          obtain ⟨o', v', ho', hy', hK'⟩ := hall p
          obtain rfl : o' = o := Option.some.inj (ho'.symm.trans ho)
          rcases hy' with ⟨_, hv', _⟩ | ⟨e, _, _⟩
          · rw [hv, ← hv']; exact hK'
          · omega
        exact wpOp_of_qOp (C := CW W0) hw (fun a' w' hw' h' => any_of_wpH2 hoa hF0 hFR hL hLn f _ a' w' hsz' (fun _ => ⟨hw', h'⟩) (fun h2 => (by rw [hg, hb] at h2; cases h2))) ((y _ hF0).qOp (K := fun a' => ∀ p, wpH2 P md ops W0 F R n p E (L p) f (listed.setIfInBounds i true) a') ho hK)
      · rw [e1] at hall ho ⊢
        obtain rfl : o = oa := Option.some.inj (ho.symm.trans hoa)
        unfold wpOp
        simp only [ho, hx.1, if_true]
        refine .inl (wp_of_xUpon (hx.2 w hw) fun p w' hR => ?_)
        obtain ⟨o', v', ho', hy', hK'⟩ := hall p
        obtain rfl : o' = o := Option.some.inj (ho'.symm.trans ho)
        rcases hy' with ⟨h3, _, _⟩ | ⟨_, hv', _⟩
        · omega
        · rw [hv'] at hK'
          refine any_of_wpH2 hoa hF0 hFR hL hLn f _ _ w' (by simpa using hsz) (fun h2 => ?_) (fun _ => ⟨p, w', hR, ⟨0, rfl⟩, hK'⟩)
          simp [hsz] at h2
    | true =>
      obtain ⟨p, W, hR, hw, hH⟩ := h1 hb
      refine ⟨fun he => absurd he hH.1, fun i hi => ?_⟩
      obtain ⟨o, v, ho, hy, hK⟩ := hH.2 i hi
      rcases hy with ⟨hin, _, y⟩ | ⟨e1, _, _⟩
      · have hne : i ≠ n := by omega
        have hg : (listed.setIfInBounds i true).getD n true = listed.getD n true := getD_set_ne true hne
        exact wpOp_of_qOp (C := CW W) hw (fun a' w' hw' h' => any_of_wpH2 hoa hF0 hFR hL hLn f _ a' w' (by simpa using hsz) (fun h2 => (by rw [hg, hb] at h2; cases h2)) (fun _ => ⟨p, W, hR, hw', h'⟩)) ((y _ (hFR _ _ hR)).qOp ho hK)
      · have := (mem_ready.1 hi).1
        rw [e1, hb] at this
        cases this

/-- the value that the final state holds in an operation's place -/
def slotOf (ops : Array Oper) (A0 : Act) (i : Nat) : Value := match ops[i]? with | some o => (match o.dst with | some d => A0.eval (.tmp d) | none => undef) | none => undef
theorem wpE2_of_quiet {A0 : Act} {oa : Oper} {s : Nat} (hx : XOK P ops W0 R oa A0) (W1 : World) (hW1 : F W1) : ∀ (l : List Oper) (k : Nat) (a : Act), (∀ j, j < l.length → l[j]? = ops[k + j]?) → a.tmps.size = s → placesB s l = true → k + l.length = n →
    (∀ W, F W → wpQuiet P ops (CW W) (fun a' => a' = A0) l a) → wpE2 P ops W0 F R n p (slotOf ops A0) (fun a' => a' = A0.put oa.dst p) (l ++ [oa]) k a
  | [], k, a, _, _, _, hk, h => by
    have hA : a = A0 := h W1 hW1
    exact ⟨p, .inr ⟨by simpa using hk, rfl, by rw [hA]; exact hx⟩, by rw [hA]; rfl⟩
  | o :: l, k, a, hl, hs, hp, hk, h => by
    have h0 : ops[k]? = some o := by simpa using (hl 0 (by simp)).symm
    simp only [placesB, Bool.and_eq_true] at hp
    obtain ⟨hp1, hp2⟩ := hp
    simp only [List.length_cons] at hk
    cases hd : o.dst with
    | none => rw [hd] at hp1; cases hp1
    | some d =>
      rw [hd] at hp1
      simp only [Bool.and_eq_true, decide_eq_true_eq, List.all_eq_true] at hp1
      have hfar : ∀ o' ∈ l, o'.dst ≠ some d := fun o' ho' e => by have := hp1.2 o' ho'; simp [e] at this
      have hE : slotOf ops A0 k = A0.eval (.tmp d) := by unfold slotOf; simp only [h0, hd]
      have key : ∀ W, F W → YieldsIn P ops (CW W) o (slotOf ops A0 k) a ∧ wpQuiet P ops (CW W) (fun a' => a' = A0) l (a.put o.dst (slotOf ops A0 k)) := fun W hW => by
        have h2 := h W hW
        unfold wpQuiet at h2
        by_cases hw : Region.wanted o (yielded ops a.tmps) = true
        · simp only [hw, if_true] at h2
          obtain ⟨v, q, nx⟩ := h2
          have e0 := final_slot d l _ hfar nx
          rw [hd, put_slot a d _ (by rw [hs]; exact hp1.1)] at e0
          rw [hE, e0]
          exact ⟨.inl ⟨hw, q⟩, nx⟩
        · simp only [hw, Bool.false_eq_true, if_false] at h2
          have e0 := final_slot d l _ hfar h2
          rw [hd, put_slot a d _ (by rw [hs]; exact hp1.1)] at e0
          rw [hE, e0]
          exact ⟨.inr ⟨by simpa using hw, rfl⟩, h2⟩
      exact ⟨_, .inl ⟨by omega, rfl, fun W hW => (key W hW).1⟩, wpE2_of_quiet hx W1 hW1 l (k + 1) _ (fun j hj => by have := hl (j + 1) (by simp; omega); simpa [Nat.add_assoc, Nat.add_comm 1 j] using this) (by rw [put_size, hs]) hp2 (by omega) fun W hW => (key W hW).2⟩

/-- A QUIET HEAD, ONE OPERATION THAT MAKES OR WRITES AT ANY TIME AMONG IT, A FORCED TAIL. 'F': what the head's operations ask of a world (it stands behind draws: CW, and behind the one operation: R). -/
theorem early_op {id : Nat} {Q : Exit → Act → World → Prop} {a : Act} {w : World} {l : List Oper} (n : Nat) (hm : P.follows .mixedOrders = true) (hB : Region.lexTailB .any l.toArray (n + 1) = true) (s : Nat) (hs : a.tmps.size = s) (hp : placesB s (l.take n) = true)
    (oa : Oper) (hoa : l[n]? = some oa) (hgd : oa.guard = none) (F : World → Prop) (R : Value → World → Prop) (hF0 : F w.drew) (hFR : ∀ p W, R p W → F W) (A0 : Act)
    (h : ∀ W, F W → wpQuiet P l.toArray (fun w' => ∃ k, w' = W.drewN k) (fun a' => a' = A0) (l.take n) a)
    (hx : ∀ k, xUpon P R ((execOp A0.eval oa).run P (w.drew.drewN k)))
    (ht : ∀ p W k, R p W → wpList P l.toArray Q (l.drop (n + 1)) (A0.put oa.dst p) (W.drewN k)) : (Code.region id l.toArray true).wp P Q a w := by
  simp only [Region.lexTailB, Bool.and_eq_true, decide_eq_true_eq] at hB
  obtain ⟨⟨⟨⟨hsel, hn⟩, hsk⟩, hc⟩, hlex⟩ := hB
  have hn' : n + 1 < l.length := by simpa using hn
  have hln : l.take n ++ [oa] = l.take (n + 1) := by
    rw [List.take_add_one, hoa]; rfl
  have htl : (l.take (n + 1)).length = n + 1 := by simp; omega
  have hdl : (l.drop (n + 1)).length = l.toArray.size - (n + 1) := by simp
  have inv0 : HeadInv .any l.toArray (n + 1) (Array.replicate l.toArray.size false) :=
    ⟨by simp, fun j oj _ hl => (by rw [getD_replicate_false] at hl; cases hl), fun t _ ht => getD_in (by simpa using ht) (getD_replicate_false _ _)⟩
  have hX : XOK P l.toArray w.drew R oa A0 := ⟨by simp [Region.wanted, hgd], fun w' ⟨k, hk⟩ => by rw [hk]; exact hx k⟩
  have H : ∀ p, wpH2 P .any l.toArray w.drew F R n p (slotOf l.toArray A0) (fun listed' a' => listed'.getD n true = true ∧ Region.seqB .any l.toArray (l.toArray.size - (n + 1)) (n + 1) listed' = true ∧ a' = A0.put oa.dst p) (l.take (n + 1)).length (Array.replicate l.toArray.size false) a := fun p => by
    have hE := wpE2_of_quiet (P := P) (ops := l.toArray) (W0 := w.drew) (F := F) (R := R) (n := n) (p := p) (A0 := A0) (oa := oa) hX w.drew hF0 (l.take n) 0 a (fun j hj => by
      have hj' : j < n := by simp at hj; omega
      simp [hj']) hs hp (by simp; omega) h
    rw [hln] at hE
    exact wpH2_lex (md := .any) (g := l.toArray.size - (n + 1)) hsel hsk hc hn (l.take (n + 1)) 0 _ a (fun j hj => by
      have hj' : j < n + 1 := by rw [htl] at hj; exact hj
      simp [hj']) (by simpa using htl) inv0 (by rw [htl]; exact hlex) (.inl (Nat.zero_le _)) hE
  refine wp_region_any hm ?_
  have := any_of_wpH2 (Q' := Q) (g := l.toArray.size - (n + 1)) (oa := oa) (by simpa using hoa) hF0 hFR (fun p W listed a' k hR hL => by
    have := wpAny_of_seq (md := .any) (Q' := Q) (l.drop (n + 1)) (n + 1) listed a' (W.drewN k) (fun j => by rw [List.getElem?_drop, List.getElem?_toArray]) (by rw [hdl]; exact hL.2.1) (by rw [hL.2.2]; exact ht p W k hR)
    rwa [hdl] at this) (fun _ _ _ hL => hL.1) _ _ a w.drew (by simp; omega) (fun _ => ⟨⟨0, rfl⟩, H⟩) (fun h2 => by simp [show n < l.length by omega] at h2)
  rw [htl, show n + 1 + (l.toArray.size - (n + 1)) = l.toArray.size by omega] at this
  exact this
end
end Go.Proofs.YtikjhnbehihbjaaDoor
