/- A region that draws its order: quiet operations, ONE variable made at any time among them, a forced tail. One walk of the lexical order serves every order. -/
import Derived.Test.YtikjhnbehihbjaaDoorQuiet
import Derived.Test.YtikjhnbehihbjaaDoorAppend
namespace Go.Proofs.YtikjhnbehihbjaaDoor
open Go Go.RowKit

section
variable {P : Program} {ops : Array Oper} {md : Region.Mode} {W0 W1 : World} {n : Nat} {p : Value}

/-- the worlds behind draws -/
def CW (W w' : World) : Prop := ∃ k, w' = W.drewN k
/-- operation i (that of number n is the one that makes a variable) yields v, before and behind the making -/
def Yi (P : Program) (ops : Array Oper) (W0 W1 : World) (n : Nat) (p : Value) (i : Nat) (o : Oper) (v : Value) (a : Act) : Prop :=
  (i < n ∧ YieldsIn P ops (CW W0) o v a ∧ YieldsIn P ops (CW W1) o v a) ∨ (i = n ∧ v = p)
def wpH (P : Program) (md : Region.Mode) (ops : Array Oper) (W0 W1 : World) (n : Nat) (p : Value) (L : Array Bool → Act → Prop) : Nat → Array Bool → Act → Prop
  | 0, listed, a => L listed a
  | f + 1, listed, a => Region.ready md ops listed ≠ [] ∧ ∀ i ∈ Region.ready md ops listed, ∃ o v, ops[i]? = some o ∧ Yi P ops W0 W1 n p i o v a ∧ wpH P md ops W0 W1 n p L f (listed.setIfInBounds i true) (a.put o.dst v)

theorem yieldsIn_put {C : World → Prop} {oi oj : Oper} {v u : Value} {a : Act} (hap : oi.apart ops oj = true) (hsi : ∀ cs b, oi.op ≠ .select cs b) (hy : YieldsIn P ops C oi v a) : YieldsIn P ops C oi v (a.put oj.dst u) := by
  obtain ⟨_, _, h3⟩ := Oper.apart_spec hap
  exact hy.of_same (execOp_put oi hsi a oj.dst u h3) (wanted_put oi a oj.dst u h3)
theorem yieldsIn_unput {C : World → Prop} {oi oj : Oper} {v u : Value} {a : Act} (hap : oi.apart ops oj = true) (hsj : ∀ cs b, oj.op ≠ .select cs b) (hy : YieldsIn P ops C oj u (a.put oi.dst v)) : YieldsIn P ops C oj u a := by
  obtain ⟨h1, _, _⟩ := Oper.apart_spec hap
  exact hy.of_same (execOp_put oj hsj a oi.dst v h1).symm (wanted_put oj a oi.dst v h1).symm
theorem Yi.put {i : Nat} {oi oj : Oper} {v u : Value} {a : Act} (hap : oi.apart ops oj = true) (hsi : ∀ cs b, oi.op ≠ .select cs b) (hy : Yi P ops W0 W1 n p i oi v a) : Yi P ops W0 W1 n p i oi v (a.put oj.dst u) := by
  rcases hy with ⟨h, h0, h1⟩ | h
  · exact .inl ⟨h, yieldsIn_put hap hsi h0, yieldsIn_put hap hsi h1⟩
  · exact .inr h
theorem Yi.unput {j : Nat} {oi oj : Oper} {v u : Value} {a : Act} (hap : oi.apart ops oj = true) (hsj : ∀ cs b, oj.op ≠ .select cs b) (hy : Yi P ops W0 W1 n p j oj u (a.put oi.dst v)) : Yi P ops W0 W1 n p j oj u a := by
  rcases hy with ⟨h, h0, h1⟩ | h
  · exact .inl ⟨h, yieldsIn_unput hap hsj h0, yieldsIn_unput hap hsj h1⟩
  · exact .inr h

/-- an operation that may come up now may be taken first -/
theorem wpH_first {i : Nat} {oi : Oper} {v : Value} {L : Array Bool → Act → Prop} (hi : ops[i]? = some oi) (hsel : ∀ (j : Nat) (o : Oper) cs b, ops[j]? = some o → o.op ≠ .select cs b)
    (hs : Region.sinkB md ops (n + 1) = true) (hc : Region.chainB md ops (n + 1) = true) (hn : n + 1 < ops.size) (hin : i < n + 1) (hdone : ∀ listed a, L listed a → ∀ j ∈ Region.ready md ops listed, n + 1 ≤ j) (f : Nat) :
    ∀ (listed : Array Bool) (a : Act), HeadInv md ops (n + 1) listed →
      (∀ j oj, ops[j]? = some oj → j ≠ i → listed.getD j true = false → (∀ e ∈ oj.after, Region.binds md e = true → e.on ≠ i) → oi.apart ops oj = true) →
      i ∈ Region.ready md ops listed → Yi P ops W0 W1 n p i oi v a → wpH P md ops W0 W1 n p L f (listed.setIfInBounds i true) (a.put oi.dst v) → wpH P md ops W0 W1 n p L (f + 1) listed a := by
  have low : ∀ (listed : Array Bool) (j : Nat), HeadInv md ops (n + 1) listed → i ∈ Region.ready md ops listed → j ∈ Region.ready md ops listed → j < n + 1 := fun listed j inv hr hj => by
    rcases Nat.lt_or_ge j (n + 1) with h | h
    · exact h
    · exact absurd hj (tail_waits hs hc hn inv _ i rfl hin (mem_ready.1 hr).1 j h)
  induction f with
  | zero =>
    intro listed a inv _ hr hy H
    refine ⟨fun h => (by rw [h] at hr; cases hr), fun j hj => ?_⟩
    by_cases hji : j = i
    · subst hji; exact ⟨oi, v, hi, hy, H⟩
    · have := hdone _ _ H j (ready_mono hj hji)
      have := low listed j inv hr hj
      omega
  | succ f ih =>
    intro listed a inv hfree hr hy H
    refine ⟨fun h => (by rw [h] at hr; cases hr), fun j hj => ?_⟩
    by_cases hji : j = i
    · subst hji; exact ⟨oi, v, hi, hy, H⟩
    · obtain ⟨hjun, oj, hoj, hall⟩ := mem_ready.1 hj
      have hnot : ∀ e ∈ oj.after, Region.binds md e = true → e.on ≠ i := fun e he hb heq => by
        have h1 := hall e he hb
        rw [heq, getD_both (mem_ready.1 hr).1] at h1
        cases h1
      have hap := hfree j oj hoj hji hjun hnot
      obtain ⟨oj', u, hoj', hyj, H2⟩ := H.2 j (ready_mono hj hji)
      obtain rfl : oj' = oj := Option.some.inj (hoj'.symm.trans hoj)
      refine ⟨oj', u, hoj', hyj.unput hap (fun cs b => hsel j oj' cs b hoj'), ih _ _ (inv.set hj (low listed j inv hr hj)) (fun k ok hk hki hun hno => hfree k ok hk hki ?_ hno) (ready_mono hr (Ne.symm hji)) (hy.put hap (fun cs b => hsel i oi cs b hi)) ?_⟩
      · by_cases hjk : j = k
        · subst hjk; exact hjun
        · rw [getD_set_ne true hjk] at hun; exact hun
      · rw [Array.setIfInBounds_comm _ _ hji, ← Act.put_comm a v u (Oper.apart_spec hap).2.1]
        exact H2

/-- the walk in the order of the text -/
def wpE (P : Program) (ops : Array Oper) (W0 W1 : World) (n : Nat) (p : Value) (Lq : Act → Prop) : List Oper → Nat → Act → Prop
  | [], _, a => Lq a
  | o :: l, k, a => ∃ v, Yi P ops W0 W1 n p k o v a ∧ wpE P ops W0 W1 n p Lq l (k + 1) (a.put o.dst v)
theorem wpH_lex {g : Nat} {Lq : Act → Prop} (hsel : Region.noSelect ops = true) (hs : Region.sinkB md ops (n + 1) = true) (hc : Region.chainB md ops (n + 1) = true) (hn : n + 1 < ops.size) :
    ∀ (l : List Oper) (k : Nat) (listed : Array Bool) (a : Act), (∀ j, j < l.length → l[j]? = ops[k + j]?) → k + l.length = n + 1 → HeadInv md ops (n + 1) listed →
    Region.lexHead md ops g l.length k listed = true → (k ≤ n ∨ listed.getD n true = true) → wpE P ops W0 W1 n p Lq l k a →
    wpH P md ops W0 W1 n p (fun listed' a' => listed'.getD n true = true ∧ Region.seqB md ops g (n + 1) listed' = true ∧ Lq a') l.length listed a
  | [], k, _, _, _, hk, _, hB, hkn, h => by
    obtain rfl : k = n + 1 := by simpa using hk
    exact ⟨hkn.resolve_left (by omega), by simpa [Region.lexHead] using hB, h⟩
  | o :: l, k, listed, a, hl, hk, inv, hB, hkn, h => by
    have h0 : ops[k]? = some o := by simpa using (hl 0 (by simp)).symm
    simp only [List.length_cons, Region.lexHead, Bool.and_eq_true] at hB
    obtain ⟨⟨hr, hf⟩, hB'⟩ := hB
    simp only [List.length_cons] at hk
    have hr' : k ∈ Region.ready md ops listed := by simpa using hr
    obtain ⟨v, hy, hK⟩ := h
    exact wpH_first h0 (Region.noSelect_spec hsel) hs hc hn (by omega) (fun _ _ hL => seqB_ready hL.2.1) l.length listed a inv (Region.free_spec h0 hf) hr' hy
      (wpH_lex hsel hs hc hn l (k + 1) _ _ (fun j hj => by have := hl (j + 1) (by simp; omega); simpa [Nat.add_assoc, Nat.add_comm 1 j] using this) (by omega) (inv.set hr' (by omega)) hB' (by
        rcases Nat.lt_or_ge k n with h1 | h1
        · exact .inl h1
        · obtain rfl : k = n := by omega
          exact .inr (by simp)) hK)

/-- every order comes to its end: a world behind draws, before the making or behind it, as the list says -/
theorem any_of_wpH {g : Nat} {L : Array Bool → Act → Prop} {Q' : Exit → Act → World → Prop} {oa : Oper} (hoa : ops[n]? = some oa)
    (hmk : ∀ w a K, CW W0 w → (∀ w', CW W1 w' → K (a.put oa.dst p) w') → wpOp P ops Q' n K a w)
    (hL : ∀ listed a w, CW W1 w → L listed a → wpAny P md ops Q' g listed a w) :
    ∀ (f : Nat) (listed : Array Bool) (a : Act) (w : World), n < listed.size → (listed.getD n true = false → CW W0 w) → (listed.getD n true = true → CW W1 w) → (∀ listed' a', L listed' a' → n < listed'.size → listed'.getD n true = true) →
      wpH P md ops W0 W1 n p L f listed a → wpAny P md ops Q' (f + g) listed a w
  | 0, listed, a, w, hsz, _, h1, hLn, h => by rw [Nat.zero_add]; exact hL _ _ _ (h1 (hLn _ _ h hsz)) h
  | f + 1, listed, a, w, hsz, h0, h1, hLn, h => by
    rw [show f + 1 + g = (f + g) + 1 by omega]
    refine ⟨fun he => absurd he h.1, fun i hi => ?_⟩
    obtain ⟨o, v, ho, hy, hK⟩ := h.2 i hi
    rcases hy with ⟨hin, y0, y1⟩ | ⟨e1, e2⟩
    · have hne : i ≠ n := by omega
      have hg : (listed.setIfInBounds i true).getD n true = listed.getD n true := getD_set_ne true hne
      have hsz' : n < (listed.setIfInBounds i true).size := by simpa using hsz
      cases hb : listed.getD n true with
      | false => exact wpOp_of_qOp (C := CW W0) (h0 hb) (fun a' w' hw' h' => any_of_wpH hoa hmk hL f _ a' w' hsz' (fun _ => hw') (fun h2 => (by rw [hg, hb] at h2; cases h2)) hLn h') (y0.qOp ho hK)
      | true => exact wpOp_of_qOp (C := CW W1) (h1 hb) (fun a' w' hw' h' => any_of_wpH hoa hmk hL f _ a' w' hsz' (fun h2 => (by rw [hg, hb] at h2; cases h2)) (fun _ => hw') hLn h') (y1.qOp ho hK)
    · rw [e1] at hi hK ho ⊢
      rw [e2] at hK
      obtain rfl : o = oa := Option.some.inj (ho.symm.trans hoa)
      have hun := (mem_ready.1 hi).1
      refine hmk w a _ (h0 hun) fun w' hw' => any_of_wpH hoa hmk hL f _ _ w' (by simpa using hsz) (fun h2 => ?_) (fun _ => hw') hLn hK
      simp [hsz] at h2

theorem final_slot {C : World → Prop} {A0 : Act} (d : Tmp) : ∀ (l : List Oper) (a : Act), (∀ o ∈ l, o.dst ≠ some d) → wpQuiet P ops C (fun a' => a' = A0) l a → A0.eval (.tmp d) = a.eval (.tmp d)
  | [], a, _, h => by rw [show a = A0 from h]
  | o :: l, a, hd, h => by
    have hne := hd o (by simp)
    have hev : ∀ v, (a.put o.dst v).eval (.tmp d) = a.eval (.tmp d) := fun v => Act.eval_put fun d' hd' hx => by
      injection hx with hx
      exact hne (by rw [hd', hx])
    unfold wpQuiet at h
    split at h
    · obtain ⟨v, _, h⟩ := h
      exact (final_slot d l _ (fun o' ho' => hd o' (by simp [ho'])) h).trans (hev v)
    · exact (final_slot d l _ (fun o' ho' => hd o' (by simp [ho'])) h).trans (hev _)
theorem put_slot (a : Act) (d : Tmp) (v : Value) (h : d < a.tmps.size) : (a.put (some d) v).eval (.tmp d) = v := by
  simp [Act.put, Act.eval, h]
theorem put_size (a : Act) (d : Option Tmp) (v : Value) : (a.put d v).tmps.size = a.tmps.size := by
  cases d <;> simp [Act.put]

/-- the operations' places: each its own -/
def placesB (s : Nat) : List Oper → Bool
  | [] => true
  | o :: l => (match o.dst with | some d => decide (d < s) && l.all (fun o' => o'.dst != some d) | none => false) && placesB s l
theorem wpE_of_quiet {A0 : Act} {oa : Oper} {s : Nat} : ∀ (l : List Oper) (k : Nat) (a : Act), a.tmps.size = s → placesB s l = true → k + l.length = n →
    wpQuiet P ops (CW W0) (fun a' => a' = A0) l a → wpQuiet P ops (CW W1) (fun a' => a' = A0) l a → wpE P ops W0 W1 n p (fun a' => a' = A0.put oa.dst p) (l ++ [oa]) k a
  | [], k, a, _, _, hk, h, _ => ⟨p, .inr ⟨by simpa using hk, rfl⟩, by rw [show a = A0 from h]; rfl⟩
  | o :: l, k, a, hs, hp, hk, h0, h1 => by
    unfold wpQuiet at h0 h1
    simp only [placesB, Bool.and_eq_true] at hp
    obtain ⟨hp1, hp2⟩ := hp
    simp only [List.length_cons] at hk
    cases hd : o.dst with
    | none => rw [hd] at hp1; cases hp1
    | some d =>
      rw [hd] at hp1
      simp only [Bool.and_eq_true, decide_eq_true_eq, List.all_eq_true] at hp1
      have hfar : ∀ o' ∈ l, o'.dst ≠ some d := fun o' ho' e => by have := hp1.2 o' ho'; simp [e] at this
      by_cases hw : Region.wanted o (yielded ops a.tmps) = true
      · simp only [hw, if_true] at h0 h1
        obtain ⟨v0, q0, n0⟩ := h0
        obtain ⟨v1, q1, n1⟩ := h1
        have e0 := final_slot d l _ hfar n0
        have e1 := final_slot d l _ hfar n1
        rw [hd, put_slot a d _ (by rw [hs]; exact hp1.1)] at e0 e1
        obtain rfl : v0 = v1 := e0.symm.trans e1
        exact ⟨v0, .inl ⟨by omega, .inl ⟨hw, q0⟩, .inl ⟨hw, q1⟩⟩, wpE_of_quiet l (k + 1) _ (by rw [put_size, hs]) hp2 (by omega) n0 n1⟩
      · simp only [hw, Bool.false_eq_true, if_false] at h0 h1
        exact ⟨undef, .inl ⟨by omega, .inr ⟨by simpa using hw, rfl⟩, .inr ⟨by simpa using hw, rfl⟩⟩, wpE_of_quiet l (k + 1) _ (by rw [put_size, hs]) hp2 (by omega) h0 h1⟩

/-- A QUIET HEAD, ONE VARIABLE MADE AT ANY TIME AMONG IT, A FORCED TAIL. 'F': what the head's operations ask of a world; it stands behind draws and behind the making. -/
theorem early_alloc {id : Nat} {Q : Exit → Act → World → Prop} {a : Act} {w : World} {l : List Oper} (n : Nat) (hm : P.follows .mixedOrders = true) (hB : Region.lexTailB .any l.toArray (n + 1) = true) (s : Nat) (hs : a.tmps.size = s) (hp : placesB s (l.take n) = true)
    (d : Tmp) (t : TypeId) (oa : Oper) (hoa : l[n]? = some oa) (hdst : oa.dst = some d) (hop : oa.op = .alloc t) (hgd : oa.guard = none) (z : Value) (hz : ∀ w, (zeroValue t).run P w = .ok z w)
    (F : World → Prop) (hF0 : F w.drew) (hF1 : F (w.drew.alloc (.cells z.cells t))) (A0 : Act)
    (h : ∀ W, F W → wpQuiet P l.toArray (fun w' => ∃ k, w' = W.drewN k) (fun a' => a' = A0) (l.take n) a)
    (ht : ∀ k, wpList P l.toArray Q (l.drop (n + 1)) (A0.put (some d) (.pointer (some ⟨w.heap.size, 0, none⟩))) ((w.drew.alloc (.cells z.cells t)).drewN k)) : (Code.region id l.toArray true).wp P Q a w := by
  simp only [Region.lexTailB, Bool.and_eq_true, decide_eq_true_eq] at hB
  obtain ⟨⟨⟨⟨hsel, hn⟩, hsk⟩, hc⟩, hlex⟩ := hB
  have hn' : n + 1 < l.length := by simpa using hn
  have hln : l.take n ++ [oa] = l.take (n + 1) := by
    rw [List.take_add_one, hoa]; rfl
  have htl : (l.take (n + 1)).length = n + 1 := by simp; omega
  have hdl : (l.drop (n + 1)).length = l.toArray.size - (n + 1) := by simp
  have inv0 : HeadInv .any l.toArray (n + 1) (Array.replicate l.toArray.size false) :=
    ⟨by simp, fun j oj _ hl => (by rw [getD_replicate_false] at hl; cases hl), fun t _ ht => getD_in (by simpa using ht) (getD_replicate_false _ _)⟩
  have hE := wpE_of_quiet (P := P) (ops := l.toArray) (W0 := w.drew) (W1 := w.drew.alloc (.cells z.cells t)) (n := n) (p := .pointer (some ⟨w.heap.size, 0, none⟩)) (A0 := A0) (oa := oa) (l.take n) 0 a hs hp (by simp; omega) (h _ hF0) (h _ hF1)
  rw [hln] at hE
  have H := wpH_lex (md := .any) (g := l.toArray.size - (n + 1)) hsel hsk hc hn (l.take (n + 1)) 0 _ a (fun j hj => by
    have hj' : j < n + 1 := by rw [htl] at hj; exact hj
    simp [hj']) (by simpa using htl) inv0 (by rw [htl]; exact hlex) (.inl (Nat.zero_le _)) hE
  refine wp_region_any hm ?_
  have := any_of_wpH (Q' := Q) (g := l.toArray.size - (n + 1)) (oa := oa) (by simpa using hoa) ?_ (fun listed a' w' hw' hL => by
    obtain ⟨k, rfl⟩ := hw'
    have := wpAny_of_seq (md := .any) (Q' := Q) (l.drop (n + 1)) (n + 1) listed a' ((w.drew.alloc (.cells z.cells t)).drewN k) (fun j => by rw [List.getElem?_drop, List.getElem?_toArray]) (by rw [hdl]; exact hL.2.1) (by rw [hL.2.2, hdst]; exact ht k)
    rwa [hdl] at this) _ _ a w.drew (by simp; omega) (fun _ => ⟨0, rfl⟩) (fun h2 => ?_) ?_ H
  · rw [htl, show n + 1 + (l.toArray.size - (n + 1)) = l.toArray.size by omega] at this
    exact this
  · rintro w' a' K ⟨k, rfl⟩ hK
    have hoa' : l.toArray[n]? = some oa := by simpa using hoa
    have hw : Region.wanted oa (yielded l.toArray a'.tmps) = true := by simp [Region.wanted, hgd]
    unfold wpOp
    simp only [hoa', hw, if_true]
    refine .inl ?_
    unfold Oper.wp execOp
    simp only [hop]
    have hK' : K (a'.put oa.dst (.pointer (some ⟨w.heap.size, 0, none⟩))) ((w.drewN (1 + k)).alloc (.cells z.cells t)) := by
      rw [← drew_drewN]; exact hK ((w.drew.alloc (.cells z.cells t)).drewN k) ⟨k, rfl⟩
    simp [hz, go_sem]
    exact hK'
  · simp [show n < l.length by omega] at h2
  · exact fun _ _ hL _ => hL.1
end
end Go.Proofs.YtikjhnbehihbjaaDoor
