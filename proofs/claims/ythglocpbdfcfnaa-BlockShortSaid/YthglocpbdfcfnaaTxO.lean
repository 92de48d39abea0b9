/- Inputs, outputs, texts in memory of one's own; a reader's bytes; what a reading call leaves. -/
import Derived.Test.YthglocpbdfcfnaaTxG
import Derived.Test.YthglocpbdfcfnaaTxZ
import Derived.Test.YthglocpbdfcfnaaGB
namespace Go.Proofs.Ythglocpbdfcfnaa
open Go Go.RowKit
set_option linter.unusedVariables false

/-- blocks that may be written while rows from B on, with elements of the types Ts, stay -/
def Sep (B : Nat) (Ts : List TypeId) (w : World) (S : Nat → Prop) : Prop := ∀ k, S k → k < B ∨ ∃ T cs, Blk w k T cs ∧ T ∉ Ts
theorem Sep.mono {B : Nat} {Ts Ts' : List TypeId} {w : World} {S : Nat → Prop} (h : Sep B Ts w S) (hs : ∀ T, T ∈ Ts' → T ∈ Ts) : Sep B Ts' w S := fun k hk =>
  (h k hk).imp id fun ⟨T, cs, h1, h2⟩ => ⟨T, cs, h1, fun h => h2 (hs T h)⟩
theorem Sep.low {B : Nat} {Ts : List TypeId} {w : World} {S : Nat → Prop} (h : ∀ k, S k → k < B) : Sep B Ts w S := fun k hk => .inl (h k hk)
theorem ownsRow_sep {S : Nat → Prop} {w w' : World} {B : Nat} {e : TypeId} {N : Nat} {v : Value} {n : Nat} {xs : List Value} (h : w.ownsRow B e N v n xs) (hs : Stays S w w') (hp : Sep B [e] w S) : w'.ownsRow B e N v n xs := by
  refine ownsRow_stays h hs fun k hk hS => ?_
  rcases h.2 with ⟨rfl, _⟩ | ⟨g, cap, cur, rfl, hg, hh, _⟩
  · cases hk
  · injection hk with hk
    subst hk
    rcases hp _ hS with h1 | ⟨T, cs, h1, h2⟩
    · exact absurd hg (Nat.not_le.2 h1)
    · have hb : Blk w g e cur := hh
      exact h2 (List.mem_singleton.2 (h1.inj hb).1)
/-- what lies from B on, in blocks of the types Ts, stays -/
def KeepsO {α : Type} (B : Nat) (Ts : List TypeId) (E : World → α → List Value → Prop) : Prop := ∀ w w' S x cs, E w x cs → Stays S w w' → Sep B Ts w S → E w' x cs
def TextO (B : Nat) (w : World) (x : Bs) (cs : List Value) : Prop := ∃ v, cs = [v] ∧ Own8 w B v x
theorem textO_keeps (B : Nat) : KeepsO B [5] (TextO B) := fun w w' S x cs ⟨v, h1, h2⟩ hs hp => ⟨v, h1, ownsRow_sep h2 hs hp⟩
theorem Own8.sep {B : Nat} {w w' : World} {v : Value} {bs : Bs} {S : Nat → Prop} (h : Own8 w B v bs) (hs : Stays S w w') (hp : Sep B [5] w S) : Own8 w' B v bs := ownsRow_sep h hs hp
/-- a row of one's own -/
def RowO {α : Type} (E : World → α → List Value → Prop) (T N B : Nat) (w : World) (v : Value) (xs : List α) : Prop :=
  ∃ css : List (List Value), css.length = xs.length ∧ w.ownsRow B T N v xs.length css.flatten ∧ ∀ (i : Nat) (x : α), xs[i]? = some x → ∃ cs, css[i]? = some cs ∧ E w x cs ∧ cs.length = N
theorem RowO.nil {α : Type} (E : World → α → List Value → Prop) (T N B : Nat) (w : World) : RowO E T N B w (.slice none 0 0) [] := ⟨[], rfl, ⟨by simp, .inl ⟨rfl, rfl⟩⟩, fun i x h => by cases h⟩
theorem RowO.sep {α : Type} {E : World → α → List Value → Prop} {T N B : Nat} {Ts : List TypeId} {w w' : World} {v : Value} {xs : List α} {S : Nat → Prop} (h : RowO E T N B w v xs) (hE : KeepsO B Ts E) (hs : Stays S w w') (hp : Sep B (T :: Ts) w S) : RowO E T N B w' v xs := by
  obtain ⟨css, h1, h2, h3⟩ := h
  refine ⟨css, h1, ownsRow_sep h2 hs (hp.mono (by simp)), fun i x hx => ?_⟩
  obtain ⟨cs, h4, h5, h6⟩ := h3 i x hx
  exact ⟨cs, h4, hE _ _ _ _ _ h5 hs (hp.mono fun T hT => List.mem_cons_of_mem _ hT), h6⟩
theorem flat_at (N : Nat) : ∀ (css : List (List Value)), (∀ cs ∈ css, cs.length = N) → ∀ (i : Nat) (cs : List Value), css[i]? = some cs → ∀ j, j < N → css.flatten[i * N + j]? = cs[j]?
  | [], _, i, cs, h, j, hj => by cases h
  | c :: css, hl, i, cs, h, j, hj => by
    have hc := hl c (List.mem_cons_self ..)
    cases i with
    | zero =>
      rw [List.getElem?_cons_zero] at h
      injection h with h
      subst h
      rw [List.flatten_cons, Nat.zero_mul, Nat.zero_add, List.getElem?_append_left (by omega)]
    | succ i =>
      rw [List.getElem?_cons_succ] at h
      rw [List.flatten_cons, List.getElem?_append_right (by rw [Nat.succ_mul]; omega), hc, Nat.succ_mul, show i * N + N + j - N = i * N + j by omega]
      exact flat_at N css (fun cs h => hl cs (List.mem_cons_of_mem _ h)) i cs h j hj
theorem css_len {α : Type} {P : α → List Value → Prop} {N : Nat} {xs : List α} {css : List (List Value)} (h1 : css.length = xs.length) (h3 : ∀ (i : Nat) (x : α), xs[i]? = some x → ∃ cs, css[i]? = some cs ∧ P x cs ∧ cs.length = N) : ∀ cs ∈ css, cs.length = N := fun cs hm => by
  obtain ⟨i, hi⟩ := List.getElem?_of_mem hm
  have hlt : i < xs.length := by have := (List.getElem?_eq_some_iff.1 hi).1; omega
  obtain ⟨cs', h4, _, h6⟩ := h3 i _ (List.getElem?_eq_getElem hlt)
  rw [hi] at h4
  injection h4 with h4
  rw [h4]; exact h6
theorem RowO.e {α : Type} {E E' : World → α → List Value → Prop} {T N B : Nat} {w : World} {v : Value} {xs : List α} (h : RowO E T N B w v xs) (hE : ∀ x cs, E w x cs → E' w x cs) : ESl E' N w v xs := by
  obtain ⟨css, h1, h2, h3⟩ := h
  obtain ⟨p, c, rfl, hc, hm, hp, hr⟩ := ownsRow_open h2
  refine ⟨p, _, c, rfl, rfl, hc, by unfold maxLen; omega, fun hn => ?_, hp⟩
  rcases hr with h0 | ⟨g, rfl, hB, hg, hcell⟩
  · exact absurd (List.eq_nil_of_length_eq_zero h0) hn
  · refine ⟨g, 0, rfl, hg, fun i x hx => ?_⟩
    obtain ⟨cs, h4, h5, h6⟩ := h3 i x hx
    refine ⟨cs, hE x cs h5, fun j u hu => ?_⟩
    have hj : j < N := by have := (List.getElem?_eq_some_iff.1 hu).1; omega
    have := flat_at N css (css_len h1 h3) i cs h4 j hj
    rw [Nat.zero_add]
    exact hcell _ u (by rw [this]; exact hu)
/-- one more behind -/
theorem RowO.app {α : Type} {E : World → α → List Value → Prop} {T N B : Nat} {Ts : List TypeId} {w w' : World} {v v' : Value} {xs : List α} {css : List (List Value)} (h1 : css.length = xs.length) (h2 : w.ownsRow B T N v xs.length css.flatten) (h3 : ∀ (i : Nat) (x : α), xs[i]? = some x → ∃ cs, css[i]? = some cs ∧ E w x cs ∧ cs.length = N)
    (hE : KeepsO B Ts E) (hT : T ∉ Ts) {x : α} {cs : List Value} (hx : E w x cs) (hl : cs.length = N) (ho : w'.ownsRow B T N v' (xs.length + 1) (css.flatten ++ cs)) (hg : w.grownBy w' v.ownBlock) : RowO E T N B w' v' (xs ++ [x]) := by
  have hs : Stays (fun k => v.ownBlock = some k) w w' := Stays.of_grown hg fun k h => h
  have hsep : Sep B Ts w (fun k => v.ownBlock = some k) := fun k hk => by
    rcases h2.2 with ⟨rfl, _⟩ | ⟨g, cap, cur, rfl, hg, hh, _⟩
    · cases hk
    · injection hk with hk
      subst hk
      exact .inr ⟨T, cur, hh, hT⟩
  refine ⟨css ++ [cs], by simp [h1], by rw [List.length_append, List.flatten_append]; simpa using ho, fun i y hy => ?_⟩
  rcases Nat.lt_or_ge i xs.length with hi | hi
  · rw [List.getElem?_append_left hi] at hy
    obtain ⟨cs', h4, h5, h6⟩ := h3 i y hy
    exact ⟨cs', by rw [List.getElem?_append_left (by omega)]; exact h4, hE _ _ _ _ _ h5 hs hsep, h6⟩
  · rw [List.getElem?_append_right hi] at hy
    have hi0 : i - xs.length = 0 := by
      have := (List.getElem?_eq_some_iff.1 hy).1
      simp at this; omega
    rw [hi0] at hy
    injection hy with hy
    subst hy
    exact ⟨cs, by rw [List.getElem?_append_right (by omega), h1, hi0]; rfl, hE _ _ _ _ _ hx hs hsep, hl⟩
def InO (B : Nat) (w : World) (x : TIn) (cs : List Value) : Prop := ∃ sv wv, cs = hCells x.id ++ [u32 x.ix, sv, u32 x.sq, wv] ∧ x.id.length = 32 ∧ Own8 w B sv x.sc ∧ RowO (TextO B) 27 1 B w wv x.wi
def OutO (B : Nat) (w : World) (x : TOut) (cs : List Value) : Prop := ∃ sv, cs = [.int .i64 x.va.toInt, sv] ∧ Own8 w B sv x.sc
def TxO (B : Nat) (w : World) (t : TTx) (cs : List Value) : Prop := ∃ iv ov, cs = [u32 t.ve, iv, ov, u32 t.lo] ∧ RowO (InO B) 67 36 B w iv t.is ∧ RowO (OutO B) 61 2 B w ov t.os
theorem inO_keeps (B : Nat) : KeepsO B [5, 27] (InO B) := fun w w' S x cs ⟨sv, wv, h1, h2, h3, h4⟩ hs hp => ⟨sv, wv, h1, h2, h3.sep hs (hp.mono (by simp)), h4.sep (textO_keeps B) hs (hp.mono (by simp))⟩
theorem outO_keeps (B : Nat) : KeepsO B [5] (OutO B) := fun w w' S x cs ⟨sv, h1, h2⟩ hs hp => ⟨sv, h1, h2.sep hs hp⟩
theorem txO_keeps (B : Nat) : KeepsO B [5, 27, 67, 61] (TxO B) := fun w w' S x cs ⟨iv, ov, h1, h2, h3⟩ hs hp => ⟨iv, ov, h1, h2.sep (inO_keeps B) hs (hp.mono (by simp)), h3.sep (outO_keeps B) hs (hp.mono (by simp))⟩
theorem TextO.c {B : Nat} {w : World} {x : Bs} {cs : List Value} (h : TextO B w x cs) : TextC w x cs := by obtain ⟨v, h1, h2⟩ := h; exact ⟨v, h1, h2.sl⟩
theorem InO.c {B : Nat} {w : World} {x : TIn} {cs : List Value} (h : InO B w x cs) : InC w x cs := by obtain ⟨sv, wv, h1, h2, h3, h4⟩ := h; exact ⟨sv, wv, h1, h2, h3.sl, h4.e fun _ _ h => h.c⟩
theorem OutO.c {B : Nat} {w : World} {x : TOut} {cs : List Value} (h : OutO B w x cs) : OutC w x cs := by obtain ⟨sv, h1, h2⟩ := h; exact ⟨sv, h1, h2.sl⟩
theorem TxO.c {B : Nat} {w : World} {t : TTx} {cs : List Value} (h : TxO B w t cs) : TxC w t cs := by obtain ⟨iv, ov, h1, h2, h3⟩ := h; exact ⟨iv, ov, h1, h2.e fun _ _ h => h.c, h3.e fun _ _ h => h.c⟩

/-! ### a reader -/
/-- bytes that are left to a reader in block g: not in its block; in an old block, or in one of bytes -/
def Dat (B g : Nat) (w : World) (v : Value) (s : Bs) : Prop := Sl w v s ∧ (s ≠ [] → ∀ k, v.ownBlock = some k → k ≠ g ∧ (k < B ∨ ∃ cs, Blk w k 5 cs))
/-- blocks that may be written while a reader's bytes stay -/
def Rw (B g : Nat) (w : World) (S : Nat → Prop) : Prop := ∀ k, S k → k = g ∨ B ≤ k ∧ ∃ T cs, Blk w k T cs ∧ T ≠ 5
theorem Dat.stays {B g : Nat} {w w' : World} {v : Value} {s : Bs} {S : Nat → Prop} (h : Dat B g w v s) (hs : Stays S w w') (hS : Rw B g w S) : Dat B g w' v s := by
  obtain ⟨⟨p, n, c, rfl, h1, h2, h3, h4, h5⟩, h6⟩ := h
  have hn : s ≠ [] → ∀ k, (Value.slice p n c).ownBlock = some k → ¬ S k := fun hs0 k hk hSk => by
    obtain ⟨h7, h8⟩ := h6 hs0 k hk
    rcases hS k hSk with h9 | ⟨h9, T, cs, h10, h11⟩
    · exact h7 h9
    · rcases h8 with h8 | ⟨cs', h8⟩
      · omega
      · exact h11 (h10.inj h8).1
  refine ⟨⟨p, n, c, rfl, h1, h2, h3, h4.stays hs (fun hs0 a ha => hn hs0 a.block (by rw [ha]; rfl)), h5⟩, fun hs0 k hk => ?_⟩
  obtain ⟨h7, h8⟩ := h6 hs0 k hk
  exact ⟨h7, h8.imp id fun ⟨cs, h⟩ => ⟨cs, h.stays hs (hn hs0 k hk)⟩⟩
/-- a reader in block g, and what is left -/
def RdAt (B g : Nat) (w : World) (s : Bs) : Prop := ∃ v, Blk w g 75 #[v] ∧ Dat B g w v s ∧ s.length ≤ 200000000000000 ∧ g < B ∧ B ≤ w.heap.size
theorem RdAt.stays {B g : Nat} {w w' : World} {s : Bs} {S : Nat → Prop} (h : RdAt B g w s) (hs : Stays S w w') (hS : Rw B g w S) (hg : ¬ S g) : RdAt B g w' s := by
  obtain ⟨v, h1, h2, h3, h4, h5⟩ := h
  exact ⟨v, h1.stays hs hg, h2.stays hs hS, h3, h4, Nat.le_trans h5 hs.size⟩
theorem RdAt.fut {B g : Nat} {w w' : World} {s : Bs} (h : RdAt B g w s) (hb : Below w.heap.size w w') : RdAt B g w' s :=
  h.stays (Stays.of_below hb (Nat.le_refl _) (fun _ => False)) (fun _ h => h.elim) id
/-- what a reading call leaves: a value, and what is left; or a panic with a number -/
def RdP {α : Type} (B g : Nat) (w : World) (p : Pz α) (s : Bs) (V : World → α → Value → Prop) (e : Ending) (w' : World) : Prop :=
  match p s with
  | .ok (a, r) => ∃ v, e = .returned v ∧ V w' a v ∧ RdAt B g w' r ∧ Stays (· = g) w w'
  | .error k => e = .panicked [{ v := .iface 28 (.int .i64 k), recovered := false }] ∧ Stays (· = g) w w'
theorem RdP.ok {α : Type} {B g : Nat} {w : World} {p : Pz α} {s : Bs} {V : World → α → Value → Prop} {v : Value} {w' : World} {a : α} {r : Bs} (h : p s = .ok (a, r)) (h1 : V w' a v) (h2 : RdAt B g w' r) (h3 : Stays (· = g) w w') : RdP B g w p s V (.returned v) w' := by
  unfold RdP; rw [h]; exact ⟨v, rfl, h1, h2, h3⟩
theorem RdP.bad {α : Type} {B g : Nat} {w : World} {p : Pz α} {s : Bs} {V : World → α → Value → Prop} {k : Int} {w' : World} (h : p s = .error k) (h3 : Stays (· = g) w w') : RdP B g w p s V (.panicked [{ v := .iface 28 (.int .i64 k), recovered := false }]) w' := by
  unfold RdP; rw [h]; exact ⟨rfl, h3⟩
theorem textZ_eq (s : Bs) : textZ s = if (textP s 10000).2.2 = 0 then .ok ((textP s 10000).1, (textP s 10000).2.1) else .error (textP s 10000).2.2 := by
  have hv : iv64 (cutP s).1 = ((cutP s).1.toNat : Int) := rfl
  have hc : ((10000 : Int) < 0 ∧ 0 < iv64 (cutP s).1 ∨ 0 ≤ (10000 : Int) ∧ 10000 < iv64 (cutP s).1) ↔ 10000 < (cutP s).1.toNat := by omega
  have hd : (((cutP s).2.1.length : Int) < iv64 (cutP s).1) ↔ (cutP s).2.1.length < (cutP s).1.toNat := by omega
  unfold textZ Pz.bind cntZ textP takeZ
  simp only [hc, hd]
  by_cases h1 : (cutP s).2.2 = 0
  · by_cases h2 : 10000 < (cutP s).1.toNat
    · simp [h1, h2]
    · by_cases h3 : (cutP s).2.1.length < (cutP s).1.toNat
      · simp [h1, h2, h3]
      · simp [h1, h2, h3]
  · simp [h1]
/-- what is read so far, and what is still to be read -/
def contM {α : Type} (xs : List α) (p : Pz α) (m : Nat) (s : Bs) : Except Int (List α × Bs) := match manyZ p m s with
  | .ok (l, r) => .ok (xs ++ l, r)
  | .error e => .error e
theorem contM_start {α : Type} (p : Pz α) (n : Nat) (s : Bs) : manyZ p n s = contM [] p n s := by
  unfold contM
  cases manyZ p n s with
  | error e => rfl
  | ok x => rfl
theorem contM_end {α : Type} (xs : List α) (p : Pz α) (s : Bs) : contM xs p 0 s = .ok (xs, s) := by
  unfold contM manyZ Pz.ret
  simp
theorem contM_ok {α : Type} {xs : List α} {p : Pz α} {m : Nat} {s r : Bs} {a : α} (h : p s = .ok (a, r)) : contM xs p (m + 1) s = contM (xs ++ [a]) p m r := by
  unfold contM
  rw [show manyZ p (m + 1) = (p.bind fun a => (manyZ p m).bind fun l => Pz.ret (a :: l)) from rfl, Pz.bind_ok h]
  unfold Pz.bind
  cases manyZ p m r with
  | error e => rfl
  | ok x => simp [Pz.ret]
theorem contM_bad {α : Type} {xs : List α} {p : Pz α} {m : Nat} {s : Bs} {e : Int} (h : p s = .error e) : contM xs p (m + 1) s = .error e := by
  unfold contM
  rw [show manyZ p (m + 1) = (p.bind fun a => (manyZ p m).bind fun l => Pz.ret (a :: l)) from rfl, Pz.bind_err h]
end Go.Proofs.Ythglocpbdfcfnaa
