/- Transactions in memory; slices.ContainsFunc at inputs, outputs and texts. -/
import Derived.Test.YthglocpbdfcfnaaTxP
import Derived.Test.YthglocpbdfcfnaaGB
import Derived.Shelf.SlicesQ.Load
namespace Go.Proofs.Ythglocpbdfcfnaa
open Go Go.RowKit
set_option linter.unusedVariables false

/-- from p on lie elements of N cells each, which say just these -/
def RowsE {α : Type} (E : World → α → List Value → Prop) (N : Nat) (w : World) (p : Option Addr) (xs : List α) : Prop :=
  xs ≠ [] → ∃ b off, p = some ⟨b, off, none⟩ ∧ b < w.heap.size ∧ ∀ i x, xs[i]? = some x → ∃ cs, E w x cs ∧ w.rangeAt b (off + i * N) cs
/-- a slice over just these -/
def ESl {α : Type} (E : World → α → List Value → Prop) (N : Nat) (w : World) (v : Value) (xs : List α) : Prop := ∃ p n c, v = .slice p n c ∧ xs.length = n ∧ n ≤ c ∧ c ≤ maxLen ∧ RowsE E N w p xs ∧ (p = none → c = 0)
/-- a text's cell -/
def TextC (w : World) (x : Bs) (cs : List Value) : Prop := ∃ v, cs = [v] ∧ Sl w v x
def InC (w : World) (x : TIn) (cs : List Value) : Prop := ∃ sv wv, cs = hCells x.id ++ [u32 x.ix, sv, u32 x.sq, wv] ∧ x.id.length = 32 ∧ Sl w sv x.sc ∧ ESl TextC 1 w wv x.wi
def OutC (w : World) (x : TOut) (cs : List Value) : Prop := ∃ sv, cs = [.int .i64 x.va.toInt, sv] ∧ Sl w sv x.sc
def TxC (w : World) (t : TTx) (cs : List Value) : Prop := ∃ iv ov, cs = [u32 t.ve, iv, ov, u32 t.lo] ∧ ESl InC 36 w iv t.is ∧ ESl OutC 2 w ov t.os

/-- what lies stays, if all old blocks stay -/
def Keeps {α : Type} (E : World → α → List Value → Prop) : Prop := ∀ w w' x cs, E w x cs → Below w.heap.size w w' → E w' x cs
theorem range_fut {w w' : World} {b o : Nat} {cs : List Value} (h : w.rangeAt b o cs) (hb : Below w.heap.size w w') (hB : b < w.heap.size) : w'.rangeAt b o cs := fun j v hj => by
  rw [hb.cell (p := ⟨b, o + j, none⟩) hB]; exact h j v hj
theorem RowsE.fut {α : Type} {E : World → α → List Value → Prop} {N : Nat} {w w' : World} {p : Option Addr} {xs : List α} (hE : Keeps E) (h : RowsE E N w p xs) (hb : Below w.heap.size w w') : RowsE E N w' p xs := fun hn => by
  obtain ⟨b, off, rfl, hlt, hc⟩ := h hn
  refine ⟨b, off, rfl, Nat.lt_of_lt_of_le hlt hb.size, fun i x hi => ?_⟩
  obtain ⟨cs, h1, h2⟩ := hc i x hi
  exact ⟨cs, hE _ _ _ _ h1 hb, range_fut h2 hb hlt⟩
theorem ESl.fut {α : Type} {E : World → α → List Value → Prop} {N : Nat} {w w' : World} {v : Value} {xs : List α} (hE : Keeps E) (h : ESl E N w v xs) (hb : Below w.heap.size w w') : ESl E N w' v xs := by
  obtain ⟨p, n, c, h1, h2, h3, h4, h5, h6⟩ := h
  exact ⟨p, n, c, h1, h2, h3, h4, h5.fut hE hb, h6⟩
theorem textC_keeps : Keeps TextC := fun w w' x cs ⟨v, h1, h2⟩ hb => ⟨v, h1, h2.below hb (Nat.le_refl _)⟩
theorem inC_keeps : Keeps InC := fun w w' x cs ⟨sv, wv, h1, h2, h3, h4⟩ hb => ⟨sv, wv, h1, h2, h3.below hb (Nat.le_refl _), h4.fut textC_keeps hb⟩
theorem outC_keeps : Keeps OutC := fun w w' x cs ⟨sv, h1, h2⟩ hb => ⟨sv, h1, h2.below hb (Nat.le_refl _)⟩
theorem txC_keeps : Keeps TxC := fun w w' x cs ⟨iv, ov, h1, h2, h3⟩ hb => ⟨iv, ov, h1, h2.fut inC_keeps hb, h3.fut outC_keeps hb⟩
theorem InC.len {w : World} {x : TIn} {cs : List Value} (h : InC w x cs) : cs.length = 36 := by
  obtain ⟨sv, wv, rfl, h1, _⟩ := h
  simp [hCells, h1]
theorem any_take {α : Type} (p : α → Bool) (xs : List α) (k : Nat) (h : k < xs.length) (x : α) (hx : xs[k]? = some x) (h0 : (xs.take k).any p = false) (h1 : p x = false) : (xs.take (k + 1)).any p = false := by
  rw [List.take_add_one, hx, List.any_append, h0]
  simp [h1]
theorem any_hit {α : Type} (p : α → Bool) (xs : List α) (k : Nat) (x : α) (hx : xs[k]? = some x) (h1 : p x = true) : xs.any p = true := List.any_eq_true.2 ⟨x, List.mem_of_getElem? hx, h1⟩

theorem OutC.len {w : World} {x : TOut} {cs : List Value} (h : OutC w x cs) : cs.length = 2 := by
  obtain ⟨sv, rfl, _⟩ := h
  rfl
theorem info_Ins {cs : List Value} (h : cs.length = 36) : (Try.prog.info? 67).map (·.size) = some cs.length := by rw [h]; kernel_rfl
set_option maxRecDepth 100000 in
set_option maxHeartbeats 4000000 in
theorem indexIns_any (p : TIn → Bool) (g : Nat) (eg : ∀ args w, (callFunc g args).run Try.prog w = .ok (.enter g args) w) (q : Option Addr) (n c : Nat) (xs : List (TIn)) (w : World) (hn : xs.length = n) (hbig : n ≤ 9223372036854775807) (hr : RowsE InC 36 w q xs)
    (hp : ∀ W x cs, Below w.heap.size w W → InC w x cs → Calls Try.prog g #[.agg cs.toArray] W fun e w' => e = .returned (.bool (p x)) ∧ Below w.heap.size w w') :
    Calls Try.prog 85 #[.slice q n c, .func (.func g) #[] #[]] w fun e w' => ∃ k : Int, e = .returned (.int .i64 k) ∧ decide (0 ≤ k) = xs.any p ∧ Below w.heap.size w w' := by
  have hrow : ∀ (W : World), Below w.heap.size w W → ∀ j, j < n → ∃ b off cs x, q = some ⟨b, off, none⟩ ∧ xs[j]? = some x ∧ InC w x cs ∧ W.rangeAt b (off + j * 36) cs ∧ cs.length = 36 := fun W hW j hj => by
    have hx := List.getElem?_eq_getElem (l := xs) (i := j) (by omega)
    obtain ⟨b, off, rfl, hb, hc⟩ := hr (by intro h; subst h; simp at hn; omega)
    obtain ⟨cs, h1, h2⟩ := hc j _ hx
    refine ⟨b, off, cs, _, rfl, hx, h1, ?_⟩
    exact ⟨fun i v hi => (hW.cell (p := ⟨b, off + j * 36 + i, none⟩) hb).trans (h2 i v hi), h1.len⟩
  have HROW := Lib.hid hrow
  have HN := Lib.hid hn
  have HP := Lib.hid hp
  clear hrow hn hr hp
  go_enter Try.func85, Try.ntmps85
  go_wp2
  go_loopg [5, 8] n (fun gg _ s8 wr => ∃ kk : Nat, kk ≤ n ∧ n - kk ≤ gg ∧ s8 = .int .i64 kk ∧ Hid (Below w.heap.size w wr) ∧ Hid ((xs.take kk).any p = false))
  case atStart => exact ⟨0, Nat.zero_le _, by omega, rfl, Lib.hid (Below.refl _ w), Lib.hid rfl⟩
  case round =>
    obtain ⟨kk, hkk, hg, rfl, BW, A⟩ := hrel
    by_cases hlt : kk < n
    · have hltz : (kk : Int) < (n : Int) := by omega
      obtain ⟨b, off, cs, x, rfl, hx, hE, l2⟩ := HROW.out wr BW.out kk hlt
      have hcall := HP.out wr x cs BW.out hE
      have HX := Lib.hid hx
      clear hx hE
      obtain ⟨l2, l3⟩ := l2
      cases hq : p x with
      | true =>
        have HQ := Lib.hid hq
        rw [hq] at hcall
        clear hq
        go_wp2_with ((with_reducible refine wpList_load_mid (op := ⟨some 15, _, _, _, _, _⟩) ?_ 67 (.tmp 14) ?_ (b) (off + kk * 36) ?_ (cs) _ (l2) Try.underlying67 ?_ ?_ ?_
                      · rfl
                      · rfl
                      · rfl
                      · rfl
                      · exact ((info_Ins l3))))
        go_wp2_with (go_at_fn g; refine hcall.mono ?_; rintro e w' ⟨rfl, hb'⟩)
        go_ret
        refine ⟨(kk : Int), rfl, ?_, hb'⟩
        rw [any_hit p xs kk x HX.out HQ.out]
        exact decide_eq_true (by omega)
      | false =>
        have HQ := Lib.hid hq
        rw [hq] at hcall
        clear hq
        go_wp2_with ((with_reducible refine wpList_load_mid (op := ⟨some 15, _, _, _, _, _⟩) ?_ 67 (.tmp 14) ?_ (b) (off + kk * 36) ?_ (cs) _ (l2) Try.underlying67 ?_ ?_ ?_
                      · rfl
                      · rfl
                      · rfl
                      · rfl
                      · exact ((info_Ins l3))))
        go_wp2_with (go_at_fn g; refine hcall.mono ?_; rintro e w' ⟨rfl, hb'⟩)
        go_roundg (n - (kk + 1))
        case measure => omega
        case rel => exact ⟨kk + 1, by omega, by omega, by go_num, Lib.hid hb', Lib.hid (any_take p xs kk (by have := HN.out; omega) x HX.out A.out HQ.out)⟩
    · have hltz : ¬ (kk : Int) < (n : Int) := by omega
      have : kk = n := by omega
      subst this
      go_wp2
      go_ret
      have h0 := A.out
      rw [List.take_of_length_le (by have := HN.out; omega)] at h0
      refine ⟨-1, rfl, ?_, BW.out⟩
      rw [h0]; rfl
set_option maxRecDepth 100000 in
set_option maxHeartbeats 4000000 in
theorem containsIns_any (p : TIn → Bool) (g : Nat) (eg : ∀ args w, (callFunc g args).run Try.prog w = .ok (.enter g args) w) (v : Value) (xs : List (TIn)) (w : World) (hv : ESl InC 36 w v xs)
    (hp : ∀ W x cs, Below w.heap.size w W → InC w x cs → Calls Try.prog g #[.agg cs.toArray] W fun e w' => e = .returned (.bool (p x)) ∧ Below w.heap.size w w') :
    Calls Try.prog 63 #[v, .func (.func g) #[] #[]] w fun e w' => e = .returned (.bool (xs.any p)) ∧ Below w.heap.size w w' := by
  obtain ⟨q, n, c, rfl, h1, h2, h3, h4, h5⟩ := hv
  have hcon := indexIns_any p g eg q n c xs w h1 (by unfold maxLen at h3; omega) h4 hp
  obtain ⟨r, hr⟩ : ∃ r, r = xs.any p := ⟨_, rfl⟩
  rw [← hr] at hcon ⊢
  clear hr h1 h2 h3 h4 h5 hp eg
  go_enter Try.func63, Try.ntmps63
  go_wp2_with (refine hcon.mono ?_; rintro e w' ⟨k, rfl, hk, hb'⟩)
  go_ret
  exact ⟨by rw [← hk]; rfl, hb'⟩
theorem info_Outs {cs : List Value} (h : cs.length = 2) : (Try.prog.info? 61).map (·.size) = some cs.length := by rw [h]; kernel_rfl
set_option maxRecDepth 100000 in
set_option maxHeartbeats 4000000 in
theorem indexOuts_any (p : TOut → Bool) (g : Nat) (eg : ∀ args w, (callFunc g args).run Try.prog w = .ok (.enter g args) w) (q : Option Addr) (n c : Nat) (xs : List (TOut)) (w : World) (hn : xs.length = n) (hbig : n ≤ 9223372036854775807) (hr : RowsE OutC 2 w q xs)
    (hp : ∀ W x cs, Below w.heap.size w W → OutC w x cs → Calls Try.prog g #[.agg cs.toArray] W fun e w' => e = .returned (.bool (p x)) ∧ Below w.heap.size w w') :
    Calls Try.prog 86 #[.slice q n c, .func (.func g) #[] #[]] w fun e w' => ∃ k : Int, e = .returned (.int .i64 k) ∧ decide (0 ≤ k) = xs.any p ∧ Below w.heap.size w w' := by
  have hrow : ∀ (W : World), Below w.heap.size w W → ∀ j, j < n → ∃ b off cs x, q = some ⟨b, off, none⟩ ∧ xs[j]? = some x ∧ OutC w x cs ∧ W.rangeAt b (off + j * 2) cs ∧ cs.length = 2 := fun W hW j hj => by
    have hx := List.getElem?_eq_getElem (l := xs) (i := j) (by omega)
    obtain ⟨b, off, rfl, hb, hc⟩ := hr (by intro h; subst h; simp at hn; omega)
    obtain ⟨cs, h1, h2⟩ := hc j _ hx
    refine ⟨b, off, cs, _, rfl, hx, h1, ?_⟩
    exact ⟨fun i v hi => (hW.cell (p := ⟨b, off + j * 2 + i, none⟩) hb).trans (h2 i v hi), h1.len⟩
  have HROW := Lib.hid hrow
  have HN := Lib.hid hn
  have HP := Lib.hid hp
  clear hrow hn hr hp
  go_enter Try.func86, Try.ntmps86
  go_wp2
  go_loopg [5, 8] n (fun gg _ s8 wr => ∃ kk : Nat, kk ≤ n ∧ n - kk ≤ gg ∧ s8 = .int .i64 kk ∧ Hid (Below w.heap.size w wr) ∧ Hid ((xs.take kk).any p = false))
  case atStart => exact ⟨0, Nat.zero_le _, by omega, rfl, Lib.hid (Below.refl _ w), Lib.hid rfl⟩
  case round =>
    obtain ⟨kk, hkk, hg, rfl, BW, A⟩ := hrel
    by_cases hlt : kk < n
    · have hltz : (kk : Int) < (n : Int) := by omega
      obtain ⟨b, off, cs, x, rfl, hx, hE, l2⟩ := HROW.out wr BW.out kk hlt
      have hcall := HP.out wr x cs BW.out hE
      have HX := Lib.hid hx
      clear hx hE
      obtain ⟨l2, l3⟩ := l2
      cases hq : p x with
      | true =>
        have HQ := Lib.hid hq
        rw [hq] at hcall
        clear hq
        go_wp2_with ((with_reducible refine wpList_load_mid (op := ⟨some 15, _, _, _, _, _⟩) ?_ 61 (.tmp 14) ?_ (b) (off + kk * 2) ?_ (cs) _ (l2) Try.underlying61 ?_ ?_ ?_
                      · rfl
                      · rfl
                      · rfl
                      · rfl
                      · exact ((info_Outs l3))))
        go_wp2_with (go_at_fn g; refine hcall.mono ?_; rintro e w' ⟨rfl, hb'⟩)
        go_ret
        refine ⟨(kk : Int), rfl, ?_, hb'⟩
        rw [any_hit p xs kk x HX.out HQ.out]
        exact decide_eq_true (by omega)
      | false =>
        have HQ := Lib.hid hq
        rw [hq] at hcall
        clear hq
        go_wp2_with ((with_reducible refine wpList_load_mid (op := ⟨some 15, _, _, _, _, _⟩) ?_ 61 (.tmp 14) ?_ (b) (off + kk * 2) ?_ (cs) _ (l2) Try.underlying61 ?_ ?_ ?_
                      · rfl
                      · rfl
                      · rfl
                      · rfl
                      · exact ((info_Outs l3))))
        go_wp2_with (go_at_fn g; refine hcall.mono ?_; rintro e w' ⟨rfl, hb'⟩)
        go_roundg (n - (kk + 1))
        case measure => omega
        case rel => exact ⟨kk + 1, by omega, by omega, by go_num, Lib.hid hb', Lib.hid (any_take p xs kk (by have := HN.out; omega) x HX.out A.out HQ.out)⟩
    · have hltz : ¬ (kk : Int) < (n : Int) := by omega
      have : kk = n := by omega
      subst this
      go_wp2
      go_ret
      have h0 := A.out
      rw [List.take_of_length_le (by have := HN.out; omega)] at h0
      refine ⟨-1, rfl, ?_, BW.out⟩
      rw [h0]; rfl
set_option maxRecDepth 100000 in
set_option maxHeartbeats 4000000 in
theorem containsOuts_any (p : TOut → Bool) (g : Nat) (eg : ∀ args w, (callFunc g args).run Try.prog w = .ok (.enter g args) w) (v : Value) (xs : List (TOut)) (w : World) (hv : ESl OutC 2 w v xs)
    (hp : ∀ W x cs, Below w.heap.size w W → OutC w x cs → Calls Try.prog g #[.agg cs.toArray] W fun e w' => e = .returned (.bool (p x)) ∧ Below w.heap.size w w') :
    Calls Try.prog 64 #[v, .func (.func g) #[] #[]] w fun e w' => e = .returned (.bool (xs.any p)) ∧ Below w.heap.size w w' := by
  obtain ⟨q, n, c, rfl, h1, h2, h3, h4, h5⟩ := hv
  have hcon := indexOuts_any p g eg q n c xs w h1 (by unfold maxLen at h3; omega) h4 hp
  obtain ⟨r, hr⟩ : ∃ r, r = xs.any p := ⟨_, rfl⟩
  rw [← hr] at hcon ⊢
  clear hr h1 h2 h3 h4 h5 hp eg
  go_enter Try.func64, Try.ntmps64
  go_wp2_with (refine hcon.mono ?_; rintro e w' ⟨k, rfl, hk, hb'⟩)
  go_ret
  exact ⟨by rw [← hk]; rfl, hb'⟩

set_option maxRecDepth 100000 in
set_option maxHeartbeats 4000000 in
theorem indexTexts_any (p : Bs → Bool) (g : Nat) (eg : ∀ args w, (callFunc g args).run Try.prog w = .ok (.enter g args) w) (q : Option Addr) (n c : Nat) (xs : List (Bs)) (w : World) (hn : xs.length = n) (hbig : n ≤ 9223372036854775807) (hr : RowsE TextC 1 w q xs)
    (hp : ∀ W x cs, Below w.heap.size w W → TextC w x cs → Calls Try.prog g #[cs.head!] W fun e w' => e = .returned (.bool (p x)) ∧ Below w.heap.size w w') :
    Calls Try.prog 84 #[.slice q n c, .func (.func g) #[] #[]] w fun e w' => ∃ k : Int, e = .returned (.int .i64 k) ∧ decide (0 ≤ k) = xs.any p ∧ Below w.heap.size w w' := by
  have hrow : ∀ (W : World), Below w.heap.size w W → ∀ j, j < n → ∃ b off cs x, q = some ⟨b, off, none⟩ ∧ xs[j]? = some x ∧ TextC w x cs ∧ ∃ v, cs = [v] ∧ W.cell? ⟨b, off + j, none⟩ = some v := fun W hW j hj => by
    have hx := List.getElem?_eq_getElem (l := xs) (i := j) (by omega)
    obtain ⟨b, off, rfl, hb, hc⟩ := hr (by intro h; subst h; simp at hn; omega)
    obtain ⟨cs, h1, h2⟩ := hc j _ hx
    refine ⟨b, off, cs, _, rfl, hx, h1, ?_⟩
    obtain ⟨v, rfl, h3⟩ := h1
    refine ⟨v, rfl, ?_⟩
    rw [hW.cell (p := ⟨b, off + j, none⟩) hb]
    have := h2 0 v rfl
    rwa [Nat.mul_one, Nat.add_zero] at this
  have HROW := Lib.hid hrow
  have HN := Lib.hid hn
  have HP := Lib.hid hp
  clear hrow hn hr hp
  go_enter Try.func84, Try.ntmps84
  go_wp2
  go_loopg [5, 8] n (fun gg _ s8 wr => ∃ kk : Nat, kk ≤ n ∧ n - kk ≤ gg ∧ s8 = .int .i64 kk ∧ Hid (Below w.heap.size w wr) ∧ Hid ((xs.take kk).any p = false))
  case atStart => exact ⟨0, Nat.zero_le _, by omega, rfl, Lib.hid (Below.refl _ w), Lib.hid rfl⟩
  case round =>
    obtain ⟨kk, hkk, hg, rfl, BW, A⟩ := hrel
    by_cases hlt : kk < n
    · have hltz : (kk : Int) < (n : Int) := by omega
      obtain ⟨b, off, cs, x, rfl, hx, hE, l2⟩ := HROW.out wr BW.out kk hlt
      have hcall := HP.out wr x cs BW.out hE
      have HX := Lib.hid hx
      clear hx hE
      obtain ⟨v, rfl, l2⟩ := l2
      replace hcall := hcall
      simp only [List.head!] at hcall
      cases hq : p x with
      | true =>
        have HQ := Lib.hid hq
        rw [hq] at hcall
        clear hq
        go_wp2_with (go_at_fn g; refine hcall.mono ?_; rintro e w' ⟨rfl, hb'⟩)
        go_ret
        refine ⟨(kk : Int), rfl, ?_, hb'⟩
        rw [any_hit p xs kk x HX.out HQ.out]
        exact decide_eq_true (by omega)
      | false =>
        have HQ := Lib.hid hq
        rw [hq] at hcall
        clear hq
        go_wp2_with (go_at_fn g; refine hcall.mono ?_; rintro e w' ⟨rfl, hb'⟩)
        go_roundg (n - (kk + 1))
        case measure => omega
        case rel => exact ⟨kk + 1, by omega, by omega, by go_num, Lib.hid hb', Lib.hid (any_take p xs kk (by have := HN.out; omega) x HX.out A.out HQ.out)⟩
    · have hltz : ¬ (kk : Int) < (n : Int) := by omega
      have : kk = n := by omega
      subst this
      go_wp2
      go_ret
      have h0 := A.out
      rw [List.take_of_length_le (by have := HN.out; omega)] at h0
      refine ⟨-1, rfl, ?_, BW.out⟩
      rw [h0]; rfl
set_option maxRecDepth 100000 in
set_option maxHeartbeats 4000000 in
theorem containsTexts_any (p : Bs → Bool) (g : Nat) (eg : ∀ args w, (callFunc g args).run Try.prog w = .ok (.enter g args) w) (v : Value) (xs : List (Bs)) (w : World) (hv : ESl TextC 1 w v xs)
    (hp : ∀ W x cs, Below w.heap.size w W → TextC w x cs → Calls Try.prog g #[cs.head!] W fun e w' => e = .returned (.bool (p x)) ∧ Below w.heap.size w w') :
    Calls Try.prog 61 #[v, .func (.func g) #[] #[]] w fun e w' => e = .returned (.bool (xs.any p)) ∧ Below w.heap.size w w' := by
  obtain ⟨q, n, c, rfl, h1, h2, h3, h4, h5⟩ := hv
  have hcon := indexTexts_any p g eg q n c xs w h1 (by unfold maxLen at h3; omega) h4 hp
  obtain ⟨r, hr⟩ : ∃ r, r = xs.any p := ⟨_, rfl⟩
  rw [← hr] at hcon ⊢
  clear hr h1 h2 h3 h4 h5 hp eg
  go_enter Try.func61, Try.ntmps61
  go_wp2_with (refine hcon.mono ?_; rintro e w' ⟨k, rfl, hk, hb'⟩)
  go_ret
  exact ⟨by rw [← hk]; rfl, hb'⟩

end Go.Proofs.Ythglocpbdfcfnaa
