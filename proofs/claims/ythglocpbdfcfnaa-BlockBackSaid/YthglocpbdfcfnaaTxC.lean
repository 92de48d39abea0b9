/- tx.Can, tx.witnessed: the walks. -/
import Derived.Test.YthglocpbdfcfnaaTxM
namespace Go.Proofs.Ythglocpbdfcfnaa
open Go Go.RowKit
set_option linter.unusedVariables false

set_option maxRecDepth 100000 in
set_option maxHeartbeats 2000000 in
theorem long_any (v : Value) (x : Bs) (w : World) (h : Sl w v x) : Calls Try.prog 60 #[v] w fun e w' => e = .returned (.bool (decide (10000 < x.length))) ∧ w' = w := by
  obtain ⟨p, n, c, rfl, h1, _⟩ := h
  have e : decide (10000 < x.length) = decide ((10000 : Int) < (n : Int)) := decide_eq_decide.2 (by omega)
  rw [e]
  clear e h1
  go_enter Try.func60, Try.ntmps60
  go_wp2
  go_ret
  exact ⟨rfl, rfl⟩
set_option maxRecDepth 100000 in
set_option maxHeartbeats 2000000 in
theorem badOut_any (x : TOut) (cs : List Value) (w : World) (h : OutC w x cs) : Calls Try.prog 62 #[.agg cs.toArray] w fun e w' => e = .returned (.bool (!canOut x)) ∧ Below w.heap.size w w' := by
  obtain ⟨sv, rfl, hs⟩ := h
  have e : (!canOut x) = (decide (x.va.toInt < 0) || decide (10000 < x.sc.length)) := by unfold canOut; simp
  rw [e]
  obtain ⟨V, hV⟩ : ∃ V, V = x.va.toInt := ⟨_, rfl⟩
  obtain ⟨r, hr⟩ : ∃ r, r = decide (10000 < x.sc.length) := ⟨_, rfl⟩
  have hl := fun W hW => long_any sv x.sc W hW
  rw [← hr] at hl ⊢
  rw [← hV]
  have HL := Lib.hid hl
  have HS := Lib.hid hs
  clear e hV hr hs hl
  go_enter Try.func62, Try.ntmps62
  go_upto_region 1 with fail
  have hb1 := below_new w (.cells #[.int .i64 V, sv] 61)
  have HB := Lib.hid (Blk.new w 61 #[.int .i64 V, sv])
  have HS1 := Lib.hid (HS.out.below hb1 (Nat.le_refl _))
  generalize w.alloc (.cells #[.int .i64 V, sv] 61) = w1 at *
  have c0 := HB.out.cell 0
  have c1 := HB.out.cell 1
  simp only [List.getElem?_toArray, List.getElem?_cons_zero, List.getElem?_cons_succ] at c0 c1
  by_cases hlt : V < 0
  · go_wp2
    go_ret
    exact ⟨by simp [hlt], hb1⟩
  · go_wp2_with (refine (HL.out _ HS1.out).mono ?_; rintro e w2 ⟨rfl, hw2⟩; replace hw2 := hw2.symm; subst hw2)
    go_ret
    exact ⟨by rw [decide_eq_false (by omega)]; rfl, hb1⟩
/-- an input's cells, one by one -/
theorem InC.cell {w : World} {x : TIn} {cs : List Value} (h : InC w x cs) : ∃ sv wv, cs[32]? = some (u32 x.ix) ∧ cs[33]? = some sv ∧ cs[34]? = some (u32 x.sq) ∧ cs[35]? = some wv ∧ Sl w sv x.sc ∧ ESl TextC 1 w wv x.wi := by
  obtain ⟨sv, wv, rfl, h1, h2, h3⟩ := h
  have hl : (hCells x.id).length = 32 := by simp [hCells, h1]
  refine ⟨sv, wv, ?_, ?_, ?_, ?_, h2, h3⟩ <;> rw [List.getElem?_append_right (by omega), hl] <;> rfl
theorem longs_any (v : Value) (xs : List Bs) (w : World) (h : ESl TextC 1 w v xs) : Calls Try.prog 61 #[v, .func (.func 60) #[] #[]] w fun e w' => e = .returned (.bool (xs.any fun b => decide (10000 < b.length))) ∧ Below w.heap.size w w' :=
  containsTexts_any (fun b => decide (10000 < b.length)) 60 (enters_of Try.func60 (by kernel_rfl) rfl) v xs w h fun W x cs hb ⟨u, e, hs⟩ => by
    subst e
    refine (long_any u x W (hs.below hb (Nat.le_refl _))).mono ?_
    rintro e w' ⟨rfl, rfl⟩
    exact ⟨rfl, hb⟩
set_option maxRecDepth 100000 in
set_option maxHeartbeats 4000000 in
theorem badIn_any (x : TIn) (cs : List Value) (w : World) (h : InC w x cs) : Calls Try.prog 59 #[.agg cs.toArray] w fun e w' => e = .returned (.bool (!canIn x)) ∧ Below w.heap.size w w' := by
  obtain ⟨sv, wv, _, k33, _, k35, hs, hw⟩ := h.cell
  have hcl := h.len
  have e : (!canIn x) = (decide (10000 < x.sc.length) || (decide (100 < x.wi.length) || x.wi.any fun b => decide (10000 < b.length))) := by
    unfold canIn
    simp [List.not_all_eq_any_not]
  rw [e]
  have hl := fun W hW => long_any sv x.sc W hW
  have hc := fun W hW => longs_any wv x.wi W hW
  obtain ⟨r, hr⟩ : ∃ r, r = decide (10000 < x.sc.length) := ⟨_, rfl⟩
  obtain ⟨s, hs'⟩ : ∃ s, s = x.wi.any fun b => decide (10000 < b.length) := ⟨_, rfl⟩
  rw [← hr] at hl ⊢
  rw [← hs'] at hc ⊢
  have hb1 := below_new w (.cells cs.toArray 67)
  have HB := Lib.hid (Blk.new w 67 cs.toArray)
  have HS1 := Lib.hid (hs.below hb1 (Nat.le_refl _))
  have HW1 := Lib.hid (hw.fut textC_keeps hb1)
  have c33 := HB.out.cell 33
  have c35 := HB.out.cell 35
  rw [List.getElem?_toArray] at c33 c35
  rw [k33] at c33
  rw [k35] at c35
  obtain ⟨q, n, c, rfl, hn, _⟩ := hw
  have e2 : decide (100 < x.wi.length) = decide ((100 : Int) < (n : Int)) := decide_eq_decide.2 (by omega)
  rw [e2]
  have HL := Lib.hid hl
  have HC := Lib.hid hc
  clear e e2 hr hs hl hc hs' hn h k33 k35 hcl
  go_enter Try.func59, Try.ntmps59
  go_upto_region 1 with fail
  generalize w.alloc (.cells cs.toArray 67) = w1 at *
  cases r with
  | true =>
    go_wp2_with (refine (HL.out _ HS1.out).mono ?_; rintro e w2 ⟨rfl, hw2⟩; replace hw2 := hw2.symm; subst hw2)
    go_ret
    exact ⟨by simp, hb1⟩
  | false =>
    by_cases hlt : 100 < n
    · have hli : (100 : Int) < (n : Int) := by omega
      go_wp2_with (refine (HL.out _ HS1.out).mono ?_; rintro e w2 ⟨rfl, hw2⟩; replace hw2 := hw2.symm; subst hw2)
      go_ret
      exact ⟨by simp [hli], hb1⟩
    · have hli : ¬ (100 : Int) < (n : Int) := by omega
      go_wp2_with (refine (HL.out _ HS1.out).mono ?_; rintro e w2 ⟨rfl, hw2⟩; replace hw2 := hw2.symm; subst hw2)
      refine (HC.out _ HW1.out).mono ?_
      rintro e w2 ⟨rfl, hb2⟩
      go_wp2_with fail
      go_ret
      exact ⟨by simp [], below_fut hb1 hb2 (Nat.le_refl _)⟩
theorem badIns_any (v : Value) (xs : List TIn) (w : World) (h : ESl InC 36 w v xs) : Calls Try.prog 63 #[v, .func (.func 59) #[] #[]] w fun e w' => e = .returned (.bool (!xs.all canIn)) ∧ Below w.heap.size w w' := by
  rw [List.not_all_eq_any_not]
  exact containsIns_any (fun x => !canIn x) 59 (enters_of Try.func59 (by kernel_rfl) rfl) v xs w h fun W x cs hb hx =>
    (badIn_any x cs W (inC_keeps _ _ _ _ hx hb)).mono fun e w' ⟨h1, h2⟩ => ⟨h1, below_fut hb h2 (Nat.le_refl _)⟩
theorem badOuts_any (v : Value) (xs : List TOut) (w : World) (h : ESl OutC 2 w v xs) : Calls Try.prog 64 #[v, .func (.func 62) #[] #[]] w fun e w' => e = .returned (.bool (!xs.all canOut)) ∧ Below w.heap.size w w' := by
  rw [List.not_all_eq_any_not]
  exact containsOuts_any (fun x => !canOut x) 62 (enters_of Try.func62 (by kernel_rfl) rfl) v xs w h fun W x cs hb hx =>
    (badOut_any x cs W (outC_keeps _ _ _ _ hx hb)).mono fun e w' ⟨h1, h2⟩ => ⟨h1, below_fut hb h2 (Nat.le_refl _)⟩
set_option maxRecDepth 100000 in
set_option maxHeartbeats 4000000 in
theorem txCan_any (t : TTx) (cs : List Value) (w : World) (h : TxC w t cs) : Calls Try.prog 26 #[.agg cs.toArray] w fun e w' => e = .returned (.bool (canTx t)) ∧ Below w.heap.size w w' := by
  obtain ⟨iv, ov, rfl, hi, ho⟩ := h
  have hci := fun W hW => badIns_any iv t.is W hW
  have hco := fun W hW => badOuts_any ov t.os W hW
  have hb1 := below_new w (.cells #[u32 t.ve, iv, ov, u32 t.lo] 26)
  have HB := Lib.hid (Blk.new w 26 #[u32 t.ve, iv, ov, u32 t.lo])
  have HI1 := Lib.hid (hi.fut inC_keeps hb1)
  have HO1 := Lib.hid (ho.fut outC_keeps hb1)
  obtain ⟨p, n, c, rfl, hn, _⟩ := hi
  obtain ⟨q, m, d, rfl, hm, _⟩ := ho
  have e : canTx t = (decide (0 < n) && (decide (n ≤ 2000) && (decide (m ≤ 2000) && (t.is.all canIn && t.os.all canOut)))) := by unfold canTx; rw [hn, hm]
  rw [e]
  obtain ⟨r, hr⟩ : ∃ r, r = t.is.all canIn := ⟨_, rfl⟩
  obtain ⟨s, hs⟩ : ∃ s, s = t.os.all canOut := ⟨_, rfl⟩
  rw [← hr] at hci ⊢
  rw [← hs] at hco ⊢
  have HCI := Lib.hid hci
  have HCO := Lib.hid hco
  obtain ⟨vv, hvv⟩ : ∃ v, v = u32 t.ve := ⟨_, rfl⟩
  obtain ⟨vl, hvl⟩ : ∃ v, v = u32 t.lo := ⟨_, rfl⟩
  rw [← hvv, ← hvl] at hb1 HB HI1 HO1 ⊢
  clear e hr hs hci hco hn hm hvv hvl
  have c1 := HB.out.cell 1
  have c2 := HB.out.cell 2
  simp only [List.getElem?_toArray, List.getElem?_cons_zero, List.getElem?_cons_succ] at c1 c2
  go_enter Try.func26, Try.ntmps26
  go_upto_region 1 with fail
  generalize w.alloc (.cells #[vv, .slice p n c, .slice q m d, vl] 26) = w1 at *
  by_cases h1 : 0 < n
  case neg =>
    have hli : ¬ (0 : Int) < (n : Int) := by omega
    go_wp2_with fail
    go_ret
    exact ⟨by simp [], hb1⟩
  have hl1 : (0 : Int) < (n : Int) := by omega
  by_cases h2 : n ≤ 2000
  case neg =>
    have hl2 : ¬ (n : Int) ≤ (2000 : Int) := by omega
    go_wp2_with fail
    go_ret
    exact ⟨by simp [], hb1⟩
  have hl2 : (n : Int) ≤ (2000 : Int) := by omega
  by_cases h3 : m ≤ 2000
  case neg =>
    have hl3 : ¬ (m : Int) ≤ (2000 : Int) := by omega
    go_wp2_with fail
    go_ret
    exact ⟨by simp [], hb1⟩
  have hl3 : (m : Int) ≤ (2000 : Int) := by omega
  cases r with
  | false =>
    go_wp2_with fail
    refine (HCI.out _ HI1.out).mono ?_
    rintro e w2 ⟨rfl, hb2⟩
    go_wp2_with fail
    go_ret
    exact ⟨by simp, below_fut hb1 hb2 (Nat.le_refl _)⟩
  | true =>
    go_wp2_with fail
    refine (HCI.out _ HI1.out).mono ?_
    rintro e w2 ⟨rfl, hb2⟩
    have c2' := (hb2.cell (p := ⟨w.heap.size, 2, none⟩) (HB.out.lt)).trans c2
    go_wp2_with fail
    refine (HCO.out _ (HO1.out.fut outC_keeps hb2)).mono ?_
    rintro e w3 ⟨rfl, hb3⟩
    go_wp2_with fail
    go_ret
    exact ⟨by simp [h1, h2, h3], below_fut (below_fut hb1 hb2 (Nat.le_refl _)) hb3 (Nat.le_refl _)⟩

/-! ### witnessed -/
set_option maxRecDepth 100000 in
set_option maxHeartbeats 4000000 in
theorem wit1_any (x : TIn) (cs : List Value) (w : World) (h : InC w x cs) : Calls Try.prog 65 #[.agg cs.toArray] w fun e w' => e = .returned (.bool (decide (0 < x.wi.length))) ∧ Below w.heap.size w w' := by
  obtain ⟨sv, wv, _, _, _, k35, hs, q, n, c, rfl, hn, _⟩ := h.cell
  have e : decide (0 < x.wi.length) = decide (0 < n) := decide_eq_decide.2 (by omega)
  rw [e]
  have hb1 := below_new w (.cells cs.toArray 67)
  have HB := Lib.hid (Blk.new w 67 cs.toArray)
  have c35 := HB.out.cell 35
  rw [List.getElem?_toArray, k35] at c35
  clear e hn h k35 hs
  go_enter Try.func65, Try.ntmps65
  go_upto_region 1 with fail
  generalize w.alloc (.cells cs.toArray 67) = w1 at *
  go_wp2_with fail
  go_ret
  exact ⟨rfl, hb1⟩
set_option maxRecDepth 100000 in
set_option maxHeartbeats 4000000 in
theorem witnessed_any (t : TTx) (cs : List Value) (w : World) (h : TxC w t cs) : Calls Try.prog 28 #[.agg cs.toArray] w fun e w' => e = .returned (.bool (hasWs t.is)) ∧ Below w.heap.size w w' := by
  obtain ⟨iv, ov, rfl, hi, _⟩ := h
  obtain ⟨vv, hvv⟩ : ∃ v, v = u32 t.ve := ⟨_, rfl⟩
  obtain ⟨vl, hvl⟩ : ∃ v, v = u32 t.lo := ⟨_, rfl⟩
  rw [← hvv, ← hvl]
  have hb1 := below_new w (.cells #[vv, iv, ov, vl] 26)
  have HB := Lib.hid (Blk.new w 26 #[vv, iv, ov, vl])
  have hc := containsIns_any (fun x => decide (0 < x.wi.length)) 65 (enters_of Try.func65 (by kernel_rfl) rfl) iv t.is _ (hi.fut inC_keeps hb1) fun W x cs hb hx =>
    (wit1_any x cs W (inC_keeps _ _ _ _ hx hb)).mono fun e w' ⟨h1, h2⟩ => ⟨h1, below_fut hb h2 (Nat.le_refl _)⟩
  have HC := Lib.hid hc
  have c1 := HB.out.cell 1
  simp only [List.getElem?_toArray, List.getElem?_cons_zero, List.getElem?_cons_succ] at c1
  unfold hasWs
  clear hc hi hvv hvl
  go_enter Try.func28, Try.ntmps28
  go_upto_region 1 with fail
  generalize w.alloc (.cells #[vv, iv, ov, vl] 26) = w1 at *
  go_wp2_with fail
  refine HC.out.mono ?_
  rintro e w2 ⟨rfl, hb2⟩
  go_wp2_with fail
  go_ret
  exact ⟨rfl, below_fut hb1 hb2 (Nat.le_refl _)⟩
end Go.Proofs.Ythglocpbdfcfnaa
