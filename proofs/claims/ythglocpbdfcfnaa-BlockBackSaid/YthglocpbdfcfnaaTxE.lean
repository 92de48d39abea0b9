/- tx.low, tx.text, tx.out, tx.in: bytes behind others. -/
import Derived.Test.YthglocpbdfcfnaaTxC
namespace Go.Proofs.Ythglocpbdfcfnaa
open Go Go.RowKit
set_option linter.unusedVariables false

/-- from w on, with the row v, a world in which all old blocks but v's own stay, and a row that lies in v's own block or in a new one -/
def Grew (w : World) (v : Value) (w' : World) (v' : Value) : Prop := Stays (fun k => v.ownBlock = some k) w w' ∧ ∀ k, v'.ownBlock = some k → v.ownBlock = some k ∨ w.heap.size ≤ k
theorem Grew.refl (w : World) (v : Value) : Grew w v w v := ⟨Stays.refl _ _, fun k h => .inl h⟩
theorem Grew.trans {w w1 w2 : World} {v v1 v2 : Value} (h : Grew w v w1 v1) (h2 : Grew w1 v1 w2 v2) : Grew w v w2 v2 :=
  ⟨h.1.trans h2.1 (fun k hk hS => (h.2 k hS).resolve_right (by omega)), fun k hk => by
    have := h.1.size
    rcases h2.2 k hk with h3 | h3
    · exact h.2 k h3
    · exact .inr (by omega)⟩
theorem Grew.fut {w w1 w2 : World} {v v1 : Value} (h : Grew w v w1 v1) (hb : Below w1.heap.size w1 w2) : Grew w v w2 v1 := ⟨h.1.trans (Stays.of_below hb (Nat.le_refl _) (fun _ => False)) (fun _ _ h => h.elim), h.2⟩
theorem Grew.ahead {w w1 w2 : World} {v v1 : Value} (hb : Below w.heap.size w w1) (h : Grew w1 v w2 v1) : Grew w v w2 v1 :=
  ⟨(Stays.of_below hb (Nat.le_refl _) (fun k => v.ownBlock = some k)).trans h.1 (fun k _ h => h), fun k hk => (h.2 k hk).imp id fun h => by have := hb.size; omega⟩
theorem Grew.of_app {w w' : World} {v v' : Value} (hg : w.grownBy w' v.ownBlock) (h : v'.ownBlock = v.ownBlock ∨ v'.ownBlock = some w.heap.size) : Grew w v w' v' :=
  ⟨Stays.of_grown hg (fun k h => h), fun k hk => by
    rcases h with h | h
    · exact .inl (h ▸ hk)
    · rw [h] at hk; injection hk with hk; exact .inr (by omega)⟩
theorem Grew.below {w w' : World} {B : Nat} {v v' : Value} {ys : Bs} (h : Grew w v w' v') (ho : Own8 w B v ys) (hB : B ≤ w.heap.size) : Below B w w' := h.1.below hB fun k hk => (World.ownsRow.lt ho k hk).1
theorem Grew.blk {w w' : World} {v v' : Value} {g : Nat} {t : TypeId} {cs : Array Value} (h : Grew w v w' v') (hg : Blk w g t cs) (hn : v.ownBlock ≠ some g) : Blk w' g t cs := hg.stays h.1 hn
/-- a block that is not the row's own is not that of the row that grew -/
theorem Grew.not {w w' : World} {v v' : Value} {g : Nat} (h : Grew w v w' v') (hn : v.ownBlock ≠ some g) (hg : g < w.heap.size) : v'.ownBlock ≠ some g := fun e => (h.2 g e).elim hn (by omega)
/-- the row's own bytes, with more behind them -/
def AppTo (w : World) (B : Nat) (v : Value) (bs : Bs) (e : Ending) (w' : World) : Prop := ∃ v', e = .returned v' ∧ Own8 w' B v' bs ∧ Grew w v w' v'

set_option maxRecDepth 100000 in
set_option maxHeartbeats 2000000 in
theorem txLow_any (n : BitVec 64) (m : Nat) (hm : m ≤ 8) (B : Nat) (w : World) (v : Value) (ys : Bs) (hB : B ≤ w.heap.size) (ho : Own8 w B v ys) (hl : ys.length ≤ 100000000000000) :
    Calls Try.prog 27 #[v, .int .u64 (iv64 n), .int .i64 (m : Int)] w (AppTo w B v (ys ++ low n m)) := by
  have HL := Lib.hid hl
  clear hl
  obtain ⟨V, hV⟩ : ∃ V, V = v := ⟨_, rfl⟩
  have hg0 : Hid (Grew w V w v) := Lib.hid (by rw [hV]; exact Grew.refl w v)
  rw [show AppTo w B v = AppTo w B V by rw [hV]]
  clear hV
  go_enter Try.func27, Try.ntmps27
  go_wp2
  go_loopw [0, 9] (fun v i wr => ∃ k : Nat, k ≤ m ∧ i = .int .i64 k ∧ Own8 wr B v (ys ++ low n k) ∧ Hid (Grew w V wr v)) (fun _ i _ => m - (intOf i).toNat)
  case atStart => exact ⟨0, by omega, rfl, by rw [show low n 0 = [] from rfl, List.append_nil]; exact ho, hg0⟩
  case round =>
    obtain ⟨k, hk, rfl, hown, hgr⟩ := hrel
    by_cases hkm : k < m
    · have hlt : (k : Int) < (m : Int) := by omega
      have hsz : B ≤ wr.heap.size := Nat.le_trans hB hgr.out.1.size
      have hlk := low_len n k
      have hb1 : (0 : Int) ≤ 8 * (k : Int) := by omega
      have hb2 : 8 * (k : Int) ≤ 56 := by omega
      have hsh := shrB n k
      have hrow := new_one wr (byteN n k)
      go_wp2_with (with_reducible refine wp_append8 (o := ⟨some 19, _, _, _, _, _⟩) ?_ (.tmp 12) (.tmp 18) ?_ B _ (ys ++ low n k) ?_ (hown.alloc _) (some ⟨wr.heap.size, 0, none⟩) 1 1 [byteN n k] ?_ rfl ?_ ?_ ?_ B (wr.alloc (.cells #[u8 (byteN n k)] 5)) ?_ ?_ ?_
                   · rfl
                   · rfl
                   · rfl
                   · rfl
                   · exact hrow
                   · rw [List.length_append, hlk]; simp only [List.length_cons, List.length_nil]; have := HL.out; omega
                   · simp only [World.size_alloc]; omega
                   · exact Below.refl _ _
                   · exact Nat.le_refl _
                   intro v1 w1 ho1 _ hg1 hk1)
      rw [List.append_assoc, ← low_succ] at ho1
      have hgg := Lib.hid (hgr.out.trans (Grew.ahead (below_new wr _) (Grew.of_app hg1 hk1)))
      clear hg1 hk1
      go_roundw
      case rel => exact ⟨k + 1, by omega, by go_num, ho1, hgg⟩
      case measure => simp [intOf]; omega
    · obtain rfl : k = m := by omega
      go_wp2
      go_ret
      exact ⟨_, rfl, hown, hgr.out⟩
set_option maxRecDepth 100000 in
set_option maxHeartbeats 2000000 in
theorem txText_any (u : Value) (x : Bs) (hx : x.length ≤ 100000000000) (B : Nat) (w : World) (v : Value) (ys : Bs) (hB : B ≤ w.heap.size) (hs : Sl w u x) (ho : Own8 w B v ys) (hl : ys.length ≤ 100000000000000) :
    Calls Try.prog 34 #[v, u] w (AppTo w B v (ys ++ text x)) := by
  obtain ⟨p, n, c, rfl, h1, h2, h3, h4, h5⟩ := hs
  have ht := text_any p n c x w h4 h1 (by omega)
  obtain ⟨X, hX⟩ : ∃ X, X = text x := ⟨_, rfl⟩
  have hXl : X.length ≤ 100000000009 := by
    rw [hX]; unfold text; rw [List.length_append]; have := enc_len (BitVec.ofNat 64 x.length); omega
  rw [← hX] at ht ⊢
  have HT := Lib.hid ht
  have HO := Lib.hid ho
  have HX := Lib.hid hXl
  have HL := Lib.hid hl
  clear ht hX h1 h2 h3 h4 h5 hXl hl hx ho
  go_enter Try.func34, Try.ntmps34
  go_wp2_with fail
  refine HT.out.mono ?_
  rintro e w1 ⟨v1, rfl, ho1, hb1⟩
  obtain ⟨p1, c1, rfl, hl1, hm1, hr1⟩ := ho1.row
  have ho2 := HO.out.below hb1 (Nat.le_refl _)
  have HB1 := Lib.hid hb1
  have hsz1 : B ≤ w1.heap.size := Nat.le_trans hB hb1.size
  have hbr := Below.refl B w1
  clear ho1 hb1
  go_wp2_with ((with_reducible refine wp_append8 (o := ⟨some 8, _, _, _, _, _⟩) ?_ (.tmp 5) (.tmp 7) ?_ (B) _ (ys) ?_ (ho2) (p1) (X.length) (c1) (X) ?_ (rfl) (hr1) ?_ (hsz1) (B) (w1) (hbr) ?_ ?_
                · rfl
                · rfl
                · rfl
                · rfl
                · have := HX.out; have := HL.out; omega
                · exact Nat.le_refl _
                intro v3 w3 ho3 hb3 hg3 hk3))
  go_ret
  exact ⟨_, rfl, ho3, Grew.ahead HB1.out (Grew.of_app hg3 hk3)⟩
theorem wrap_toInt (v : BitVec 64) : IntKind.u64.wrap v.toInt = iv64 v := by
  have h := v.isLt
  have e : iv64 v = (v.toNat : Int) := rfl
  rw [e, BitVec.toInt_eq_toNat_cond]
  simp only [IntKind.wrap, IntKind.bits, IntKind.signed]
  split <;> simp <;> omega
/-- what is known of a world in which bytes are written behind others: data lies below B, and stays -/
structure Wr (w0 w : World) (v : Value) (ys : Bs) : Prop where
  below : Below w0.heap.size w0 w
  own : Own8 w w0.heap.size v ys
theorem Wr.fut {w0 w w' : World} {v : Value} {ys : Bs} (h : Wr w0 w v ys) (hb : Below w.heap.size w w') : Wr w0 w' v ys := ⟨below_fut h.below hb (Nat.le_refl _), h.own.fut hb⟩
theorem Wr.grew {w0 w w' : World} {v v' : Value} {ys zs : Bs} (h : Wr w0 w v ys) (ho : Own8 w' w0.heap.size v' zs) (hg : Grew w v w' v') : Wr w0 w' v' zs := ⟨h.below.trans (hg.below h.own h.below.size), ho⟩
theorem Wr.not {w0 w : World} {v : Value} {ys : Bs} (h : Wr w0 w v ys) : v.ownBlock ≠ some w.heap.size := fun e => by have := (World.ownsRow.lt h.own _ e).2; omega
set_option maxRecDepth 100000 in
set_option maxHeartbeats 4000000 in
theorem txOut_any (x : TOut) (cs : List Value) (hx : x.sc.length ≤ 100000000000) (w0 w : World) (v : Value) (ys : Bs) (hc : OutC w0 x cs) (hw : Wr w0 w v ys) (hl : ys.length ≤ 90000000000000) :
    Calls Try.prog 32 #[v, .agg cs.toArray] w (AppTo w w0.heap.size v (ys ++ outB x)) := by
  obtain ⟨sv, rfl, hs⟩ := hc
  have hV := wrap_toInt x.va
  obtain ⟨V, hVe⟩ : ∃ V, V = x.va.toInt := ⟨_, rfl⟩
  rw [← hVe] at hV ⊢
  have hb1 := below_new w (.cells #[.int .i64 V, sv] 61)
  have HW := Lib.hid (hw.fut hb1)
  have HB := Lib.hid (Blk.new w 61 #[.int .i64 V, sv])
  have HN := Lib.hid hw.not
  have HS := Lib.hid hs
  have HL := Lib.hid hl
  have HX := Lib.hid hx
  have HA : Hid (∀ w2 v2, Grew (w.alloc (.cells #[.int .i64 V, sv] 61)) v w2 v2 → Grew w v w2 v2) := Lib.hid fun w2 v2 h => Grew.ahead hb1 h
  clear hVe hl hs hx hw hb1
  go_enter Try.func32, Try.ntmps32
  go_upto_region 1 with fail
  generalize w.alloc (.cells #[.int .i64 V, sv] 61) = w1 at *
  refine region_plan [qq 0, qq 1, qq 2, qq 3, qq 5, qq 6, oo 4, oo 7, qq 8] (fun W => Blk W w.heap.size 61 #[.int .i64 V, sv]) (by kernel_rfl) (by kernel_rfl) (HB.out.fut (below_draws w1 1)) ?_
  refine' plan_quiet (s := 13) (A1 := _) [0, 1, 2, 3, 5, 6] [_, _, _, _, _, _] _ rfl rfl rfl (fun W hW => ?hq1) _ (HB.out.fut (below_draws w1 1)) (fun _ => ?hr1)
  case hq1 =>
    have c0 : ∀ k, (W.drewN k).cell? ⟨w.heap.size, 0, none⟩ = some (.int .i64 V) := fun k => by have := hW.cell 0; simpa using this
    have c1 : ∀ k, (W.drewN k).cell? ⟨w.heap.size, 1, none⟩ = some sv := fun k => by have := hW.cell 1; simpa using this
    simp only [List.getElem_toArray, List.getElem_cons_zero, List.getElem_cons_succ]
    iterate 6 (go_big_quiet_step (fail))
    refine wpQuiet_nil ?_
    rfl
  case hr1 =>
  refine plan_one rfl fun k1 => ?_
  go_wp2_with fail
  have hw2 := HW.out.fut (below_draws w1 (1 + k1))
  refine (txLow_any x.va 8 (by omega) w0.heap.size _ v ys hw2.below.size hw2.own (by have := HL.out; omega)).mono ?_
  rintro e w2 ⟨v2, rfl, ho2, hg2⟩
  have hbk2 := hg2.blk (HB.out.fut (below_draws w1 (1 + k1))) HN.out
  have HW2 := Lib.hid (hw2.grew ho2 hg2)
  have HG2 := Lib.hid ((Grew.refl w1 v).fut (below_draws w1 (1 + k1)) |>.trans hg2)
  clear ho2 hg2 hw2
  go_wp2_with fail
  refine planQ_normal (And.intro hbk2 ?_)
  refine plan_one rfl fun k2 => ?_
  have hw3 := HW2.out.fut (below_draws w2 k2)
  have hbk3 := hbk2.fut (below_draws w2 k2)
  have HG3 := Lib.hid (HG2.out.fut (below_draws w2 k2))
  clear hbk2
  go_wp2_with fail
  refine (txText_any sv x.sc HX.out w0.heap.size _ v2 (ys ++ low x.va 8) hw3.below.size (HS.out.below hw3.below (Nat.le_refl _)) hw3.own (by rw [List.length_append, low_len]; have := HL.out; omega)).mono ?_
  rintro e w4 ⟨v4, rfl, ho4, hg4⟩
  have hbk4 := hg4.blk hbk3 (HG3.out.not HN.out HB.out.lt)
  have HG4 := Lib.hid (HG3.out.trans hg4)
  rw [List.append_assoc] at ho4
  have HO4 : Hid (Own8 w4 w0.heap.size v4 (ys ++ outB x)) := Lib.hid ho4
  clear ho4 hg4 hw3 hbk3
  go_wp2_with fail
  refine planQ_normal (And.intro hbk4 ?_)
  refine' plan_quiet (s := 13) (A1 := _) (r := []) [8] [_] _ rfl rfl rfl (fun W hW => ?hq2) _ hbk4 (fun _ => ?hr2)
  case hq2 =>
    simp only [List.getElem_toArray, List.getElem_cons_zero, List.getElem_cons_succ]
    iterate 1 (go_big_quiet_step (fail))
    refine wpQuiet_nil ?_
    rfl
  case hr2 =>
  refine plan_end fun k4 => NoPanic.normal ?_
  go_wp2_with fail
  go_ret
  exact ⟨_, rfl, HO4.out.fut (below_draws _ _), (HA.out _ _ HG4.out).fut (below_draws _ _)⟩
theorem InC.id {w w' : World} {x : TIn} {cs : List Value} {g : Nat} {t : TypeId} (h : InC w x cs) (hb : Blk w' g t cs.toArray) : Row8 w' (some ⟨g, 0, none⟩) x.id := fun hn => by
  obtain ⟨sv, wv, rfl, h1, _⟩ := h
  refine ⟨g, 0, rfl, hb.lt, fun i b hi => ?_⟩
  have hl : i < x.id.length := by
    rcases Nat.lt_or_ge i x.id.length with h | h
    · exact h
    · rw [List.getElem?_eq_none h] at hi; cases hi
  rw [Nat.zero_add, hb.cell, List.getElem?_toArray, List.getElem?_append_left (by simp [hCells]; exact hl), hCells, List.getElem?_map, hi]
  rfl
set_option maxRecDepth 100000 in
set_option maxHeartbeats 8000000 in
theorem txIn_any (x : TIn) (cs : List Value) (hx : x.sc.length ≤ 100000000000) (w0 w : World) (v : Value) (ys : Bs) (hc : InC w0 x cs) (hw : Wr w0 w v ys) (hl : ys.length ≤ 90000000000000) :
    Calls Try.prog 31 #[v, .agg cs.toArray] w (AppTo w w0.heap.size v (ys ++ inB x)) := by
  obtain ⟨sv, wv, k32, k33, k34, k35, hs, _⟩ := hc.cell
  have hid : x.id.length = 32 := by obtain ⟨_, _, _, h, _⟩ := hc; exact h
  have hb1 := below_new w (.cells cs.toArray 67)
  have HW := Lib.hid (hw.fut hb1)
  have HB := Lib.hid (Blk.new w 67 cs.toArray)
  have HI : Hid (∀ w', Blk w' w.heap.size 67 cs.toArray → Row8 w' (some ⟨w.heap.size, 0, none⟩) x.id) := Lib.hid fun w' h => hc.id h
  have HN := Lib.hid hw.not
  have HS := Lib.hid hs
  have HL := Lib.hid hl
  have HX := Lib.hid hx
  have HD := Lib.hid hid
  have HK : Hid (cs[32]? = some (u32 x.ix) ∧ cs[33]? = some sv ∧ cs[34]? = some (u32 x.sq)) := Lib.hid ⟨k32, k33, k34⟩
  have HA : Hid (∀ w2 v2, Grew (w.alloc (.cells cs.toArray 67)) v w2 v2 → Grew w v w2 v2) := Lib.hid fun w2 v2 h => Grew.ahead hb1 h
  clear hl hs hx hw hb1 hid hc k32 k33 k34 k35
  go_enter Try.func31, Try.ntmps31
  go_upto_region 1 with fail
  generalize w.alloc (.cells cs.toArray 67) = w1 at *
  have e1 := ext32_64 x.ix
  refine region_plan [qq 0, qq 1, qq 2, qq 3, qq 5, qq 6, qq 7, qq 8, oo 4, oo 9, qq 10] (fun W => Blk W w.heap.size 67 cs.toArray) (by kernel_rfl) (by kernel_rfl) (HB.out.fut (below_draws w1 1)) ?_
  refine' plan_quiet (s := 23) (A1 := _) [0, 1, 2, 3, 5, 6, 7, 8] [_, _, _, _, _, _, _, _] _ rfl rfl rfl (fun W hW => ?hq1) _ (HB.out.fut (below_draws w1 1)) (fun _ => ?hr1)
  case hq1 =>
    have c32 : ∀ k, (W.drewN k).cell? ⟨w.heap.size, 32, none⟩ = some (.int .u32 (iv32 x.ix)) := fun k => by
      have := hW.cell 32
      rw [List.getElem?_toArray, HK.out.1] at this
      simpa [Go.Proofs.Ythglocpbdfcfnaa.u32] using this
    simp only [List.getElem_toArray, List.getElem_cons_zero, List.getElem_cons_succ]
    iterate 8 (go_big_quiet_step (fail))
    refine wpQuiet_nil ?_
    rfl
  case hr1 =>
  refine plan_one rfl fun k1 => ?_
  have hbd : Below w1.heap.size w1 (w1.drew.drewN k1) := below_drewN (Below.refl _ _).drew k1
  have hw2 := HW.out.fut hbd
  have hbk2 := HB.out.fut hbd
  refine wp_append8 (o := ⟨some 9, _, _, _, _, _⟩) rfl (.tmp 5) (.tmp 8) rfl w0.heap.size v ys rfl hw2.own (some ⟨w.heap.size, 0, none⟩) 32 32 x.id rfl HD.out (HI.out _ hbk2) ?_ hw2.below.size w0.heap.size (w1.drew.drewN k1) (Below.refl _ _) (Nat.le_refl _) ?_
  · have := HL.out; have := HD.out; omega
  intro v2 w2 ho2 _ hg2 hj2
  have HG2 := Lib.hid (((Grew.refl w1 v).fut hbd).trans (Grew.of_app hg2 hj2))
  have hbk3 := (Grew.of_app hg2 hj2).blk hbk2 HN.out
  have HW2 := Lib.hid (hw2.grew ho2 (Grew.of_app hg2 hj2))
  clear ho2 hg2 hj2 hw2 hbk2 hbd
  refine planQ_normal (And.intro hbk3 ?_)
  refine plan_one rfl fun k2 => ?_
  have hw3 := HW2.out.fut (below_draws w2 k2)
  have hbk4 := hbk3.fut (below_draws w2 k2)
  have HG3 := Lib.hid (HG2.out.fut (below_draws w2 k2))
  clear hbk3
  go_wp2_with fail
  refine (txLow_any (x.ix.setWidth 64) 4 (by omega) w0.heap.size _ v2 (ys ++ x.id) hw3.below.size hw3.own (by rw [List.length_append]; have := HL.out; have := HD.out; omega)).mono ?_
  rintro e w4 ⟨v4, rfl, ho4, hg4⟩
  have hbk5 := hg4.blk hbk4 (HG3.out.not HN.out HB.out.lt)
  have HG4 := Lib.hid (HG3.out.trans hg4)
  have HW4 := Lib.hid (hw3.grew ho4 hg4)
  clear ho4 hg4 hw3 hbk4
  go_wp2_with fail
  refine planQ_normal (And.intro hbk5 ?_)
  refine' plan_quiet (s := 23) (A1 := _) (r := []) [10] [_] _ rfl rfl rfl (fun W hW => ?hq2) _ hbk5 (fun _ => ?hr2)
  case hq2 =>
    simp only [List.getElem_toArray, List.getElem_cons_zero, List.getElem_cons_succ]
    iterate 1 (go_big_quiet_step (fail))
    refine wpQuiet_nil ?_
    rfl
  case hr2 =>
  refine plan_end fun k4 => NoPanic.normal ?_
  have HW5 := Lib.hid (HW4.out.fut (below_draws w4 k4))
  have HG5 := Lib.hid (HG4.out.fut (below_draws w4 k4))
  have hbk6 := hbk5.fut (below_draws w4 k4)
  have HN5 := Lib.hid (HG5.out.not HN.out HB.out.lt)
  clear hbk5 e1
  generalize w4.drewN k4 = w5 at *
  have HB5 := Lib.hid hbk6
  clear hbk6
  go_upto_region 2 with fail
  have e2 := ext32_64 x.sq
  refine region_plan [qq 0, qq 1, qq 2, qq 4, qq 5, qq 6, oo 3, oo 7, qq 8] (fun W => Blk W w.heap.size 67 cs.toArray) (by kernel_rfl) (by kernel_rfl) (HB5.out.fut (below_draws w5 1)) ?_
  refine' plan_quiet (s := 23) (A1 := _) [0, 1, 2, 4, 5, 6] [_, _, _, _, _, _] _ rfl rfl rfl (fun W hW => ?hq3) _ (HB5.out.fut (below_draws w5 1)) (fun _ => ?hr3)
  case hq3 =>
    have c33 : ∀ k, (W.drewN k).cell? ⟨w.heap.size, 33, none⟩ = some sv := fun k => by
      have := hW.cell 33
      rw [List.getElem?_toArray, HK.out.2.1] at this
      simpa using this
    have c34 : ∀ k, (W.drewN k).cell? ⟨w.heap.size, 34, none⟩ = some (.int .u32 (iv32 x.sq)) := fun k => by
      have := hW.cell 34
      rw [List.getElem?_toArray, HK.out.2.2] at this
      simpa [Go.Proofs.Ythglocpbdfcfnaa.u32] using this
    simp only [List.getElem_toArray, List.getElem_cons_zero, List.getElem_cons_succ]
    iterate 6 (go_big_quiet_step (fail))
    refine wpQuiet_nil ?_
    rfl
  case hr3 =>
  refine plan_one rfl fun k6 => ?_
  go_wp2_with fail
  have hw6 := HW5.out.fut (below_draws w5 (1 + k6))
  have hbk6 := HB5.out.fut (below_draws w5 (1 + k6))
  have HG6 := Lib.hid (HG5.out.fut (below_draws w5 (1 + k6)))
  refine (txText_any sv x.sc HX.out w0.heap.size _ v4 (ys ++ x.id ++ low (x.ix.setWidth 64) 4) hw6.below.size (HS.out.below hw6.below (Nat.le_refl _)) hw6.own (by rw [List.length_append, List.length_append, low_len]; have := HL.out; have := HD.out; omega)).mono ?_
  rintro e w7 ⟨v7, rfl, ho7, hg7⟩
  have hbk7 := hg7.blk hbk6 HN5.out
  have HG7 := Lib.hid (HG6.out.trans hg7)
  have HW7 := Lib.hid (hw6.grew ho7 hg7)
  clear ho7 hg7 hw6 hbk6
  go_wp2_with fail
  refine planQ_normal (And.intro hbk7 ?_)
  refine plan_one rfl fun k7 => ?_
  have hw8 := HW7.out.fut (below_draws w7 k7)
  have hbk8 := hbk7.fut (below_draws w7 k7)
  have HG8 := Lib.hid (HG7.out.fut (below_draws w7 k7))
  have htl : (text x.sc).length ≤ 100000000009 := by unfold text; rw [List.length_append]; have := enc_len (BitVec.ofNat 64 x.sc.length); have := HX.out; omega
  clear hbk7
  go_wp2_with fail
  refine (txLow_any (x.sq.setWidth 64) 4 (by omega) w0.heap.size _ v7 (ys ++ x.id ++ low (x.ix.setWidth 64) 4 ++ text x.sc) hw8.below.size hw8.own (by rw [List.length_append, List.length_append, List.length_append, low_len]; have := HL.out; have := HD.out; omega)).mono ?_
  rintro e w9 ⟨v9, rfl, ho9, hg9⟩
  have hbk9 := hg9.blk hbk8 (HG8.out.not HN.out HB.out.lt)
  have HG9 := Lib.hid (HG8.out.trans hg9)
  have HO9 : Hid (Own8 w9 w0.heap.size v9 (ys ++ inB x)) := Lib.hid (by
    have e : ys ++ inB x = ys ++ x.id ++ low (x.ix.setWidth 64) 4 ++ text x.sc ++ low (x.sq.setWidth 64) 4 := by
      unfold inB le32
      simp only [List.append_assoc]
    rw [e]; exact ho9)
  clear ho9 hg9 hw8 hbk8
  go_wp2_with fail
  refine planQ_normal (And.intro hbk9 ?_)
  refine' plan_quiet (s := 23) (A1 := _) (r := []) [8] [_] _ rfl rfl rfl (fun W hW => ?hq4) _ hbk9 (fun _ => ?hr4)
  case hq4 =>
    simp only [List.getElem_toArray, List.getElem_cons_zero, List.getElem_cons_succ]
    iterate 1 (go_big_quiet_step (fail))
    refine wpQuiet_nil ?_
    rfl
  case hr4 =>
  refine plan_end fun k9 => NoPanic.normal ?_
  go_wp2_with fail
  go_ret
  exact ⟨_, rfl, HO9.out.fut (below_draws _ _), (HA.out _ _ HG9.out).fut (below_draws _ _)⟩
end Go.Proofs.Ythglocpbdfcfnaa
