/- The reader of transactions: a whole one. -/
import Derived.Test.YthglocpbdfcfnaaTxU
namespace Go.Proofs.Ythglocpbdfcfnaa
open Go Go.RowKit
set_option linter.unusedVariables false

def ZTx : List Value := [.int .u32 0, .slice none 0 0, .slice none 0 0, .int .u32 0]
theorem zTx (w : World) : (zeroValue 26).run Try.prog w = .ok (.agg ZTx.toArray) w := zero_of (by kernel_rfl) w
theorem built_tx (k : Int) : Try.prog.built 26 [(0, .int .u32 k)] = some #[.int .u32 k, .slice none 0 0, .slice none 0 0, .int .u32 0] := by kernel_rfl
theorem rdText_cells (B g : Nat) (W : World) (s : Bs) (h : RdAt B g W s) : Calls Try.prog 74 #[.pointer (some ⟨g, 0, none⟩)] W (RdP B g W textZ s fun w' a v => ∃ cs, CellV v cs ∧ TextO B w' a cs) := by
  refine (rdText_any B g W s h).mono ?_
  intro e w' h
  rcases h.cases with ⟨a, r, H1, v, rfl, ho, H2, H3⟩ | ⟨k, H1, rfl, H2⟩
  · refine RdP.ok H1.out ?_ H2.out H3.out
    obtain ⟨p, n, c, rfl, _⟩ := Own8.open ho
    exact ⟨[.slice p n c], rfl, _, rfl, ho⟩
  · exact RdP.bad H1.out H2.out
theorem set_mid {α : Type} (xs ys : List α) (x x' : α) (k : Nat) (hk : xs.length = k) (hx : ys[k]? = some x) : (xs ++ ys.drop k).set k x' = (xs ++ [x']) ++ ys.drop (k + 1) := by
  have hl : k < ys.length := (List.getElem?_eq_some_iff.1 hx).1
  rw [List.drop_eq_getElem_cons hl, List.set_append_right _ _ (by omega), hk, Nat.sub_self, List.set_cons_zero, List.append_assoc]
  rfl
theorem at_mid {α : Type} (xs ys : List α) (k : Nat) (hk : xs.length = k) : (xs ++ ys.drop k)[k]? = ys[k]? := by
  rw [List.getElem?_append_right (by omega), hk, Nat.sub_self, List.getElem?_drop, Nat.add_zero]
theorem drop_mid {α : Type} (ys : List α) (k : Nat) (x : α) (hx : ys[k]? = some x) : ys.drop k = x :: ys.drop (k + 1) := by
  have hl : k < ys.length := (List.getElem?_eq_some_iff.1 hx).1
  rw [List.drop_eq_getElem_cons hl]
  rw [List.getElem?_eq_getElem hl] at hx
  injection hx with hx
  rw [hx]
theorem RowO.blk {α : Type} {E : World → α → List Value → Prop} {T N B b n c : Nat} {w : World} {xs : List α} (h : RowO E T N B w (.slice (some ⟨b, 0, none⟩) n c) xs) : ∃ cur, Blk w b T cur ∧ B ≤ b ∧ cur.size = c * N ∧ n ≤ c := by
  obtain ⟨css, g1, g2, g3⟩ := h
  rcases g2.2 with ⟨e', _⟩ | ⟨b', cap, cur', e', hBb, hh, hc1, _, hsz, _⟩
  · cases e'
  · injection e' with e1 e2 e3
    injection e1 with e1
    injection e1 with e1
    subst e1 e2 e3
    exact ⟨cur', hh, hBb, hsz, hc1⟩
theorem inO_wit {B : Nat} {w w' : World} {x : TIn} {cs : List Value} {S : Nat → Prop} {v : Value} {ws : List Bs} (h : InO B w x cs) (hs : Stays S w w') (hp : Sep B [5, 27] w S) (hr : RowO (TextO B) 27 1 B w' v ws) : InO B w' { x with wi := ws } (cs.set 35 v) := by
  obtain ⟨sv, wv, rfl, h1, h2, h3⟩ := h
  refine ⟨sv, v, ?_, h1, h2.sep hs (hp.mono (by simp)), hr⟩
  have hl : (hCells x.id).length = 32 := by simp [hCells, h1]
  rw [List.set_append_right _ _ (by omega), hl]
  rfl

set_option maxRecDepth 100000 in
set_option maxHeartbeats 16000000 in
theorem rdTx_any (B g : Nat) (w : World) (s : Bs) (h : RdAt B g w s) :
    Calls Try.prog 36 #[.pointer (some ⟨g, 0, none⟩)] w (RdP B g w txZ s fun w' a v => ∃ cs, v = .agg cs.toArray ∧ TxO B w' a cs) := by
  have hgB : g < B := h.elim fun v h => h.2.2.2.1
  have hBw : B ≤ w.heap.size := h.elim fun v h => h.2.2.2.2
  have hz := zTx
  have HR1 := Lib.hid (h.fut (below_new w (.cells ZTx.toArray 26)))
  have HB1 := Lib.hid (Blk.new w 26 ZTx.toArray)
  have HS1 : Hid (Stays (· = g) w (w.alloc (.cells ZTx.toArray 26))) := Lib.hid (Stays.of_below (below_new w _) (Nat.le_refl _) _)
  clear h
  go_enter Try.func36, Try.ntmps36
  go_upto_region 1 with fail
  generalize w.alloc (.cells ZTx.toArray 26) = w1 at *
  go_wp2_with fail
  refine (rdNum_any B g 4 (by omega) w1 s HR1.out).mono ?_
  intro e W2 h
  rcases h.cases with ⟨ve, r1, HT1, v, rfl, hv, HR2, HS2⟩ | ⟨kk, HT1, rfl, HS2⟩
  case inr =>
    go_wp2_with fail
    exact ⟨rfl, RdP.bad (by unfold txZ; rw [Pz.bind_err HT1.out]) (HS1.out.trans HS2.out fun k _ hk => hk)⟩
  subst hv
  have ec := cut64_32 ve
  have hbt := built_tx (iv32 (ve.setWidth 32))
  have HB2 := Lib.hid (HB1.out.stays HS2.out (by omega))
  have hbn := below_new W2 (.cells ZTx.toArray 26)
  have hnew := Blk.new W2 26 ZTx.toArray
  have HS2' := Lib.hid (HS1.out.trans HS2.out fun k _ hk => hk)
  clear HR1 HB1 HS1 HS2
  go_upto_region 2 with (first
    | (with_reducible refine wp_build (o := ⟨some 9, _, _, _, _, _⟩) ?_ 26 #[(0, .tmp 8)] ?_ [(0, .int .u32 (iv32 (ve.setWidth 32)))] ?_ #[.int .u32 (iv32 (ve.setWidth 32)), .slice none 0 0, .slice none 0 0, .int .u32 0] hbt ?_
       · rfl
       · rfl
       · rfl)
    | (with_reducible refine wp_store_blk (o := ⟨none, _, _, _, _, _⟩) ?_ 26 (.tmp 3) (.tmp 9) ?_ (W2.heap.size) 26 (ZTx.toArray) (#[.int .u32 (iv32 (ve.setWidth 32)), .slice none 0 0, .slice none 0 0, .int .u32 0]) ?_ ?_ (hnew) ?_ ?_ ?_ (W2.heap.size) (W2) ?_ ?_ ?_
       · rfl
       · rfl
       · rfl
       · rfl
       · exact (info_Tx (cs := [.int .u32 (iv32 (ve.setWidth 32)), .slice none 0 0, .slice none 0 0, .int .u32 0]) rfl)
       · exact (rfl)
       · exact ((by rw [List.all_toArray]; rfl))
       · exact (hbn)
       · exact (Nat.le_refl _)
       intro W3 hB3 hb3 hg3 hs3))
  have hzz : w.heap.size < W2.heap.size := HB2.out.lt
  have HR3 := Lib.hid (HR2.out.fut hb3)
  have HB23 := Lib.hid (HB2.out.fut hb3)
  have HS3 : Hid (Stays (· = g) w W3) := Lib.hid ((Stable.stays w).fut HS2'.out hb3)
  obtain ⟨vv, hvv⟩ : ∃ v, v = Value.int .u32 (iv32 (ve.setWidth 32)) := ⟨_, rfl⟩
  rw [← hvv] at hB3 ⊢
  have HVV := Lib.hid hvv
  have HB3 : Hid (Blk W3 W2.heap.size 26 #[vv, .slice none 0 0, .slice none 0 0, .int .u32 0]) := hB3
  clear hvv hg3 hs3 hb3 hnew hbn hbt ec HR2 HB2 HS2' hB3 hz
  generalize W2.heap.size = z3 at *
  obtain ⟨v1, q1, q2, q3, q4, q5⟩ := id HR3.out
  obtain ⟨p1, n1, c1, rfl, hn1, hnc1, hcm1, hr1, hp1⟩ := q2.open
  have k0 := q1.cell 0
  simp only [List.getElem?_toArray, List.getElem?_cons_zero] at k0
  have HN1 := Lib.hid hn1
  clear q1 q2 q3 q4 q5 hn1
  by_cases h0 : r1[0]? = some 0#8
  case neg =>
    have HTX : Hid (txZ s = bodyZ ve false r1) := Lib.hid (by
      unfold txZ
      rw [Pz.bind_ok HT1.out]
      exact Pz.bind_ok (by unfold markZ; rw [if_neg h0]))
    have HR5 := HR3
    by_cases hz0 : n1 = 0
    · subst hz0
      clear h0 hr1
      go_upto_region 5 with fail
      have hcap : Hid True := Lib.hid trivial
      go_wp2_with fail
      refine (partsIns_any inZ 70 (enters_of Try.func70 (by kernel_rfl) rfl) B g 2000 (by omega) (fun W s' h => rdIn_any B g W s' h) W3 r1 HR5.out).mono ?_
      intro e W6 h
      rcases h.cases with ⟨is, r3, HT3, v6, rfl, ⟨hrow6, hfr6⟩, HR6, HS6⟩ | ⟨kk, HT3, rfl, HS6⟩
      case inr =>
        go_wp2_with fail
        exact ⟨rfl, RdP.bad (by rw [HTX.out]; unfold bodyZ; rw [Pz.bind_err (by rw [insZ_parts, HT3.out])]) (HS3.out.trans HS6.out fun k _ hk => hk)⟩
      obtain ⟨p6, n6, c6, rfl, hn6, hnc6, hcm6, _, hp6⟩ := (hrow6.e (fun _ _ h => h.c) : ESl InC 36 W6 v6 is)
      have hB36 := HB3.out.stays HS6.out (by omega)
      have f1 := hB36.frozen 1
      have c1' := hB36.cell 1
      simp only [List.getElem?_toArray, List.getElem?_cons_zero, List.getElem?_cons_succ] at c1'
      have HB36 := Lib.hid hB36
      have HB26 := Lib.hid (HB23.out.stays HS6.out (by omega))
      have HI6 : Hid (RowO (InO B) 67 36 B W6 (.slice p6 n6 c6) is) := Lib.hid hrow6
      have HFR : Hid (∀ j, (Value.slice p6 n6 c6).ownBlock = some j → w.heap.size ≤ j) := Lib.hid (fun j hj => by have := hfr6 j hj; have := HS3.out.size; omega)
      have HN6 := Lib.hid hn6
      clear hB36 hrow6 hfr6 hn6
      go_upto_region 6 with fail
      have hst := Stays.set W6 z3 1 (.slice p6 n6 c6)
      have HB37 : Hid (Blk (W6.setCell ⟨z3, 1, none⟩ (.slice p6 n6 c6)) z3 26 #[vv, .slice p6 n6 c6, .slice none 0 0, .int .u32 0]) := Lib.hid (HB36.out.set 1 _)
      have HI7 := Lib.hid (HI6.out.sep (inO_keeps B) hst (sep_one HB36.out (by decide)))
      have HR7 := Lib.hid (HR6.out.stays hst (rw_one HB36.out (by omega) (by decide)) (by omega))
      have HB27 := Lib.hid (HB26.out.stays hst (by omega))
      have HS7 := Lib.hid ((HS3.out.trans HS6.out fun k _ hk => hk).trans hst fun k h1 h2 => by omega)
      clear hst f1 c1' HB36 HI6 HR6 HB26 HS6 HR5 HB3 HB23 HS3
      generalize W6.setCell ⟨z3, 1, none⟩ (.slice p6 n6 c6) = W7 at *
      have d1 := HB37.out.cell 1
      simp only [List.getElem?_toArray, List.getElem?_cons_zero, List.getElem?_cons_succ] at d1
      by_cases hn0 : n6 = 0
      case pos =>
        subst hn0
        go_wp2_with fail
        exact ⟨rfl, RdP.bad (by rw [HTX.out]; unfold bodyZ; rw [Pz.bind_err (by rw [insZ_parts, HT3.out]; simp only; rw [if_pos HN6.out])]) HS7.out⟩
      have HTI : Hid (insZ r1 = .ok (is, r3)) := Lib.hid (by rw [insZ_parts, HT3.out]; simp only; rw [if_neg (by rw [HN6.out]; exact hn0)])
      have hn6b : n6 ≤ 2000 := by have := (insZ_ok HTI.out).2.2.1; have := HN6.out; omega
      have hne0 : ((n6 : Int) == 0) = false := by rw [beq_eq_false_iff_ne]; omega
      go_wp2_with fail
      refine (partsOuts_any outZ 72 (enters_of Try.func72 (by kernel_rfl) rfl) B g 2000 (by omega) (fun W s' h => rdOut_any B g W s' h) W7 r3 HR7.out).mono ?_
      intro e W8 h
      rcases h.cases with ⟨os, r4, HT4, v8, rfl, ⟨hrow8, hfr8⟩, HR8, HS8⟩ | ⟨kk, HT4, rfl, HS8⟩
      case inr =>
        go_wp2_with fail
        exact ⟨rfl, RdP.bad (by rw [HTX.out]; unfold bodyZ; rw [Pz.bind_ok HTI.out, Pz.bind_err HT4.out]) (HS7.out.trans HS8.out fun k _ hk => hk)⟩
      obtain ⟨p8, n8, c8, rfl, _⟩ := (hrow8.e (fun _ _ h => h.c) : ESl OutC 2 W8 v8 os)
      have hB38 := HB37.out.stays HS8.out (by omega)
      have f2 := hB38.frozen 2
      have c2' := hB38.cell 2
      simp only [List.getElem?_toArray, List.getElem?_cons_zero, List.getElem?_cons_succ] at c2'
      have HB38 := Lib.hid hB38
      have HB28 := Lib.hid (HB27.out.stays HS8.out (by omega))
      have HO8 : Hid (RowO (OutO B) 61 2 B W8 (.slice p8 n8 c8) os) := Lib.hid hrow8
      have HI8 := Lib.hid (HI7.out.sep (inO_keeps B) HS8.out (Sep.low fun k hk => by have : k = g := hk; omega))
      clear hB38 hrow8 hfr8 d1
      go_upto_region 9 with fail
      have hst := Stays.set W8 z3 2 (.slice p8 n8 c8)
      have HB39 : Hid (Blk (W8.setCell ⟨z3, 2, none⟩ (.slice p8 n8 c8)) z3 26 #[vv, .slice p6 n6 c6, .slice p8 n8 c8, .int .u32 0]) := Lib.hid (HB38.out.set 2 _)
      have HI9 := Lib.hid (HI8.out.sep (inO_keeps B) hst (sep_one HB38.out (by decide)))
      have HO9 := Lib.hid (HO8.out.sep (outO_keeps B) hst (sep_one HB38.out (by decide)))
      have HR9 := Lib.hid (HR8.out.stays hst (rw_one HB38.out (by omega) (by decide)) (by omega))
      have HB29 := Lib.hid (HB28.out.stays hst (by omega))
      have HS9 := Lib.hid ((HS7.out.trans HS8.out fun k _ hk => hk).trans hst fun k h1 h2 => by omega)
      clear hst f2 c2' HB38 HI8 HO8 HR8 HB28 HS8 HB37 HI7 HR7 HB27 HS7 hne0
      generalize W8.setCell ⟨z3, 2, none⟩ (.slice p8 n8 c8) = W9 at *
      have HTW : Hid (witZ false is r4 = .ok (is, r4)) := Lib.hid rfl
      go_wp2_with fail
      refine (rdNum_any B g 4 (by omega) W9 r4 HR9.out).mono ?_
      intro e Wn h
      rcases h.cases with ⟨lo, r5, HT5, vl, rfl, hvl, HRn, HSn⟩ | ⟨kk, HT5, rfl, HSn⟩
      case inr =>
        go_wp2_with fail
        exact ⟨rfl, RdP.bad (by rw [HTX.out]; unfold bodyZ; rw [Pz.bind_ok HTI.out, Pz.bind_ok HT4.out, Pz.bind_ok HTW.out, Pz.bind_err HT5.out]) (HS9.out.trans HSn.out fun k _ hk => hk)⟩
      subst hvl
      have ec := cut64_32 lo
      have hB3n := HB39.out.stays HSn.out (by omega)
      have f3 := hB3n.frozen 3
      have c3' := hB3n.cell 3
      simp only [List.getElem?_toArray, List.getElem?_cons_zero, List.getElem?_cons_succ] at c3'
      have HB3n := Lib.hid hB3n
      have HB2n := Lib.hid (HB29.out.stays HSn.out (by omega))
      have HIn := Lib.hid (HI9.out.sep (inO_keeps B) HSn.out (Sep.low fun k hk => by have : k = g := hk; omega))
      have HOn := Lib.hid (HO9.out.sep (outO_keeps B) HSn.out (Sep.low fun k hk => by have : k = g := hk; omega))
      clear hB3n
      go_upto_region 18 with fail
      obtain ⟨lv, hlv⟩ : ∃ v, v = Value.int .u32 (iv32 (lo.setWidth 32)) := ⟨_, rfl⟩
      rw [← hlv]
      have HLV := Lib.hid hlv
      have hst := Stays.set Wn z3 3 lv
      have HB3p : Hid (Blk (Wn.setCell ⟨z3, 3, none⟩ lv) z3 26 #[vv, .slice p6 n6 c6, .slice p8 n8 c8, lv]) := Lib.hid (HB3n.out.set 3 _)
      have HIp := Lib.hid (HIn.out.sep (inO_keeps B) hst (sep_one HB3n.out (by decide)))
      have HOp := Lib.hid (HOn.out.sep (outO_keeps B) hst (sep_one HB3n.out (by decide)))
      have HRp := Lib.hid (HRn.out.stays hst (rw_one HB3n.out (by omega) (by decide)) (by omega))
      have HB2p := Lib.hid (HB2n.out.stays hst (by omega))
      have HSp := Lib.hid ((HS9.out.trans HSn.out fun k _ hk => hk).trans hst fun k h1 h2 => by omega)
      clear hst hlv f3 c3' ec HB3n HIn HOn HRn HB2n HSn HR9 HB39 HB29 HI9 HO9 HS9
      generalize Wn.setCell ⟨z3, 3, none⟩ lv = Wp at *
      obtain ⟨cs, hcs⟩ : ∃ cs : List Value, cs = [vv, .slice p6 n6 c6, .slice p8 n8 c8, lv] := ⟨_, rfl⟩
      have l6 : Wp.rangeAt z3 0 cs := blk_range (by rw [hcs]; exact HB3p.out)
      have hcl : cs.length = 4 := by rw [hcs]; rfl
      have hone : cs.toArray.all (·.oneCell') = true := by rw [hcs, HVV.out, HLV.out, List.all_toArray]; rfl
      have HCS := Lib.hid hcs
      have HCL := Lib.hid hcl
      have hsz : ZTx.toArray.size = cs.toArray.size := by rw [List.size_toArray, List.size_toArray, hcl]; rfl
      have hbr := Below.refl w.heap.size Wp
      clear hcs hcl
      go_wp2_with (first
        | (with_reducible refine wpList_load_mid (op := ⟨some 68, _, _, _, _, _⟩) ?_ 26 (.tmp 3) ?_ (z3) (0) ?_ (cs) _ (l6) Try.underlying26 ?_ ?_ ?_
           · rfl
           · rfl
           · rfl
           · rfl
           · exact ((info_Tx HCL.out)))
        | (with_reducible refine wp_store_blk (o := ⟨none, _, _, _, _, _⟩) ?_ 26 (.tmp 2) (.tmp 68) ?_ (w.heap.size) 26 (ZTx.toArray) (cs.toArray) ?_ ?_ (HB2p.out) ?_ ?_ ?_ (w.heap.size) (Wp) ?_ ?_ ?_
           · rfl
           · rfl
           · rfl
           · rfl
           · exact (by rw [List.size_toArray]; exact info_Tx HCL.out)
           · exact (hsz)
           · exact (hone)
           · exact (hbr)
           · exact (Nat.le_refl _)
           intro Wq hBq hbq hgq hsq))
      refine bodyPost_ret (results_cell1 rfl _ _ _ w.heap.size _ cs _ rfl hBq.out Try.underlying26 rfl (info_Tx HCL.out)) rfl ?_
      have hstq := Stays.of_grown (S := fun k => k = w.heap.size) hgq.out (fun k h => by injection h with h; exact h.symm)
      refine RdP.ok (a := ⟨ve.setWidth 32, is, os, lo.setWidth 32⟩) (by rw [HTX.out]; unfold bodyZ; rw [Pz.bind_ok HTI.out, Pz.bind_ok HT4.out, Pz.bind_ok HTW.out, Pz.bind_ok HT5.out]; rfl) ⟨cs, rfl, .slice p6 n6 c6, .slice p8 n8 c8, ?_, HIp.out.sep (inO_keeps B) hstq (sep_one HB2p.out (by decide)), HOp.out.sep (outO_keeps B) hstq (sep_one HB2p.out (by decide))⟩ (HRp.out.stays hstq (rw_one HB2p.out hBw (by decide)) (by omega)) (HSp.out.trans hstq fun k h1 h2 => by omega)
      rw [HCS.out, HVV.out, HLV.out]
    · have hlt : (0 : Int) < (n1 : Int) := by omega
      obtain ⟨bb, of0, rfl, _, hcell⟩ := hr1 (fun e => by have := HN1.out; rw [e] at this; simp at this; omega)
      obtain ⟨b, hb⟩ : ∃ b, r1[0]? = some b := ⟨r1[0]'(by rw [HN1.out]; omega), List.getElem?_eq_getElem _⟩
      have hx : W3.cell? ⟨bb, of0, none⟩ = some (.int .u8 (iv8 b)) := hcell 0 b hb
      have hne : (iv8 b == 0) = false := by
        rw [beq_eq_false_iff_ne]
        intro e
        exact h0 (by rw [hb, iv8_inj.1 (e.trans (by rfl : (0 : Int) = iv8 0#8))])
      clear h0 hr1 hcell hb
      go_upto_region 5 with fail
      clear hne hx
      have hcap : Hid True := Lib.hid trivial
      go_wp2_with fail
      refine (partsIns_any inZ 70 (enters_of Try.func70 (by kernel_rfl) rfl) B g 2000 (by omega) (fun W s' h => rdIn_any B g W s' h) W3 r1 HR5.out).mono ?_
      intro e W6 h
      rcases h.cases with ⟨is, r3, HT3, v6, rfl, ⟨hrow6, hfr6⟩, HR6, HS6⟩ | ⟨kk, HT3, rfl, HS6⟩
      case inr =>
        go_wp2_with fail
        exact ⟨rfl, RdP.bad (by rw [HTX.out]; unfold bodyZ; rw [Pz.bind_err (by rw [insZ_parts, HT3.out])]) (HS3.out.trans HS6.out fun k _ hk => hk)⟩
      obtain ⟨p6, n6, c6, rfl, hn6, hnc6, hcm6, _, hp6⟩ := (hrow6.e (fun _ _ h => h.c) : ESl InC 36 W6 v6 is)
      have hB36 := HB3.out.stays HS6.out (by omega)
      have f1 := hB36.frozen 1
      have c1' := hB36.cell 1
      simp only [List.getElem?_toArray, List.getElem?_cons_zero, List.getElem?_cons_succ] at c1'
      have HB36 := Lib.hid hB36
      have HB26 := Lib.hid (HB23.out.stays HS6.out (by omega))
      have HI6 : Hid (RowO (InO B) 67 36 B W6 (.slice p6 n6 c6) is) := Lib.hid hrow6
      have HFR : Hid (∀ j, (Value.slice p6 n6 c6).ownBlock = some j → w.heap.size ≤ j) := Lib.hid (fun j hj => by have := hfr6 j hj; have := HS3.out.size; omega)
      have HN6 := Lib.hid hn6
      clear hB36 hrow6 hfr6 hn6
      go_upto_region 6 with fail
      have hst := Stays.set W6 z3 1 (.slice p6 n6 c6)
      have HB37 : Hid (Blk (W6.setCell ⟨z3, 1, none⟩ (.slice p6 n6 c6)) z3 26 #[vv, .slice p6 n6 c6, .slice none 0 0, .int .u32 0]) := Lib.hid (HB36.out.set 1 _)
      have HI7 := Lib.hid (HI6.out.sep (inO_keeps B) hst (sep_one HB36.out (by decide)))
      have HR7 := Lib.hid (HR6.out.stays hst (rw_one HB36.out (by omega) (by decide)) (by omega))
      have HB27 := Lib.hid (HB26.out.stays hst (by omega))
      have HS7 := Lib.hid ((HS3.out.trans HS6.out fun k _ hk => hk).trans hst fun k h1 h2 => by omega)
      clear hst f1 c1' HB36 HI6 HR6 HB26 HS6 HR5 HB3 HB23 HS3
      generalize W6.setCell ⟨z3, 1, none⟩ (.slice p6 n6 c6) = W7 at *
      have d1 := HB37.out.cell 1
      simp only [List.getElem?_toArray, List.getElem?_cons_zero, List.getElem?_cons_succ] at d1
      by_cases hn0 : n6 = 0
      case pos =>
        subst hn0
        go_wp2_with fail
        exact ⟨rfl, RdP.bad (by rw [HTX.out]; unfold bodyZ; rw [Pz.bind_err (by rw [insZ_parts, HT3.out]; simp only; rw [if_pos HN6.out])]) HS7.out⟩
      have HTI : Hid (insZ r1 = .ok (is, r3)) := Lib.hid (by rw [insZ_parts, HT3.out]; simp only; rw [if_neg (by rw [HN6.out]; exact hn0)])
      have hn6b : n6 ≤ 2000 := by have := (insZ_ok HTI.out).2.2.1; have := HN6.out; omega
      have hne0 : ((n6 : Int) == 0) = false := by rw [beq_eq_false_iff_ne]; omega
      go_wp2_with fail
      refine (partsOuts_any outZ 72 (enters_of Try.func72 (by kernel_rfl) rfl) B g 2000 (by omega) (fun W s' h => rdOut_any B g W s' h) W7 r3 HR7.out).mono ?_
      intro e W8 h
      rcases h.cases with ⟨os, r4, HT4, v8, rfl, ⟨hrow8, hfr8⟩, HR8, HS8⟩ | ⟨kk, HT4, rfl, HS8⟩
      case inr =>
        go_wp2_with fail
        exact ⟨rfl, RdP.bad (by rw [HTX.out]; unfold bodyZ; rw [Pz.bind_ok HTI.out, Pz.bind_err HT4.out]) (HS7.out.trans HS8.out fun k _ hk => hk)⟩
      obtain ⟨p8, n8, c8, rfl, _⟩ := (hrow8.e (fun _ _ h => h.c) : ESl OutC 2 W8 v8 os)
      have hB38 := HB37.out.stays HS8.out (by omega)
      have f2 := hB38.frozen 2
      have c2' := hB38.cell 2
      simp only [List.getElem?_toArray, List.getElem?_cons_zero, List.getElem?_cons_succ] at c2'
      have HB38 := Lib.hid hB38
      have HB28 := Lib.hid (HB27.out.stays HS8.out (by omega))
      have HO8 : Hid (RowO (OutO B) 61 2 B W8 (.slice p8 n8 c8) os) := Lib.hid hrow8
      have HI8 := Lib.hid (HI7.out.sep (inO_keeps B) HS8.out (Sep.low fun k hk => by have : k = g := hk; omega))
      clear hB38 hrow8 hfr8 d1
      go_upto_region 9 with fail
      have hst := Stays.set W8 z3 2 (.slice p8 n8 c8)
      have HB39 : Hid (Blk (W8.setCell ⟨z3, 2, none⟩ (.slice p8 n8 c8)) z3 26 #[vv, .slice p6 n6 c6, .slice p8 n8 c8, .int .u32 0]) := Lib.hid (HB38.out.set 2 _)
      have HI9 := Lib.hid (HI8.out.sep (inO_keeps B) hst (sep_one HB38.out (by decide)))
      have HO9 := Lib.hid (HO8.out.sep (outO_keeps B) hst (sep_one HB38.out (by decide)))
      have HR9 := Lib.hid (HR8.out.stays hst (rw_one HB38.out (by omega) (by decide)) (by omega))
      have HB29 := Lib.hid (HB28.out.stays hst (by omega))
      have HS9 := Lib.hid ((HS7.out.trans HS8.out fun k _ hk => hk).trans hst fun k h1 h2 => by omega)
      clear hst f2 c2' HB38 HI8 HO8 HR8 HB28 HS8 HB37 HI7 HR7 HB27 HS7 hne0
      generalize W8.setCell ⟨z3, 2, none⟩ (.slice p8 n8 c8) = W9 at *
      have HTW : Hid (witZ false is r4 = .ok (is, r4)) := Lib.hid rfl
      go_wp2_with fail
      refine (rdNum_any B g 4 (by omega) W9 r4 HR9.out).mono ?_
      intro e Wn h
      rcases h.cases with ⟨lo, r5, HT5, vl, rfl, hvl, HRn, HSn⟩ | ⟨kk, HT5, rfl, HSn⟩
      case inr =>
        go_wp2_with fail
        exact ⟨rfl, RdP.bad (by rw [HTX.out]; unfold bodyZ; rw [Pz.bind_ok HTI.out, Pz.bind_ok HT4.out, Pz.bind_ok HTW.out, Pz.bind_err HT5.out]) (HS9.out.trans HSn.out fun k _ hk => hk)⟩
      subst hvl
      have ec := cut64_32 lo
      have hB3n := HB39.out.stays HSn.out (by omega)
      have f3 := hB3n.frozen 3
      have c3' := hB3n.cell 3
      simp only [List.getElem?_toArray, List.getElem?_cons_zero, List.getElem?_cons_succ] at c3'
      have HB3n := Lib.hid hB3n
      have HB2n := Lib.hid (HB29.out.stays HSn.out (by omega))
      have HIn := Lib.hid (HI9.out.sep (inO_keeps B) HSn.out (Sep.low fun k hk => by have : k = g := hk; omega))
      have HOn := Lib.hid (HO9.out.sep (outO_keeps B) HSn.out (Sep.low fun k hk => by have : k = g := hk; omega))
      clear hB3n
      go_upto_region 18 with fail
      obtain ⟨lv, hlv⟩ : ∃ v, v = Value.int .u32 (iv32 (lo.setWidth 32)) := ⟨_, rfl⟩
      rw [← hlv]
      have HLV := Lib.hid hlv
      have hst := Stays.set Wn z3 3 lv
      have HB3p : Hid (Blk (Wn.setCell ⟨z3, 3, none⟩ lv) z3 26 #[vv, .slice p6 n6 c6, .slice p8 n8 c8, lv]) := Lib.hid (HB3n.out.set 3 _)
      have HIp := Lib.hid (HIn.out.sep (inO_keeps B) hst (sep_one HB3n.out (by decide)))
      have HOp := Lib.hid (HOn.out.sep (outO_keeps B) hst (sep_one HB3n.out (by decide)))
      have HRp := Lib.hid (HRn.out.stays hst (rw_one HB3n.out (by omega) (by decide)) (by omega))
      have HB2p := Lib.hid (HB2n.out.stays hst (by omega))
      have HSp := Lib.hid ((HS9.out.trans HSn.out fun k _ hk => hk).trans hst fun k h1 h2 => by omega)
      clear hst hlv f3 c3' ec HB3n HIn HOn HRn HB2n HSn HR9 HB39 HB29 HI9 HO9 HS9
      generalize Wn.setCell ⟨z3, 3, none⟩ lv = Wp at *
      obtain ⟨cs, hcs⟩ : ∃ cs : List Value, cs = [vv, .slice p6 n6 c6, .slice p8 n8 c8, lv] := ⟨_, rfl⟩
      have l6 : Wp.rangeAt z3 0 cs := blk_range (by rw [hcs]; exact HB3p.out)
      have hcl : cs.length = 4 := by rw [hcs]; rfl
      have hone : cs.toArray.all (·.oneCell') = true := by rw [hcs, HVV.out, HLV.out, List.all_toArray]; rfl
      have HCS := Lib.hid hcs
      have HCL := Lib.hid hcl
      have hsz : ZTx.toArray.size = cs.toArray.size := by rw [List.size_toArray, List.size_toArray, hcl]; rfl
      have hbr := Below.refl w.heap.size Wp
      clear hcs hcl
      go_wp2_with (first
        | (with_reducible refine wpList_load_mid (op := ⟨some 68, _, _, _, _, _⟩) ?_ 26 (.tmp 3) ?_ (z3) (0) ?_ (cs) _ (l6) Try.underlying26 ?_ ?_ ?_
           · rfl
           · rfl
           · rfl
           · rfl
           · exact ((info_Tx HCL.out)))
        | (with_reducible refine wp_store_blk (o := ⟨none, _, _, _, _, _⟩) ?_ 26 (.tmp 2) (.tmp 68) ?_ (w.heap.size) 26 (ZTx.toArray) (cs.toArray) ?_ ?_ (HB2p.out) ?_ ?_ ?_ (w.heap.size) (Wp) ?_ ?_ ?_
           · rfl
           · rfl
           · rfl
           · rfl
           · exact (by rw [List.size_toArray]; exact info_Tx HCL.out)
           · exact (hsz)
           · exact (hone)
           · exact (hbr)
           · exact (Nat.le_refl _)
           intro Wq hBq hbq hgq hsq))
      refine bodyPost_ret (results_cell1 rfl _ _ _ w.heap.size _ cs _ rfl hBq.out Try.underlying26 rfl (info_Tx HCL.out)) rfl ?_
      have hstq := Stays.of_grown (S := fun k => k = w.heap.size) hgq.out (fun k h => by injection h with h; exact h.symm)
      refine RdP.ok (a := ⟨ve.setWidth 32, is, os, lo.setWidth 32⟩) (by rw [HTX.out]; unfold bodyZ; rw [Pz.bind_ok HTI.out, Pz.bind_ok HT4.out, Pz.bind_ok HTW.out, Pz.bind_ok HT5.out]; rfl) ⟨cs, rfl, .slice p6 n6 c6, .slice p8 n8 c8, ?_, HIp.out.sep (inO_keeps B) hstq (sep_one HB2p.out (by decide)), HOp.out.sep (outO_keeps B) hstq (sep_one HB2p.out (by decide))⟩ (HRp.out.stays hstq (rw_one HB2p.out hBw (by decide)) (by omega)) (HSp.out.trans hstq fun k h1 h2 => by omega)
      rw [HCS.out, HVV.out, HLV.out]
  case pos =>
    have hlt : (0 : Int) < (n1 : Int) := by
      have := (List.getElem?_eq_some_iff.1 h0).1
      have := HN1.out
      omega
    obtain ⟨bb, of0, rfl, _, hcell⟩ := hr1 (fun e => by rw [e] at h0; cases h0)
    have hx : W3.cell? ⟨bb, of0, none⟩ = some (.int .u8 0) := hcell 0 _ h0
    have H0 := Lib.hid h0
    clear h0 hr1 hcell
    go_upto_region 3 with fail
    clear hx
    go_wp2_with fail
    refine (rdTake_any B g 2 (by omega) W3 r1 HR3.out).mono ?_
    intro e W5 h
    rcases h.cases with ⟨b2, r2, HT2, v5, rfl, ⟨hd5, hl5⟩, HR5, HS5⟩ | ⟨kk, HT2, rfl, HS5⟩
    case inr =>
      go_wp2_with fail
      exact ⟨rfl, RdP.bad (by unfold txZ; rw [Pz.bind_ok HT1.out]; exact Pz.bind_err (by unfold markZ; rw [if_pos H0.out, Pz.bind_err HT2.out])) (HS3.out.trans HS5.out fun k _ hk => hk)⟩
    obtain ⟨x0, x1, rfl⟩ : ∃ x0 x1, b2 = [x0, x1] := by
      match b2, hl5 with
      | [x, y], _ => exact ⟨x, y, rfl⟩
    obtain ⟨p5, n5, c5, rfl, hn5, hnc5, hcm5, hr5, hp5⟩ := hd5.open
    obtain ⟨b5, o5, rfl, _, hcell5⟩ := hr5 (by simp)
    have hx5 : W5.cell? ⟨b5, o5 + 1, none⟩ = some (.int .u8 (iv8 x1)) := hcell5 1 x1 rfl
    have hn52 : n5 = 2 := hn5.symm
    subst hn52
    have HS5' := Lib.hid (HS3.out.trans HS5.out fun k _ hk => hk)
    have HB35 := Lib.hid (HB3.out.stays HS5.out (by omega))
    have HB25 := Lib.hid (HB23.out.stays HS5.out (by omega))
    clear HR3 HB3 HB23 HS3 hd5 hl5 hn5 hr5 hp5 hcell5
    by_cases h1 : x1 = 1#8
    case neg =>
      have hne : (iv8 x1 == 1) = false := by
        rw [beq_eq_false_iff_ne]
        intro e
        exact h1 (iv8_inj.1 (e.trans (by rfl : (1 : Int) = iv8 1#8)))
      have H1 := Lib.hid h1
      clear h1
      go_wp2_with fail
      exact ⟨rfl, RdP.bad (by
        unfold txZ
        rw [Pz.bind_ok HT1.out]
        refine Pz.bind_err ?_
        unfold markZ
        rw [if_pos H0.out, Pz.bind_ok HT2.out, if_neg (by simpa using H1.out)]
        rfl) HS5'.out⟩
    case pos =>
      have hx5' : W5.cell? ⟨b5, o5 + 1, none⟩ = some (.int .u8 1) := by rw [hx5, h1]; rfl
      have HTX : Hid (txZ s = bodyZ ve true r2) := Lib.hid (by
        unfold txZ
        rw [Pz.bind_ok HT1.out]
        refine Pz.bind_ok ?_
        unfold markZ
        rw [if_pos H0.out, Pz.bind_ok HT2.out, if_pos (by simpa using h1)]
        rfl)
      clear hx5 h1
      go_upto_region 5 with fail
      clear hx5'
      have hcap : Hid True := Lib.hid trivial
      go_wp2_with fail
      refine (partsIns_any inZ 70 (enters_of Try.func70 (by kernel_rfl) rfl) B g 2000 (by omega) (fun W s' h => rdIn_any B g W s' h) W5 r2 HR5.out).mono ?_
      intro e W6 h
      rcases h.cases with ⟨is, r3, HT3, v6, rfl, ⟨hrow6, hfr6⟩, HR6, HS6⟩ | ⟨kk, HT3, rfl, HS6⟩
      case inr =>
        go_wp2_with fail
        exact ⟨rfl, RdP.bad (by rw [HTX.out]; unfold bodyZ; rw [Pz.bind_err (by rw [insZ_parts, HT3.out])]) (HS5'.out.trans HS6.out fun k _ hk => hk)⟩
      obtain ⟨p6, n6, c6, rfl, hn6, hnc6, hcm6, _, hp6⟩ := (hrow6.e (fun _ _ h => h.c) : ESl InC 36 W6 v6 is)
      have hB36 := HB35.out.stays HS6.out (by omega)
      have f1 := hB36.frozen 1
      have c1' := hB36.cell 1
      simp only [List.getElem?_toArray, List.getElem?_cons_zero, List.getElem?_cons_succ] at c1'
      have HB36 := Lib.hid hB36
      have HB26 := Lib.hid (HB25.out.stays HS6.out (by omega))
      have HI6 : Hid (RowO (InO B) 67 36 B W6 (.slice p6 n6 c6) is) := Lib.hid hrow6
      have HFR : Hid (∀ j, (Value.slice p6 n6 c6).ownBlock = some j → w.heap.size ≤ j) := Lib.hid (fun j hj => by have := hfr6 j hj; have := HS5'.out.size; omega)
      have HN6 := Lib.hid hn6
      clear hB36 hrow6 hfr6 hn6
      go_upto_region 6 with fail
      have hst := Stays.set W6 z3 1 (.slice p6 n6 c6)
      have HB37 : Hid (Blk (W6.setCell ⟨z3, 1, none⟩ (.slice p6 n6 c6)) z3 26 #[vv, .slice p6 n6 c6, .slice none 0 0, .int .u32 0]) := Lib.hid (HB36.out.set 1 _)
      have HI7 := Lib.hid (HI6.out.sep (inO_keeps B) hst (sep_one HB36.out (by decide)))
      have HR7 := Lib.hid (HR6.out.stays hst (rw_one HB36.out (by omega) (by decide)) (by omega))
      have HB27 := Lib.hid (HB26.out.stays hst (by omega))
      have HS7 := Lib.hid ((HS5'.out.trans HS6.out fun k _ hk => hk).trans hst fun k h1 h2 => by omega)
      clear hst f1 c1' HB36 HI6 HR6 HB26 HS6 HR5 HB35 HB25 HS5'
      generalize W6.setCell ⟨z3, 1, none⟩ (.slice p6 n6 c6) = W7 at *
      have d1 := HB37.out.cell 1
      simp only [List.getElem?_toArray, List.getElem?_cons_zero, List.getElem?_cons_succ] at d1
      by_cases hn0 : n6 = 0
      case pos =>
        subst hn0
        go_wp2_with fail
        exact ⟨rfl, RdP.bad (by rw [HTX.out]; unfold bodyZ; rw [Pz.bind_err (by rw [insZ_parts, HT3.out]; simp only; rw [if_pos HN6.out])]) HS7.out⟩
      have HTI : Hid (insZ r2 = .ok (is, r3)) := Lib.hid (by rw [insZ_parts, HT3.out]; simp only; rw [if_neg (by rw [HN6.out]; exact hn0)])
      have hn6b : n6 ≤ 2000 := by have := (insZ_ok HTI.out).2.2.1; have := HN6.out; omega
      have hne0 : ((n6 : Int) == 0) = false := by rw [beq_eq_false_iff_ne]; omega
      go_wp2_with fail
      refine (partsOuts_any outZ 72 (enters_of Try.func72 (by kernel_rfl) rfl) B g 2000 (by omega) (fun W s' h => rdOut_any B g W s' h) W7 r3 HR7.out).mono ?_
      intro e W8 h
      rcases h.cases with ⟨os, r4, HT4, v8, rfl, ⟨hrow8, hfr8⟩, HR8, HS8⟩ | ⟨kk, HT4, rfl, HS8⟩
      case inr =>
        go_wp2_with fail
        exact ⟨rfl, RdP.bad (by rw [HTX.out]; unfold bodyZ; rw [Pz.bind_ok HTI.out, Pz.bind_err HT4.out]) (HS7.out.trans HS8.out fun k _ hk => hk)⟩
      obtain ⟨p8, n8, c8, rfl, _⟩ := (hrow8.e (fun _ _ h => h.c) : ESl OutC 2 W8 v8 os)
      have hB38 := HB37.out.stays HS8.out (by omega)
      have f2 := hB38.frozen 2
      have c2' := hB38.cell 2
      simp only [List.getElem?_toArray, List.getElem?_cons_zero, List.getElem?_cons_succ] at c2'
      have HB38 := Lib.hid hB38
      have HB28 := Lib.hid (HB27.out.stays HS8.out (by omega))
      have HO8 : Hid (RowO (OutO B) 61 2 B W8 (.slice p8 n8 c8) os) := Lib.hid hrow8
      have HI8 := Lib.hid (HI7.out.sep (inO_keeps B) HS8.out (Sep.low fun k hk => by have : k = g := hk; omega))
      clear hB38 hrow8 hfr8 d1
      go_upto_region 9 with fail
      have hst := Stays.set W8 z3 2 (.slice p8 n8 c8)
      have HB39 : Hid (Blk (W8.setCell ⟨z3, 2, none⟩ (.slice p8 n8 c8)) z3 26 #[vv, .slice p6 n6 c6, .slice p8 n8 c8, .int .u32 0]) := Lib.hid (HB38.out.set 2 _)
      have HI9 := Lib.hid (HI8.out.sep (inO_keeps B) hst (sep_one HB38.out (by decide)))
      have HO9 := Lib.hid (HO8.out.sep (outO_keeps B) hst (sep_one HB38.out (by decide)))
      have HR9 := Lib.hid (HR8.out.stays hst (rw_one HB38.out (by omega) (by decide)) (by omega))
      have HB29 := Lib.hid (HB28.out.stays hst (by omega))
      have HS9 := Lib.hid ((HS7.out.trans HS8.out fun k _ hk => hk).trans hst fun k h1 h2 => by omega)
      clear hst f2 c2' HB38 HI8 HO8 HR8 HB28 HS8 HB37 HI7 HR7 HB27 HS7 hne0
      generalize W8.setCell ⟨z3, 2, none⟩ (.slice p8 n8 c8) = W9 at *
      obtain ⟨R, hR⟩ : ∃ R, R = witsZ is r4 := ⟨_, rfl⟩
      have HRW := Lib.hid hR
      have d1 := HB39.out.cell 1
      simp only [List.getElem?_toArray, List.getElem?_cons_zero, List.getElem?_cons_succ] at d1
      clear hR
      go_upto_region 11 with fail
      clear d1
      go_loopw [49] (fun i wr => ∃ (k : Nat) (xs : List TIn) (sr : Bs), k ≤ n6 ∧ i = .int .i64 k ∧ Hid (xs.length = k) ∧ Hid (contW xs (is.drop k) sr = R) ∧ Hid (RdAt B g wr sr) ∧ Hid (RowO (InO B) 67 36 B wr (.slice p6 n6 c6) (xs ++ is.drop k)) ∧ Hid (Blk wr z3 26 #[vv, .slice p6 n6 c6, .slice p8 n8 c8, .int .u32 0]) ∧ Hid (Blk wr w.heap.size 26 ZTx.toArray) ∧ Hid (RowO (OutO B) 61 2 B wr (.slice p8 n8 c8) os) ∧ Hid (Stays (· = g) w wr)) (fun i _ => n6 - (intOf i).toNat)
      case atStart => exact ⟨0, [], r4, by omega, rfl, Lib.hid rfl, Lib.hid (by rw [HRW.out, List.drop_zero, contW_start is r4]), HR9, Lib.hid (by rw [List.drop_zero]; exact HI9.out), HB39, HB29, HO9, HS9⟩
      case round =>
        obtain ⟨k, xs, sr, hkn, rfl, HXL, HM, HRk, HIk, HB3k, HB2k, HOk, HSk⟩ := hrel
        by_cases hlt6 : k < n6
        · have hlk : (k : Int) < (n6 : Int) := by omega
          obtain ⟨x, hx⟩ : ∃ x, is[k]? = some x := ⟨is[k]'(by rw [HN6.out]; exact hlt6), List.getElem?_eq_getElem _⟩
          have HX := Lib.hid hx
          obtain ⟨b6, rfl⟩ : ∃ b6, p6 = some ⟨b6, 0, none⟩ := by
            obtain ⟨css, h1, h2, h3⟩ := HIk.out
            rcases h2.2 with ⟨e, _⟩ | ⟨b6, _, _, e, _⟩
            · injection e with _ e2 _; omega
            · injection e with e1 _ _; exact ⟨b6, e1⟩
          have hzk : z3 ≠ b6 := fun e => by
            obtain ⟨cur, hc, _⟩ := HIk.out.blk
            rw [← e] at hc
            exact absurd (HB3k.out.inj hc).1 (by decide)
          clear hx
          go_upto_region 13 with fail
          refine region_planP [qq 0, qq 1, qq 2, qq 3, oo 4, qq 5, qq 6, oo 7] (fun W => Blk W z3 26 #[vv, .slice (some ⟨b6, 0, none⟩) n6 c6, .slice p8 n8 c8, .int .u32 0]) (by kernel_rfl) (by kernel_rfl) (by intro c a d v w h; cases a; cases d <;> exact h) (HB3k.out.fut (below_draws wr 1)) ?_
          refine' plan_quiet (s := 69) (A1 := _) [0, 1, 2, 3] [_, _, _, _] _ rfl rfl rfl (fun W hW => ?hq1) _ (HB3k.out.fut (below_draws wr 1)) (fun _ => ?hr1)
          case hq1 =>
            have e1 : ∀ k, (W.drewN k).cell? ⟨z3, 1, none⟩ = some (.slice (some ⟨b6, 0, none⟩) n6 c6) := fun k => by have := hW.cell 1; simpa using this
            try simp only [List.getElem_toArray, List.getElem_cons_zero, List.getElem_cons_succ]
            iterate 4 (go_big_quiet_step (fail))
            refine wpQuiet_nil ?_
            rfl
          case hr1 =>
          refine plan_one rfl fun k1 => ?_
          have hdr : Below wr.heap.size wr (wr.drew.drewN k1) := below_drewN (Below.refl _ _).drew k1
          have HRd := Lib.hid (HRk.out.fut hdr)
          have HId := Lib.hid (HIk.out.sep (inO_keeps B) (Stays.of_below hdr (Nat.le_refl _) (fun _ => False)) (fun _ h => h.elim))
          have HOd := Lib.hid (HOk.out.sep (outO_keeps B) (Stays.of_below hdr (Nat.le_refl _) (fun _ => False)) (fun _ h => h.elim))
          have HB3d := Lib.hid (HB3k.out.fut hdr)
          have HB2d := Lib.hid (HB2k.out.fut hdr)
          have HSd : Hid (Stays (· = g) w (wr.drew.drewN k1)) := Lib.hid ((Stable.stays w).fut HSk.out hdr)
          clear HRk HIk HOk HB3k HB2k HSk hdr
          generalize wr.drew.drewN k1 = wd at *
          go_wp2_with fail
          refine (partsTexts_any textZ 74 (enters_of Try.func74 (by kernel_rfl) rfl) B g 100 (by omega) (fun W s' h => rdText_cells B g W s' h) wd sr HRd.out).mono ?_
          intro e We h
          rcases h.cases with ⟨ws, sr', HTw, ve', rfl, ⟨hrowe, hfre⟩, HRe, HSe⟩ | ⟨kk, HTw, rfl, HSe⟩
          case inr =>
            go_wp2_with fail
            refine ⟨rfl, RdP.bad ?_ (HSd.out.trans HSe.out fun k _ hk => hk)⟩
            rw [HTX.out]
            unfold bodyZ
            rw [Pz.bind_ok HTI.out, Pz.bind_ok HT4.out]
            refine Pz.bind_err ?_
            unfold witZ
            rw [if_pos rfl]
            refine Pz.bind_err ?_
            rw [← HRW.out, ← HM.out, drop_mid is k x HX.out]
            exact contW_bad HTw.out
          obtain ⟨pe, ne, ce, rfl, _⟩ := (hrowe.e (fun _ _ h => h.c) : ESl TextC 1 We ve' ws)
          have HMe : Hid (contW (xs ++ [{ x with wi := ws }]) (is.drop (k + 1)) sr' = R) := Lib.hid (by
            rw [← HM.out, drop_mid is k x HX.out]
            exact (contW_ok HTw.out).symm)
          have hI := HId.out.sep (inO_keeps B) HSe.out (Sep.low fun k hk => by have : k = g := hk; omega)
          have hrowe' : RowO (TextO B) 27 1 B We (.slice pe ne ce) ws := hrowe
          have hpoke := hI.poke (Ts := [5, 27]) (k := k) (j := 35) (u := .slice pe ne ce) (x := x) (x' := { x with wi := ws }) (inO_keeps B) (by decide) (by rw [at_mid xs is k HXL.out]; exact HX.out) (by omega)
          have hbI : ∃ cur, Blk We b6 67 cur ∧ B ≤ b6 ∧ k * 36 + 35 < cur.size := by
            obtain ⟨cur', hh, hBb, hsz, hc1⟩ := hI.blk
            refine ⟨cur', hh, hBb, ?_⟩
            have h1 := Nat.mul_le_mul_right 36 (show k + 1 ≤ c6 by omega)
            rw [Nat.succ_mul] at h1
            omega
          obtain ⟨cur, hbl, hBb, hsz⟩ := hbI
          have hst := Stays.set We b6 (k * 36 + 35) (.slice pe ne ce)
          have hsepI : Sep B [5, 27] We (· = b6) := sep_one hbl (by decide)
          obtain ⟨_, hI2⟩ := hpoke (fun cs h1 h2 => inO_wit h1 hst hsepI (hrowe'.sep (textO_keeps B) hst (hsepI.mono (by simp))))
          rw [set_mid xs is x _ k HXL.out HX.out] at hI2
          have HI2 := Lib.hid hI2
          have HO2 := Lib.hid ((HOd.out.sep (outO_keeps B) HSe.out (Sep.low fun k hk => by have : k = g := hk; omega)).sep (outO_keeps B) hst (sep_one hbl (by decide)))
          have hB3e := HB3d.out.stays HSe.out (by omega)
          have HB3e := Lib.hid hB3e
          have HB32 := Lib.hid (hB3e.stays hst hzk)
          have hwb : w.heap.size ≤ b6 := HFR.out b6 rfl
          have hwb2 : w.heap.size ≠ b6 := fun e => by
            have h2 := HB2d.out.stays HSe.out (by omega)
            rw [e] at h2
            exact absurd (h2.inj hbl).1 (by decide)
          have HB22 := Lib.hid ((HB2d.out.stays HSe.out (by omega)).stays hst hwb2)
          have HR2' := Lib.hid (HRe.out.stays hst (rw_one hbl hBb (by decide)) (by omega))
          have HS2' := Lib.hid ((HSd.out.trans HSe.out fun k _ hk => hk).trans hst fun j h1 h2 => by omega)
          have cI : ∃ u, We.cell? ⟨b6, k * 36 + 35, none⟩ = some u := ⟨_, by rw [hbl.cell, Array.getElem?_eq_getElem hsz]⟩
          obtain ⟨uI, cI⟩ := cI
          have fI := hbl.frozen (k * 36 + 35)
          clear hpoke hI hI2 hrowe hrowe' hfre hst hsepI HRd HId HOd HB3d HB2d HSd HRe HSe hbl hsz
          go_wp2_with fail
          refine planQ_normal (And.intro hB3e ?_)
          refine' plan_quiet (s := 69) (A1 := _) [5, 6] [_, _] _ rfl rfl rfl (fun W hW => ?hq2) _ hB3e (fun _ => ?hr2)
          case hq2 =>
            try simp only [List.getElem_toArray, List.getElem_cons_zero, List.getElem_cons_succ]
            iterate 2 (go_big_quiet_step (fail))
            refine wpQuiet_nil ?_
            rfl
          case hr2 =>
          refine plan_one rfl fun k2 => ?_
          have cI2 : (We.drewN k2).cell? ⟨b6, k * 36 + 35, none⟩ = some uI := cI
          have fI2 : (We.drewN k2).frozen? ⟨b6, k * 36 + 35, none⟩ = false := fI
          clear hB3e
          go_wp2_with fail
          refine planQ_normal (And.intro (show Blk ((We.drewN k2).setCell ⟨b6, k * 36 + 35, none⟩ (.slice pe ne ce)) z3 26 _ from HB32.out) ?_)
          refine plan_end fun k3 => ?_
          have hd2 : Below (We.setCell ⟨b6, k * 36 + 35, none⟩ (.slice pe ne ce)).heap.size (We.setCell ⟨b6, k * 36 + 35, none⟩ (.slice pe ne ce)) (((We.drewN k2).setCell ⟨b6, k * 36 + 35, none⟩ (.slice pe ne ce)).drewN k3) := below_drewN (below_drewN (Below.refl _ _) k2) k3
          have HRf := Lib.hid (HR2'.out.fut hd2)
          have HIf := Lib.hid (HI2.out.sep (inO_keeps B) (Stays.of_below hd2 (Nat.le_refl _) (fun _ => False)) (fun _ h => h.elim))
          have HOf := Lib.hid (HO2.out.sep (outO_keeps B) (Stays.of_below hd2 (Nat.le_refl _) (fun _ => False)) (fun _ h => h.elim))
          have HB3f := Lib.hid (HB32.out.fut hd2)
          have HB2f := Lib.hid (HB22.out.fut hd2)
          have HSf := Lib.hid ((Stable.stays w).fut HS2'.out hd2)
          clear hd2 cI2 fI2 cI fI HR2' HI2 HO2 HB32 HB22 HS2' HB3e
          generalize ((We.drewN k2).setCell ⟨b6, k * 36 + 35, none⟩ (.slice pe ne ce)).drewN k3 = wf at *
          go_wp2_with fail
          go_roundw
          case rel => exact ⟨k + 1, xs ++ [{ x with wi := ws }], sr', by omega, by go_num, Lib.hid (by rw [List.length_append, HXL.out]; rfl), HMe, HRf, HIf, HB3f, HB2f, HOf, HSf⟩
          case measure => simp [intOf]; omega
        · obtain rfl : k = n6 := by omega
          have hdr : is.drop k = [] := List.drop_of_length_le (by have := HN6.out; omega)
          rw [hdr] at HM HIk
          rw [List.append_nil] at HIk
          have HTWs : Hid (witsZ is r4 = .ok (xs, sr)) := Lib.hid (by rw [← HRW.out, ← HM.out, contW_end])
          obtain ⟨cc, hcc⟩ : ∃ cc : List Value, cc = [vv, .slice p6 k c6, .slice p8 n8 c8, .int .u32 0] := ⟨_, rfl⟩
          have HTC : Hid (TxC wr ⟨ve.setWidth 32, xs, os, 0#32⟩ cc) := Lib.hid (by
            rw [hcc]
            exact ⟨.slice p6 k c6, .slice p8 n8 c8, by rw [HVV.out]; rfl, HIk.out.e fun _ _ h => h.c, HOk.out.e fun _ _ h => h.c⟩)
          have l3 : wr.rangeAt z3 0 cc := blk_range (by rw [hcc]; exact HB3k.out)
          have hcl : cc.length = 4 := by rw [hcc]; rfl
          have HCL := Lib.hid hcl
          have HCC := Lib.hid hcc
          have hwt := witnessed_any _ cc wr HTC.out
          simp only at hwt
          obtain ⟨y, hy⟩ : ∃ y, y = hasWs xs := ⟨_, rfl⟩
          rw [← hy] at hwt
          have HY := Lib.hid hy
          clear hy hcc hcl hdr
          go_upto_region 15 with fail
          go_wp2_with ((with_reducible refine wpList_load_mid (op := ⟨some 60, _, _, _, _, _⟩) ?_ 26 (.tmp 3) ?_ (z3) (0) ?_ (cc) _ (l3) Try.underlying26 ?_ ?_ ?_
                        · rfl
                        · rfl
                        · rfl
                        · rfl
                        · exact ((info_Tx HCL.out))))
          refine hwt.mono ?_
          rintro e Wa ⟨rfl, hba⟩
          have HRa := Lib.hid (HRk.out.fut hba)
          have HB3a := Lib.hid (HB3k.out.fut hba)
          have HB2a := Lib.hid (HB2k.out.fut hba)
          have HIa := Lib.hid (HIk.out.sep (inO_keeps B) (Stays.of_below hba (Nat.le_refl _) (fun _ => False)) (fun _ h => h.elim))
          have HOa := Lib.hid (HOk.out.sep (outO_keeps B) (Stays.of_below hba (Nat.le_refl _) (fun _ => False)) (fun _ h => h.elim))
          have HSa := Lib.hid ((Stable.stays w).fut HSk.out hba)
          clear hba l3 hwt HTC HRk HB3k HB2k HIk HOk HSk
          cases y with
          | false =>
            go_wp2_with fail
            refine ⟨rfl, RdP.bad ?_ HSa.out⟩
            rw [HTX.out]
            unfold bodyZ
            rw [Pz.bind_ok HTI.out, Pz.bind_ok HT4.out]
            refine Pz.bind_err ?_
            unfold witZ
            rw [if_pos rfl, Pz.bind_ok HTWs.out, ← HY.out]
            rfl
          | true =>
            have HTW : Hid (witZ true is r4 = .ok (xs, sr)) := Lib.hid (by
              unfold witZ
              rw [if_pos rfl, Pz.bind_ok HTWs.out, ← HY.out]
              rfl)
            go_upto_region 17 with fail
            go_wp2_with fail
            refine (rdNum_any B g 4 (by omega) Wa sr HRa.out).mono ?_
            intro e Wn h
            rcases h.cases with ⟨lo, r5, HT5, vl, rfl, hvl, HRn, HSn⟩ | ⟨kk, HT5, rfl, HSn⟩
            case inr =>
              go_wp2_with fail
              exact ⟨rfl, RdP.bad (by rw [HTX.out]; unfold bodyZ; rw [Pz.bind_ok HTI.out, Pz.bind_ok HT4.out, Pz.bind_ok HTW.out, Pz.bind_err HT5.out]) (HSa.out.trans HSn.out fun k _ hk => hk)⟩
            subst hvl
            have ec := cut64_32 lo
            have hB3n := HB3a.out.stays HSn.out (by omega)
            have f3 := hB3n.frozen 3
            have c3' := hB3n.cell 3
            simp only [List.getElem?_toArray, List.getElem?_cons_zero, List.getElem?_cons_succ] at c3'
            have HB3n := Lib.hid hB3n
            have HB2n := Lib.hid (HB2a.out.stays HSn.out (by omega))
            have HIn := Lib.hid (HIa.out.sep (inO_keeps B) HSn.out (Sep.low fun k hk => by have : k = g := hk; omega))
            have HOn := Lib.hid (HOa.out.sep (outO_keeps B) HSn.out (Sep.low fun k hk => by have : k = g := hk; omega))
            clear hB3n
            go_upto_region 18 with fail
            obtain ⟨lv, hlv⟩ : ∃ v, v = Value.int .u32 (iv32 (lo.setWidth 32)) := ⟨_, rfl⟩
            rw [← hlv]
            have HLV := Lib.hid hlv
            have hst := Stays.set Wn z3 3 lv
            have HB3p : Hid (Blk (Wn.setCell ⟨z3, 3, none⟩ lv) z3 26 #[vv, .slice p6 k c6, .slice p8 n8 c8, lv]) := Lib.hid (HB3n.out.set 3 _)
            have HIp := Lib.hid (HIn.out.sep (inO_keeps B) hst (sep_one HB3n.out (by decide)))
            have HOp := Lib.hid (HOn.out.sep (outO_keeps B) hst (sep_one HB3n.out (by decide)))
            have HRp := Lib.hid (HRn.out.stays hst (rw_one HB3n.out (by omega) (by decide)) (by omega))
            have HB2p := Lib.hid (HB2n.out.stays hst (by omega))
            have HSp := Lib.hid ((HSa.out.trans HSn.out fun k _ hk => hk).trans hst fun k h1 h2 => by omega)
            clear hst hlv f3 c3' ec HB3n HIn HOn HRn HB2n HSn HRa HB3a HB2a HIa HOa HSa
            generalize Wn.setCell ⟨z3, 3, none⟩ lv = Wp at *
            obtain ⟨cs, hcs⟩ : ∃ cs : List Value, cs = [vv, .slice p6 k c6, .slice p8 n8 c8, lv] := ⟨_, rfl⟩
            have l6 : Wp.rangeAt z3 0 cs := blk_range (by rw [hcs]; exact HB3p.out)
            have hcl : cs.length = 4 := by rw [hcs]; rfl
            have hone : cs.toArray.all (·.oneCell') = true := by rw [hcs, HVV.out, HLV.out, List.all_toArray]; rfl
            have HCS := Lib.hid hcs
            have HCL := Lib.hid hcl
            have hsz : ZTx.toArray.size = cs.toArray.size := by rw [List.size_toArray, List.size_toArray, hcl]; rfl
            have hbr := Below.refl w.heap.size Wp
            clear hcs hcl
            go_wp2_with (first
              | (with_reducible refine wpList_load_mid (op := ⟨some 68, _, _, _, _, _⟩) ?_ 26 (.tmp 3) ?_ (z3) (0) ?_ (cs) _ (l6) Try.underlying26 ?_ ?_ ?_
                 · rfl
                 · rfl
                 · rfl
                 · rfl
                 · exact ((info_Tx HCL.out)))
              | (with_reducible refine wp_store_blk (o := ⟨none, _, _, _, _, _⟩) ?_ 26 (.tmp 2) (.tmp 68) ?_ (w.heap.size) 26 (ZTx.toArray) (cs.toArray) ?_ ?_ (HB2p.out) ?_ ?_ ?_ (w.heap.size) (Wp) ?_ ?_ ?_
                 · rfl
                 · rfl
                 · rfl
                 · rfl
                 · exact (by rw [List.size_toArray]; exact info_Tx HCL.out)
                 · exact (hsz)
                 · exact (hone)
                 · exact (hbr)
                 · exact (Nat.le_refl _)
                 intro Wq hBq hbq hgq hsq))
            refine bodyPost_ret (results_cell1 rfl _ _ _ w.heap.size _ cs _ rfl hBq.out Try.underlying26 rfl (info_Tx HCL.out)) rfl ?_
            have hstq := Stays.of_grown (S := fun k => k = w.heap.size) hgq.out (fun k h => by injection h with h; exact h.symm)
            refine RdP.ok (a := ⟨ve.setWidth 32, xs, os, lo.setWidth 32⟩) (by rw [HTX.out]; unfold bodyZ; rw [Pz.bind_ok HTI.out, Pz.bind_ok HT4.out, Pz.bind_ok HTW.out, Pz.bind_ok HT5.out]; rfl) ⟨cs, rfl, .slice p6 k c6, .slice p8 n8 c8, ?_, HIp.out.sep (inO_keeps B) hstq (sep_one HB2p.out (by decide)), HOp.out.sep (outO_keeps B) hstq (sep_one HB2p.out (by decide))⟩ (HRp.out.stays hstq (rw_one HB2p.out hBw (by decide)) (by omega)) (HSp.out.trans hstq fun k h1 h2 => by omega)
            rw [HCS.out, HVV.out, HLV.out]
end Go.Proofs.Ythglocpbdfcfnaa
