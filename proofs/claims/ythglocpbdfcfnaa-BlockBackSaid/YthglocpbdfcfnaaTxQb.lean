/- sporranref07's reader: an input, an output. -/
import Derived.Test.YthglocpbdfcfnaaTxQ
import Derived.Test.YthglocpbdfcfnaaTxU
import Derived.Test.YthglocpbdfcfnaaGB
namespace Go.Proofs.Ythglocpbdfcfnaa
open Go Go.RowKit
set_option linter.unusedVariables false

theorem wrapi64 (v : BitVec 64) : wrap64 (iv64 v) = v.toInt := by
  have h := v.isLt
  have e : iv64 v = (v.toNat : Int) := rfl
  rw [e, BitVec.toInt_eq_toNat_cond]
  unfold wrap64
  split <;> omega
def ZInL : List Value := List.replicate 32 (Value.int .u8 0) ++ [Value.int .u32 0, Value.slice none 0 0, Value.int .u32 0, Value.slice none 0 0]
theorem splice_in (id : Bs) (h : id.length = 32) : splice ZInL 0 ((id.take 32).map u8) = inCells id 0#32 (.slice none 0 0) (.int .u32 0) (.slice none 0 0) := by
  rw [List.take_of_length_le (by omega)]
  unfold splice inCells hCells ZInL
  rw [List.take_zero, List.nil_append, List.length_map, h]
  rfl
theorem inCells_set32 (id : Bs) (h : id.length = 32) (ix ix' : BitVec 32) (sc sq wi : Value) : (inCells id ix sc sq wi).toArray.setIfInBounds 32 (.int .u32 (iv32 ix')) = (inCells id ix' sc sq wi).toArray := by
  have hl : (hCells id).length = 32 := by simp [hCells, h]
  unfold inCells
  rw [List.setIfInBounds_toArray, List.set_append_right _ _ (by omega), hl]
  rfl

/-- an input of one's own whose witnesses, if there are none, are nil -/
def InN (B : Nat) (w : World) (x : TIn) (cs : List Value) : Prop := InO B w x cs ∧ (x.wi = [] → cs[35]? = some (.slice none 0 0))
theorem inN_keeps (B : Nat) : KeepsO B [5, 27] (InN B) := fun w w' S x cs h hs hp => ⟨inO_keeps B w w' S x cs h.1 hs hp, h.2⟩
theorem InN.len {B : Nat} {w : World} {x : TIn} {cs : List Value} (h : InN B w x cs) : cs.length = 36 := h.1.len
theorem InN.one {B : Nat} {w : World} {x : TIn} {cs : List Value} (h : InN B w x cs) : cs.toArray.all (·.oneCell') = true := h.1.one
theorem InN.c {B : Nat} {w : World} {x : TIn} {cs : List Value} (h : InN B w x cs) : InC w x cs := h.1.c
set_option maxRecDepth 100000 in
set_option maxHeartbeats 8000000 in
theorem rsIn_any (B g : Nat) (w : World) (er : Int) (s : Bs) (h : RsAt B g w er s) :
    Calls Try.prog 40 #[.pointer (some ⟨g, 0, none⟩)] w (SkP B g w inZ er s fun w' a v => (∃ cs, v = .agg cs.toArray ∧ InN B w' a cs) ∧ a.wi = []) := by
  have hgB : g < B := h.elim fun v h => h.2.2.2.1
  have hBw : B ≤ w.heap.size := h.elim fun v h => h.2.2.2.2
  have hz := zIn
  have hb1 := below_new w (.cells ZIn 67)
  have hb2 := below_new (w.alloc (.cells ZIn 67)) (.cells ZIn 67)
  have HR2 := Lib.hid ((h.fut hb1).fut hb2)
  have HB2 := Lib.hid ((Blk.new w 67 ZIn).fut hb2)
  have HB3 := Lib.hid (Blk.new (w.alloc (.cells ZIn 67)) 67 ZIn)
  have HS2 : Hid (Stays (· = g) w ((w.alloc (.cells ZIn 67)).alloc (.cells ZIn 67))) := Lib.hid (((Stays.refl (· = g) w).alloc _).alloc _)
  simp only [World.size_alloc] at HB3
  clear h hb1 hb2
  go_enter Try.func40, Try.ntmps40
  go_upto_region 2 with fail
  generalize (w.alloc (.cells ZIn 67)).alloc (.cells ZIn 67) = w2 at *
  obtain ⟨z3, hz3⟩ : ∃ z, z = w.heap.size + 1 := ⟨_, rfl⟩
  rw [← hz3] at HB3 ⊢
  have hzz : w.heap.size < z3 := by omega
  clear hz3 hz
  refine region_plan [qq 0, qq 1, qq 2, qq 3, oo 4, oo 5] (fun _ => True) (by kernel_rfl) (by kernel_rfl) trivial ?_
  refine' plan_quiet (s := 23) (A1 := _) [0, 1, 2, 3] [_, _, _, _] _ rfl rfl rfl (fun W hW => ?hq1) _ trivial (fun _ => ?hr1)
  case hq1 =>
    try simp only [List.getElem_toArray, List.getElem_cons_zero, List.getElem_cons_succ]
    iterate 4 (go_big_quiet_step (fail))
    refine wpQuiet_nil ?_
    rfl
  case hr1 =>
  refine plan_one rfl fun k1 => ?_
  have hdr : Below w2.heap.size w2 (w2.drew.drewN k1) := below_drewN (Below.refl _ _).drew k1
  have HRa := Lib.hid (HR2.out.fut hdr)
  have HB2a := Lib.hid (HB2.out.fut hdr)
  have HB3a := Lib.hid (HB3.out.fut hdr)
  have HSa := Lib.hid ((Stable.stays w).fut HS2.out hdr)
  clear HR2 HB2 HB3 HS2 hdr
  generalize w2.drew.drewN k1 = Wa at *
  go_wp2_with fail
  refine (rsTake_any B g 32 (by omega) Wa er s HRa.out).mono ?_
  rintro e Wb ⟨v, id, er1, r1, rfl, ⟨hd, hl⟩, HRb, HSb, HT1⟩
  obtain ⟨q, n, c, rfl, hn, hnc, hcm, hr, hp⟩ := hd.open
  obtain rfl : n = 32 := by omega
  have HB2b := Lib.hid (HB2a.out.stays HSb.out (by omega))
  have HB3b := Lib.hid (HB3a.out.stays HSb.out (by omega))
  have HSb' := Lib.hid (HSa.out.trans HSb.out fun k _ hk => hk)
  have HL := Lib.hid hl
  have HROW := Lib.hid hr
  clear hd hn hr hp hl HRa HB2a HB3a HSa HSb
  go_wp2_with fail
  refine planQ_normal (And.intro trivial ?_)
  refine plan_one rfl fun k2 => ?_
  have hdr := below_draws Wb k2
  have HRc := Lib.hid (HRb.out.fut hdr)
  have HB2c := Lib.hid (HB2b.out.fut hdr)
  have HB3c := Lib.hid (HB3b.out.fut hdr)
  have HSc := Lib.hid ((Stable.stays w).fut HSb'.out hdr)
  have HROWc := Lib.hid (HROW.out.fut hdr)
  clear HRb HB2b HB3b HSb' HROW hdr
  generalize Wb.drewN k2 = Wc at *
  refine wp_copy8g (o := ⟨some 9, _, _, _, _, _⟩) rfl (.tmp 6) (.tmp 8) 27 27 rfl 5 Try.underlying27 (by kernel_rfl) 32 32 32 c q id z3 0 rfl rfl HL.out HROWc.out ZInL 67 HB3c.out 32 rfl (by decide) ?_
  intro Wd hBd hgd hsd
  rw [splice_in id HL.out] at hBd
  have hst := Stays.of_grown (S := fun k => k = z3) hgd (fun k h => by injection h with h; exact h.symm)
  have HRd := Lib.hid (HRc.out.stays hst (rw_one HB3c.out (by omega) (by decide)) (by omega))
  have HB2d := Lib.hid (HB2c.out.stays hst (by omega))
  have HSd := Lib.hid (HSc.out.trans hst fun k h1 h2 => by omega)
  clear HRc HB2c HB3c HSc HROWc hst hgd hsd
  refine planQ_normal (And.intro trivial ?_)
  refine plan_end fun k3 => NoPanic.normal ?_
  have hdr := below_draws Wd k3
  have HRe := Lib.hid (HRd.out.fut hdr)
  have HB2e := Lib.hid (HB2d.out.fut hdr)
  have HB3e := Lib.hid (hBd.out.fut hdr)
  have HSe := Lib.hid ((Stable.stays w).fut HSd.out hdr)
  clear HRd HB2d hBd HSd hdr
  generalize Wd.drewN k3 = We at *
  go_wp2_with fail
  refine (rsLow_any B g 4 (by omega) We er1 r1 HRe.out).mono ?_
  rintro e W1 ⟨v, ix, er2, r2, rfl, hv, HR1, HS1, HT2⟩
  subst hv
  have ec := cut64_32 ix
  have hB2 := HB2e.out.stays HS1.out (by omega)
  have hB3 := HB3e.out.stays HS1.out (by omega)
  have f32 := hB3.frozen 32
  have c32 := hB3.cell 32
  rw [List.getElem?_toArray, inCells_at HL.out _ _ _ _ 0] at c32
  simp only [List.getElem?_cons_zero] at c32
  have HB2 := Lib.hid hB2
  have HB3 := Lib.hid hB3
  have HS' := Lib.hid (HSe.out.trans HS1.out fun k _ hk => hk)
  clear hB2 hB3 HRe HB2e HB3e HSe HS1
  go_upto_region 4 with fail
  have hst := Stays.set W1 z3 32 (.int .u32 (iv32 (ix.setWidth 32)))
  have HB3f : Hid (Blk (W1.setCell ⟨z3, 32, none⟩ (.int .u32 (iv32 (ix.setWidth 32)))) z3 67 (inCells id (ix.setWidth 32) (.slice none 0 0) (.int .u32 0) (.slice none 0 0)).toArray) := Lib.hid (by
    have := HB3.out.set 32 (.int .u32 (iv32 (ix.setWidth 32)))
    rwa [inCells_set32 id HL.out] at this)
  have HRf := Lib.hid (HR1.out.stays hst (rw_one HB3.out (by omega) (by decide)) (by omega))
  have HB2f := Lib.hid (HB2.out.stays hst (by omega))
  have HSf := Lib.hid (HS'.out.trans hst fun k h1 h2 => by omega)
  clear hst HR1 HB2 HB3 HS' c32 f32 ec
  generalize W1.setCell ⟨z3, 32, none⟩ (.int .u32 (iv32 (ix.setWidth 32))) = Wf at *
  go_wp2_with fail
  refine (rsText_any B g Wf er2 r2 HRf.out).mono ?_
  rintro e W3 ⟨v3, sc, er3, r3, rfl, ho3, HR3, HS3, HT3⟩
  obtain ⟨q3, n3, c3, rfl, _⟩ := Own8.open ho3
  have hB2 := HB2f.out.stays HS3.out (by omega)
  have hB3 := HB3f.out.stays HS3.out (by omega)
  have f33 := hB3.frozen 33
  have c33 := hB3.cell 33
  rw [List.getElem?_toArray, inCells_at HL.out _ _ _ _ 1] at c33
  simp only [List.getElem?_cons_zero, List.getElem?_cons_succ] at c33
  have HB2 := Lib.hid hB2
  have HB3 := Lib.hid hB3
  have HO3 : Hid (Own8 W3 B (.slice q3 n3 c3) sc) := Lib.hid ho3
  have HS' := Lib.hid (HSf.out.trans HS3.out fun k _ hk => hk)
  clear hB2 hB3 ho3 HRf HB2f HB3f HSf HS3
  go_upto_region 5 with fail
  have hst := Stays.set W3 z3 33 (.slice q3 n3 c3)
  have HB3g : Hid (Blk (W3.setCell ⟨z3, 33, none⟩ (.slice q3 n3 c3)) z3 67 (inCells id (ix.setWidth 32) (.slice q3 n3 c3) (.int .u32 0) (.slice none 0 0)).toArray) := Lib.hid (by
    have := HB3.out.set 33 (.slice q3 n3 c3)
    rwa [(inCells_set id HL.out _ _ _ _ _).1] at this)
  have HOg : Hid (Own8 (W3.setCell ⟨z3, 33, none⟩ (.slice q3 n3 c3)) B (.slice q3 n3 c3) sc) := Lib.hid (HO3.out.sep hst (sep_one HB3.out (by decide)))
  have HRg := Lib.hid (HR3.out.stays hst (rw_one HB3.out (by omega) (by decide)) (by omega))
  have HB2g := Lib.hid (HB2.out.stays hst (by omega))
  have HSg := Lib.hid (HS'.out.trans hst fun k h1 h2 => by omega)
  clear hst HR3 HB2 HB3 HS' c33 f33 HO3
  generalize W3.setCell ⟨z3, 33, none⟩ (.slice q3 n3 c3) = Wg at *
  go_wp2_with fail
  refine (rsLow_any B g 4 (by omega) Wg er3 r3 HRg.out).mono ?_
  rintro e W5 ⟨v, sq, er4, r4, rfl, hv, HR5, HS5, HT4⟩
  subst hv
  have ec := cut64_32 sq
  have hB2 := HB2g.out.stays HS5.out (by omega)
  have hB3 := HB3g.out.stays HS5.out (by omega)
  have f34 := hB3.frozen 34
  have c34 := hB3.cell 34
  rw [List.getElem?_toArray, inCells_at HL.out _ _ _ _ 2] at c34
  simp only [List.getElem?_cons_zero, List.getElem?_cons_succ] at c34
  have HO5 : Hid (Own8 W5 B (.slice q3 n3 c3) sc) := Lib.hid (HOg.out.sep HS5.out (Sep.low fun k hk => by have : k = g := hk; omega))
  have HB2 := Lib.hid hB2
  have HB3 := Lib.hid hB3
  have HS' := Lib.hid (HSg.out.trans HS5.out fun k _ hk => hk)
  clear hB2 hB3 HRg HB2g HB3g HSg HS5 HOg
  go_upto_region 6 with fail
  obtain ⟨sqv, hsqv⟩ : ∃ v, v = Value.int .u32 (iv32 (sq.setWidth 32)) := ⟨_, rfl⟩
  rw [← hsqv]
  have HQ := Lib.hid hsqv
  clear hsqv ec
  have hst6 := Stays.set W5 z3 34 sqv
  have HB6 : Hid (Blk (W5.setCell ⟨z3, 34, none⟩ sqv) z3 67 (inCells id (ix.setWidth 32) (.slice q3 n3 c3) sqv (.slice none 0 0)).toArray) := Lib.hid (by
    have := HB3.out.set 34 sqv
    rwa [(inCells_set id HL.out _ _ _ _ _).2.1] at this)
  have HO6 : Hid (Own8 (W5.setCell ⟨z3, 34, none⟩ sqv) B (.slice q3 n3 c3) sc) := Lib.hid (HO5.out.sep hst6 (sep_one HB3.out (by decide)))
  have HR6 := Lib.hid (HR5.out.stays hst6 (rw_one HB3.out (by omega) (by decide)) (by omega))
  have HB26 := Lib.hid (HB2.out.stays hst6 (by omega))
  have HS6 := Lib.hid (HS'.out.trans hst6 fun k h1 h2 => by omega)
  clear hst6 c34 f34 HR5 HO5 HB2 HB3 HS'
  generalize W5.setCell ⟨z3, 34, none⟩ sqv = W6 at *
  have l6 := blk_range HB6.out
  have hone : (inCells id (ix.setWidth 32) (.slice q3 n3 c3) sqv (.slice none 0 0)).toArray.all (·.oneCell') = true := inCells_one rfl (by rw [HQ.out]; rfl) rfl
  obtain ⟨cs, hcs⟩ : ∃ cs, cs = inCells id (ix.setWidth 32) (.slice q3 n3 c3) sqv (.slice none 0 0) := ⟨_, rfl⟩
  have hcl : cs.length = 36 := by rw [hcs]; exact inCells_len HL.out _ _ _ _
  rw [← hcs] at l6 hone
  have HCS := Lib.hid hcs
  have hzs := ZIn_size
  have HZS := Lib.hid hzs
  have HCL := Lib.hid hcl
  have hbr := Below.refl w.heap.size W6
  clear hcs hzs hcl
  go_wp2_with (first
    | (with_reducible refine wpList_load_mid (op := ⟨some 22, _, _, _, _, _⟩) ?_ 67 (.tmp 3) ?_ (z3) (0) ?_ (cs) _ (l6) Try.underlying67 ?_ ?_ ?_
       · rfl
       · rfl
       · rfl
       · rfl
       · exact ((info_Ins HCL.out)))
    | (with_reducible refine wp_store_blk (o := ⟨none, _, _, _, _, _⟩) ?_ 67 (.tmp 2) (.tmp 22) ?_ (w.heap.size) 67 (ZIn) (cs.toArray) ?_ ?_ (HB26.out) ?_ ?_ ?_ (w.heap.size) (W6) ?_ ?_ ?_
       · rfl
       · rfl
       · rfl
       · rfl
       · exact (by rw [List.size_toArray]; exact info_Ins HCL.out)
       · exact (HZS.out.trans (by rw [List.size_toArray]; exact HCL.out.symm))
       · exact (hone)
       · exact (hbr)
       · exact (Nat.le_refl _)
       intro W7 hB7 hb7 hg7 hs7))
  refine bodyPost_ret (results_cell1 rfl _ _ _ w.heap.size _ cs _ rfl hB7.out Try.underlying67 rfl (info_Ins HCL.out)) rfl ?_
  have hst7 := Stays.of_grown (S := fun k => k = w.heap.size) hg7.out (fun k h => by injection h with h; exact h.symm)
  refine ⟨_, ⟨id, ix.setWidth 32, sc, sq.setWidth 32, []⟩, er4, r4, rfl, ⟨⟨cs, rfl, ⟨.slice q3 n3 c3, .slice none 0 0, ?_, HL.out, HO6.out.sep hst7 (sep_one HB26.out (by decide)), RowO.nil _ _ _ _ _⟩, fun _ => by rw [HCS.out]; exact inCells_at HL.out _ _ _ _ 3⟩, rfl⟩, Lib.hid (HR6.out.stays hst7 (rw_one HB26.out hBw (by decide)) (by omega)), Lib.hid (HS6.out.trans hst7 fun k h1 h2 => by omega), Lib.hid ?_⟩
  · rw [HCS.out, HQ.out]
    rfl
  · unfold inZ
    exact HT1.out.bind (HT2.out.bind (HT3.out.bind (HT4.out.bind (Step.ret _ _ _))))

set_option maxRecDepth 100000 in
set_option maxHeartbeats 8000000 in
theorem rsOut_any (B g : Nat) (w : World) (er : Int) (s : Bs) (h : RsAt B g w er s) :
    Calls Try.prog 41 #[.pointer (some ⟨g, 0, none⟩)] w (SkP B g w outZ er s fun w' a v => ∃ cs, v = .agg cs.toArray ∧ OutO B w' a cs) := by
  have hgB : g < B := h.elim fun v h => h.2.2.2.1
  have hBw : B ≤ w.heap.size := h.elim fun v h => h.2.2.2.2
  have hz := zOut
  have HR1 := Lib.hid (h.fut (below_new w (.cells #[.int .i64 0, .slice none 0 0] 61)))
  have HB1 := Lib.hid (Blk.new w 61 #[.int .i64 0, .slice none 0 0])
  have HS1 : Hid (Stays (· = g) w (w.alloc (.cells #[.int .i64 0, .slice none 0 0] 61))) := Lib.hid (Stays.of_below (below_new w _) (Nat.le_refl _) _)
  clear h
  go_enter Try.func41, Try.ntmps41
  go_upto_region 1 with fail
  generalize w.alloc (.cells #[.int .i64 0, .slice none 0 0] 61) = w1 at *
  go_wp2_with fail
  refine (rsLow_any B g 8 (by omega) w1 er s HR1.out).mono ?_
  rintro e W2 ⟨v, n, er1, r1, rfl, hv, HR2, HS2, HT1⟩
  subst hv
  have HB2 := Lib.hid (HB1.out.stays HS2.out (by omega))
  have HS2' := Lib.hid (HS1.out.trans HS2.out fun k _ hk => hk)
  have hw := wrapi64 n
  obtain ⟨V, hV⟩ : ∃ V, V = n.toInt := ⟨_, rfl⟩
  rw [← hV] at hw
  have HV := Lib.hid hV
  obtain ⟨vr, d1, d2, d3, d4, d5⟩ := id HR2.out
  obtain ⟨c0, c1, f0, f1⟩ := cell2 d1
  have D1 := Lib.hid d1
  have D2 := Lib.hid d2
  have D3 := Lib.hid d3
  have hiv : iv64 n = (n.toNat : Int) := rfl
  have HIV := Lib.hid hiv
  clear HR1 HB1 HS1 HS2 hV d1 d2 d3 d4 hz hiv
  by_cases he : er1 = 0
  case neg =>
    have hb1 : (er1 == 0) = false := by rw [beq_eq_false_iff_ne]; exact he
    have HE := Lib.hid he
    clear he
    go_wp2_with fail
    refine (rsText_any B g W2 er1 r1 HR2.out).mono ?_
    rintro e W3 ⟨v3, sc, er3, r3, rfl, ho3, HR3, HS3, HT3⟩
    obtain ⟨q3, n3, c3, rfl, _⟩ := Own8.open ho3
    have HB3 := Lib.hid (HB2.out.stays HS3.out (by omega))
    have HO3 : Hid (Own8 W3 B (.slice q3 n3 c3) sc) := Lib.hid ho3
    have hbt := built_out (.int .i64 V) (.slice q3 n3 c3) rfl rfl V rfl q3 n3 c3 rfl
    have hbr := Below.refl w.heap.size W3
    clear ho3
    go_wp2_with (with_reducible refine wp_build (o := ⟨some 22, _, _, _, _, _⟩) ?_ 61 #[(0, .tmp 19), (1, .tmp 21)] ?_ [(0, .int .i64 V), (1, .slice q3 n3 c3)] ?_ #[.int .i64 V, .slice q3 n3 c3] hbt ?_
                 · rfl
                 · rfl
                 · rfl
                 refine wp_store_blk (o := ⟨none, _, _, _, _, _⟩) rfl 61 (.tmp 2) (.tmp 22) rfl w.heap.size 61 #[.int .i64 0, .slice none 0 0] #[.int .i64 V, .slice q3 n3 c3] rfl rfl HB3.out (info_Outs (cs := [.int .i64 V, .slice q3 n3 c3]) rfl) rfl (by rw [List.all_toArray]; rfl) w.heap.size W3 hbr (Nat.le_refl _) ?_
                 intro W7 hB7 hb7 hg7 hs7)
    refine bodyPost_ret (results_cell1 rfl _ _ _ w.heap.size _ [.int .i64 V, .slice q3 n3 c3] _ rfl hB7.out Try.underlying61 rfl (by kernel_rfl)) rfl ?_
    have hst7 := Stays.of_grown (S := fun k => k = w.heap.size) hg7.out (fun k h => by injection h with h; exact h.symm)
    refine ⟨_, ⟨n, sc⟩, er3, r3, rfl, ⟨_, rfl, .slice q3 n3 c3, by rw [HV.out], HO3.out.sep hst7 (sep_one HB3.out (by decide))⟩, Lib.hid (HR3.out.stays hst7 (rw_one HB3.out hBw (by decide)) (by omega)), Lib.hid ((HS2'.out.trans HS3.out fun k _ hk => hk).trans hst7 fun k h1 h2 => by omega), Lib.hid (HT1.out.bind ?_)⟩
    have h3 := HT3.out
    unfold Step at h3 ⊢
    rw [if_neg HE.out] at h3 ⊢
    exact h3
  subst he
  by_cases hbig : 9223372036854775808 ≤ n.toNat
  · have hge : (9223372036854775808 : Int) ≤ iv64 n := by have := HIV.out; omega
    have HBG := Lib.hid hbig
    clear hbig
    go_upto_region 4 with fail
    have hst := Stays.set W2 g 1 (.int .i64 51)
    have HRm : Hid (RsAt B g (W2.setCell ⟨g, 1, none⟩ (.int .i64 51)) 51 r1) := Lib.hid (RsAt.mark D1.out D2.out D3.out hgB d5)
    have HBm := Lib.hid (HB2.out.stays hst (by omega))
    have HSm := Lib.hid (HS2'.out.trans hst fun k _ h => h)
    clear hst hge c0 c1 f0 f1 D1 D2
    generalize W2.setCell ⟨g, 1, none⟩ (.int .i64 51) = Wm at *
    go_wp2_with fail
    refine (rsText_any B g Wm 51 r1 HRm.out).mono ?_
    rintro e W3 ⟨v3, sc, er3, r3, rfl, ho3, HR3, HS3, HT3⟩
    obtain ⟨q3, n3, c3, rfl, _⟩ := Own8.open ho3
    have HB3 := Lib.hid (HBm.out.stays HS3.out (by omega))
    have HO3 : Hid (Own8 W3 B (.slice q3 n3 c3) sc) := Lib.hid ho3
    have hbt := built_out (.int .i64 V) (.slice q3 n3 c3) rfl rfl V rfl q3 n3 c3 rfl
    have hbr := Below.refl w.heap.size W3
    clear ho3
    go_wp2_with (with_reducible refine wp_build (o := ⟨some 22, _, _, _, _, _⟩) ?_ 61 #[(0, .tmp 19), (1, .tmp 21)] ?_ [(0, .int .i64 V), (1, .slice q3 n3 c3)] ?_ #[.int .i64 V, .slice q3 n3 c3] hbt ?_
                 · rfl
                 · rfl
                 · rfl
                 refine wp_store_blk (o := ⟨none, _, _, _, _, _⟩) rfl 61 (.tmp 2) (.tmp 22) rfl w.heap.size 61 #[.int .i64 0, .slice none 0 0] #[.int .i64 V, .slice q3 n3 c3] rfl rfl HB3.out (info_Outs (cs := [.int .i64 V, .slice q3 n3 c3]) rfl) rfl (by rw [List.all_toArray]; rfl) w.heap.size W3 hbr (Nat.le_refl _) ?_
                 intro W7 hB7 hb7 hg7 hs7)
    refine bodyPost_ret (results_cell1 rfl _ _ _ w.heap.size _ [.int .i64 V, .slice q3 n3 c3] _ rfl hB7.out Try.underlying61 rfl (by kernel_rfl)) rfl ?_
    have hst7 := Stays.of_grown (S := fun k => k = w.heap.size) hg7.out (fun k h => by injection h with h; exact h.symm)
    refine ⟨_, ⟨n, sc⟩, er3, r3, rfl, ⟨_, rfl, .slice q3 n3 c3, by rw [HV.out], HO3.out.sep hst7 (sep_one HB3.out (by decide))⟩, Lib.hid (HR3.out.stays hst7 (rw_one HB3.out hBw (by decide)) (by omega)), Lib.hid ((HSm.out.trans HS3.out fun k _ hk => hk).trans hst7 fun k h1 h2 => by omega), Lib.hid (HT1.out.bind ?_)⟩
    have h3 := HT3.out
    unfold Step at h3 ⊢
    rw [if_neg (by decide)] at h3
    rw [if_pos rfl, if_pos HBG.out]
    exact ⟨h3, by decide⟩
  · have hge : decide ((9223372036854775808 : Int) ≤ iv64 n) = false := decide_eq_false (by have := HIV.out; omega)
    have HBG := Lib.hid hbig
    clear hbig
    go_upto_region 4 with fail
    clear hge
    go_wp2_with fail
    refine (rsText_any B g W2 0 r1 HR2.out).mono ?_
    rintro e W3 ⟨v3, sc, er3, r3, rfl, ho3, HR3, HS3, HT3⟩
    obtain ⟨q3, n3, c3, rfl, _⟩ := Own8.open ho3
    have HB3 := Lib.hid (HB2.out.stays HS3.out (by omega))
    have HO3 : Hid (Own8 W3 B (.slice q3 n3 c3) sc) := Lib.hid ho3
    have hbt := built_out (.int .i64 V) (.slice q3 n3 c3) rfl rfl V rfl q3 n3 c3 rfl
    have hbr := Below.refl w.heap.size W3
    clear ho3
    go_wp2_with (with_reducible refine wp_build (o := ⟨some 22, _, _, _, _, _⟩) ?_ 61 #[(0, .tmp 19), (1, .tmp 21)] ?_ [(0, .int .i64 V), (1, .slice q3 n3 c3)] ?_ #[.int .i64 V, .slice q3 n3 c3] hbt ?_
                 · rfl
                 · rfl
                 · rfl
                 refine wp_store_blk (o := ⟨none, _, _, _, _, _⟩) rfl 61 (.tmp 2) (.tmp 22) rfl w.heap.size 61 #[.int .i64 0, .slice none 0 0] #[.int .i64 V, .slice q3 n3 c3] rfl rfl HB3.out (info_Outs (cs := [.int .i64 V, .slice q3 n3 c3]) rfl) rfl (by rw [List.all_toArray]; rfl) w.heap.size W3 hbr (Nat.le_refl _) ?_
                 intro W7 hB7 hb7 hg7 hs7)
    refine bodyPost_ret (results_cell1 rfl _ _ _ w.heap.size _ [.int .i64 V, .slice q3 n3 c3] _ rfl hB7.out Try.underlying61 rfl (by kernel_rfl)) rfl ?_
    have hst7 := Stays.of_grown (S := fun k => k = w.heap.size) hg7.out (fun k h => by injection h with h; exact h.symm)
    refine ⟨_, ⟨n, sc⟩, er3, r3, rfl, ⟨_, rfl, .slice q3 n3 c3, by rw [HV.out], HO3.out.sep hst7 (sep_one HB3.out (by decide))⟩, Lib.hid (HR3.out.stays hst7 (rw_one HB3.out hBw (by decide)) (by omega)), Lib.hid ((HS2'.out.trans HS3.out fun k _ hk => hk).trans hst7 fun k h1 h2 => by omega), Lib.hid (HT1.out.bind ?_)⟩
    rw [if_neg HBG.out]
    exact HT3.out.bind (Step.ret _ _ _)
end Go.Proofs.Ythglocpbdfcfnaa
