/- The reader of transactions: parts. -/
import Derived.Test.YthglocpbdfcfnaaTxR
import Derived.Test.YthglocpbdfcfnaaGB
namespace Go.Proofs.Ythglocpbdfcfnaa
open Go Go.RowKit
set_option linter.unusedVariables false

theorem own_rw {B g : Nat} {w : World} {T N : Nat} {v : Value} {n : Nat} {xs : List Value} (h : w.ownsRow B T N v n xs) (hT : T ≠ 5) : Rw B g w (fun k => v.ownBlock = some k) := fun k hk => by
  rcases h.2 with ⟨rfl, _⟩ | ⟨q, cap, cur, rfl, hB, hh, _⟩
  · cases hk
  · injection hk with hk
    subst hk
    exact .inr ⟨hB, T, cur, hh, hT⟩
theorem own_ge {B : Nat} {w : World} {T N : Nat} {v : Value} {n : Nat} {xs : List Value} (h : w.ownsRow B T N v n xs) : ∀ k, v.ownBlock = some k → B ≤ k ∧ k < w.heap.size := fun k hk => by
  rcases h.2 with ⟨rfl, _⟩ | ⟨q, cap, cur, rfl, hB, hh, _⟩
  · cases hk
  · injection hk with hk
    subst hk
    exact ⟨hB, Blk.lt (t := T) (cs := cur) hh⟩
theorem in_info : (Try.prog.info? 67).map (fun i => (i.zero, i.size, i.bytes)) = some (some (.agg (List.replicate 32 (Value.int .u8 0) ++ [Value.int .u32 0, Value.slice none 0 0, Value.int .u32 0, Value.slice none 0 0]).toArray), 36, 96) := by kernel_rfl
theorem out_info : (Try.prog.info? 61).map (fun i => (i.zero, i.size, i.bytes)) = some (some (.agg #[.int .i64 0, .slice none 0 0]), 2, 32) := by kernel_rfl
theorem txt_info : (Try.prog.info? 27).map (fun i => (i.zero, i.size, i.bytes)) = some (some (.slice none 0 0), 1, 24) := by kernel_rfl
theorem InO.len {B : Nat} {w : World} {x : TIn} {cs : List Value} (h : InO B w x cs) : cs.length = 36 := h.c.len
theorem OutO.len {B : Nat} {w : World} {x : TOut} {cs : List Value} (h : OutO B w x cs) : cs.length = 2 := h.c.len
theorem TextO.len {B : Nat} {w : World} {x : Bs} {cs : List Value} (h : TextO B w x cs) : cs.length = 1 := by obtain ⟨v, rfl, _⟩ := h; rfl
theorem InO.one {B : Nat} {w : World} {x : TIn} {cs : List Value} (h : InO B w x cs) : cs.toArray.all (·.oneCell') = true := h.c.one
theorem OutO.one {B : Nat} {w : World} {x : TOut} {cs : List Value} (h : OutO B w x cs) : cs.toArray.all (·.oneCell') = true := h.c.one
theorem one_all {cs : List Value} (h : cs.toArray.all (·.oneCell') = true) : ∀ u ∈ cs, u.oneCell' = true := fun u hu => by
  rw [List.all_toArray, List.all_eq_true] at h
  exact h u hu
theorem TextO.one {B : Nat} {w : World} {x : Bs} {cs : List Value} (h : TextO B w x cs) : cs.toArray.all (·.oneCell') = true := by
  obtain ⟨v, rfl, h1⟩ := h
  rw [List.all_toArray]
  simp [h1.sl.one]
/-- a value that is these cells -/
def CellV (v : Value) (cs : List Value) : Prop := v.cells = cs.toArray


set_option maxRecDepth 100000 in
set_option maxHeartbeats 8000000 in
theorem partsIns_any (p : Pz TIn) (gf : Nat) (eg : ∀ args w, (callFunc gf args).run Try.prog w = .ok (.enter gf args) w) (B g most : Nat) (hmost : most ≤ 2000)
    (hp : ∀ (W : World) (s' : Bs), RdAt B g W s' → Calls Try.prog gf #[.pointer (some ⟨g, 0, none⟩)] W (RdP B g W p s' fun w' a v => ∃ cs, CellV v cs ∧ InO B w' a cs)) (w : World) (s : Bs) (h : RdAt B g w s) :
    Calls Try.prog 69 #[.pointer (some ⟨g, 0, none⟩), .int .u64 (most : Int), .func (.func gf) #[] #[]] w (RdP B g w (partsZ most p) s fun w' a v => RowO (InO B) 67 36 B w' v a ∧ ∀ j, v.ownBlock = some j → w.heap.size ≤ j) := by
  have hp' := Lib.hid hp
  have HR0 := Lib.hid h
  obtain ⟨v, h1, h2, h3, h4, h5⟩ := h
  obtain ⟨q, n, c, rfl, hn, hnc, hcm, hr, hp0⟩ := h2.open
  have H1 := Lib.hid h1
  have c0 := h1.cell 0
  simp only [List.getElem?_toArray, List.getElem?_cons_zero] at c0
  have hcall := decode_any q n c s w hr hn hnc hcm (by omega)
  have hle := cutP_short s
  have hz : ∀ x : BitVec 64 × Bs × Int, x = cutP s → cntZ most s = if x.2.2 ≠ 0 then .error x.2.2 else if most < x.1.toNat then .error 4 else .ok (x.1.toNat, x.2.1) := fun x hx => by rw [hx]; rfl
  obtain ⟨x, hx⟩ : ∃ x, x = cutP s := ⟨_, rfl⟩
  rw [← hx] at hcall hle
  replace hz := hz x hx
  obtain ⟨cn, r, k⟩ := x
  simp only at hz hle
  unfold DecPost at hcall
  simp only at hcall
  have HZ := Lib.hid hz
  have HLE := Lib.hid hle
  have hcn : iv64 cn = (cn.toNat : Int) := rfl
  rw [hcn] at hcall
  have hc64 := cn.isLt
  obtain ⟨m, hm⟩ : ∃ m, m = cn.toNat := ⟨_, rfl⟩
  rw [← hm] at hcall hc64 HZ
  clear hx hz hle h1 h2 hr hn hp0 hp hcn hm
  by_cases hk : k = 0
  case neg =>
    have HK := Lib.hid hk
    clear hk
    go_enter Try.func69, Try.ntmps69
    go_wp2_with fail
    refine hcall.mono ?_
    rintro e w1 ⟨v2, rfl, ho2, hb1⟩
    have HB := Lib.hid hb1
    have hm := must_any k w1
    unfold MustP at hm
    rw [if_neg HK.out] at hm
    clear hb1 ho2 hcall
    go_wp2_with fail
    refine hm.mono ?_
    rintro e w2 ⟨hw2, rfl⟩
    replace hw2 := hw2.symm
    subst hw2
    go_wp2_with fail
    exact ⟨rfl, RdP.bad (Pz.bind_err (by rw [HZ.out, if_pos HK.out])) (Stays.of_below HB.out (Nat.le_refl _) _)⟩
  case pos =>
  subst hk
  by_cases hbig : most < m
  case pos =>
    have hlt : (most : Int) < (m : Int) := by omega
    go_enter Try.func69, Try.ntmps69
    go_wp2_with fail
    refine hcall.mono ?_
    rintro e w1 ⟨v2, rfl, ho2, hb1⟩
    have HB := Lib.hid hb1
    have hm := must_any 0 w1
    unfold MustP at hm
    rw [if_pos rfl] at hm
    clear hb1 ho2 hcall
    go_wp2_with fail
    refine hm.mono ?_
    rintro e w2 ⟨hw2, rfl⟩
    replace hw2 := hw2.symm
    subst hw2
    go_wp2_with fail
    exact ⟨rfl, RdP.bad (Pz.bind_err (by rw [HZ.out, if_neg (by decide), if_pos hbig])) (Stays.of_below HB.out (Nat.le_refl _) _)⟩
  case neg =>
  have hlt : ¬ (most : Int) < (m : Int) := by omega
  have HC : Hid (partsZ most p s = manyZ p m r) := Lib.hid (Pz.bind_ok (by rw [HZ.out, if_neg (by decide), if_neg hbig]))
  obtain ⟨R, hR⟩ : ∃ R, R = manyZ p m r := ⟨_, rfl⟩
  rw [← hR] at HC
  have HR := Lib.hid hR
  have hm2 : m ≤ 2000 := by omega
  clear HZ hR hbig
  go_enter Try.func69, Try.ntmps69
  go_wp2_with fail
  refine hcall.mono ?_
  rintro e w1 ⟨v2, rfl, ho2, hb1⟩
  have HB := Lib.hid hb1
  have hmu := must_any 0 w1
  unfold MustP at hmu
  rw [if_pos rfl] at hmu
  have hg1 := H1.out.fut hb1
  have f1 := hg1.frozen 0
  have d1 := hg1.cell 0
  simp only [List.getElem?_toArray, List.getElem?_cons_zero] at d1
  have HG1 := Lib.hid hg1
  obtain ⟨q2, m2, c2, rfl, _⟩ := Own8.open ho2
  have HO2 : Hid (Own8 w1 B (.slice q2 m2 c2) r) := Lib.hid (ownsRow_mono ho2 h5)
  clear hb1 ho2 hcall hg1
  go_wp2_with fail
  refine hmu.mono ?_
  rintro e w2 ⟨hw2, rfl⟩
  replace hw2 := hw2.symm
  subst hw2
  have hsz := HB.out.size
  go_upto_region 8 with fail
  have HR2 : Hid (RdAt B g (w1.setCell ⟨g, 0, none⟩ (.slice q2 m2 c2)) r) := Lib.hid (RdAt.move HG1.out (Dat.own HO2.out h4) (by have := HLE.out; omega) h4 (by omega))
  have HS2 : Hid (Stays (· = g) w (w1.setCell ⟨g, 0, none⟩ (.slice q2 m2 c2))) := Lib.hid ((Stays.of_below HB.out (Nat.le_refl _) _).trans (Stays.set w1 g 0 _) fun k _ hk => hk)
  generalize w1.setCell ⟨g, 0, none⟩ (.slice q2 m2 c2) = w3 at *
  clear hmu f1 d1 HG1 HO2 HB hsz hlt
  have hdd : decide (most < m) = false := decide_eq_false (by assumption)
  simp only [hdd]
  go_loopw [10, 31] (fun u i wr => ∃ (k : Nat) (xs : List TIn) (sr : Bs), k ≤ m ∧ i = .int .u64 k ∧ xs.length = k ∧ Hid (contM xs p (m - k) sr = R) ∧ Hid (RdAt B g wr sr) ∧ Hid (RowO (InO B) 67 36 B wr u xs) ∧ Hid (∀ j, u.ownBlock = some j → w.heap.size ≤ j) ∧ Hid (Stays (· = g) w wr)) (fun _ i _ => m - (intOf i).toNat)
  case atStart => exact ⟨0, [], r, by omega, rfl, rfl, Lib.hid (by rw [HR.out, Nat.sub_zero, contM_start p m r]), HR2, Lib.hid (RowO.nil _ _ _ _ _), Lib.hid (fun j hj => by cases hj), HS2⟩
  case round =>
    obtain ⟨k, xs, sr, hkm, rfl, hxl, HM, HRk, HRow, HOk, HSk⟩ := hrel
    by_cases hkn : k < m
    · have hlk : (k : Int) < (m : Int) := by omega
      have hcall := hp'.out wr sr HRk.out
      cases hz : p sr with
      | error e0 =>
        have HE : Hid (partsZ most p s = .error e0) := Lib.hid (by
          rw [HC.out, ← HM.out, show m - k = (m - k - 1) + 1 by omega]
          exact contM_bad hz)
        unfold RdP at hcall
        rw [hz] at hcall
        clear hz
        go_wp2_with (go_at_fn gf; refine hcall.mono ?_; rintro e w5 ⟨rfl, hs5⟩)
        exact ⟨rfl, RdP.bad HE.out (HSk.out.trans hs5 fun k _ hk => hk)⟩
      | ok y =>
        obtain ⟨a, sr'⟩ := y
        have HM' : Hid (contM (xs ++ [a]) p (m - (k + 1)) sr' = R) := Lib.hid (by
          rw [← HM.out, show m - k = (m - (k + 1)) + 1 by omega]
          exact (contM_ok hz).symm)
        unfold RdP at hcall
        rw [hz] at hcall
        have hgB : g < B := HRk.out.elim fun v h => h.2.2.2.1
        have hBw : B ≤ w.heap.size := h5
        clear hz
        go_wp2_with fail
        go_at_fn gf
        refine hcall.mono ?_
        rintro e w5 ⟨v5, rfl, ⟨cs, hcv, hE5⟩, hr5, hs5⟩
        have hrow := HRow.out.sep (inO_keeps B) hs5 (Sep.low fun k hk => by have : k = g := hk; omega)
        obtain ⟨css, hcl, hown, hcs⟩ := hrow
        replace hcv : v5.cells = cs.toArray := hcv
        have hl5 := hE5.len
        have ho5 := hE5.one
        have hsz5 := HSk.out.size
        have hsz6 := hs5.size
        have HE5 := Lib.hid hE5
        have HR5 := Lib.hid hr5
        have HS5 := Lib.hid (HSk.out.trans hs5 fun k _ hk => hk)
        have HCS := Lib.hid hcs
        have HOW := Lib.hid hown
        have HCL := Lib.hid hcl
        have hxl' : xs.length ≤ 2000 := by omega
        clear hE5 hr5 hs5 hcs hown hcl hcall
        go_wp2_with (first
          | (with_reducible refine wp_lit (o := ⟨some 37, _, _, _, _, _⟩) ?_ 23 67 1 #[(0, .tmp 36)] ?_ [v5] ?_ 36 96 _ Try.underlying23 in_info ?_ ?_ ?_ ?_ ?_ ?_
             · rfl
             · rfl
             · rfl
             · omega
             · exact (fun v hv => by rw [List.mem_singleton.1 hv, hcv, List.size_toArray]; exact hl5)
             · rfl
             · omega
             · omega
             simp only [List.flatMap_cons, List.flatMap_nil, List.append_nil, hcv])
          | (with_reducible refine wp_rowapp (o := ⟨some 38, _, _, _, _, _⟩) ?_ (.tmp 33) (.tmp 37) 23 67 ?_ _ 36 96 Try.underlying23 in_info ?_ ?_ ?_ B _ xs.length css.flatten ?_ (World.ownsRow.alloc HOW.out _) w5.heap.size 1 1 cs ?_ (Blk.new w5 _ _) ?_ ?_ ?_ ?_ ?_
             · rfl
             · rfl
             · rfl
             · omega
             · omega
             · rfl
             · rfl
             · omega
             · exact one_all ho5
             · omega
             · rw [World.size_alloc]; omega
             intro v8 w8 hl8 hg8 ho8))
        have hnew := below_new w5 (.cells cs.toArray 67)
        have hst : Stays (fun _ => False) w5 (w5.alloc (.cells cs.toArray 67)) := Stays.of_below hnew (Nat.le_refl _) _
        have HROW : Hid (RowO (InO B) 67 36 B w8 v8 (xs ++ [a])) := Lib.hid (RowO.app HCL.out (World.ownsRow.alloc HOW.out _) (fun i y hy => by
            obtain ⟨cs', h6, h7, h8⟩ := HCS.out i y hy
            exact ⟨cs', h6, inO_keeps B _ _ _ _ _ h7 hst (fun _ h => h.elim), h8⟩) (inO_keeps B) (by decide) (inO_keeps B _ _ _ _ _ HE5.out hst (fun _ h => h.elim)) hl5 hl8 hg8)
        have hS8 := Stays.of_grown (S := fun k => Value.ownBlock _ = some k) hg8 (fun k h => h)
        have HR8 : Hid (RdAt B g w8 sr') := Lib.hid ((HR5.out.fut hnew).stays hS8 (own_rw (World.ownsRow.alloc HOW.out _) (by decide)) (fun h => by have := (own_ge HOW.out _ h).1; omega))
        have HO8 : Hid (∀ j, v8.ownBlock = some j → w.heap.size ≤ j) := Lib.hid (fun j hj => by
          rcases ho8 with h | h
          · rw [h] at hj; exact HOk.out j hj
          · rw [h] at hj; injection hj with hj; rw [← hj, World.size_alloc]; omega)
        have HS8 : Hid (Stays (· = g) w w8) := Lib.hid ((HS5.out.trans (hst.mono fun _ _ h => h.elim) (fun k _ hk => hk)).trans hS8 (fun k hk h => by have := HOk.out k h; omega))
        clear hl8 hg8 ho8 hS8 hst hnew hl5 ho5 hcv
        go_roundw
        case rel => exact ⟨k + 1, xs ++ [a], sr', by omega, by go_num, by simp [hxl], HM', HR8, HROW, HO8, HS8⟩
        case measure => simp [intOf]; omega
    · obtain rfl : k = m := by omega
      have HE : Hid (partsZ most p s = .ok (xs, sr)) := Lib.hid (by
        rw [HC.out, ← HM.out, Nat.sub_self]
        exact contM_end xs p sr)
      go_wp2_with fail
      go_ret
      exact RdP.ok HE.out ⟨HRow.out, HOk.out⟩ HRk.out HSk.out


set_option maxRecDepth 100000 in
set_option maxHeartbeats 8000000 in
theorem partsOuts_any (p : Pz TOut) (gf : Nat) (eg : ∀ args w, (callFunc gf args).run Try.prog w = .ok (.enter gf args) w) (B g most : Nat) (hmost : most ≤ 2000)
    (hp : ∀ (W : World) (s' : Bs), RdAt B g W s' → Calls Try.prog gf #[.pointer (some ⟨g, 0, none⟩)] W (RdP B g W p s' fun w' a v => ∃ cs, CellV v cs ∧ OutO B w' a cs)) (w : World) (s : Bs) (h : RdAt B g w s) :
    Calls Try.prog 71 #[.pointer (some ⟨g, 0, none⟩), .int .u64 (most : Int), .func (.func gf) #[] #[]] w (RdP B g w (partsZ most p) s fun w' a v => RowO (OutO B) 61 2 B w' v a ∧ ∀ j, v.ownBlock = some j → w.heap.size ≤ j) := by
  have hp' := Lib.hid hp
  have HR0 := Lib.hid h
  obtain ⟨v, h1, h2, h3, h4, h5⟩ := h
  obtain ⟨q, n, c, rfl, hn, hnc, hcm, hr, hp0⟩ := h2.open
  have H1 := Lib.hid h1
  have c0 := h1.cell 0
  simp only [List.getElem?_toArray, List.getElem?_cons_zero] at c0
  have hcall := decode_any q n c s w hr hn hnc hcm (by omega)
  have hle := cutP_short s
  have hz : ∀ x : BitVec 64 × Bs × Int, x = cutP s → cntZ most s = if x.2.2 ≠ 0 then .error x.2.2 else if most < x.1.toNat then .error 4 else .ok (x.1.toNat, x.2.1) := fun x hx => by rw [hx]; rfl
  obtain ⟨x, hx⟩ : ∃ x, x = cutP s := ⟨_, rfl⟩
  rw [← hx] at hcall hle
  replace hz := hz x hx
  obtain ⟨cn, r, k⟩ := x
  simp only at hz hle
  unfold DecPost at hcall
  simp only at hcall
  have HZ := Lib.hid hz
  have HLE := Lib.hid hle
  have hcn : iv64 cn = (cn.toNat : Int) := rfl
  rw [hcn] at hcall
  have hc64 := cn.isLt
  obtain ⟨m, hm⟩ : ∃ m, m = cn.toNat := ⟨_, rfl⟩
  rw [← hm] at hcall hc64 HZ
  clear hx hz hle h1 h2 hr hn hp0 hp hcn hm
  by_cases hk : k = 0
  case neg =>
    have HK := Lib.hid hk
    clear hk
    go_enter Try.func71, Try.ntmps71
    go_wp2_with fail
    refine hcall.mono ?_
    rintro e w1 ⟨v2, rfl, ho2, hb1⟩
    have HB := Lib.hid hb1
    have hm := must_any k w1
    unfold MustP at hm
    rw [if_neg HK.out] at hm
    clear hb1 ho2 hcall
    go_wp2_with fail
    refine hm.mono ?_
    rintro e w2 ⟨hw2, rfl⟩
    replace hw2 := hw2.symm
    subst hw2
    go_wp2_with fail
    exact ⟨rfl, RdP.bad (Pz.bind_err (by rw [HZ.out, if_pos HK.out])) (Stays.of_below HB.out (Nat.le_refl _) _)⟩
  case pos =>
  subst hk
  by_cases hbig : most < m
  case pos =>
    have hlt : (most : Int) < (m : Int) := by omega
    go_enter Try.func71, Try.ntmps71
    go_wp2_with fail
    refine hcall.mono ?_
    rintro e w1 ⟨v2, rfl, ho2, hb1⟩
    have HB := Lib.hid hb1
    have hm := must_any 0 w1
    unfold MustP at hm
    rw [if_pos rfl] at hm
    clear hb1 ho2 hcall
    go_wp2_with fail
    refine hm.mono ?_
    rintro e w2 ⟨hw2, rfl⟩
    replace hw2 := hw2.symm
    subst hw2
    go_wp2_with fail
    exact ⟨rfl, RdP.bad (Pz.bind_err (by rw [HZ.out, if_neg (by decide), if_pos hbig])) (Stays.of_below HB.out (Nat.le_refl _) _)⟩
  case neg =>
  have hlt : ¬ (most : Int) < (m : Int) := by omega
  have HC : Hid (partsZ most p s = manyZ p m r) := Lib.hid (Pz.bind_ok (by rw [HZ.out, if_neg (by decide), if_neg hbig]))
  obtain ⟨R, hR⟩ : ∃ R, R = manyZ p m r := ⟨_, rfl⟩
  rw [← hR] at HC
  have HR := Lib.hid hR
  have hm2 : m ≤ 2000 := by omega
  clear HZ hR hbig
  go_enter Try.func71, Try.ntmps71
  go_wp2_with fail
  refine hcall.mono ?_
  rintro e w1 ⟨v2, rfl, ho2, hb1⟩
  have HB := Lib.hid hb1
  have hmu := must_any 0 w1
  unfold MustP at hmu
  rw [if_pos rfl] at hmu
  have hg1 := H1.out.fut hb1
  have f1 := hg1.frozen 0
  have d1 := hg1.cell 0
  simp only [List.getElem?_toArray, List.getElem?_cons_zero] at d1
  have HG1 := Lib.hid hg1
  obtain ⟨q2, m2, c2, rfl, _⟩ := Own8.open ho2
  have HO2 : Hid (Own8 w1 B (.slice q2 m2 c2) r) := Lib.hid (ownsRow_mono ho2 h5)
  clear hb1 ho2 hcall hg1
  go_wp2_with fail
  refine hmu.mono ?_
  rintro e w2 ⟨hw2, rfl⟩
  replace hw2 := hw2.symm
  subst hw2
  have hsz := HB.out.size
  go_upto_region 8 with fail
  have HR2 : Hid (RdAt B g (w1.setCell ⟨g, 0, none⟩ (.slice q2 m2 c2)) r) := Lib.hid (RdAt.move HG1.out (Dat.own HO2.out h4) (by have := HLE.out; omega) h4 (by omega))
  have HS2 : Hid (Stays (· = g) w (w1.setCell ⟨g, 0, none⟩ (.slice q2 m2 c2))) := Lib.hid ((Stays.of_below HB.out (Nat.le_refl _) _).trans (Stays.set w1 g 0 _) fun k _ hk => hk)
  generalize w1.setCell ⟨g, 0, none⟩ (.slice q2 m2 c2) = w3 at *
  clear hmu f1 d1 HG1 HO2 HB hsz hlt
  have hdd : decide (most < m) = false := decide_eq_false (by assumption)
  simp only [hdd]
  go_loopw [10, 31] (fun u i wr => ∃ (k : Nat) (xs : List TOut) (sr : Bs), k ≤ m ∧ i = .int .u64 k ∧ xs.length = k ∧ Hid (contM xs p (m - k) sr = R) ∧ Hid (RdAt B g wr sr) ∧ Hid (RowO (OutO B) 61 2 B wr u xs) ∧ Hid (∀ j, u.ownBlock = some j → w.heap.size ≤ j) ∧ Hid (Stays (· = g) w wr)) (fun _ i _ => m - (intOf i).toNat)
  case atStart => exact ⟨0, [], r, by omega, rfl, rfl, Lib.hid (by rw [HR.out, Nat.sub_zero, contM_start p m r]), HR2, Lib.hid (RowO.nil _ _ _ _ _), Lib.hid (fun j hj => by cases hj), HS2⟩
  case round =>
    obtain ⟨k, xs, sr, hkm, rfl, hxl, HM, HRk, HRow, HOk, HSk⟩ := hrel
    by_cases hkn : k < m
    · have hlk : (k : Int) < (m : Int) := by omega
      have hcall := hp'.out wr sr HRk.out
      cases hz : p sr with
      | error e0 =>
        have HE : Hid (partsZ most p s = .error e0) := Lib.hid (by
          rw [HC.out, ← HM.out, show m - k = (m - k - 1) + 1 by omega]
          exact contM_bad hz)
        unfold RdP at hcall
        rw [hz] at hcall
        clear hz
        go_wp2_with (go_at_fn gf; refine hcall.mono ?_; rintro e w5 ⟨rfl, hs5⟩)
        exact ⟨rfl, RdP.bad HE.out (HSk.out.trans hs5 fun k _ hk => hk)⟩
      | ok y =>
        obtain ⟨a, sr'⟩ := y
        have HM' : Hid (contM (xs ++ [a]) p (m - (k + 1)) sr' = R) := Lib.hid (by
          rw [← HM.out, show m - k = (m - (k + 1)) + 1 by omega]
          exact (contM_ok hz).symm)
        unfold RdP at hcall
        rw [hz] at hcall
        have hgB : g < B := HRk.out.elim fun v h => h.2.2.2.1
        have hBw : B ≤ w.heap.size := h5
        clear hz
        go_wp2_with fail
        go_at_fn gf
        refine hcall.mono ?_
        rintro e w5 ⟨v5, rfl, ⟨cs, hcv, hE5⟩, hr5, hs5⟩
        have hrow := HRow.out.sep (outO_keeps B) hs5 (Sep.low fun k hk => by have : k = g := hk; omega)
        obtain ⟨css, hcl, hown, hcs⟩ := hrow
        replace hcv : v5.cells = cs.toArray := hcv
        have hl5 := hE5.len
        have ho5 := hE5.one
        have hsz5 := HSk.out.size
        have hsz6 := hs5.size
        have HE5 := Lib.hid hE5
        have HR5 := Lib.hid hr5
        have HS5 := Lib.hid (HSk.out.trans hs5 fun k _ hk => hk)
        have HCS := Lib.hid hcs
        have HOW := Lib.hid hown
        have HCL := Lib.hid hcl
        have hxl' : xs.length ≤ 2000 := by omega
        clear hE5 hr5 hs5 hcs hown hcl hcall
        go_wp2_with (first
          | (with_reducible refine wp_lit (o := ⟨some 37, _, _, _, _, _⟩) ?_ 24 61 1 #[(0, .tmp 36)] ?_ [v5] ?_ 2 32 _ Try.underlying24 out_info ?_ ?_ ?_ ?_ ?_ ?_
             · rfl
             · rfl
             · rfl
             · omega
             · exact (fun v hv => by rw [List.mem_singleton.1 hv, hcv, List.size_toArray]; exact hl5)
             · rfl
             · omega
             · omega
             simp only [List.flatMap_cons, List.flatMap_nil, List.append_nil, hcv])
          | (with_reducible refine wp_rowapp (o := ⟨some 38, _, _, _, _, _⟩) ?_ (.tmp 33) (.tmp 37) 24 61 ?_ _ 2 32 Try.underlying24 out_info ?_ ?_ ?_ B _ xs.length css.flatten ?_ (World.ownsRow.alloc HOW.out _) w5.heap.size 1 1 cs ?_ (Blk.new w5 _ _) ?_ ?_ ?_ ?_ ?_
             · rfl
             · rfl
             · rfl
             · omega
             · omega
             · rfl
             · rfl
             · omega
             · exact one_all ho5
             · omega
             · rw [World.size_alloc]; omega
             intro v8 w8 hl8 hg8 ho8))
        have hnew := below_new w5 (.cells cs.toArray 61)
        have hst : Stays (fun _ => False) w5 (w5.alloc (.cells cs.toArray 61)) := Stays.of_below hnew (Nat.le_refl _) _
        have HROW : Hid (RowO (OutO B) 61 2 B w8 v8 (xs ++ [a])) := Lib.hid (RowO.app HCL.out (World.ownsRow.alloc HOW.out _) (fun i y hy => by
            obtain ⟨cs', h6, h7, h8⟩ := HCS.out i y hy
            exact ⟨cs', h6, outO_keeps B _ _ _ _ _ h7 hst (fun _ h => h.elim), h8⟩) (outO_keeps B) (by decide) (outO_keeps B _ _ _ _ _ HE5.out hst (fun _ h => h.elim)) hl5 hl8 hg8)
        have hS8 := Stays.of_grown (S := fun k => Value.ownBlock _ = some k) hg8 (fun k h => h)
        have HR8 : Hid (RdAt B g w8 sr') := Lib.hid ((HR5.out.fut hnew).stays hS8 (own_rw (World.ownsRow.alloc HOW.out _) (by decide)) (fun h => by have := (own_ge HOW.out _ h).1; omega))
        have HO8 : Hid (∀ j, v8.ownBlock = some j → w.heap.size ≤ j) := Lib.hid (fun j hj => by
          rcases ho8 with h | h
          · rw [h] at hj; exact HOk.out j hj
          · rw [h] at hj; injection hj with hj; rw [← hj, World.size_alloc]; omega)
        have HS8 : Hid (Stays (· = g) w w8) := Lib.hid ((HS5.out.trans (hst.mono fun _ _ h => h.elim) (fun k _ hk => hk)).trans hS8 (fun k hk h => by have := HOk.out k h; omega))
        clear hl8 hg8 ho8 hS8 hst hnew hl5 ho5 hcv
        go_roundw
        case rel => exact ⟨k + 1, xs ++ [a], sr', by omega, by go_num, by simp [hxl], HM', HR8, HROW, HO8, HS8⟩
        case measure => simp [intOf]; omega
    · obtain rfl : k = m := by omega
      have HE : Hid (partsZ most p s = .ok (xs, sr)) := Lib.hid (by
        rw [HC.out, ← HM.out, Nat.sub_self]
        exact contM_end xs p sr)
      go_wp2_with fail
      go_ret
      exact RdP.ok HE.out ⟨HRow.out, HOk.out⟩ HRk.out HSk.out


set_option maxRecDepth 100000 in
set_option maxHeartbeats 8000000 in
theorem partsTexts_any (p : Pz Bs) (gf : Nat) (eg : ∀ args w, (callFunc gf args).run Try.prog w = .ok (.enter gf args) w) (B g most : Nat) (hmost : most ≤ 2000)
    (hp : ∀ (W : World) (s' : Bs), RdAt B g W s' → Calls Try.prog gf #[.pointer (some ⟨g, 0, none⟩)] W (RdP B g W p s' fun w' a v => ∃ cs, CellV v cs ∧ TextO B w' a cs)) (w : World) (s : Bs) (h : RdAt B g w s) :
    Calls Try.prog 73 #[.pointer (some ⟨g, 0, none⟩), .int .u64 (most : Int), .func (.func gf) #[] #[]] w (RdP B g w (partsZ most p) s fun w' a v => RowO (TextO B) 27 1 B w' v a ∧ ∀ j, v.ownBlock = some j → w.heap.size ≤ j) := by
  have hp' := Lib.hid hp
  have HR0 := Lib.hid h
  obtain ⟨v, h1, h2, h3, h4, h5⟩ := h
  obtain ⟨q, n, c, rfl, hn, hnc, hcm, hr, hp0⟩ := h2.open
  have H1 := Lib.hid h1
  have c0 := h1.cell 0
  simp only [List.getElem?_toArray, List.getElem?_cons_zero] at c0
  have hcall := decode_any q n c s w hr hn hnc hcm (by omega)
  have hle := cutP_short s
  have hz : ∀ x : BitVec 64 × Bs × Int, x = cutP s → cntZ most s = if x.2.2 ≠ 0 then .error x.2.2 else if most < x.1.toNat then .error 4 else .ok (x.1.toNat, x.2.1) := fun x hx => by rw [hx]; rfl
  obtain ⟨x, hx⟩ : ∃ x, x = cutP s := ⟨_, rfl⟩
  rw [← hx] at hcall hle
  replace hz := hz x hx
  obtain ⟨cn, r, k⟩ := x
  simp only at hz hle
  unfold DecPost at hcall
  simp only at hcall
  have HZ := Lib.hid hz
  have HLE := Lib.hid hle
  have hcn : iv64 cn = (cn.toNat : Int) := rfl
  rw [hcn] at hcall
  have hc64 := cn.isLt
  obtain ⟨m, hm⟩ : ∃ m, m = cn.toNat := ⟨_, rfl⟩
  rw [← hm] at hcall hc64 HZ
  clear hx hz hle h1 h2 hr hn hp0 hp hcn hm
  by_cases hk : k = 0
  case neg =>
    have HK := Lib.hid hk
    clear hk
    go_enter Try.func73, Try.ntmps73
    go_wp2_with fail
    refine hcall.mono ?_
    rintro e w1 ⟨v2, rfl, ho2, hb1⟩
    have HB := Lib.hid hb1
    have hm := must_any k w1
    unfold MustP at hm
    rw [if_neg HK.out] at hm
    clear hb1 ho2 hcall
    go_wp2_with fail
    refine hm.mono ?_
    rintro e w2 ⟨hw2, rfl⟩
    replace hw2 := hw2.symm
    subst hw2
    go_wp2_with fail
    exact ⟨rfl, RdP.bad (Pz.bind_err (by rw [HZ.out, if_pos HK.out])) (Stays.of_below HB.out (Nat.le_refl _) _)⟩
  case pos =>
  subst hk
  by_cases hbig : most < m
  case pos =>
    have hlt : (most : Int) < (m : Int) := by omega
    go_enter Try.func73, Try.ntmps73
    go_wp2_with fail
    refine hcall.mono ?_
    rintro e w1 ⟨v2, rfl, ho2, hb1⟩
    have HB := Lib.hid hb1
    have hm := must_any 0 w1
    unfold MustP at hm
    rw [if_pos rfl] at hm
    clear hb1 ho2 hcall
    go_wp2_with fail
    refine hm.mono ?_
    rintro e w2 ⟨hw2, rfl⟩
    replace hw2 := hw2.symm
    subst hw2
    go_wp2_with fail
    exact ⟨rfl, RdP.bad (Pz.bind_err (by rw [HZ.out, if_neg (by decide), if_pos hbig])) (Stays.of_below HB.out (Nat.le_refl _) _)⟩
  case neg =>
  have hlt : ¬ (most : Int) < (m : Int) := by omega
  have HC : Hid (partsZ most p s = manyZ p m r) := Lib.hid (Pz.bind_ok (by rw [HZ.out, if_neg (by decide), if_neg hbig]))
  obtain ⟨R, hR⟩ : ∃ R, R = manyZ p m r := ⟨_, rfl⟩
  rw [← hR] at HC
  have HR := Lib.hid hR
  have hm2 : m ≤ 2000 := by omega
  clear HZ hR hbig
  go_enter Try.func73, Try.ntmps73
  go_wp2_with fail
  refine hcall.mono ?_
  rintro e w1 ⟨v2, rfl, ho2, hb1⟩
  have HB := Lib.hid hb1
  have hmu := must_any 0 w1
  unfold MustP at hmu
  rw [if_pos rfl] at hmu
  have hg1 := H1.out.fut hb1
  have f1 := hg1.frozen 0
  have d1 := hg1.cell 0
  simp only [List.getElem?_toArray, List.getElem?_cons_zero] at d1
  have HG1 := Lib.hid hg1
  obtain ⟨q2, m2, c2, rfl, _⟩ := Own8.open ho2
  have HO2 : Hid (Own8 w1 B (.slice q2 m2 c2) r) := Lib.hid (ownsRow_mono ho2 h5)
  clear hb1 ho2 hcall hg1
  go_wp2_with fail
  refine hmu.mono ?_
  rintro e w2 ⟨hw2, rfl⟩
  replace hw2 := hw2.symm
  subst hw2
  have hsz := HB.out.size
  go_upto_region 8 with fail
  have HR2 : Hid (RdAt B g (w1.setCell ⟨g, 0, none⟩ (.slice q2 m2 c2)) r) := Lib.hid (RdAt.move HG1.out (Dat.own HO2.out h4) (by have := HLE.out; omega) h4 (by omega))
  have HS2 : Hid (Stays (· = g) w (w1.setCell ⟨g, 0, none⟩ (.slice q2 m2 c2))) := Lib.hid ((Stays.of_below HB.out (Nat.le_refl _) _).trans (Stays.set w1 g 0 _) fun k _ hk => hk)
  generalize w1.setCell ⟨g, 0, none⟩ (.slice q2 m2 c2) = w3 at *
  clear hmu f1 d1 HG1 HO2 HB hsz hlt
  have hdd : decide (most < m) = false := decide_eq_false (by assumption)
  simp only [hdd]
  go_loopw [10, 31] (fun u i wr => ∃ (k : Nat) (xs : List Bs) (sr : Bs), k ≤ m ∧ i = .int .u64 k ∧ xs.length = k ∧ Hid (contM xs p (m - k) sr = R) ∧ Hid (RdAt B g wr sr) ∧ Hid (RowO (TextO B) 27 1 B wr u xs) ∧ Hid (∀ j, u.ownBlock = some j → w.heap.size ≤ j) ∧ Hid (Stays (· = g) w wr)) (fun _ i _ => m - (intOf i).toNat)
  case atStart => exact ⟨0, [], r, by omega, rfl, rfl, Lib.hid (by rw [HR.out, Nat.sub_zero, contM_start p m r]), HR2, Lib.hid (RowO.nil _ _ _ _ _), Lib.hid (fun j hj => by cases hj), HS2⟩
  case round =>
    obtain ⟨k, xs, sr, hkm, rfl, hxl, HM, HRk, HRow, HOk, HSk⟩ := hrel
    by_cases hkn : k < m
    · have hlk : (k : Int) < (m : Int) := by omega
      have hcall := hp'.out wr sr HRk.out
      cases hz : p sr with
      | error e0 =>
        have HE : Hid (partsZ most p s = .error e0) := Lib.hid (by
          rw [HC.out, ← HM.out, show m - k = (m - k - 1) + 1 by omega]
          exact contM_bad hz)
        unfold RdP at hcall
        rw [hz] at hcall
        clear hz
        go_wp2_with (go_at_fn gf; refine hcall.mono ?_; rintro e w5 ⟨rfl, hs5⟩)
        exact ⟨rfl, RdP.bad HE.out (HSk.out.trans hs5 fun k _ hk => hk)⟩
      | ok y =>
        obtain ⟨a, sr'⟩ := y
        have HM' : Hid (contM (xs ++ [a]) p (m - (k + 1)) sr' = R) := Lib.hid (by
          rw [← HM.out, show m - k = (m - (k + 1)) + 1 by omega]
          exact (contM_ok hz).symm)
        unfold RdP at hcall
        rw [hz] at hcall
        have hgB : g < B := HRk.out.elim fun v h => h.2.2.2.1
        have hBw : B ≤ w.heap.size := h5
        clear hz
        go_wp2_with fail
        go_at_fn gf
        refine hcall.mono ?_
        rintro e w5 ⟨v5, rfl, ⟨cs, hcv, hE5⟩, hr5, hs5⟩
        have hrow := HRow.out.sep (textO_keeps B) hs5 (Sep.low fun k hk => by have : k = g := hk; omega)
        obtain ⟨css, hcl, hown, hcs⟩ := hrow
        replace hcv : v5.cells = cs.toArray := hcv
        have hl5 := hE5.len
        have ho5 := hE5.one
        have hsz5 := HSk.out.size
        have hsz6 := hs5.size
        have HE5 := Lib.hid hE5
        have HR5 := Lib.hid hr5
        have HS5 := Lib.hid (HSk.out.trans hs5 fun k _ hk => hk)
        have HCS := Lib.hid hcs
        have HOW := Lib.hid hown
        have HCL := Lib.hid hcl
        have hxl' : xs.length ≤ 2000 := by omega
        clear hE5 hr5 hs5 hcs hown hcl hcall
        go_wp2_with (first
          | (with_reducible refine wp_lit (o := ⟨some 37, _, _, _, _, _⟩) ?_ 65 27 1 #[(0, .tmp 36)] ?_ [v5] ?_ 1 24 _ Try.underlying65 txt_info ?_ ?_ ?_ ?_ ?_ ?_
             · rfl
             · rfl
             · rfl
             · omega
             · exact (fun v hv => by rw [List.mem_singleton.1 hv, hcv, List.size_toArray]; exact hl5)
             · rfl
             · omega
             · omega
             simp only [List.flatMap_cons, List.flatMap_nil, List.append_nil, hcv])
          | (with_reducible refine wp_rowapp (o := ⟨some 38, _, _, _, _, _⟩) ?_ (.tmp 33) (.tmp 37) 65 27 ?_ _ 1 24 Try.underlying65 txt_info ?_ ?_ ?_ B _ xs.length css.flatten ?_ (World.ownsRow.alloc HOW.out _) w5.heap.size 1 1 cs ?_ (Blk.new w5 _ _) ?_ ?_ ?_ ?_ ?_
             · rfl
             · rfl
             · rfl
             · omega
             · omega
             · rfl
             · rfl
             · omega
             · exact one_all ho5
             · omega
             · rw [World.size_alloc]; omega
             intro v8 w8 hl8 hg8 ho8))
        have hnew := below_new w5 (.cells cs.toArray 27)
        have hst : Stays (fun _ => False) w5 (w5.alloc (.cells cs.toArray 27)) := Stays.of_below hnew (Nat.le_refl _) _
        have HROW : Hid (RowO (TextO B) 27 1 B w8 v8 (xs ++ [a])) := Lib.hid (RowO.app HCL.out (World.ownsRow.alloc HOW.out _) (fun i y hy => by
            obtain ⟨cs', h6, h7, h8⟩ := HCS.out i y hy
            exact ⟨cs', h6, textO_keeps B _ _ _ _ _ h7 hst (fun _ h => h.elim), h8⟩) (textO_keeps B) (by decide) (textO_keeps B _ _ _ _ _ HE5.out hst (fun _ h => h.elim)) hl5 hl8 hg8)
        have hS8 := Stays.of_grown (S := fun k => Value.ownBlock _ = some k) hg8 (fun k h => h)
        have HR8 : Hid (RdAt B g w8 sr') := Lib.hid ((HR5.out.fut hnew).stays hS8 (own_rw (World.ownsRow.alloc HOW.out _) (by decide)) (fun h => by have := (own_ge HOW.out _ h).1; omega))
        have HO8 : Hid (∀ j, v8.ownBlock = some j → w.heap.size ≤ j) := Lib.hid (fun j hj => by
          rcases ho8 with h | h
          · rw [h] at hj; exact HOk.out j hj
          · rw [h] at hj; injection hj with hj; rw [← hj, World.size_alloc]; omega)
        have HS8 : Hid (Stays (· = g) w w8) := Lib.hid ((HS5.out.trans (hst.mono fun _ _ h => h.elim) (fun k _ hk => hk)).trans hS8 (fun k hk h => by have := HOk.out k h; omega))
        clear hl8 hg8 ho8 hS8 hst hnew hl5 ho5 hcv
        go_roundw
        case rel => exact ⟨k + 1, xs ++ [a], sr', by omega, by go_num, by simp [hxl], HM', HR8, HROW, HO8, HS8⟩
        case measure => simp [intOf]; omega
    · obtain rfl : k = m := by omega
      have HE : Hid (partsZ most p s = .ok (xs, sr)) := Lib.hid (by
        rw [HC.out, ← HM.out, Nat.sub_self]
        exact contM_end xs p sr)
      go_wp2_with fail
      go_ret
      exact RdP.ok HE.out ⟨HRow.out, HOk.out⟩ HRk.out HSk.out

end Go.Proofs.Ythglocpbdfcfnaa
