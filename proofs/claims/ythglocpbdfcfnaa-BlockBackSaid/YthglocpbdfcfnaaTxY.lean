/- sporranplain.SameTx: what says the same is the same. -/
import Derived.Test.YthglocpbdfcfnaaTxX
import Derived.Test.YthglocpbdfcfnaaKeys
import Derived.Test.YthglocpbdfcfnaaGB
namespace Go.Proofs.Ythglocpbdfcfnaa
open Go Go.RowKit
set_option linter.unusedVariables false

theorem pt_same (id : Bs) (h : id.length = 32) (ix : BitVec 32) (w : World) : (Op.equalIn 10000 64 (.agg (hCells id ++ [u32 ix]).toArray) (.agg (hCells id ++ [u32 ix]).toArray)).run Try.prog w = .ok true w := by
  have hf : (Value.agg (hCells id ++ [u32 ix]).toArray).formed Try.prog 64 = true := by
    obtain ⟨x, rfl⟩ := keyFn id 32 h
    kernel_rfl
  have hl : Try.prog.keyLits 4 64 (hCells id ++ [u32 ix]) = some (id.map (fun x => .int .u8 (iv8 x)) ++ [.int .u32 (iv32 ix)]) := by
    have hlen : (hCells id).length = 32 := by simp [hCells, h]
    have e0 : ((hCells id ++ [u32 ix]).drop 0).take 32 = id.map u8 := by rw [List.drop_zero, List.take_left' hlen]; rfl
    have e1 : (hCells id ++ [u32 ix]).drop 32 = [u32 ix] := List.drop_left' hlen
    have hc1 : Try.prog.cellsOf 22 = 1 := by kernel_rfl
    have hcl : (hCells id ++ [u32 ix]).length = Try.prog.cellsOf 64 := by rw [List.length_append, hlen]; kernel_rfl
    unfold Program.keyLits
    rw [Try.underlying64]
    simp only []
    rw [if_pos ⟨hcl, by simp⟩]
    simp only [List.mapM_cons, List.mapM_nil, hc1, hashH_cells, e0, e1, List.take_succ_cons, List.take_zero, lits_u32 2, lits_hash 1 _ h]
    simp
  exact equalIn_same (m := 4) (by omega) (by kernel_rfl) hf hl w
theorem bEqual_any (u v : Value) (x : Bs) (w : World) (h1 : Sl w u x) (h2 : Sl w v x) : Calls Try.prog 15 #[u, v] w fun e w' => e = .returned (.bool true) ∧ w' = w := by
  obtain ⟨p, n, c, rfl, hn, _, _, hr, _⟩ := h1
  obtain ⟨q, m, d, rfl, hm, _, _, hs, _⟩ := h2
  exact equal_same p q n c m d x w hr hs hn hm
theorem ESl.lt {α : Type} {E : World → α → List Value → Prop} {N : Nat} {w W : World} {b off n c k : Nat} {xs : List α} (h : ESl E N w (.slice (some ⟨b, off, none⟩) n c) xs) (hb : Below w.heap.size w W) (hk : k < n) : b < W.heap.size := by
  obtain ⟨p', n', c', e, h1, h2, h3, h4, h5⟩ := h
  injection e with e1 e2 e3
  subst e1 e2 e3
  obtain ⟨b', off', e, hlt, _⟩ := h4 (by intro e; rw [e] at h1; simp at h1; omega)
  injection e with e
  injection e with e1 e2
  subst e1
  exact Nat.lt_of_lt_of_le hlt hb.size

set_option maxRecDepth 100000 in
set_option maxHeartbeats 8000000 in
theorem eqTexts_any (gf : Nat) (eg : ∀ args w, (callFunc gf args).run Try.prog w = .ok (.enter gf args) w) (u v : Value) (xs : List (Bs)) (w : World) (hu : ESl TextC 1 w u xs) (hv : ESl TextC 1 w v xs)
    (hp : ∀ (W : World) (x : Bs) (cs ds : List Value), Below w.heap.size w W → TextC W x cs → TextC W x ds → Calls Try.prog gf #[cs.head!, ds.head!] W fun e w' => e = .returned (.bool true) ∧ Below W.heap.size W w') :
    Calls Try.prog 77 #[u, v, .func (.func gf) #[] #[]] w fun e w' => e = .returned (.bool true) ∧ Below w.heap.size w w' := by
  obtain ⟨p, n, c, rfl⟩ := hu.opens
  obtain ⟨q, m, d, rfl⟩ := hv.opens
  have HU := Lib.hid hu
  have HV := Lib.hid hv
  have HP := Lib.hid hp
  obtain ⟨hn, hnc, hcm⟩ := hu.slen
  obtain ⟨hm, hmd, hdm⟩ := hv.slen
  have hnm : n = m := hn.symm.trans hm
  subst hnm
  have HN := Lib.hid hn
  clear hu hv hp hn hm
  go_enter Try.func77, Try.ntmps77
  go_upto_region 4 with fail
  go_loopw [17] (fun i wr => ∃ k : Nat, k ≤ n ∧ i = .int .i64 k ∧ Hid (Below w.heap.size w wr)) (fun i _ => n - (intOf i).toNat)
  case atStart => exact ⟨0, by omega, rfl, Lib.hid (Below.refl _ _)⟩
  case round =>
    obtain ⟨k, hk, rfl, HWk⟩ := hrel
    by_cases hkn : k < n
    · have hlt : (k : Int) < (n : Int) := by omega
      obtain ⟨b, off, cs, x, rfl, hx, hE, l2⟩ := HU.out.at HWk.out hkn
      obtain ⟨b', off', ds, x', rfl, hx', hE', l3⟩ := HV.out.at HWk.out hkn
      have hxx : x' = x := by rw [hx] at hx'; injection hx' with h; exact h.symm
      subst hxx
      clear hx hx'
      obtain ⟨v1, rfl, hs1⟩ := hE
      obtain ⟨v2, rfl, hs2⟩ := hE'
      have d1 : wr.cell? ⟨b, off + k, none⟩ = some v1 := by
        have := l2 0 _ rfl
        rwa [Nat.mul_one, Nat.add_zero] at this
      have d2 : wr.cell? ⟨b', off' + k, none⟩ = some v2 := by
        have := l3 0 _ rfl
        rwa [Nat.mul_one, Nat.add_zero] at this
      have hcall := HP.out wr _ [v1] [v2] HWk.out ⟨v1, rfl, hs1.below HWk.out (Nat.le_refl _)⟩ ⟨v2, rfl, hs2.below HWk.out (Nat.le_refl _)⟩
      simp only [List.head!] at hcall
      clear l2 l3 hs1 hs2
      go_wp2_with fail
      go_at_fn gf
      refine hcall.mono ?_
      rintro e w8 ⟨rfl, hb8⟩
      have HW8 := Lib.hid (below_fut HWk.out hb8 (Nat.le_refl _))
      go_wp2_with fail
      go_roundw
      case rel => exact ⟨k + 1, by omega, by go_num, HW8⟩
      case measure => simp [intOf]; omega
    · obtain rfl : k = n := by omega
      go_wp2_with fail
      go_ret
      exact ⟨rfl, HWk.out⟩

set_option maxRecDepth 100000 in
theorem sameTexts_any (u v : Value) (xs : List Bs) (w : World) (hu : ESl TextC 1 w u xs) (hv : ESl TextC 1 w v xs) : Calls Try.prog 45 #[u, v] w fun e w' => e = .returned (.bool true) ∧ Below w.heap.size w w' := by
  have hc := eqTexts_any 15 (enters_of Try.func15 (by kernel_rfl) rfl) u v xs w hu hv fun W x cs ds hb ⟨a, e1, h1⟩ ⟨b, e2, h2⟩ => by
    subst e1 e2
    refine (bEqual_any a b x W h1 h2).mono ?_
    rintro e w' ⟨rfl, hw⟩
    subst hw
    exact ⟨rfl, Below.refl _ _⟩
  clear hu hv
  go_enter Try.func45, Try.ntmps45
  go_wp2_with fail
  refine hc.mono ?_
  rintro e w' ⟨rfl, hb⟩
  go_wp2_with fail
  go_ret
  exact ⟨rfl, hb⟩
set_option maxRecDepth 100000 in
set_option maxHeartbeats 8000000 in
theorem sameIn_any (x : TIn) (cs ds : List Value) (w : World) (h1 : InC w x cs) (h2 : InC w x ds) : Calls Try.prog 44 #[.agg cs.toArray, .agg ds.toArray] w fun e w' => e = .returned (.bool true) ∧ Below w.heap.size w w' := by
  obtain ⟨sv, wv, rfl, hid, hs, hw⟩ := id h1
  obtain ⟨sv', wv', rfl, _, hs', hw'⟩ := id h2
  have H1 := Lib.hid h1
  have H2 := Lib.hid h2
  obtain ⟨c1, hc1⟩ : ∃ c, c = hCells x.id ++ [u32 x.ix, sv, u32 x.sq, wv] := ⟨_, rfl⟩
  obtain ⟨c2, hc2⟩ : ∃ c, c = hCells x.id ++ [u32 x.ix, sv', u32 x.sq, wv'] := ⟨_, rfl⟩
  rw [← hc1, ← hc2]
  have hb1 := below_new w (.cells c1.toArray 67)
  have hb2 := below_new (w.alloc (.cells c1.toArray 67)) (.cells c2.toArray 67)
  have HB1 := Lib.hid ((Blk.new w 67 c1.toArray).fut hb2)
  have HB2 := Lib.hid (Blk.new (w.alloc (.cells c1.toArray 67)) 67 c2.toArray)
  have HW := Lib.hid (below_fut hb1 hb2 (Nat.le_refl _))
  simp only [World.size_alloc] at HB2
  have HC1 := Lib.hid hc1
  have HC2 := Lib.hid hc2
  clear h1 h2 hb1 hb2 hc1 hc2
  go_enter Try.func44, Try.ntmps44
  go_upto_region 1 with fail
  generalize (w.alloc (.cells c1.toArray 67)).alloc (.cells c2.toArray 67) = w2 at *
  obtain ⟨z3, hz3⟩ : ∃ z, z = w.heap.size + 1 := ⟨_, rfl⟩
  rw [← hz3] at HB2 ⊢
  obtain ⟨z2, hz2⟩ : ∃ z, z = w.heap.size := ⟨_, rfl⟩
  rw [← hz2] at HB1 ⊢
  have hl : (hCells x.id).length = 32 := by simp [hCells, hid]
  have hc1 := HC1.out
  have hc2 := HC2.out
  have at1 : ∀ j, c1[32 + j]? = [u32 x.ix, sv, u32 x.sq, wv][j]? := fun j => by rw [hc1, List.getElem?_append_right (by omega), hl, Nat.add_sub_cancel_left]
  have at2 : ∀ j, c2[32 + j]? = [u32 x.ix, sv', u32 x.sq, wv'][j]? := fun j => by rw [hc2, List.getElem?_append_right (by omega), hl, Nat.add_sub_cancel_left]
  have a33 := HB1.out.cell 33
  have a34 := HB1.out.cell 34
  have a35 := HB1.out.cell 35
  have b33 := HB2.out.cell 33
  have b34 := HB2.out.cell 34
  have b35 := HB2.out.cell 35
  rw [List.getElem?_toArray, at1 1] at a33
  rw [List.getElem?_toArray, at1 2] at a34
  rw [List.getElem?_toArray, at1 3] at a35
  rw [List.getElem?_toArray, at2 1] at b33
  rw [List.getElem?_toArray, at2 2] at b34
  rw [List.getElem?_toArray, at2 3] at b35
  simp only [List.getElem?_cons_zero, List.getElem?_cons_succ] at a33 a34 a35 b33 b34 b35
  have r1 : w2.rangeAt z2 0 (hCells x.id ++ [u32 x.ix]) := fun j v hj => by
    rw [Nat.zero_add, HB1.out.cell, List.getElem?_toArray, hc1, show hCells x.id ++ [u32 x.ix, sv, u32 x.sq, wv] = (hCells x.id ++ [u32 x.ix]) ++ [sv, u32 x.sq, wv] by simp, List.getElem?_append_left (List.getElem?_eq_some_iff.1 hj).1]
    exact hj
  have r2 : w2.rangeAt z3 0 (hCells x.id ++ [u32 x.ix]) := fun j v hj => by
    rw [Nat.zero_add, HB2.out.cell, List.getElem?_toArray, hc2, show hCells x.id ++ [u32 x.ix, sv', u32 x.sq, wv'] = (hCells x.id ++ [u32 x.ix]) ++ [sv', u32 x.sq, wv'] by simp, List.getElem?_append_left (List.getElem?_eq_some_iff.1 hj).1]
    exact hj
  have hpi : (Try.prog.info? 64).map (·.size) = some (hCells x.id ++ [u32 x.ix]).length := by rw [List.length_append, hl]; kernel_rfl
  have hsame := pt_same x.id hid x.ix
  have heq := bEqual_any sv sv' x.sc w2 (hs.below HW.out (Nat.le_refl _)) (hs'.below HW.out (Nat.le_refl _))
  have htx := sameTexts_any wv wv' x.wi w2 (hw.fut textC_keeps HW.out) (hw'.fut textC_keeps HW.out)
  obtain ⟨P, hP⟩ : ∃ P, P = hCells x.id ++ [u32 x.ix] := ⟨_, rfl⟩
  rw [← hP] at r1 r2 hpi hsame
  obtain ⟨sq, hsq⟩ : ∃ s, s = iv32 x.sq := ⟨_, rfl⟩
  have a34' : w2.cell? ⟨z2, 34, none⟩ = some (.int .u32 sq) := by rw [a34, hsq]
  have b34' : w2.cell? ⟨z3, 34, none⟩ = some (.int .u32 sq) := by rw [b34, hsq]
  clear a34 b34 hP hsq at1 at2 hc1 hc2 HC1 HC2 hl hz2 hz3 HB1 HB2 H1 H2 hs hs' hw hw'
  go_wp2_with (first
    | (with_reducible refine wpList_load_mid (op := ⟨some 6, _, _, _, _, _⟩) ?_ 64 (.tmp 5) ?_ (z2) (0) ?_ (P) _ (r1) Try.underlying64 ?_ ?_ ?_
       · rfl
       · rfl
       · rfl
       · rfl
       · exact (hpi))
    | (with_reducible refine wpList_load_mid (op := ⟨some 8, _, _, _, _, _⟩) ?_ 64 (.tmp 7) ?_ (z3) (0) ?_ (P) _ (r2) Try.underlying64 ?_ ?_ ?_
       · rfl
       · rfl
       · rfl
       · rfl
       · exact (hpi)))
  refine heq.mono ?_
  rintro e w3 ⟨rfl, hw3⟩
  replace hw3 := hw3.symm
  subst hw3
  go_wp2_with fail
  refine htx.mono ?_
  rintro e w4 ⟨rfl, hb4⟩
  go_wp2_with fail
  go_ret
  exact ⟨rfl, below_fut HW.out hb4 (Nat.le_refl _)⟩
set_option maxRecDepth 100000 in
set_option maxHeartbeats 8000000 in
theorem sameOut_any (x : TOut) (cs ds : List Value) (w : World) (h1 : OutC w x cs) (h2 : OutC w x ds) : Calls Try.prog 48 #[.agg cs.toArray, .agg ds.toArray] w fun e w' => e = .returned (.bool true) ∧ Below w.heap.size w w' := by
  obtain ⟨sv, rfl, hs⟩ := h1
  obtain ⟨sv', rfl, hs'⟩ := h2
  obtain ⟨V, hV⟩ : ∃ V, V = x.va.toInt := ⟨_, rfl⟩
  rw [← hV]
  have hb1 := below_new w (.cells #[.int .i64 V, sv] 61)
  have hb2 := below_new (w.alloc (.cells #[.int .i64 V, sv] 61)) (.cells #[.int .i64 V, sv'] 61)
  have HB1 := Lib.hid ((Blk.new w 61 #[.int .i64 V, sv]).fut hb2)
  have HB2 := Lib.hid (Blk.new (w.alloc (.cells #[.int .i64 V, sv] 61)) 61 #[.int .i64 V, sv'])
  have HW := Lib.hid (below_fut hb1 hb2 (Nat.le_refl _))
  simp only [World.size_alloc] at HB2
  clear hb1 hb2 hV
  go_enter Try.func48, Try.ntmps48
  go_upto_region 1 with fail
  generalize (w.alloc (.cells #[.int .i64 V, sv] 61)).alloc (.cells #[.int .i64 V, sv'] 61) = w2 at *
  obtain ⟨z3, hz3⟩ : ∃ z, z = w.heap.size + 1 := ⟨_, rfl⟩
  rw [← hz3] at HB2 ⊢
  obtain ⟨z2, hz2⟩ : ∃ z, z = w.heap.size := ⟨_, rfl⟩
  rw [← hz2] at HB1 ⊢
  have a0 := HB1.out.cell 0
  have a1 := HB1.out.cell 1
  have b0 := HB2.out.cell 0
  have b1 := HB2.out.cell 1
  simp at a0 a1 b0 b1
  have heq := bEqual_any sv sv' x.sc w2 (hs.below HW.out (Nat.le_refl _)) (hs'.below HW.out (Nat.le_refl _))
  clear hs hs' hz2 hz3 HB1 HB2
  go_wp2_with fail
  refine heq.mono ?_
  rintro e w3 ⟨rfl, hw3⟩
  replace hw3 := hw3.symm
  subst hw3
  go_wp2_with fail
  go_ret
  exact ⟨rfl, HW.out⟩

set_option maxRecDepth 100000 in
set_option maxHeartbeats 8000000 in
theorem eqIns_any (gf : Nat) (eg : ∀ args w, (callFunc gf args).run Try.prog w = .ok (.enter gf args) w) (u v : Value) (xs : List (TIn)) (w : World) (hu : ESl InC 36 w u xs) (hv : ESl InC 36 w v xs)
    (hp : ∀ (W : World) (x : TIn) (cs ds : List Value), Below w.heap.size w W → InC W x cs → InC W x ds → Calls Try.prog gf #[.agg cs.toArray, .agg ds.toArray] W fun e w' => e = .returned (.bool true) ∧ Below W.heap.size W w') :
    Calls Try.prog 46 #[u, v, .func (.func gf) #[] #[]] w fun e w' => e = .returned (.bool true) ∧ Below w.heap.size w w' := by
  obtain ⟨p, n, c, rfl⟩ := hu.opens
  obtain ⟨q, m, d, rfl⟩ := hv.opens
  have HU := Lib.hid hu
  have HV := Lib.hid hv
  have HP := Lib.hid hp
  obtain ⟨hn, hnc, hcm⟩ := hu.slen
  obtain ⟨hm, hmd, hdm⟩ := hv.slen
  have hnm : n = m := hn.symm.trans hm
  subst hnm
  have HN := Lib.hid hn
  clear hu hv hp hn hm
  go_enter Try.func46, Try.ntmps46
  go_upto_region 4 with fail
  go_loopw [17] (fun i wr => ∃ k : Nat, k ≤ n ∧ i = .int .i64 k ∧ Hid (Below w.heap.size w wr)) (fun i _ => n - (intOf i).toNat)
  case atStart => exact ⟨0, by omega, rfl, Lib.hid (Below.refl _ _)⟩
  case round =>
    obtain ⟨k, hk, rfl, HWk⟩ := hrel
    by_cases hkn : k < n
    · have hlt : (k : Int) < (n : Int) := by omega
      obtain ⟨b, off, cs, x, rfl, hx, hE, l2⟩ := HU.out.at HWk.out hkn
      obtain ⟨b', off', ds, x', rfl, hx', hE', l3⟩ := HV.out.at HWk.out hkn
      have hxx : x' = x := by rw [hx] at hx'; injection hx' with h; exact h.symm
      subst hxx
      clear hx hx'
      have H3 := Lib.hid hE.len
      have H1 := Lib.hid hE.one
      have H3' := Lib.hid hE'.len
      have H1' := Lib.hid hE'.one
      have HE := Lib.hid hE
      have HE' := Lib.hid hE'
      obtain ⟨Z, hZl, hz⟩ := zeroIn
      have HZ := Lib.hid hZl
      have hbr := below_new wr (.cells Z 67)
      clear hE hE' hZl
      go_upto_region 6 with (first
        | (with_reducible refine wpList_load_mid (op := ⟨some 21, _, _, _, _, _⟩) ?_ 67 (.tmp 20) ?_ (b) (off + k * 36) ?_ (cs) _ (l2) Try.underlying67 ?_ ?_ ?_
           · rfl
           · rfl
           · rfl
           · rfl
           · exact ((info_Ins H3.out)))
        | (with_reducible refine wp_store_blk (o := ⟨none, _, _, _, _, _⟩) ?_ 67 (.tmp 8) (.tmp 21) ?_ (wr.heap.size) 67 (Z) (cs.toArray) ?_ ?_ (Blk.new wr _ _) ?_ ?_ ?_ (wr.heap.size) (wr) ?_ ?_ ?_
           · rfl
           · rfl
           · rfl
           · rfl
           · exact (by rw [List.size_toArray]; exact info_Ins H3.out)
           · exact (HZ.out.trans (by rw [List.size_toArray]; exact H3.out.symm))
           · exact (H1.out)
           · exact (hbr)
           · exact (Nat.le_refl _)
           intro w6 hB6 hb6 hg6 hs6))
      simp only [put_none]
      have l3' : w6.rangeAt b' (off' + k * 36) ds := range_fut l3 hb6 (HV.out.lt HWk.out hkn)
      have HW6 := Lib.hid (below_fut HWk.out hb6 (Nat.le_refl _))
      have HB6 := Lib.hid hB6.out
      have hbr' := below_new w6 (.cells Z 67)
      have hzz : wr.heap.size < w6.heap.size := hB6.out.lt
      clear hb6 hg6 hs6 l2 l3 hbr hB6
      generalize wr.heap.size = z8 at *
      go_upto_region 7 with (first
        | (with_reducible refine wpList_load_mid (op := ⟨some 25, _, _, _, _, _⟩) ?_ 67 (.tmp 24) ?_ (b') (off' + k * 36) ?_ (ds) _ (l3') Try.underlying67 ?_ ?_ ?_
           · rfl
           · rfl
           · rfl
           · rfl
           · exact ((info_Ins H3'.out)))
        | (with_reducible refine wp_store_blk (o := ⟨none, _, _, _, _, _⟩) ?_ 67 (.tmp 9) (.tmp 25) ?_ (w6.heap.size) 67 (Z) (ds.toArray) ?_ ?_ (Blk.new w6 _ _) ?_ ?_ ?_ (w6.heap.size) (w6) ?_ ?_ ?_
           · rfl
           · rfl
           · rfl
           · rfl
           · exact (by rw [List.size_toArray]; exact info_Ins H3'.out)
           · exact (HZ.out.trans (by rw [List.size_toArray]; exact H3'.out.symm))
           · exact (H1'.out)
           · exact (hbr')
           · exact (Nat.le_refl _)
           intro w7 hB7 hb7 hg7 hs7))
      have HW7 := Lib.hid (below_fut HW6.out hb7 (Nat.le_refl _))
      have l6 := blk_range (HB6.out.fut hb7)
      have l7 := blk_range hB7.out
      have hcall := HP.out w7 _ cs ds HW7.out (inC_keeps _ _ _ _ HE.out HW7.out) (inC_keeps _ _ _ _ HE'.out HW7.out)
      clear hb7 hg7 hs7 l3' hbr' hz hB7
      go_wp2_with (first
        | (with_reducible refine wpList_load_mid (op := ⟨some 27, _, _, _, _, _⟩) ?_ 67 (.tmp 8) ?_ (z8) (0) ?_ (cs) _ (l6) Try.underlying67 ?_ ?_ ?_
           · rfl
           · rfl
           · rfl
           · rfl
           · exact ((info_Ins H3.out)))
        | (with_reducible refine wpList_load_mid (op := ⟨some 28, _, _, _, _, _⟩) ?_ 67 (.tmp 9) ?_ (w6.heap.size) (0) ?_ (ds) _ (l7) Try.underlying67 ?_ ?_ ?_
           · rfl
           · rfl
           · rfl
           · rfl
           · exact ((info_Ins H3'.out))))
      go_at_fn gf
      refine hcall.mono ?_
      rintro e w8 ⟨rfl, hb8⟩
      have HW8 := Lib.hid (below_fut HW7.out hb8 (Nat.le_refl _))
      go_wp2_with fail
      go_roundw
      case rel => exact ⟨k + 1, by omega, by go_num, HW8⟩
      case measure => simp [intOf]; omega
    · obtain rfl : k = n := by omega
      go_wp2_with fail
      go_ret
      exact ⟨rfl, HWk.out⟩


set_option maxRecDepth 100000 in
set_option maxHeartbeats 8000000 in
theorem eqOuts_any (gf : Nat) (eg : ∀ args w, (callFunc gf args).run Try.prog w = .ok (.enter gf args) w) (u v : Value) (xs : List (TOut)) (w : World) (hu : ESl OutC 2 w u xs) (hv : ESl OutC 2 w v xs)
    (hp : ∀ (W : World) (x : TOut) (cs ds : List Value), Below w.heap.size w W → OutC W x cs → OutC W x ds → Calls Try.prog gf #[.agg cs.toArray, .agg ds.toArray] W fun e w' => e = .returned (.bool true) ∧ Below W.heap.size W w') :
    Calls Try.prog 47 #[u, v, .func (.func gf) #[] #[]] w fun e w' => e = .returned (.bool true) ∧ Below w.heap.size w w' := by
  obtain ⟨p, n, c, rfl⟩ := hu.opens
  obtain ⟨q, m, d, rfl⟩ := hv.opens
  have HU := Lib.hid hu
  have HV := Lib.hid hv
  have HP := Lib.hid hp
  obtain ⟨hn, hnc, hcm⟩ := hu.slen
  obtain ⟨hm, hmd, hdm⟩ := hv.slen
  have hnm : n = m := hn.symm.trans hm
  subst hnm
  have HN := Lib.hid hn
  clear hu hv hp hn hm
  go_enter Try.func47, Try.ntmps47
  go_upto_region 4 with fail
  go_loopw [17] (fun i wr => ∃ k : Nat, k ≤ n ∧ i = .int .i64 k ∧ Hid (Below w.heap.size w wr)) (fun i _ => n - (intOf i).toNat)
  case atStart => exact ⟨0, by omega, rfl, Lib.hid (Below.refl _ _)⟩
  case round =>
    obtain ⟨k, hk, rfl, HWk⟩ := hrel
    by_cases hkn : k < n
    · have hlt : (k : Int) < (n : Int) := by omega
      obtain ⟨b, off, cs, x, rfl, hx, hE, l2⟩ := HU.out.at HWk.out hkn
      obtain ⟨b', off', ds, x', rfl, hx', hE', l3⟩ := HV.out.at HWk.out hkn
      have hxx : x' = x := by rw [hx] at hx'; injection hx' with h; exact h.symm
      subst hxx
      clear hx hx'
      have H3 := Lib.hid hE.len
      have H1 := Lib.hid hE.one
      have H3' := Lib.hid hE'.len
      have H1' := Lib.hid hE'.one
      have HE := Lib.hid hE
      have HE' := Lib.hid hE'
      obtain ⟨Z, hZl, hz⟩ := zeroOut
      have HZ := Lib.hid hZl
      have hbr := below_new wr (.cells Z 61)
      clear hE hE' hZl
      go_upto_region 6 with (first
        | (with_reducible refine wpList_load_mid (op := ⟨some 21, _, _, _, _, _⟩) ?_ 61 (.tmp 20) ?_ (b) (off + k * 2) ?_ (cs) _ (l2) Try.underlying61 ?_ ?_ ?_
           · rfl
           · rfl
           · rfl
           · rfl
           · exact ((info_Outs H3.out)))
        | (with_reducible refine wp_store_blk (o := ⟨none, _, _, _, _, _⟩) ?_ 61 (.tmp 8) (.tmp 21) ?_ (wr.heap.size) 61 (Z) (cs.toArray) ?_ ?_ (Blk.new wr _ _) ?_ ?_ ?_ (wr.heap.size) (wr) ?_ ?_ ?_
           · rfl
           · rfl
           · rfl
           · rfl
           · exact (by rw [List.size_toArray]; exact info_Outs H3.out)
           · exact (HZ.out.trans (by rw [List.size_toArray]; exact H3.out.symm))
           · exact (H1.out)
           · exact (hbr)
           · exact (Nat.le_refl _)
           intro w6 hB6 hb6 hg6 hs6))
      simp only [put_none]
      have l3' : w6.rangeAt b' (off' + k * 2) ds := range_fut l3 hb6 (HV.out.lt HWk.out hkn)
      have HW6 := Lib.hid (below_fut HWk.out hb6 (Nat.le_refl _))
      have HB6 := Lib.hid hB6.out
      have hbr' := below_new w6 (.cells Z 61)
      have hzz : wr.heap.size < w6.heap.size := hB6.out.lt
      clear hb6 hg6 hs6 l2 l3 hbr hB6
      generalize wr.heap.size = z8 at *
      go_upto_region 7 with (first
        | (with_reducible refine wpList_load_mid (op := ⟨some 25, _, _, _, _, _⟩) ?_ 61 (.tmp 24) ?_ (b') (off' + k * 2) ?_ (ds) _ (l3') Try.underlying61 ?_ ?_ ?_
           · rfl
           · rfl
           · rfl
           · rfl
           · exact ((info_Outs H3'.out)))
        | (with_reducible refine wp_store_blk (o := ⟨none, _, _, _, _, _⟩) ?_ 61 (.tmp 9) (.tmp 25) ?_ (w6.heap.size) 61 (Z) (ds.toArray) ?_ ?_ (Blk.new w6 _ _) ?_ ?_ ?_ (w6.heap.size) (w6) ?_ ?_ ?_
           · rfl
           · rfl
           · rfl
           · rfl
           · exact (by rw [List.size_toArray]; exact info_Outs H3'.out)
           · exact (HZ.out.trans (by rw [List.size_toArray]; exact H3'.out.symm))
           · exact (H1'.out)
           · exact (hbr')
           · exact (Nat.le_refl _)
           intro w7 hB7 hb7 hg7 hs7))
      have HW7 := Lib.hid (below_fut HW6.out hb7 (Nat.le_refl _))
      have l6 := blk_range (HB6.out.fut hb7)
      have l7 := blk_range hB7.out
      have hcall := HP.out w7 _ cs ds HW7.out (outC_keeps _ _ _ _ HE.out HW7.out) (outC_keeps _ _ _ _ HE'.out HW7.out)
      clear hb7 hg7 hs7 l3' hbr' hz hB7
      go_wp2_with (first
        | (with_reducible refine wpList_load_mid (op := ⟨some 27, _, _, _, _, _⟩) ?_ 61 (.tmp 8) ?_ (z8) (0) ?_ (cs) _ (l6) Try.underlying61 ?_ ?_ ?_
           · rfl
           · rfl
           · rfl
           · rfl
           · exact ((info_Outs H3.out)))
        | (with_reducible refine wpList_load_mid (op := ⟨some 28, _, _, _, _, _⟩) ?_ 61 (.tmp 9) ?_ (w6.heap.size) (0) ?_ (ds) _ (l7) Try.underlying61 ?_ ?_ ?_
           · rfl
           · rfl
           · rfl
           · rfl
           · exact ((info_Outs H3'.out))))
      go_at_fn gf
      refine hcall.mono ?_
      rintro e w8 ⟨rfl, hb8⟩
      have HW8 := Lib.hid (below_fut HW7.out hb8 (Nat.le_refl _))
      go_wp2_with fail
      go_roundw
      case rel => exact ⟨k + 1, by omega, by go_num, HW8⟩
      case measure => simp [intOf]; omega
    · obtain rfl : k = n := by omega
      go_wp2_with fail
      go_ret
      exact ⟨rfl, HWk.out⟩

set_option maxRecDepth 100000 in
set_option maxHeartbeats 8000000 in
theorem sameTx_any (t : TTx) (cs ds : List Value) (w : World) (h1 : TxC w t cs) (h2 : TxC w t ds) : Calls Try.prog 17 #[.agg cs.toArray, .agg ds.toArray] w fun e w' => e = .returned (.bool true) ∧ Below w.heap.size w w' := by
  obtain ⟨iv, ov, rfl, hi, ho⟩ := h1
  obtain ⟨iv', ov', rfl, hi', ho'⟩ := h2
  obtain ⟨ve, hve⟩ : ∃ x, x = iv32 t.ve := ⟨_, rfl⟩
  obtain ⟨lo, hlo⟩ : ∃ x, x = iv32 t.lo := ⟨_, rfl⟩
  have e1 : u32 t.ve = .int .u32 ve := by rw [hve]
  have e2 : u32 t.lo = .int .u32 lo := by rw [hlo]
  rw [e1, e2]
  have hb1 := below_new w (.cells #[.int .u32 ve, iv, ov, .int .u32 lo] 26)
  have hb2 := below_new (w.alloc (.cells #[.int .u32 ve, iv, ov, .int .u32 lo] 26)) (.cells #[.int .u32 ve, iv', ov', .int .u32 lo] 26)
  have HB1 := Lib.hid ((Blk.new w 26 #[.int .u32 ve, iv, ov, .int .u32 lo]).fut hb2)
  have HB2 := Lib.hid (Blk.new (w.alloc (.cells #[.int .u32 ve, iv, ov, .int .u32 lo] 26)) 26 #[.int .u32 ve, iv', ov', .int .u32 lo])
  have HW := Lib.hid (below_fut hb1 hb2 (Nat.le_refl _))
  have HO := Lib.hid (ho.fut outC_keeps HW.out)
  have HO' := Lib.hid (ho'.fut outC_keeps HW.out)
  have hIs := eqIns_any 44 (enters_of Try.func44 (by kernel_rfl) rfl) iv iv' t.is _ (hi.fut inC_keeps HW.out) (hi'.fut inC_keeps HW.out) (fun W x cs ds _ ha hb => sameIn_any x cs ds W ha hb)
  simp only [World.size_alloc] at HB2
  clear hb1 hb2 hve hlo e1 e2 hi hi' ho ho'
  go_enter Try.func17, Try.ntmps17
  go_upto_region 1 with fail
  generalize (w.alloc (.cells #[.int .u32 ve, iv, ov, .int .u32 lo] 26)).alloc (.cells #[.int .u32 ve, iv', ov', .int .u32 lo] 26) = w2 at *
  obtain ⟨z3, hz3⟩ : ∃ z, z = w.heap.size + 1 := ⟨_, rfl⟩
  rw [← hz3] at HB2 ⊢
  obtain ⟨z2, hz2⟩ : ∃ z, z = w.heap.size := ⟨_, rfl⟩
  rw [← hz2] at HB1 ⊢
  have a0 := HB1.out.cell 0
  have a1 := HB1.out.cell 1
  have a3 := HB1.out.cell 3
  have b0 := HB2.out.cell 0
  have b1 := HB2.out.cell 1
  have b3 := HB2.out.cell 3
  simp at a0 a1 a3 b0 b1 b3
  clear hz2 hz3
  go_wp2_with fail
  refine hIs.mono ?_
  rintro e w3 ⟨rfl, hb3⟩
  have g2 := (HB1.out.fut hb3).cell 2
  have h2 := (HB2.out.fut hb3).cell 2
  simp at g2 h2
  have hOs := eqOuts_any 48 (enters_of Try.func48 (by kernel_rfl) rfl) ov ov' t.os w3 (HO.out.fut outC_keeps hb3) (HO'.out.fut outC_keeps hb3) (fun W x cs ds _ ha hb => sameOut_any x cs ds W ha hb)
  clear a0 a1 a3 b0 b1 b3
  go_wp2_with fail
  refine hOs.mono ?_
  rintro e w4 ⟨rfl, hb4⟩
  go_wp2_with fail
  go_ret
  exact ⟨rfl, below_fut (below_fut HW.out hb3 (Nat.le_refl _)) hb4 (Nat.le_refl _)⟩
end Go.Proofs.Ythglocpbdfcfnaa
