/- tx.list: a count, and parts, behind others. -/
import Derived.Test.YthglocpbdfcfnaaTxE
namespace Go.Proofs.Ythglocpbdfcfnaa
open Go Go.RowKit
set_option linter.unusedVariables false

theorem Wr.opens {w0 w : World} {v : Value} {ys : Bs} (h : Wr w0 w v ys) : ∃ p n c, v = .slice p n c := by
  obtain ⟨p, n, c, e, _⟩ := h.own.open
  exact ⟨p, n, c, e⟩
theorem flat_le {α : Type} (f : α → Bs) (M : Nat) : ∀ (xs : List α), (∀ x ∈ xs, (f x).length ≤ M) → ((xs.map f).flatten).length ≤ xs.length * M
  | [], _ => by simp
  | x :: xs, h => by
    have h1 := h x (List.mem_cons_self ..)
    have h2 := flat_le f M xs fun y hy => h y (List.mem_cons_of_mem _ hy)
    rw [List.map_cons, List.flatten_cons, List.length_append, List.length_cons, Nat.succ_mul]
    omega
theorem flat_take {α : Type} (f : α → Bs) (xs : List α) (k : Nat) (x : α) (h : xs[k]? = some x) : ((xs.take (k + 1)).map f).flatten = ((xs.take k).map f).flatten ++ f x := by
  rw [List.take_add_one, h, List.map_append, List.flatten_append]
  simp
theorem blk_range {w : World} {g : Nat} {t : TypeId} {cs : List Value} (h : Blk w g t cs.toArray) : w.rangeAt g 0 cs := fun j v hj => by
  rw [Nat.zero_add, h.cell, List.getElem?_toArray]; exact hj
theorem Sl.one {w : World} {v : Value} {bs : Bs} (h : Sl w v bs) : v.oneCell' = true := by obtain ⟨p, n, c, rfl, _⟩ := h; rfl
theorem ESl.one {α : Type} {E : World → α → List Value → Prop} {N : Nat} {w : World} {v : Value} {xs : List α} (h : ESl E N w v xs) : v.oneCell' = true := by obtain ⟨p, n, c, rfl, _⟩ := h; rfl
theorem InC.one {w : World} {x : TIn} {cs : List Value} (h : InC w x cs) : cs.toArray.all (·.oneCell') = true := by
  obtain ⟨sv, wv, rfl, h1, h2, h3⟩ := h
  rw [List.all_toArray, hCells]
  simp [Value.oneCell']
  exact ⟨h2.one, h3.one⟩
theorem OutC.one {w : World} {x : TOut} {cs : List Value} (h : OutC w x cs) : cs.toArray.all (·.oneCell') = true := by
  obtain ⟨sv, rfl, h1⟩ := h
  rw [List.all_toArray]
  simp [Value.oneCell']
  exact h1.one
theorem zeroIn : ∃ Z : Array Value, Z.size = 36 ∧ ∀ w, (zeroValue 67).run Try.prog w = .ok (.agg Z) w :=
  ⟨(List.replicate 32 (Value.int .u8 0) ++ [Value.int .u32 0, Value.slice none 0 0, Value.int .u32 0, Value.slice none 0 0]).toArray, by rfl, zero_of (by kernel_rfl)⟩
theorem zeroOut : ∃ Z : Array Value, Z.size = 2 ∧ ∀ w, (zeroValue 61).run Try.prog w = .ok (.agg Z) w := ⟨#[.int .i64 0, .slice none 0 0], by rfl, zero_of (by kernel_rfl)⟩

set_option maxRecDepth 100000 in
set_option maxHeartbeats 8000000 in
theorem listIns_any (f : TIn → Bs) (M : Nat) (g : Nat) (eg : ∀ args w, (callFunc g args).run Try.prog w = .ok (.enter g args) w) (u : Value) (xs : List (TIn)) (hx : xs.length ≤ 2000) (hM : M ≤ 10000000000) (hf : ∀ x ∈ xs, (f x).length ≤ M) (w0 w : World) (v : Value) (ys : Bs) (hu : ESl InC 36 w0 u xs) (hw : Wr w0 w v ys) (hl : ys.length ≤ 50000000000000)
    (hp : ∀ (W : World) (v' : Value) (zs : Bs) (x : TIn) (cs : List Value), x ∈ xs → Wr w0 W v' zs → zs.length ≤ 90000000000000 → InC w0 x cs → Calls Try.prog g #[v', .agg cs.toArray] W (AppTo W w0.heap.size v' (zs ++ f x))) :
    Calls Try.prog 30 #[v, u, .func (.func g) #[] #[]] w (AppTo w w0.heap.size v (ys ++ (cntB xs.length ++ (xs.map f).flatten))) := by
  obtain ⟨q, n, c, rfl, hn, hnc, hcm, hr, _⟩ := hu
  have HP := Lib.hid hp
  have HF := Lib.hid hf
  have HN := Lib.hid hn
  have HR := Lib.hid hr
  have HL := Lib.hid hl
  have hn2 : n ≤ 2000 := by omega
  have hiv := iv64_nat n (by omega)
  have hel := enc_len (BitVec.ofNat 64 n)
  have HC : Hid (cntB xs.length = enc (BitVec.ofNat 64 n)) := Lib.hid (by unfold cntB; rw [hn])
  have HW := Lib.hid hw
  obtain ⟨V, hV⟩ : ∃ V, V = v := ⟨_, rfl⟩
  have HV := Lib.hid hV
  obtain ⟨p0, n0, c0, rfl⟩ := hw.opens
  clear hp hf hn hr hl hw hV hx
  go_enter Try.func30, Try.ntmps30
  go_wp2_with fail
  rw [← hiv]
  refine (encode_any (BitVec.ofNat 64 n) _).mono ?_
  rintro e w1 ⟨v1, rfl, ho1, hb1⟩
  obtain ⟨E, hE⟩ : ∃ E, E = enc (BitVec.ofNat 64 n) := ⟨_, rfl⟩
  rw [← hE] at ho1 hel HC
  clear hE hiv
  obtain ⟨p1, c1, rfl, hl1, hm1, hr1⟩ := ho1.row
  have HW1 := Lib.hid (HW.out.fut hb1)
  have ho2 := HW1.out.own
  have hsz1 := HW1.out.below.size
  have hbr := Below.refl w0.heap.size w1
  have HB1 := Lib.hid hb1
  clear ho1 hb1
  go_wp2_with ((with_reducible refine wp_append8 (o := ⟨some 14, _, _, _, _, _⟩) ?_ (.tmp 9) (.tmp 13) ?_ (w0.heap.size) _ (ys) ?_ (ho2) (p1) (E.length) (c1) (E) ?_ (rfl) (hr1) ?_ (hsz1) (w0.heap.size) (w1) (hbr) ?_ ?_
                · rfl
                · rfl
                · rfl
                · rfl
                · have := HL.out; omega
                · exact Nat.le_refl _
                intro v3 w3 ho3 hb3 hg3 hk3))
  have HG3 := Lib.hid (Grew.ahead HB1.out (Grew.of_app hg3 hk3))
  have HW3 := Lib.hid (HW1.out.grew ho3 (Grew.of_app hg3 hk3))
  clear ho3 hb3 hg3 hk3 ho2 hbr hr1
  have hn0 : n ≤ xs.length := by have := HN.out; omega
  go_loopw [0, 17] (fun u i wr => ∃ k : Nat, k ≤ n ∧ i = .int .i64 k ∧ Hid (Wr w0 wr u (ys ++ (E ++ ((xs.take k).map f).flatten))) ∧ Hid (Grew w V wr u)) (fun _ i _ => n - (intOf i).toNat)
  case atStart => exact ⟨0, by omega, rfl, Lib.hid (by rw [List.take_zero, List.map_nil, List.flatten_nil, List.append_nil]; exact HW3.out), Lib.hid (by rw [HV.out]; exact HG3.out)⟩
  case round =>
    obtain ⟨k, hk, rfl, HWk, HGk⟩ := hrel
    obtain ⟨pk, nk, ck, rfl⟩ := HWk.out.opens
    by_cases hkn : k < n
    · have hlt : (k : Int) < (n : Int) := by omega
      have hx := List.getElem?_eq_getElem (l := xs) (i := k) (by omega)
      obtain ⟨x, hxe⟩ : ∃ x, x = xs[k]'(by omega) := ⟨_, rfl⟩
      rw [← hxe] at hx
      have hmem := List.mem_of_getElem? hx
      obtain ⟨b, off, rfl, hb, hcs⟩ := HR.out (by intro h; rw [h] at hx; cases hx)
      obtain ⟨cs, hE, h2⟩ := hcs k x hx
      have l3 := hE.len
      have l2 : wr.rangeAt b (off + k * 36) cs := range_fut h2 HWk.out.below hb
      have HX := Lib.hid hx
      have HE := Lib.hid hE
      have hE' := hE
      have HM := Lib.hid hmem
      clear hx hxe hmem h2 hE hcs hb
      have hone := hE'.one
      obtain ⟨Z, hZl, hz⟩ := zeroIn
      have HZ := Lib.hid hZl
      have H3 := Lib.hid l3
      have H1 := Lib.hid hone
      clear hZl l3 hone hE'
      go_upto_region 5 with (first
        | (with_reducible refine wpList_load_mid (op := ⟨some 20, _, _, _, _, _⟩) ?_ 67 (.tmp 19) ?_ (b) (off + k * 36) ?_ (cs) _ (l2) Try.underlying67 ?_ ?_ ?_
           · rfl
           · rfl
           · rfl
           · rfl
           · exact ((info_Ins H3.out)))
        | (with_reducible refine wp_store_blk (o := ⟨none, _, _, _, _, _⟩) ?_ 67 (.tmp 8) (.tmp 20) ?_ (wr.heap.size) 67 (Z) (cs.toArray) ?_ ?_ (Blk.new wr _ _) ?_ ?_ ?_ (wr.heap.size) (wr) ?_ ?_ ?_
           · rfl
           · rfl
           · rfl
           · rfl
           · exact (by rw [List.size_toArray]; exact info_Ins H3.out)
           · exact (HZ.out.trans (by rw [List.size_toArray]; exact H3.out.symm))
           · exact (H1.out)
           · exact (below_new wr _)
           · exact (Nat.le_refl _)
           intro w6 hB6 hb6 hg6 hs6))
      have l6 := blk_range hB6.out
      have HW6 := Lib.hid (HWk.out.fut hb6)
      have HG6 := Lib.hid (HGk.out.fut hb6)
      have hnl : (((xs.take k).map f).flatten).length ≤ 20000000000000 := by
        have h1 := flat_le f M (xs.take k) (fun y hy => HF.out y (List.mem_of_mem_take hy))
        have h2 : (xs.take k).length ≤ 2000 := by rw [List.length_take]; omega
        have h3 := Nat.mul_le_mul h2 hM
        omega
      have hcall := HP.out w6 _ _ x cs HM.out HW6.out (by rw [List.length_append, List.length_append]; have := HL.out; omega) HE.out
      clear hb6 hg6 hs6 hnl l2 hz
      go_wp2_with (first
        | (with_reducible refine wpList_load_mid (op := ⟨some 23, _, _, _, _, _⟩) ?_ 67 (.tmp 8) ?_ (wr.heap.size) (0) ?_ (cs) _ (l6) Try.underlying67 ?_ ?_ ?_
           · rfl
           · rfl
           · rfl
           · rfl
           · exact ((info_Ins H3.out)))
        | (go_at_fn g; refine hcall.mono ?_; rintro e w7 ⟨v7, rfl, ho7, hg7⟩))
      have HW7 := Lib.hid (HW6.out.grew ho7 hg7)
      have HG7 := Lib.hid (HG6.out.trans hg7)
      have e7 : ys ++ (E ++ ((xs.take k).map f).flatten) ++ f x = ys ++ (E ++ ((xs.take (k + 1)).map f).flatten) := by rw [flat_take f xs k x HX.out]; simp only [List.append_assoc]
      rw [e7] at HW7
      clear ho7 hg7 e7 hcall
      go_roundw
      case rel => exact ⟨k + 1, by omega, by go_num, HW7, HG7⟩
      case measure => simp [intOf]; omega
    · obtain rfl : k = n := by omega
      go_wp2
      go_ret
      have hgl := HGk.out
      rw [HV.out] at hgl
      refine ⟨_, rfl, ?_, hgl⟩
      have := HWk.out.own
      rw [List.take_of_length_le (by have := HN.out; omega)] at this
      rw [HC.out]; exact this


set_option maxRecDepth 100000 in
set_option maxHeartbeats 8000000 in
theorem listOuts_any (f : TOut → Bs) (M : Nat) (g : Nat) (eg : ∀ args w, (callFunc g args).run Try.prog w = .ok (.enter g args) w) (u : Value) (xs : List (TOut)) (hx : xs.length ≤ 2000) (hM : M ≤ 10000000000) (hf : ∀ x ∈ xs, (f x).length ≤ M) (w0 w : World) (v : Value) (ys : Bs) (hu : ESl OutC 2 w0 u xs) (hw : Wr w0 w v ys) (hl : ys.length ≤ 50000000000000)
    (hp : ∀ (W : World) (v' : Value) (zs : Bs) (x : TOut) (cs : List Value), x ∈ xs → Wr w0 W v' zs → zs.length ≤ 90000000000000 → OutC w0 x cs → Calls Try.prog g #[v', .agg cs.toArray] W (AppTo W w0.heap.size v' (zs ++ f x))) :
    Calls Try.prog 29 #[v, u, .func (.func g) #[] #[]] w (AppTo w w0.heap.size v (ys ++ (cntB xs.length ++ (xs.map f).flatten))) := by
  obtain ⟨q, n, c, rfl, hn, hnc, hcm, hr, _⟩ := hu
  have HP := Lib.hid hp
  have HF := Lib.hid hf
  have HN := Lib.hid hn
  have HR := Lib.hid hr
  have HL := Lib.hid hl
  have hn2 : n ≤ 2000 := by omega
  have hiv := iv64_nat n (by omega)
  have hel := enc_len (BitVec.ofNat 64 n)
  have HC : Hid (cntB xs.length = enc (BitVec.ofNat 64 n)) := Lib.hid (by unfold cntB; rw [hn])
  have HW := Lib.hid hw
  obtain ⟨V, hV⟩ : ∃ V, V = v := ⟨_, rfl⟩
  have HV := Lib.hid hV
  obtain ⟨p0, n0, c0, rfl⟩ := hw.opens
  clear hp hf hn hr hl hw hV hx
  go_enter Try.func29, Try.ntmps29
  go_wp2_with fail
  rw [← hiv]
  refine (encode_any (BitVec.ofNat 64 n) _).mono ?_
  rintro e w1 ⟨v1, rfl, ho1, hb1⟩
  obtain ⟨E, hE⟩ : ∃ E, E = enc (BitVec.ofNat 64 n) := ⟨_, rfl⟩
  rw [← hE] at ho1 hel HC
  clear hE hiv
  obtain ⟨p1, c1, rfl, hl1, hm1, hr1⟩ := ho1.row
  have HW1 := Lib.hid (HW.out.fut hb1)
  have ho2 := HW1.out.own
  have hsz1 := HW1.out.below.size
  have hbr := Below.refl w0.heap.size w1
  have HB1 := Lib.hid hb1
  clear ho1 hb1
  go_wp2_with ((with_reducible refine wp_append8 (o := ⟨some 14, _, _, _, _, _⟩) ?_ (.tmp 9) (.tmp 13) ?_ (w0.heap.size) _ (ys) ?_ (ho2) (p1) (E.length) (c1) (E) ?_ (rfl) (hr1) ?_ (hsz1) (w0.heap.size) (w1) (hbr) ?_ ?_
                · rfl
                · rfl
                · rfl
                · rfl
                · have := HL.out; omega
                · exact Nat.le_refl _
                intro v3 w3 ho3 hb3 hg3 hk3))
  have HG3 := Lib.hid (Grew.ahead HB1.out (Grew.of_app hg3 hk3))
  have HW3 := Lib.hid (HW1.out.grew ho3 (Grew.of_app hg3 hk3))
  clear ho3 hb3 hg3 hk3 ho2 hbr hr1
  have hn0 : n ≤ xs.length := by have := HN.out; omega
  go_loopw [0, 17] (fun u i wr => ∃ k : Nat, k ≤ n ∧ i = .int .i64 k ∧ Hid (Wr w0 wr u (ys ++ (E ++ ((xs.take k).map f).flatten))) ∧ Hid (Grew w V wr u)) (fun _ i _ => n - (intOf i).toNat)
  case atStart => exact ⟨0, by omega, rfl, Lib.hid (by rw [List.take_zero, List.map_nil, List.flatten_nil, List.append_nil]; exact HW3.out), Lib.hid (by rw [HV.out]; exact HG3.out)⟩
  case round =>
    obtain ⟨k, hk, rfl, HWk, HGk⟩ := hrel
    obtain ⟨pk, nk, ck, rfl⟩ := HWk.out.opens
    by_cases hkn : k < n
    · have hlt : (k : Int) < (n : Int) := by omega
      have hx := List.getElem?_eq_getElem (l := xs) (i := k) (by omega)
      obtain ⟨x, hxe⟩ : ∃ x, x = xs[k]'(by omega) := ⟨_, rfl⟩
      rw [← hxe] at hx
      have hmem := List.mem_of_getElem? hx
      obtain ⟨b, off, rfl, hb, hcs⟩ := HR.out (by intro h; rw [h] at hx; cases hx)
      obtain ⟨cs, hE, h2⟩ := hcs k x hx
      have l3 := hE.len
      have l2 : wr.rangeAt b (off + k * 2) cs := range_fut h2 HWk.out.below hb
      have HX := Lib.hid hx
      have HE := Lib.hid hE
      have hE' := hE
      have HM := Lib.hid hmem
      clear hx hxe hmem h2 hE hcs hb
      have hone := hE'.one
      obtain ⟨Z, hZl, hz⟩ := zeroOut
      have HZ := Lib.hid hZl
      have H3 := Lib.hid l3
      have H1 := Lib.hid hone
      clear hZl l3 hone hE'
      go_upto_region 5 with (first
        | (with_reducible refine wpList_load_mid (op := ⟨some 20, _, _, _, _, _⟩) ?_ 61 (.tmp 19) ?_ (b) (off + k * 2) ?_ (cs) _ (l2) Try.underlying61 ?_ ?_ ?_
           · rfl
           · rfl
           · rfl
           · rfl
           · exact ((info_Outs H3.out)))
        | (with_reducible refine wp_store_blk (o := ⟨none, _, _, _, _, _⟩) ?_ 61 (.tmp 8) (.tmp 20) ?_ (wr.heap.size) 61 (Z) (cs.toArray) ?_ ?_ (Blk.new wr _ _) ?_ ?_ ?_ (wr.heap.size) (wr) ?_ ?_ ?_
           · rfl
           · rfl
           · rfl
           · rfl
           · exact (by rw [List.size_toArray]; exact info_Outs H3.out)
           · exact (HZ.out.trans (by rw [List.size_toArray]; exact H3.out.symm))
           · exact (H1.out)
           · exact (below_new wr _)
           · exact (Nat.le_refl _)
           intro w6 hB6 hb6 hg6 hs6))
      have l6 := blk_range hB6.out
      have HW6 := Lib.hid (HWk.out.fut hb6)
      have HG6 := Lib.hid (HGk.out.fut hb6)
      have hnl : (((xs.take k).map f).flatten).length ≤ 20000000000000 := by
        have h1 := flat_le f M (xs.take k) (fun y hy => HF.out y (List.mem_of_mem_take hy))
        have h2 : (xs.take k).length ≤ 2000 := by rw [List.length_take]; omega
        have h3 := Nat.mul_le_mul h2 hM
        omega
      have hcall := HP.out w6 _ _ x cs HM.out HW6.out (by rw [List.length_append, List.length_append]; have := HL.out; omega) HE.out
      clear hb6 hg6 hs6 hnl l2 hz
      go_wp2_with (first
        | (with_reducible refine wpList_load_mid (op := ⟨some 23, _, _, _, _, _⟩) ?_ 61 (.tmp 8) ?_ (wr.heap.size) (0) ?_ (cs) _ (l6) Try.underlying61 ?_ ?_ ?_
           · rfl
           · rfl
           · rfl
           · rfl
           · exact ((info_Outs H3.out)))
        | (go_at_fn g; refine hcall.mono ?_; rintro e w7 ⟨v7, rfl, ho7, hg7⟩))
      have HW7 := Lib.hid (HW6.out.grew ho7 hg7)
      have HG7 := Lib.hid (HG6.out.trans hg7)
      have e7 : ys ++ (E ++ ((xs.take k).map f).flatten) ++ f x = ys ++ (E ++ ((xs.take (k + 1)).map f).flatten) := by rw [flat_take f xs k x HX.out]; simp only [List.append_assoc]
      rw [e7] at HW7
      clear ho7 hg7 e7 hcall
      go_roundw
      case rel => exact ⟨k + 1, by omega, by go_num, HW7, HG7⟩
      case measure => simp [intOf]; omega
    · obtain rfl : k = n := by omega
      go_wp2
      go_ret
      have hgl := HGk.out
      rw [HV.out] at hgl
      refine ⟨_, rfl, ?_, hgl⟩
      have := HWk.out.own
      rw [List.take_of_length_le (by have := HN.out; omega)] at this
      rw [HC.out]; exact this


set_option maxRecDepth 100000 in
set_option maxHeartbeats 8000000 in
theorem listTexts_any (f : Bs → Bs) (M : Nat) (g : Nat) (eg : ∀ args w, (callFunc g args).run Try.prog w = .ok (.enter g args) w) (u : Value) (xs : List (Bs)) (hx : xs.length ≤ 2000) (hM : M ≤ 10000000000) (hf : ∀ x ∈ xs, (f x).length ≤ M) (w0 w : World) (v : Value) (ys : Bs) (hu : ESl TextC 1 w0 u xs) (hw : Wr w0 w v ys) (hl : ys.length ≤ 50000000000000)
    (hp : ∀ (W : World) (v' : Value) (zs : Bs) (x : Bs) (cs : List Value), x ∈ xs → Wr w0 W v' zs → zs.length ≤ 90000000000000 → TextC w0 x cs → Calls Try.prog g #[v', cs.head!] W (AppTo W w0.heap.size v' (zs ++ f x))) :
    Calls Try.prog 33 #[v, u, .func (.func g) #[] #[]] w (AppTo w w0.heap.size v (ys ++ (cntB xs.length ++ (xs.map f).flatten))) := by
  obtain ⟨q, n, c, rfl, hn, hnc, hcm, hr, _⟩ := hu
  have HP := Lib.hid hp
  have HF := Lib.hid hf
  have HN := Lib.hid hn
  have HR := Lib.hid hr
  have HL := Lib.hid hl
  have hn2 : n ≤ 2000 := by omega
  have hiv := iv64_nat n (by omega)
  have hel := enc_len (BitVec.ofNat 64 n)
  have HC : Hid (cntB xs.length = enc (BitVec.ofNat 64 n)) := Lib.hid (by unfold cntB; rw [hn])
  have HW := Lib.hid hw
  obtain ⟨V, hV⟩ : ∃ V, V = v := ⟨_, rfl⟩
  have HV := Lib.hid hV
  obtain ⟨p0, n0, c0, rfl⟩ := hw.opens
  clear hp hf hn hr hl hw hV hx
  go_enter Try.func33, Try.ntmps33
  go_wp2_with fail
  rw [← hiv]
  refine (encode_any (BitVec.ofNat 64 n) _).mono ?_
  rintro e w1 ⟨v1, rfl, ho1, hb1⟩
  obtain ⟨E, hE⟩ : ∃ E, E = enc (BitVec.ofNat 64 n) := ⟨_, rfl⟩
  rw [← hE] at ho1 hel HC
  clear hE hiv
  obtain ⟨p1, c1, rfl, hl1, hm1, hr1⟩ := ho1.row
  have HW1 := Lib.hid (HW.out.fut hb1)
  have ho2 := HW1.out.own
  have hsz1 := HW1.out.below.size
  have hbr := Below.refl w0.heap.size w1
  have HB1 := Lib.hid hb1
  clear ho1 hb1
  go_wp2_with ((with_reducible refine wp_append8 (o := ⟨some 14, _, _, _, _, _⟩) ?_ (.tmp 9) (.tmp 13) ?_ (w0.heap.size) _ (ys) ?_ (ho2) (p1) (E.length) (c1) (E) ?_ (rfl) (hr1) ?_ (hsz1) (w0.heap.size) (w1) (hbr) ?_ ?_
                · rfl
                · rfl
                · rfl
                · rfl
                · have := HL.out; omega
                · exact Nat.le_refl _
                intro v3 w3 ho3 hb3 hg3 hk3))
  have HG3 := Lib.hid (Grew.ahead HB1.out (Grew.of_app hg3 hk3))
  have HW3 := Lib.hid (HW1.out.grew ho3 (Grew.of_app hg3 hk3))
  clear ho3 hb3 hg3 hk3 ho2 hbr hr1
  have hn0 : n ≤ xs.length := by have := HN.out; omega
  go_loopw [0, 17] (fun u i wr => ∃ k : Nat, k ≤ n ∧ i = .int .i64 k ∧ Hid (Wr w0 wr u (ys ++ (E ++ ((xs.take k).map f).flatten))) ∧ Hid (Grew w V wr u)) (fun _ i _ => n - (intOf i).toNat)
  case atStart => exact ⟨0, by omega, rfl, Lib.hid (by rw [List.take_zero, List.map_nil, List.flatten_nil, List.append_nil]; exact HW3.out), Lib.hid (by rw [HV.out]; exact HG3.out)⟩
  case round =>
    obtain ⟨k, hk, rfl, HWk, HGk⟩ := hrel
    obtain ⟨pk, nk, ck, rfl⟩ := HWk.out.opens
    by_cases hkn : k < n
    · have hlt : (k : Int) < (n : Int) := by omega
      have hx := List.getElem?_eq_getElem (l := xs) (i := k) (by omega)
      obtain ⟨x, hxe⟩ : ∃ x, x = xs[k]'(by omega) := ⟨_, rfl⟩
      rw [← hxe] at hx
      have hmem := List.mem_of_getElem? hx
      obtain ⟨b, off, rfl, hb, hcs⟩ := HR.out (by intro h; rw [h] at hx; cases hx)
      obtain ⟨cs, hE, h2⟩ := hcs k x hx
      have l2 : wr.rangeAt b (off + k * 1) cs := range_fut h2 HWk.out.below hb
      have HX := Lib.hid hx
      have HE := Lib.hid hE
      have hE' := hE
      have HM := Lib.hid hmem
      clear hx hxe hmem h2 hE hcs hb
      obtain ⟨vx, rfl, _⟩ := hE'
      have l4 : wr.cell? ⟨b, off + k, none⟩ = some vx := by have := l2 0 vx rfl; rwa [Nat.mul_one, Nat.add_zero] at this
      have HW6 := HWk
      have HG6 := HGk
      have hnl : (((xs.take k).map f).flatten).length ≤ 20000000000000 := by
        have h1 := flat_le f M (xs.take k) (fun y hy => HF.out y (List.mem_of_mem_take hy))
        have h2 : (xs.take k).length ≤ 2000 := by rw [List.length_take]; omega
        have h3 := Nat.mul_le_mul h2 hM
        omega
      have hcall := HP.out wr _ _ x [vx] HM.out HW6.out (by rw [List.length_append, List.length_append]; have := HL.out; omega) HE.out
      simp only [List.head!] at hcall
      clear hnl l2
      go_wp2_with (go_at_fn g; refine hcall.mono ?_; rintro e w7 ⟨v7, rfl, ho7, hg7⟩)
      have HW7 := Lib.hid (HW6.out.grew ho7 hg7)
      have HG7 := Lib.hid (HG6.out.trans hg7)
      have e7 : ys ++ (E ++ ((xs.take k).map f).flatten) ++ f x = ys ++ (E ++ ((xs.take (k + 1)).map f).flatten) := by rw [flat_take f xs k x HX.out]; simp only [List.append_assoc]
      rw [e7] at HW7
      clear ho7 hg7 e7 hcall
      go_roundw
      case rel => exact ⟨k + 1, by omega, by go_num, HW7, HG7⟩
      case measure => simp [intOf]; omega
    · obtain rfl : k = n := by omega
      go_wp2
      go_ret
      have hgl := HGk.out
      rw [HV.out] at hgl
      refine ⟨_, rfl, ?_, hgl⟩
      have := HWk.out.own
      rw [List.take_of_length_le (by have := HN.out; omega)] at this
      rw [HC.out]; exact this

end Go.Proofs.Ythglocpbdfcfnaa
